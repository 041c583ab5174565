/-
  Layer 14: heads change places; contracts: swapRangeCmpFunc, rotateCmpFunc of heads.
-/
import Derived.Test.YthkkadbgggaenaaFan10
namespace Go.Proofs.Ythkkadbgggaenaa
set_option linter.unusedSimpArgs false
set_option linter.unusedVariables false
set_option linter.unusedSectionVars false
open Go.RowKit

def swp (L : List Hd) (i j : Nat) : List Hd := (L.set i (L.getD j default)).set j (L.getD i default)
theorem swp_len (L : List Hd) (i j : Nat) : (swp L i j).length = L.length := by simp [swp]
theorem swp_list (A M B : List Hd) (x y : Hd) (i j : Nat) (hi : i = A.length) (hj : j = A.length + 1 + M.length) : swp (A ++ (x :: (M ++ (y :: B)))) i j = A ++ (y :: (M ++ (x :: B))) := by
  subst hi hj
  have e1 : (A ++ (x :: (M ++ (y :: B)))).getD (A.length + 1 + M.length) default = y := by
    rw [List.getD_eq_getElem?_getD, List.getElem?_append_right (by omega), show A.length + 1 + M.length - A.length = M.length + 1 by omega, List.getElem?_cons_succ, List.getElem?_append_right (Nat.le_refl _), Nat.sub_self]; rfl
  have e2 : (A ++ (x :: (M ++ (y :: B)))).getD A.length default = x := by
    rw [List.getD_eq_getElem?_getD, List.getElem?_append_right (Nat.le_refl _), Nat.sub_self]; rfl
  unfold swp
  rw [e1, e2, List.set_append_right _ _ (Nat.le_refl _), Nat.sub_self, List.set_cons_zero, List.set_append_right _ _ (by omega), show A.length + 1 + M.length - A.length = M.length + 1 by omega, List.set_cons_succ, List.set_append_right _ _ (Nat.le_refl _), Nat.sub_self, List.set_cons_zero]
theorem getD_at (L : List Hd) {i : Nat} (h : i < L.length) : L[i]? = some (L.getD i default) := by rw [List.getElem?_eq_getElem h]; simp [List.getD, List.getElem?_eq_getElem h]
theorem RowC.swp {W W' : World} {g i j : Nat} {cur cur' : Array Value} {L : List Hd} {p q : Hd} (h : RowC W g cur L) (hij : i ≠ j) (hi : i < L.length) (hj : j < L.length) (hp : L[i]? = some p) (hq : L[j]? = some q) (hb : BoxAt W' g cur' 29)
    (hc : cur' = ((((((((cur.setIfInBounds (i * 4) (.int .i64 q.d)).setIfInBounds (i * 4 + 1) (.int .u64 q.c)).setIfInBounds (i * 4 + 2) (.int .u64 q.s)).setIfInBounds (i * 4 + 3) (.int .u64 q.i)).setIfInBounds (j * 4) (.int .i64 p.d)).setIfInBounds (j * 4 + 1) (.int .u64 p.c)).setIfInBounds (j * 4 + 2) (.int .u64 p.s)).setIfInBounds (j * 4 + 3) (.int .u64 p.i))) : RowC W' g cur' (swp L i j) := by
  have hsz := h.sz
  refine ⟨hb, by rw [swp_len, hc]; simpa using hsz, fun l r x hx hr => ?_⟩
  rw [hc, set4_get _ j p (by simp; omega) l r hr, set4_get _ i q (by omega) l r hr]
  unfold Go.Proofs.Ythkkadbgggaenaa.swp at hx
  rw [List.getD_eq_getElem?_getD, hq, List.getD_eq_getElem?_getD, hp] at hx
  by_cases e1 : l = j
  · rw [if_pos e1]
    subst e1
    rw [List.getElem?_set_self (by simp; omega)] at hx
    injection hx with hx
    rw [← hx]; rfl
  · rw [if_neg e1]
    rw [List.getElem?_set_ne (by omega)] at hx
    by_cases e2 : l = i
    · rw [if_pos e2]
      subst e2
      rw [List.getElem?_set_self (by omega)] at hx
      injection hx with hx
      rw [← hx]; rfl
    · rw [if_neg e2]
      rw [List.getElem?_set_ne (by omega)] at hx
      exact h.c l r x hx hr
theorem uncons {L : List Hd} (h : 0 < L.length) : ∃ x M, L = x :: M := by
  match L, h with
  | x :: M, _ => exact ⟨x, M, rfl⟩
set_option maxRecDepth 100000 in
set_option maxHeartbeats 4000000 in
theorem swapRange_s (g c a b n N : Nat) (cur : Array Value) (A X M Y B : List Hd) (w : World) (h : RowC w g cur (A ++ (X ++ (M ++ (Y ++ B))))) (hN : N = A.length + X.length + M.length + Y.length + B.length) (ha : a = A.length) (hb : b = A.length + X.length + M.length) (hX : X.length = n) (hY : Y.length = n) (hl : N ≤ 1000000) :
    Calls Try.prog 187 #[.slice (some ⟨g, 0, none⟩) N c, .int .i64 a, .int .i64 b, .int .i64 n, .func (.func 56) #[] #[]] w fun e w' => e = .returned (.tuple #[]) ∧ (∃ cur', RowC w' g cur' (A ++ (Y ++ (M ++ (X ++ B))))) ∧ Gro [g] w w' := by
  have HR := hide h
  have HE : Hid (N = A.length + X.length + M.length + Y.length + B.length ∧ a = A.length ∧ b = A.length + X.length + M.length ∧ X.length = n ∧ Y.length = n) := hide ⟨hN, ha, hb, hX, hY⟩
  clear h hN ha hb hX hY
  go_enter Try.func187, Try.ntmps187
  go_wp2_with fail
  go_loopw [10] (fun i wr => ∃ (k : Nat) (cur : Array Value) (A1 X1 M1 Y1 : List Hd), i = .int .i64 k ∧ k ≤ n ∧ RowC wr g cur (A1 ++ (X1 ++ (M1 ++ (Y1 ++ B)))) ∧ A1.length = a + k ∧ X1.length = n - k ∧ Y1.length = n - k ∧ A1.length + X1.length + M1.length = b + k ∧ A1 ++ (Y1 ++ (M1 ++ (X1 ++ B))) = A ++ (Y ++ (M ++ (X ++ B))) ∧ Gro [g] w wr) (fun i _ => n - (intOf i).toNat)
  case atStart => exact ⟨0, cur, A, X, M, Y, rfl, Nat.zero_le _, HR.out, by have := HE.out; omega, by have := HE.out; omega, by have := HE.out; omega, by have := HE.out; omega, rfl, Gro.refl _ _⟩
  case round =>
    obtain ⟨k, cur2, A1, X1, M1, Y1, rfl, hk, hR, hA1, hX1, hY1, hM1, hrun, hG⟩ := hrel
    have HR2 := hide hR
    have HRUN := hide hrun
    have HG := hide hG
    clear hR hrun hG
    by_cases hlt : k < n
    · obtain ⟨p, X2, rfl⟩ := uncons (L := X1) (by omega)
      obtain ⟨q, Y2, rfl⟩ := uncons (L := Y1) (by omega)
      simp only [List.length_cons] at hX1 hY1 hM1
      have HSW := hide (swp_list A1 (X2 ++ M1) (Y2 ++ B) p q (a + k) (b + k) (by omega) (by simp only [List.length_append]; omega))
      simp only [List.append_assoc] at HSW
      have hR3 : RowC wr g cur2 (A1 ++ (p :: (X2 ++ (M1 ++ (q :: (Y2 ++ B)))))) := HR2.out
      have hlen : (A1 ++ (p :: (X2 ++ (M1 ++ (q :: (Y2 ++ B)))))).length = N := by have := HE.out; simp only [List.length_append, List.length_cons]; omega
      have hRUN : A1 ++ (q :: (Y2 ++ (M1 ++ (p :: (X2 ++ B))))) = A ++ (Y ++ (M ++ (X ++ B))) := HRUN.out
      have HRUN3 := hide hRUN
      have hp : (A1 ++ (p :: (X2 ++ (M1 ++ (q :: (Y2 ++ B))))))[a + k]? = some p := by rw [← hA1, List.getElem?_append_right (Nat.le_refl _), Nat.sub_self]; rfl
      have hq : (A1 ++ (p :: (X2 ++ (M1 ++ (q :: (Y2 ++ B))))))[b + k]? = some q := by
        rw [← hM1, List.getElem?_append_right (by omega), show A1.length + (X2.length + 1) + M1.length - A1.length = (X2.length + M1.length) + 1 by omega, List.getElem?_cons_succ, ← List.append_assoc, List.getElem?_append_right (by simp), List.length_append, Nat.sub_self]; rfl
      generalize hKL : A1 ++ (p :: (X2 ++ (M1 ++ (q :: (Y2 ++ B))))) = K at hR3 hlen hp hq HSW
      haveI := hR3.b
      have HR3 := hide hR3
      have HPP := hide hp
      have HQQ := hide hq
      have hne : a + k ≠ b + k := by have := HE.out; omega
      have hak : a + k < N := by have := HE.out; omega
      have hbk : b + k < N := by have := HE.out; omega
      have HI := hide hlen
      generalize hi1 : a + k = i1 at hp hq HSW HPP HQQ hne hak
      generalize hj1 : b + k = j1 at hp hq HSW HPP HQQ hne hbk
      have p0 : cur2[i1 * 4]? = some (.int .i64 p.d) := HR3.out.c i1 0 p hp (by omega)
      have p1 : cur2[i1 * 4 + 1]? = some (.int .u64 p.c) := HR3.out.c i1 1 p hp (by omega)
      have p2 : cur2[i1 * 4 + 2]? = some (.int .u64 p.s) := HR3.out.c i1 2 p hp (by omega)
      have p3 : cur2[i1 * 4 + 3]? = some (.int .u64 p.i) := HR3.out.c i1 3 p hp (by omega)
      have q0 : cur2[j1 * 4]? = some (.int .i64 q.d) := HR3.out.c j1 0 q hq (by omega)
      have q1 : cur2[j1 * 4 + 1]? = some (.int .u64 q.c) := HR3.out.c j1 1 q hq (by omega)
      have q2 : cur2[j1 * 4 + 2]? = some (.int .u64 q.s) := HR3.out.c j1 2 q hq (by omega)
      have q3 : cur2[j1 * 4 + 3]? = some (.int .u64 q.i) := HR3.out.c j1 3 q hq (by omega)
      have c1 : (a : Int) + (k : Int) = (i1 : Int) := by omega
      have c2 : (b : Int) + (k : Int) = (j1 : Int) := by omega
      have i0 : (0 : Int) ≤ (i1 : Int) := by omega
      have i2 : (i1 : Int) < (N : Int) := by omega
      have i3 : (0 : Int) ≤ (j1 : Int) := by omega
      have i4 : (j1 : Int) < (N : Int) := by omega
      have i5 : decide ((k : Int) < (n : Int)) = true := decide_eq_true (by omega)
      have i6 : decide (k < n) = true := decide_eq_true hlt
      haveI : InW g wr := ⟨BoxAt.lt HR3.out.b⟩
      have e00 : ∀ (A : Array Value) (v : Value), (A.setIfInBounds (i1 * 4) v)[j1 * 4]? = A[j1 * 4]? := fun A v => Array.getElem?_setIfInBounds_ne (by omega)
      have e01 : ∀ (A : Array Value) (v : Value), (A.setIfInBounds (i1 * 4) v)[j1 * 4 + 1]? = A[j1 * 4 + 1]? := fun A v => Array.getElem?_setIfInBounds_ne (by omega)
      have e02 : ∀ (A : Array Value) (v : Value), (A.setIfInBounds (i1 * 4) v)[j1 * 4 + 2]? = A[j1 * 4 + 2]? := fun A v => Array.getElem?_setIfInBounds_ne (by omega)
      have e03 : ∀ (A : Array Value) (v : Value), (A.setIfInBounds (i1 * 4) v)[j1 * 4 + 3]? = A[j1 * 4 + 3]? := fun A v => Array.getElem?_setIfInBounds_ne (by omega)
      have e10 : ∀ (A : Array Value) (v : Value), (A.setIfInBounds (i1 * 4 + 1) v)[j1 * 4]? = A[j1 * 4]? := fun A v => Array.getElem?_setIfInBounds_ne (by omega)
      have e11 : ∀ (A : Array Value) (v : Value), (A.setIfInBounds (i1 * 4 + 1) v)[j1 * 4 + 1]? = A[j1 * 4 + 1]? := fun A v => Array.getElem?_setIfInBounds_ne (by omega)
      have e12 : ∀ (A : Array Value) (v : Value), (A.setIfInBounds (i1 * 4 + 1) v)[j1 * 4 + 2]? = A[j1 * 4 + 2]? := fun A v => Array.getElem?_setIfInBounds_ne (by omega)
      have e13 : ∀ (A : Array Value) (v : Value), (A.setIfInBounds (i1 * 4 + 1) v)[j1 * 4 + 3]? = A[j1 * 4 + 3]? := fun A v => Array.getElem?_setIfInBounds_ne (by omega)
      have e20 : ∀ (A : Array Value) (v : Value), (A.setIfInBounds (i1 * 4 + 2) v)[j1 * 4]? = A[j1 * 4]? := fun A v => Array.getElem?_setIfInBounds_ne (by omega)
      have e21 : ∀ (A : Array Value) (v : Value), (A.setIfInBounds (i1 * 4 + 2) v)[j1 * 4 + 1]? = A[j1 * 4 + 1]? := fun A v => Array.getElem?_setIfInBounds_ne (by omega)
      have e22 : ∀ (A : Array Value) (v : Value), (A.setIfInBounds (i1 * 4 + 2) v)[j1 * 4 + 2]? = A[j1 * 4 + 2]? := fun A v => Array.getElem?_setIfInBounds_ne (by omega)
      have e23 : ∀ (A : Array Value) (v : Value), (A.setIfInBounds (i1 * 4 + 2) v)[j1 * 4 + 3]? = A[j1 * 4 + 3]? := fun A v => Array.getElem?_setIfInBounds_ne (by omega)
      have e30 : ∀ (A : Array Value) (v : Value), (A.setIfInBounds (i1 * 4 + 3) v)[j1 * 4]? = A[j1 * 4]? := fun A v => Array.getElem?_setIfInBounds_ne (by omega)
      have e31 : ∀ (A : Array Value) (v : Value), (A.setIfInBounds (i1 * 4 + 3) v)[j1 * 4 + 1]? = A[j1 * 4 + 1]? := fun A v => Array.getElem?_setIfInBounds_ne (by omega)
      have e32 : ∀ (A : Array Value) (v : Value), (A.setIfInBounds (i1 * 4 + 3) v)[j1 * 4 + 2]? = A[j1 * 4 + 2]? := fun A v => Array.getElem?_setIfInBounds_ne (by omega)
      have e33 : ∀ (A : Array Value) (v : Value), (A.setIfInBounds (i1 * 4 + 3) v)[j1 * 4 + 3]? = A[j1 * 4 + 3]? := fun A v => Array.getElem?_setIfInBounds_ne (by omega)
      have HC := hide (fun W' cur' hb hc => (by
        have e := HR3.out.swp (W' := W') (cur' := cur') (i := i1) (j := j1) hne (by rw [HI.out]; omega) (by rw [HI.out]; omega) HPP.out HQQ.out hb hc
        rw [HSW.out] at e
        simpa only [List.append_assoc, List.cons_append, List.nil_append] using e : RowC W' g cur' ((A1 ++ [q]) ++ (X2 ++ ((M1 ++ [p]) ++ (Y2 ++ B))))))
      have HRUN4 : Hid ((A1 ++ [q]) ++ (Y2 ++ ((M1 ++ [p]) ++ (X2 ++ B))) = A ++ (Y ++ (M ++ (X ++ B)))) := hide (by simpa only [List.append_assoc, List.cons_append, List.nil_append] using HRUN3.out)
      clear hp hq hKL hR3 hlen HRUN3 HSW HPP HQQ HI
      have HL := hide (And.intro hA1 (And.intro hX1 (And.intro hY1 hM1)))
      clear HRUN hA1 hX1 hY1 hM1
      have HIJ := hide (And.intro hi1 hj1)
      clear hi1 hj1
      go_wp2_with fail
      go_region
      go_wp2
      go_roundw
      case rel =>
        exact ⟨k + 1, _, A1 ++ [q], X2, M1 ++ [p], Y2, by go_num, by omega, HC.out _ _ (inferInstance : BoxAt _ g _ _) rfl, by have := HL.out; simp; omega, by have := HL.out; omega, by have := HL.out; omega, by have := HL.out; simp; omega, HRUN4.out, (Gro.set8 HG.out _ _ _ _ _ _ _ _ _ _ _ _ _ _ _ _).trans (Gro.of (Below.drew (Below.refl _ _)))⟩
      case measure => simp [intOf]; omega
    · obtain rfl : X1 = [] := List.length_eq_zero_iff.1 (by omega)
      obtain rfl : Y1 = [] := List.length_eq_zero_iff.1 (by omega)
      have i5 : decide ((k : Int) < (n : Int)) = false := decide_eq_false (by omega)
      have i6 : decide (k < n) = false := decide_eq_false hlt
      go_wp2
      go_end0
      exact ⟨rfl, ⟨cur2, by rw [← HRUN.out]; exact HR2.out⟩, HG.out⟩
end Go.Proofs.Ythkkadbgggaenaa
