/-
  Layer 14: the library's insertion sort of heads by Dst, as the same algorithm on lists; contracts: insertionSortCmpFunc, SortStableFunc at fewer than twenty heads, fan.Bare at few.
-/
import Derived.Test.YthkkadbgggaenaaFan8
namespace Go.Proofs.Ythkkadbgggaenaa
set_option linter.unusedSimpArgs false
set_option linter.unusedVariables false
set_option linter.unusedSectionVars false
open Go.RowKit

/-- two neighbours change places -/
def swapL (L : List Hd) (j : Nat) : List Hd := (L.set j (L.getD (j - 1) default)).set (j - 1) (L.getD j default)
theorem swapL_len (L : List Hd) (j : Nat) : (swapL L j).length = L.length := by simp [swapL]
def innerF (a : Nat) : Nat → List Hd → List Hd
  | 0, L => L
  | j + 1, L => if a < j + 1 ∧ (L.getD (j + 1) default).d < (L.getD j default).d then innerF a j (swapL L (j + 1)) else L
theorem innerF_len (a : Nat) : ∀ (j : Nat) (L : List Hd), (innerF a j L).length = L.length
  | 0, _ => rfl
  | j + 1, L => by
    rw [innerF]
    split
    · rw [innerF_len a j, swapL_len]
    · rfl
theorem innerF_step {a k : Nat} (L : List Hd) (hk : 0 < k) : innerF a k L = if a < k ∧ (L.getD k default).d < (L.getD (k - 1) default).d then innerF a (k - 1) (swapL L k) else L := by
  obtain ⟨j, rfl⟩ : ∃ j, k = j + 1 := ⟨k - 1, by omega⟩
  rfl
/-- from place i on, k more -/
def insF (a : Nat) : Nat → Nat → List Hd → List Hd
  | 0, _, L => L
  | k + 1, i, L => insF a k (i + 1) (innerF a i L)
/-- a row of heads of one's own, its cells told -/
structure RowC (W : World) (g : Nat) (cur : Array Value) (L : List Hd) : Prop where
  b : BoxAt W g cur 29
  sz : L.length * 4 ≤ cur.size
  c : ∀ (i q : Nat) (p : Hd), L[i]? = some p → q < 4 → cur[i * 4 + q]? = (hc p)[q]?
theorem Gro.set8 {g : Nat} {W X : World} (h : Gro [g] W X) (i1 i2 i3 i4 i5 i6 i7 i8 : Nat) (v1 v2 v3 v4 v5 v6 v7 v8 : Value) : Gro [g] W ((((((((X.setCell ⟨g, i1, none⟩ v1).setCell ⟨g, i2, none⟩ v2).setCell ⟨g, i3, none⟩ v3).setCell ⟨g, i4, none⟩ v4).setCell ⟨g, i5, none⟩ v5).setCell ⟨g, i6, none⟩ v6).setCell ⟨g, i7, none⟩ v7).setCell ⟨g, i8, none⟩ v8) := ((((((((h.trans (Gro.set _ i1 v1 (List.mem_singleton.2 rfl))).trans (Gro.set _ i2 v2 (List.mem_singleton.2 rfl))).trans (Gro.set _ i3 v3 (List.mem_singleton.2 rfl))).trans (Gro.set _ i4 v4 (List.mem_singleton.2 rfl))).trans (Gro.set _ i5 v5 (List.mem_singleton.2 rfl))).trans (Gro.set _ i6 v6 (List.mem_singleton.2 rfl))).trans (Gro.set _ i7 v7 (List.mem_singleton.2 rfl))).trans (Gro.set _ i8 v8 (List.mem_singleton.2 rfl)))
theorem set4_get (A : Array Value) (k : Nat) (x : Hd) (hsz : k * 4 + 4 ≤ A.size) (i r : Nat) (hr : r < 4) :
    ((((A.setIfInBounds (k * 4) (.int .i64 x.d)).setIfInBounds (k * 4 + 1) (.int .u64 x.c)).setIfInBounds (k * 4 + 2) (.int .u64 x.s)).setIfInBounds (k * 4 + 3) (.int .u64 x.i))[i * 4 + r]? = if i = k then (hc x)[r]? else A[i * 4 + r]? := by
  by_cases e : i = k
  · subst e
    rw [if_pos rfl]
    have h4 : r = 0 ∨ r = 1 ∨ r = 2 ∨ r = 3 := by omega
    rcases h4 with rfl | rfl | rfl | rfl
    · rw [Array.getElem?_setIfInBounds_ne (show i * 4 + 3 ≠ i * 4 + 0 by omega), Array.getElem?_setIfInBounds_ne (show i * 4 + 2 ≠ i * 4 + 0 by omega), Array.getElem?_setIfInBounds_ne (show i * 4 + 1 ≠ i * 4 + 0 by omega)]
      exact Array.getElem?_setIfInBounds_self_of_lt (by omega)
    · rw [Array.getElem?_setIfInBounds_ne (show i * 4 + 3 ≠ i * 4 + 1 by omega), Array.getElem?_setIfInBounds_ne (show i * 4 + 2 ≠ i * 4 + 1 by omega)]
      exact Array.getElem?_setIfInBounds_self_of_lt (by simp; omega)
    · rw [Array.getElem?_setIfInBounds_ne (show i * 4 + 3 ≠ i * 4 + 2 by omega)]
      exact Array.getElem?_setIfInBounds_self_of_lt (by simp; omega)
    · exact Array.getElem?_setIfInBounds_self_of_lt (by simp; omega)
  · rw [if_neg e, Array.getElem?_setIfInBounds_ne (show k * 4 + 3 ≠ i * 4 + r by omega), Array.getElem?_setIfInBounds_ne (show k * 4 + 2 ≠ i * 4 + r by omega), Array.getElem?_setIfInBounds_ne (show k * 4 + 1 ≠ i * 4 + r by omega), Array.getElem?_setIfInBounds_ne (show k * 4 ≠ i * 4 + r by omega)]
theorem RowC.swap {W W' : World} {g k : Nat} {cur cur' : Array Value} {L : List Hd} {p q : Hd} (h : RowC W g cur L) (hk : 0 < k) (hkl : k < L.length) (hp : L.getD k default = p) (hq : L.getD (k - 1) default = q) (hb : BoxAt W' g cur' 29)
    (hc : cur' = ((((((((cur.setIfInBounds (k * 4) (.int .i64 q.d)).setIfInBounds (k * 4 + 1) (.int .u64 q.c)).setIfInBounds (k * 4 + 2) (.int .u64 q.s)).setIfInBounds (k * 4 + 3) (.int .u64 q.i)).setIfInBounds ((k - 1) * 4) (.int .i64 p.d)).setIfInBounds ((k - 1) * 4 + 1) (.int .u64 p.c)).setIfInBounds ((k - 1) * 4 + 2) (.int .u64 p.s)).setIfInBounds ((k - 1) * 4 + 3) (.int .u64 p.i))) : RowC W' g cur' (swapL L k) := by
  have hsz := h.sz
  refine ⟨hb, by rw [swapL_len, hc]; simpa using hsz, fun i r x hx hr => ?_⟩
  rw [hc, set4_get _ (k - 1) p (by simp; omega) i r hr, set4_get _ k q (by omega) i r hr]
  unfold swapL at hx
  rw [hp, hq] at hx
  by_cases e1 : i = k - 1
  · rw [if_pos e1]
    subst e1
    rw [List.getElem?_set_self (by simp; omega)] at hx
    injection hx with hx
    rw [hx]
  · rw [if_neg e1]
    rw [List.getElem?_set_ne (by omega)] at hx
    by_cases e2 : i = k
    · rw [if_pos e2]
      subst e2
      rw [List.getElem?_set_self (by omega)] at hx
      injection hx with hx
      rw [hx]
    · rw [if_neg e2]
      rw [List.getElem?_set_ne (by omega)] at hx
      exact h.c i r x hx hr
theorem bareCmp_s (x y : Hd) (w : World) : Calls Try.prog 56 #[.agg #[.int .i64 x.d, .int .u64 x.c, .int .u64 x.s, .int .u64 x.i], .agg #[.int .i64 y.d, .int .u64 y.c, .int .u64 y.s, .int .u64 y.i]] w fun e w' => e = .returned (.int .i64 (cmpI x.d y.d)) ∧ Below w.heap.size w w' := by
  have T := hide (fun W => cmp_int x.d y.d W)
  go_enter Try.func56, Try.ntmps56
  go_wp2_with fail
  (with_reducible refine (T.out _).mono ?_)
  rintro e w1 ⟨rfl, rfl⟩
  go_wp2
  go_ret
  exact ⟨rfl, blw⟩
set_option maxRecDepth 100000 in
set_option maxHeartbeats 4000000 in
theorem insert_s (g c a b : Nat) (cur : Array Value) (L : List Hd) (w : World) (h : RowC w g cur L) (hab : a ≤ b) (hb : b ≤ L.length) (hl : L.length ≤ 1000000) :
    Calls Try.prog 127 #[.slice (some ⟨g, 0, none⟩) L.length c, .int .i64 a, .int .i64 b, .func (.func 56) #[] #[]] w fun e w' => e = .returned (.tuple #[]) ∧ (∃ cur', RowC w' g cur' (insF a (b - (a + 1)) (a + 1) L)) ∧ Gro [g] w w' := by
  have TC := hide (fun x y W => bareCmp_s x y W)
  have HR := hide h
  clear h
  go_enter Try.func127, Try.ntmps127
  go_wp2_with fail
  go_loopw [8] (fun i wr => ∃ (m : Nat) (cur : Array Value) (M : List Hd), a + 1 ≤ m ∧ i = .int .i64 m ∧ m ≤ max b (a + 1) ∧ RowC wr g cur M ∧ M.length = L.length ∧ insF a (b - m) m M = insF a (b - (a + 1)) (a + 1) L ∧ Gro [g] w wr) (fun i _ => b - (intOf i).toNat)
  case atStart => exact ⟨a + 1, cur, L, Nat.le_refl _, by go_num, by omega, HR.out, rfl, rfl, Gro.refl _ _⟩
  case round =>
    obtain ⟨m, cur2, M, hm1, rfl, hm2, hR, hML, hrun, hG⟩ := hrel
    have HR2 := hide hR
    have HRUN := hide hrun
    have HG := hide hG
    clear hR hrun hG
    by_cases hlt : m < b
    · have i1 : (m : Int) < (b : Int) := by omega
      go_wp2_with fail
      go_loopw [9] (fun j wr => ∃ (k : Nat) (cur : Array Value) (K : List Hd), a ≤ k ∧ k ≤ m ∧ j = .int .i64 k ∧ RowC wr g cur K ∧ K.length = L.length ∧ innerF a k K = innerF a m M ∧ Gro [g] w wr) (fun j _ => (intOf j).toNat)
      case atStart => exact ⟨m, cur2, M, by omega, Nat.le_refl _, rfl, HR2.out, hML, rfl, HG.out⟩
      case round =>
        obtain ⟨k, cur3, K, hk1, hk2, rfl, hR3, hKL, hrun3, hG3⟩ := hrel
        haveI := hR3.b
        have HR3 := hide hR3
        have HRUN3 := hide hrun3
        have HG3 := hide hG3
        clear hR3 hrun3 hG3
        by_cases hka : a < k
        · have hp : K[k]? = some (K.getD k default) := by rw [List.getElem?_eq_getElem (by omega)]; simp [List.getD, List.getElem?_eq_getElem (show k < K.length by omega)]
          have hq : K[k - 1]? = some (K.getD (k - 1) default) := by rw [List.getElem?_eq_getElem (by omega)]; simp [List.getD, List.getElem?_eq_getElem (show k - 1 < K.length by omega)]
          have HST := hide (innerF_step (a := a) K (show 0 < k by omega))
          generalize hP : K.getD k default = p at hp HST
          generalize hQ : K.getD (k - 1) default = q at hq HST
          have p0 : cur3[k * 4]? = some (.int .i64 p.d) := HR3.out.c k 0 p hp (by omega)
          have p1 : cur3[k * 4 + 1]? = some (.int .u64 p.c) := HR3.out.c k 1 p hp (by omega)
          have p2 : cur3[k * 4 + 2]? = some (.int .u64 p.s) := HR3.out.c k 2 p hp (by omega)
          have p3 : cur3[k * 4 + 3]? = some (.int .u64 p.i) := HR3.out.c k 3 p hp (by omega)
          have q0 : cur3[(k - 1) * 4]? = some (.int .i64 q.d) := HR3.out.c (k - 1) 0 q hq (by omega)
          have q1 : cur3[(k - 1) * 4 + 1]? = some (.int .u64 q.c) := HR3.out.c (k - 1) 1 q hq (by omega)
          have q2 : cur3[(k - 1) * 4 + 2]? = some (.int .u64 q.s) := HR3.out.c (k - 1) 2 q hq (by omega)
          have q3 : cur3[(k - 1) * 4 + 3]? = some (.int .u64 q.i) := HR3.out.c (k - 1) 3 q hq (by omega)
          have HPP := hide hP
          have HQQ := hide hQ
          have T := hide (fun W => TC.out p q W)
          have hgt : decide ((a : Int) < (k : Int)) = true := decide_eq_true (by omega)
          have hgt' : decide (a < k) = true := decide_eq_true hka
          have j0 : (0 : Int) < (k : Int) := by omega
          have j1 : (0 : Int) ≤ (k : Int) - 1 := by omega
          have j2 : (k : Int) - 1 < (L.length : Int) := by omega
          have j4 : (k : Int) < (L.length : Int) := by omega
          have j5 : (0 : Int) ≤ (k : Int) := by omega
          have j3 : ((k : Int) - 1).toNat = k - 1 := by omega
          have n1 : k - 1 < L.length := by omega
          have n2 : k < L.length := by omega
          have n3 : ¬ (k : Int) - 1 < 0 := by omega
          have n4 : (1 : Int) ≤ (k : Int) := by omega
          have n5 : 1 ≤ k := by omega
          haveI : InW g wr := ⟨BoxAt.lt HR3.out.b⟩
          have e00 : ∀ (A : Array Value) (v : Value), (A.setIfInBounds (k * 4) v)[(k - 1) * 4]? = A[(k - 1) * 4]? := fun A v => Array.getElem?_setIfInBounds_ne (by omega)
          have e01 : ∀ (A : Array Value) (v : Value), (A.setIfInBounds (k * 4) v)[(k - 1) * 4 + 1]? = A[(k - 1) * 4 + 1]? := fun A v => Array.getElem?_setIfInBounds_ne (by omega)
          have e02 : ∀ (A : Array Value) (v : Value), (A.setIfInBounds (k * 4) v)[(k - 1) * 4 + 2]? = A[(k - 1) * 4 + 2]? := fun A v => Array.getElem?_setIfInBounds_ne (by omega)
          have e03 : ∀ (A : Array Value) (v : Value), (A.setIfInBounds (k * 4) v)[(k - 1) * 4 + 3]? = A[(k - 1) * 4 + 3]? := fun A v => Array.getElem?_setIfInBounds_ne (by omega)
          have e10 : ∀ (A : Array Value) (v : Value), (A.setIfInBounds (k * 4 + 1) v)[(k - 1) * 4]? = A[(k - 1) * 4]? := fun A v => Array.getElem?_setIfInBounds_ne (by omega)
          have e11 : ∀ (A : Array Value) (v : Value), (A.setIfInBounds (k * 4 + 1) v)[(k - 1) * 4 + 1]? = A[(k - 1) * 4 + 1]? := fun A v => Array.getElem?_setIfInBounds_ne (by omega)
          have e12 : ∀ (A : Array Value) (v : Value), (A.setIfInBounds (k * 4 + 1) v)[(k - 1) * 4 + 2]? = A[(k - 1) * 4 + 2]? := fun A v => Array.getElem?_setIfInBounds_ne (by omega)
          have e13 : ∀ (A : Array Value) (v : Value), (A.setIfInBounds (k * 4 + 1) v)[(k - 1) * 4 + 3]? = A[(k - 1) * 4 + 3]? := fun A v => Array.getElem?_setIfInBounds_ne (by omega)
          have e20 : ∀ (A : Array Value) (v : Value), (A.setIfInBounds (k * 4 + 2) v)[(k - 1) * 4]? = A[(k - 1) * 4]? := fun A v => Array.getElem?_setIfInBounds_ne (by omega)
          have e21 : ∀ (A : Array Value) (v : Value), (A.setIfInBounds (k * 4 + 2) v)[(k - 1) * 4 + 1]? = A[(k - 1) * 4 + 1]? := fun A v => Array.getElem?_setIfInBounds_ne (by omega)
          have e22 : ∀ (A : Array Value) (v : Value), (A.setIfInBounds (k * 4 + 2) v)[(k - 1) * 4 + 2]? = A[(k - 1) * 4 + 2]? := fun A v => Array.getElem?_setIfInBounds_ne (by omega)
          have e23 : ∀ (A : Array Value) (v : Value), (A.setIfInBounds (k * 4 + 2) v)[(k - 1) * 4 + 3]? = A[(k - 1) * 4 + 3]? := fun A v => Array.getElem?_setIfInBounds_ne (by omega)
          have e30 : ∀ (A : Array Value) (v : Value), (A.setIfInBounds (k * 4 + 3) v)[(k - 1) * 4]? = A[(k - 1) * 4]? := fun A v => Array.getElem?_setIfInBounds_ne (by omega)
          have e31 : ∀ (A : Array Value) (v : Value), (A.setIfInBounds (k * 4 + 3) v)[(k - 1) * 4 + 1]? = A[(k - 1) * 4 + 1]? := fun A v => Array.getElem?_setIfInBounds_ne (by omega)
          have e32 : ∀ (A : Array Value) (v : Value), (A.setIfInBounds (k * 4 + 3) v)[(k - 1) * 4 + 2]? = A[(k - 1) * 4 + 2]? := fun A v => Array.getElem?_setIfInBounds_ne (by omega)
          have e33 : ∀ (A : Array Value) (v : Value), (A.setIfInBounds (k * 4 + 3) v)[(k - 1) * 4 + 3]? = A[(k - 1) * 4 + 3]? := fun A v => Array.getElem?_setIfInBounds_ne (by omega)
          clear hp hq hP hQ
          by_cases hlt3 : p.d < q.d
          · rw [cmpI_lt hlt3] at T
            have HI := hide (HRUN3.out.symm.trans (HST.out.trans (if_pos ⟨hka, hlt3⟩)))
            go_wp2_with fail
            (refine wp_region_gw (by kernel_rfl) (by kernel_rfl) ?_; (repeat (go_big_quiet_step ((first | (go_at_call 56; with_reducible exact calls_gw (T.out _)) | fail)))); refine wpQuiet_nil ?_; intro _ hw'; obtain ⟨⟨dq, osq⟩, hw''⟩ := hw'; subst hw'')
            go_wp2_with fail
            go_region
            go_wp2
            go_roundw
            case rel => exact ⟨k - 1, _, swapL K k, by omega, by omega, by go_num, HR3.out.swap (by omega) (by omega) HPP.out HQQ.out inferInstance rfl, by rw [swapL_len, hKL], HI.out.symm, (Gro.set8 HG3.out _ _ _ _ _ _ _ _ _ _ _ _ _ _ _ _).trans (Gro.of (below_gw _ _ _))⟩
            case measure => simp [intOf]; omega
          · have HI := hide (HRUN3.out.symm.trans (HST.out.trans (if_neg (fun h => hlt3 h.2))))
            have HINS : Hid (insF a (b - (m + 1)) (m + 1) K = insF a (b - (a + 1)) (a + 1) L) := hide (by
              rw [← HRUN.out, show b - m = (b - (m + 1)) + 1 by omega, insF, HI.out])
            have hv : decide (cmpI p.d q.d < 0) = false := decide_eq_false (by
              rcases Int.lt_trichotomy p.d q.d with h | h | h
              · exact absurd h hlt3
              · rw [cmpI_eq h]; omega
              · rw [cmpI_gt h]; omega)
            generalize cmpI p.d q.d = v at T hv
            go_wp2_with fail
            (refine wp_region_gw (by kernel_rfl) (by kernel_rfl) ?_; (repeat (go_big_quiet_step ((first | (go_at_call 56; with_reducible exact calls_gw (T.out _)) | fail)))); refine wpQuiet_nil ?_; intro _ hw'; obtain ⟨⟨dq, osq⟩, hw''⟩ := hw'; subst hw'')
            go_wp2
            go_roundw
            case rel => exact ⟨m + 1, cur3, K, by omega, by go_num, by omega, ⟨inferInstance, HR3.out.sz, HR3.out.c⟩, hKL, HINS.out, HG3.out.trans (Gro.of blw)⟩
            case measure => simp [intOf]; omega
        · have hgt : decide ((a : Int) < (k : Int)) = false := decide_eq_false (by omega)
          have hgt' : decide (a < k) = false := decide_eq_false hka
          have HI := hide (show innerF a m M = K by
            rw [← HRUN3.out]
            cases k with
            | zero => rfl
            | succ k => rw [innerF, if_neg (fun h => hka h.1)])
          have HINS : Hid (insF a (b - (m + 1)) (m + 1) K = insF a (b - (a + 1)) (a + 1) L) := hide (by
            rw [← HRUN.out, show b - m = (b - (m + 1)) + 1 by omega, insF, HI.out])
          go_wp2_with fail
          (refine wp_region_gw (by kernel_rfl) (by kernel_rfl) ?_; (repeat (go_big_quiet_step ((fail)))); refine wpQuiet_nil ?_; intro _ hw'; obtain ⟨⟨dq, osq⟩, hw''⟩ := hw'; subst hw'')
          go_wp2
          go_roundw
          case rel => exact ⟨m + 1, cur3, K, by omega, by go_num, by omega, ⟨inferInstance, HR3.out.sz, HR3.out.c⟩, hKL, HINS.out, HG3.out.trans (Gro.of blw)⟩
          case measure => simp [intOf]; omega
    · have HE := hide (show M = insF a (b - (a + 1)) (a + 1) L by
        rw [← HRUN.out, show b - m = 0 by omega, insF])
      go_wp2
      go_end0
      exact ⟨rfl, ⟨cur2, by rw [← HE.out]; exact HR2.out⟩, HG.out⟩
end Go.Proofs.Ythkkadbgggaenaa
