/-
  Layer 14: heads sorted stably: by Dst, heads of one Dst in their old order; in plain Lean.
-/
import Derived.Test.YthkkadbgggaenaaFan16
namespace Go.Proofs.Ythkkadbgggaenaa
set_option linter.unusedSimpArgs false
set_option linter.unusedVariables false
set_option linter.unusedSectionVars false
open Go.RowKit

/-- sorted by Dst -/
def Srt (L : List Hd) : Prop := L.Pairwise (fun x y => x.d ≤ y.d)
/-- the heads of one Dst -/
def fibD (d : Int) (L : List Hd) : List Hd := L.filter (fun x => decide (x.d = d))
/-- the same heads, those of one Dst in one order -/
def Fib (L R : List Hd) : Prop := ∀ d, fibD d L = fibD d R
theorem Fib.refl (L : List Hd) : Fib L L := fun _ => rfl
theorem Fib.symm {L R : List Hd} (h : Fib L R) : Fib R L := fun d => (h d).symm
theorem Fib.trans {L R S : List Hd} (h : Fib L R) (k : Fib R S) : Fib L S := fun d => (h d).trans (k d)
theorem fibD_app (d : Int) (L R : List Hd) : fibD d (L ++ R) = fibD d L ++ fibD d R := List.filter_append ..
theorem Fib.app {L R L' R' : List Hd} (h : Fib L R) (k : Fib L' R') : Fib (L ++ L') (R ++ R') := fun d => by rw [fibD_app, fibD_app, h d, k d]
theorem fibD_mem {d : Int} {L : List Hd} {x : Hd} : x ∈ fibD d L ↔ x ∈ L ∧ x.d = d := by simp [fibD]
theorem Fib.mem {L R : List Hd} (h : Fib L R) {x : Hd} : x ∈ L ↔ x ∈ R := by
  have e := h x.d
  constructor
  · intro hx
    have : x ∈ fibD x.d L := fibD_mem.2 ⟨hx, rfl⟩
    rw [e] at this
    exact (fibD_mem.1 this).1
  · intro hx
    have : x ∈ fibD x.d R := fibD_mem.2 ⟨hx, rfl⟩
    rw [← e] at this
    exact (fibD_mem.1 this).1
theorem Fib.perm {L R : List Hd} (h : Fib L R) : L.Perm R := by
  rw [List.perm_iff_count]
  intro x
  have c : ∀ M : List Hd, List.count x (fibD x.d M) = List.count x M := fun M => List.count_filter (by simp)
  rw [← c L, ← c R, h x.d]
theorem Fib.len {L R : List Hd} (h : Fib L R) : L.length = R.length := h.perm.length_eq
/-- two rows that have no Dst in common change places -/
theorem Fib.comm {X Y : List Hd} (h : ∀ x ∈ X, ∀ y ∈ Y, x.d ≠ y.d) : Fib (X ++ Y) (Y ++ X) := fun d => by
  rw [fibD_app, fibD_app]
  by_cases hx : fibD d X = []
  · rw [hx]; simp
  · have hy : fibD d Y = [] := by
      obtain ⟨x, hx⟩ := List.exists_mem_of_ne_nil _ hx
      have hx := fibD_mem.1 hx
      rw [List.eq_nil_iff_forall_not_mem]
      intro y hy
      have hy := fibD_mem.1 hy
      exact h x hx.1 y hy.1 (hx.2.trans hy.2.symm)
    rw [hy]; simp
/-- there is but one -/
theorem srt_uniq : ∀ {L R : List Hd}, Srt L → Srt R → Fib L R → L = R
  | [], R, _, _, h => by have := h.len; simp at this; exact (List.length_eq_zero_iff.1 this.symm).symm
  | x :: L, [], _, _, h => by have := h.len; simp at this
  | x :: L, y :: R, hl, hr, h => by
    have h1 : x.d ≤ y.d := by
      have : y ∈ x :: L := h.mem.2 (by simp)
      rcases List.mem_cons.1 this with e | e
      · rw [e]; omega
      · exact (List.pairwise_cons.1 hl).1 y e
    have h2 : y.d ≤ x.d := by
      have : x ∈ y :: R := h.mem.1 (by simp)
      rcases List.mem_cons.1 this with e | e
      · rw [e]; omega
      · exact (List.pairwise_cons.1 hr).1 x e
    have hd : x.d = y.d := by omega
    have e := h x.d
    have e1 : fibD x.d (x :: L) = x :: fibD x.d L := by simp [fibD]
    have e2 : fibD x.d (y :: R) = y :: fibD x.d R := by simp [fibD, hd]
    rw [e1, e2] at e
    injection e with e3 e4
    subst e3
    rw [srt_uniq (List.pairwise_cons.1 hl).2 (List.pairwise_cons.1 hr).2 (fun d => ?_)]
    by_cases hq : x.d = d
    · subst hq; exact e4
    · have e := h d
      simpa [fibD, hq] using e
theorem Srt.app {X Y : List Hd} (hx : Srt X) (hy : Srt Y) (h : ∀ x ∈ X, ∀ y ∈ Y, x.d ≤ y.d) : Srt (X ++ Y) := List.pairwise_append.2 ⟨hx, hy, h⟩
theorem Srt.left {X Y : List Hd} (h : Srt (X ++ Y)) : Srt X := (List.pairwise_append.1 h).1
theorem Srt.right {X Y : List Hd} (h : Srt (X ++ Y)) : Srt Y := (List.pairwise_append.1 h).2.1
theorem Srt.cross {X Y : List Hd} (h : Srt (X ++ Y)) : ∀ x ∈ X, ∀ y ∈ Y, x.d ≤ y.d := (List.pairwise_append.1 h).2.2
theorem Srt.one (x : Hd) : Srt [x] := List.pairwise_singleton _ _
theorem Srt.nil : Srt [] := List.Pairwise.nil
theorem Srt.at {L : List Hd} (h : Srt L) {i j : Nat} {p q : Hd} (hij : i ≤ j) (hp : L[i]? = some p) (hq : L[j]? = some q) : p.d ≤ q.d := by
  rcases Nat.lt_or_eq_of_le hij with hlt | rfl
  · obtain ⟨hi, rfl⟩ := List.getElem?_eq_some_iff.1 hp
    obtain ⟨hj, rfl⟩ := List.getElem?_eq_some_iff.1 hq
    exact List.pairwise_iff_getElem.1 h i j hi hj hlt
  · rw [hp] at hq; injection hq with hq; rw [hq]; omega
/-! insertion -/
theorem getD_app (A B : List Hd) (x : Hd) (j : Nat) (hj : j = A.length) : (A ++ (x :: B)).getD j default = x := by
  subst hj; rw [List.getD_eq_getElem?_getD, List.getElem?_append_right (Nat.le_refl _), Nat.sub_self]; rfl
theorem swapL_swp (L : List Hd) (j : Nat) : swapL L (j + 1) = swp L (j + 1) j := rfl
theorem swp_comm (L : List Hd) (i j : Nat) (h : i ≠ j) : swp L i j = swp L j i := by unfold swp; rw [List.set_comm _ _ h]
theorem innerF_app : ∀ (n : Nat) (A S B : List Hd) (x : Hd), S.length = n → Srt S → ∃ S', innerF A.length (A.length + S.length) (A ++ (S ++ (x :: B))) = A ++ (S' ++ B) ∧ Srt S' ∧ Fib (S ++ [x]) S'
  | 0, A, S, B, x, hn, _ => by
    obtain rfl := List.length_eq_zero_iff.1 hn
    refine ⟨[x], ?_, Srt.one x, Fib.refl _⟩
    rw [List.length_nil, Nat.add_zero]
    cases hA : A.length with
    | zero => simp [innerF]
    | succ k => rw [innerF, if_neg (by omega)]; simp
  | n + 1, A, S, B, x, hn, hs => by
    obtain ⟨S0, y, rfl⟩ : ∃ S0 y, S = S0 ++ [y] := by
      rcases List.eq_nil_or_concat S with h | ⟨S0, y, h⟩
      · subst h; simp at hn
      · exact ⟨S0, y, by simpa using h⟩
    simp only [List.length_append, List.length_cons, List.length_nil, Nat.zero_add] at hn
    have hl : (S0 ++ [y]).length = S0.length + 1 := by simp
    have e0 : A ++ ((S0 ++ [y]) ++ (x :: B)) = (A ++ S0) ++ (y :: (x :: B)) := by simp
    have e1 : (A ++ ((S0 ++ [y]) ++ (x :: B))).getD (A.length + S0.length + 1) default = x := by
      rw [show A ++ ((S0 ++ [y]) ++ (x :: B)) = (A ++ (S0 ++ [y])) ++ (x :: B) by simp]
      exact getD_app _ _ _ _ (by simp; omega)
    have e2 : (A ++ ((S0 ++ [y]) ++ (x :: B))).getD (A.length + S0.length) default = y := by
      rw [e0]; exact getD_app _ _ _ _ (by simp)
    rw [hl, ← Nat.add_assoc, innerF, e1, e2]
    by_cases hlt : x.d < y.d
    · rw [if_pos ⟨by omega, hlt⟩, swapL_swp, swp_comm _ _ _ (by omega), e0, show (A ++ S0) ++ (y :: (x :: B)) = (A ++ S0) ++ (y :: ([] ++ (x :: B))) by simp, swp_list (A ++ S0) [] B y x _ _ (by simp) (by simp)]
      obtain ⟨S', h1, h2, h3⟩ := innerF_app n A S0 (y :: B) x (by omega) hs.left
      refine ⟨S' ++ [y], ?_, ?_, ?_⟩
      · rw [show (A ++ S0) ++ (x :: ([] ++ (y :: B))) = A ++ (S0 ++ (x :: (y :: B))) by simp, h1]; simp
      · refine h2.app (Srt.one y) (fun a ha b hb => ?_)
        obtain rfl : b = y := by simpa using hb
        rcases List.mem_append.1 (h3.mem.2 ha) with h | h
        · exact hs.cross a h b (by simp)
        · obtain rfl : a = x := by simpa using h
          omega
      · refine Fib.trans ?_ (h3.app (Fib.refl [y]))
        rw [List.append_assoc, List.append_assoc]
        refine (Fib.refl S0).app (Fib.comm (fun a ha b hb => ?_))
        obtain rfl : a = y := by simpa using ha
        obtain rfl : b = x := by simpa using hb
        omega
    · rw [if_neg (fun h => hlt h.2)]
      refine ⟨S0 ++ [y] ++ [x], by simp, ?_, Fib.refl _⟩
      refine hs.app (Srt.one x) (fun a ha b hb => ?_)
      obtain rfl : b = x := by simpa using hb
      rcases List.mem_append.1 ha with h | h
      · have := hs.cross a h y (by simp); omega
      · obtain rfl : a = y := by simpa using h
        omega
theorem insF_app : ∀ (X A S B : List Hd), Srt S → ∃ S', insF A.length X.length (A.length + S.length) (A ++ (S ++ (X ++ B))) = A ++ (S' ++ B) ∧ Srt S' ∧ Fib (S ++ X) S'
  | [], A, S, B, hs => ⟨S, by simp [insF], hs, by rw [List.append_nil]; exact Fib.refl _⟩
  | x :: X, A, S, B, hs => by
    obtain ⟨S1, h1, h2, h3⟩ := innerF_app S.length A S (X ++ B) x rfl hs
    obtain ⟨S2, k1, k2, k3⟩ := insF_app X A S1 B h2
    have hl : S1.length = S.length + 1 := by rw [← h3.len]; simp
    refine ⟨S2, ?_, k2, ?_⟩
    · rw [List.length_cons, insF, show A ++ (S ++ ((x :: X) ++ B)) = A ++ (S ++ (x :: (X ++ B))) by simp, h1, ← k1, hl, Nat.add_assoc]
    · refine Fib.trans ?_ k3
      rw [show S ++ x :: X = (S ++ [x]) ++ X by simp]
      exact h3.app (Fib.refl X)
theorem ins_plain (A X B : List Hd) (a b : Nat) (ha : a = A.length) (hb : b = A.length + X.length) : ∃ S, insF a (b - (a + 1)) (a + 1) (A ++ (X ++ B)) = A ++ (S ++ B) ∧ Srt S ∧ Fib X S := by
  subst ha hb
  match X with
  | [] => exact ⟨[], by simp [insF], Srt.nil, Fib.refl _⟩
  | x :: X =>
    obtain ⟨S, h1, h2, h3⟩ := insF_app X A [x] B (Srt.one x)
    refine ⟨S, ?_, h2, h3⟩
    rw [← h1, List.length_cons, show A.length + (X.length + 1) - (A.length + 1) = X.length by omega]; rfl
/-! rows sorted by stretches of k -/
inductive Chk (k : Nat) : List Hd → Prop
  | last (L : List Hd) : L.length ≤ k → Srt L → Chk k L
  | more (X L : List Hd) : X.length = k → Srt X → Chk k L → Chk k (X ++ L)
theorem Chk.few {k : Nat} {L : List Hd} (h : Chk k L) (hl : L.length ≤ k) : Srt L := by
  cases h with
  | last _ _ hs => exact hs
  | more X M hx hs _ =>
    rw [List.length_append] at hl
    obtain rfl := List.length_eq_zero_iff.1 (show M.length = 0 by omega)
    rw [List.append_nil]; exact hs
theorem Chk.first {k : Nat} {L : List Hd} (h : Chk k L) (hl : k ≤ L.length) : ∃ X M, L = X ++ M ∧ X.length = k ∧ Srt X ∧ Chk k M := by
  cases h with
  | last _ h1 hs => exact ⟨L, [], by simp, by omega, hs, Chk.last _ (by simp) Srt.nil⟩
  | more X M hx hs hm => exact ⟨X, M, rfl, hx, hs, hm⟩
end Go.Proofs.Ythkkadbgggaenaa
