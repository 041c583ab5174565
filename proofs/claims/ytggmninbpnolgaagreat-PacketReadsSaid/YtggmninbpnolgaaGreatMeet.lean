/-
  Contracts: slices.BinarySearchFunc and slices.Equal at lives; proc.chosen, Meet, Minus, Same.
-/
import Derived.Test.YtggmninbpnolgaaGreatRow
namespace Go.Proofs.YtggmninbpnolgaaGreat
set_option linter.unusedSimpArgs false
set_option linter.unusedVariables false
set_option linter.unusedSectionVars false
open Go.RowKit Go.Sort Go.Lib

/-! ### the binary search, in plain lists -/
def bsInv (o : List Pr) (p : Pr) (i j : Nat) : Prop :=
  i ≤ j ∧ j ≤ o.length ∧ (∀ k, k < i → ∀ x, o[k]? = some x → cmpP x p < 0) ∧ (∀ k, j ≤ k → ∀ x, o[k]? = some x → ¬ cmpP x p < 0)
theorem ss_get {o : List Pr} (h : SS o) {i j : Nat} {x y : Pr} (hij : i < j) (hx : o[i]? = some x) (hy : o[j]? = some y) : ltP x y := by
  obtain ⟨h1, rfl⟩ := List.getElem?_eq_some_iff.1 hx
  obtain ⟨h2, rfl⟩ := List.getElem?_eq_some_iff.1 hy
  exact List.pairwise_iff_getElem.1 h i j h1 h2 hij
theorem bsInv_start (o : List Pr) (p : Pr) : bsInv o p 0 o.length := ⟨Nat.zero_le _, Nat.le_refl _, fun k hk => absurd hk (by omega), fun k hk x hx => by
  have := (List.getElem?_eq_some_iff.1 hx).1; omega⟩
theorem bsInv_lo {o : List Pr} {p x : Pr} {i j h : Nat} (hs : SS o) (hI : bsInv o p i j) (h2 : h < j) (hx : o[h]? = some x) (hc : cmpP x p < 0) : bsInv o p (h + 1) j := by
  refine ⟨by omega, hI.2.1, fun k hk y hy => ?_, hI.2.2.2⟩
  by_cases e : k = h
  · subst e; rw [hx] at hy; injection hy with hy; rw [← hy]; exact hc
  · exact (ltP_cmp _ _).1 (ltP_trans (ss_get hs (by omega) hy hx) ((ltP_cmp _ _).2 hc))
theorem bsInv_hi {o : List Pr} {p x : Pr} {i j h : Nat} (hs : SS o) (hI : bsInv o p i j) (h1 : i ≤ h) (h2 : h < j) (hx : o[h]? = some x) (hc : ¬ cmpP x p < 0) : bsInv o p i h := by
  refine ⟨h1, by have := hI.2.1; omega, hI.2.2.1, fun k hk y hy => ?_⟩
  by_cases e : k = h
  · subst e; rw [hx] at hy; injection hy with hy; rw [← hy]; exact hc
  · intro hlt
    exact hc ((ltP_cmp _ _).1 (ltP_trans (ss_get hs (by omega) hx hy) ((ltP_cmp _ _).2 hlt)))
theorem bsInv_end {o : List Pr} {p : Pr} {i : Nat} (hs : SS o) (hI : bsInv o p i i) : (∃ x, o[i]? = some x ∧ x = p) ↔ p ∈ o := by
  constructor
  · rintro ⟨x, hx, rfl⟩; exact List.mem_of_getElem? hx
  · intro hp
    obtain ⟨k, hk⟩ := List.mem_iff_getElem?.1 hp
    refine ⟨p, ?_, rfl⟩
    rcases Nat.lt_trichotomy k i with h | h | h
    · exact absurd (hI.2.2.1 k h p hk) (by have := (cmpP_zero p p).2 rfl; omega)
    · rw [← h]; exact hk
    · have hk' := (List.getElem?_eq_some_iff.1 hk).1
      have hi : o[i]? = some (o[i]'(by omega)) := List.getElem?_eq_getElem _
      exact absurd ((ltP_cmp _ _).1 (ss_get hs h hi hk)) (hI.2.2.2 i (Nat.le_refl _) _ hi)

/-- those of a that are in b, or are not, in their order -/
def chosenL (a b : List Pr) (f : Bool) : List Pr := (sortedL a).filter fun p => decide (p ∈ b) == f
theorem chosen_step {o b : List Pr} {f : Bool} {k : Nat} {p : Pr} (h : o[k]? = some p) : (o.take (k + 1)).filter (fun p => decide (p ∈ b) == f) = (o.take k).filter (fun p => decide (p ∈ b) == f) ++ (if (decide (p ∈ b) == f) = true then [p] else []) := by
  rw [take_succ_of h, List.filter_append]
  by_cases hc : (decide (p ∈ b) == f) = true <;> simp [hc]

end Go.Proofs.YtggmninbpnolgaaGreat

namespace Go.Proofs.YtggmninbpnolgaaGreat
set_option linter.unusedSimpArgs false
set_option linter.unusedVariables false
set_option linter.unusedSectionVars false
open Go.RowKit Go.Sort Go.Lib

/-! ### the reference's Sorted: one by one, each put where it belongs -/
theorem sortedL_old {l : List Pr} {k : Nat} {p : Pr} (h : l[k]? = some p) (hin : p ∈ sortedL (l.take k)) : sortedL (l.take (k + 1)) = sortedL (l.take k) := by
  refine sortedL_congr fun x => ?_
  rw [take_succ_of h, List.mem_append, List.mem_singleton]
  rw [mem_sortedL] at hin
  constructor
  · rintro (h | rfl)
    · exact h
    · exact hin
  · exact .inl
theorem sortedL_new {l : List Pr} {k at_ : Nat} {p : Pr} (h : l[k]? = some p) (hlow : ∀ j x, j < at_ → (sortedL (l.take k))[j]? = some x → ltP x p) (hhigh : ∀ x, (sortedL (l.take k))[at_]? = some x → ¬ ltP x p) (hnin : p ∉ sortedL (l.take k)) (hat : at_ ≤ (sortedL (l.take k)).length) :
    sortedL (l.take (k + 1)) = (sortedL (l.take k)).take at_ ++ [p] ++ (sortedL (l.take k)).drop at_ := by
  have hss := sortedL_ss (l.take k)
  generalize hL : sortedL (l.take k) = L at *
  refine sortedL_eq ?_ fun x => ?_
  · have hp1 : (L.take at_ ++ L.drop at_).Pairwise ltP := by rw [List.take_append_drop]; exact hss
    rw [List.pairwise_append] at hp1
    have hlt : ∀ x ∈ L.take at_, ltP x p := by
      intro x hx
      obtain ⟨j, hj⟩ := List.mem_iff_getElem?.1 hx
      rw [List.getElem?_take] at hj
      split at hj
      · rename_i hj'; exact hlow j x hj' hj
      · cases hj
    have hgt : ∀ y ∈ L.drop at_, ltP p y := by
      intro y hy
      obtain ⟨j, hj⟩ := List.mem_iff_getElem?.1 hy
      rw [List.getElem?_drop] at hj
      have hylt := (List.getElem?_eq_some_iff.1 hj).1
      have h0 : L[at_]? = some (L[at_]'(by omega)) := List.getElem?_eq_getElem _
      have h1 := hhigh _ h0
      have hmem : L[at_]'(by omega) ∈ L := List.getElem_mem _
      have h2 : ltP p (L[at_]'(by omega)) := by
        rcases ltP_tri (L[at_]'(by omega)) p with a | a | a
        · exact absurd a h1
        · rw [a] at hmem; exact absurd hmem hnin
        · exact a
      by_cases e : j = 0
      · subst e; rw [Nat.add_zero, h0] at hj; injection hj with hj; rw [← hj]; exact h2
      · exact ltP_trans h2 (ss_get hss (by omega) h0 hj)
    unfold SS
    rw [List.append_assoc, List.pairwise_append]
    refine ⟨hp1.1, ?_, ?_⟩
    · rw [List.singleton_append, List.pairwise_cons]; exact ⟨hgt, hp1.2.1⟩
    · intro x hx y hy
      rw [List.singleton_append, List.mem_cons] at hy
      rcases hy with rfl | hy
      · exact hlt x hx
      · exact hp1.2.2 x hx y hy
  · have hx : x ∈ L ↔ x ∈ L.take at_ ∨ x ∈ L.drop at_ := by rw [← List.mem_append, List.take_append_drop]
    rw [take_succ_of h]
    simp only [List.mem_append, List.mem_singleton]
    rw [← mem_sortedL (l := l.take k) (x := x), hL, hx]
    constructor
    · rintro ((h | h) | h)
      · exact .inl (.inl h)
      · exact .inr h
      · exact .inl (.inr h)
    · rintro ((h | h) | h)
      · exact .inl (.inl h)
      · exact .inr h
      · exact .inl (.inr h)

theorem befB_lt (x p : Pr) : befB x.1 x.2 p.1 p.2 = decide (ltP x p) := by
  rw [befB_cmp, decide_eq_decide, ltP_cmp]
theorem before_b (a b c d : Int) (w : World) : Calls Tryz.prog 80 #[.agg #[.int .i64 a, .int .u64 b], .agg #[.int .i64 c, .int .u64 d]] w fun e w' => e = .returned (.bool (befB a b c d)) ∧ Below w.heap.size w w' :=
  (before_any a b c d w).mono fun _ _ ⟨h, h'⟩ => ⟨h, by subst h'; exact below_step (below_alloc _ _) (below_alloc _ _)⟩

end Go.Proofs.YtggmninbpnolgaaGreat

namespace Go.Proofs.YtggmninbpnolgaaGreat
set_option linter.unusedSimpArgs false
set_option linter.unusedVariables false
set_option linter.unusedSectionVars false
open Go.RowKit Go.Sort Go.Lib

/-- the slice at A reads as l -/
def Sl (w : World) (A : Option Addr) (l : List Pr) : Prop := Reads w w.heap.size 2 A l.length (pcs l)
theorem Sl.step {w w' : World} {A : Option Addr} {l : List Pr} (h : Sl w A l) (hb : Below w.heap.size w w') : Sl w' A l := (Reads.below h hb).more hb.size
/-- a list of lives is handed back; all that was there is kept -/
def RetS (w : World) (l : List Pr) (e : Ending) (w' : World) : Prop := ∃ A c, e = .returned (.slice A l.length c) ∧ Sl w' A l ∧ Below w.heap.size w w'
theorem retS_own {w w' : World} {base : Nat} {l : List Pr} {v : Value} (h : OwnP w' base v l) (hb : Below w.heap.size w w') : RetS w l (.returned v) w' := by
  obtain ⟨A, c, rfl, _, _⟩ := own_slice h
  exact ⟨A, c, rfl, Reads.of_own h, hb⟩

/-- a bool that is known is handed back -/
def RetB (w : World) (b : Bool) (e : Ending) (w' : World) : Prop := e = .returned (.bool b) ∧ Below w.heap.size w w'
theorem refEqual_t (A A' : Option Addr) (c c' : Nat) (a b : List Pr) (w : World) (h : Sl w A a) (h' : Sl w A' b) (hn : a.length ≤ 1000000) (he : a = b) : Calls Tryz.prog 57 #[.slice A a.length c, .slice A' b.length c'] w (RetB w true) :=
  (refEqual_any A A' c c' a b w h h' hn (by rw [← he]; exact hn)).mono fun _ _ ⟨h1, h2⟩ => ⟨by rw [h1]; simp [he], h2⟩

theorem refEqual_s (A A' : Option Addr) (c c' : Nat) (a b : List Pr) (w : World) (h : Sl w A a) (h' : Sl w A' b) (hn : a.length ≤ 1000000) (hm : b.length ≤ 1000000) : Calls Tryz.prog 57 #[.slice A a.length c, .slice A' b.length c'] w (RetB w (decide (a = b))) :=
  refEqual_any A A' c c' a b w h h' hn hm

theorem kept_step {a b : List Pr} {f : Bool} {k : Nat} {p : Pr} (h : a[k]? = some p) : (a.take (k + 1)).filter (fun p => decide (p ∈ b) == f) = (a.take k).filter (fun p => decide (p ∈ b) == f) ++ (if (decide (p ∈ b) == f) = true then [p] else []) := chosen_step h
theorem kept_eq (a b : List Pr) (f : Bool) : sortedL (a.filter fun p => decide (p ∈ b) == f) = chosenL a b f := by
  refine sortedL_eq ?_ fun x => ?_
  · exact List.Pairwise.filter _ (sortedL_ss a)
  · simp only [chosenL, List.mem_filter, mem_sortedL]

end Go.Proofs.YtggmninbpnolgaaGreat
