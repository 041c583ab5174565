/-
  Contracts: slices.BinarySearchFunc and slices.Equal at lives; proc.chosen, Meet, Minus, Same.
-/
import Derived.Test.YtgpmcpinnaggmaaUnion
namespace Go.Proofs.Ytgpmcpinnaggmaa
set_option linter.unusedSimpArgs false
set_option linter.unusedVariables false
set_option linter.unusedSectionVars false
open Go.RowKit Go.Sort Go.Lib

/-! ### the binary search, in plain lists -/
def bsInv (o : List Pr) (p : Pr) (i j : Nat) : Prop :=
  i ≤ j ∧ j ≤ o.length ∧ (∀ k, k < i → ∀ x, o[k]? = some x → cmpP x p < 0) ∧ (∀ k, j ≤ k → ∀ x, o[k]? = some x → ¬ cmpP x p < 0)
theorem ss_get {o : List Pr} (h : SS o) {i j : Nat} {x y : Pr} (hij : i < j) (hx : o[i]? = some x) (hy : o[j]? = some y) : ltP x y := by
  obtain ⟨h1, rfl⟩ := List.getElem?_eq_some_iff.1 hx
  obtain ⟨h2, rfl⟩ := List.getElem?_eq_some_iff.1 hy
  exact List.pairwise_iff_getElem.1 h i j h1 h2 hij
theorem bsInv_start (o : List Pr) (p : Pr) : bsInv o p 0 o.length := ⟨Nat.zero_le _, Nat.le_refl _, fun k hk => absurd hk (by omega), fun k hk x hx => by
  have := (List.getElem?_eq_some_iff.1 hx).1; omega⟩
theorem bsInv_lo {o : List Pr} {p x : Pr} {i j h : Nat} (hs : SS o) (hI : bsInv o p i j) (h2 : h < j) (hx : o[h]? = some x) (hc : cmpP x p < 0) : bsInv o p (h + 1) j := by
  refine ⟨by omega, hI.2.1, fun k hk y hy => ?_, hI.2.2.2⟩
  by_cases e : k = h
  · subst e; rw [hx] at hy; injection hy with hy; rw [← hy]; exact hc
  · exact (ltP_cmp _ _).1 (ltP_trans (ss_get hs (by omega) hy hx) ((ltP_cmp _ _).2 hc))
theorem bsInv_hi {o : List Pr} {p x : Pr} {i j h : Nat} (hs : SS o) (hI : bsInv o p i j) (h1 : i ≤ h) (h2 : h < j) (hx : o[h]? = some x) (hc : ¬ cmpP x p < 0) : bsInv o p i h := by
  refine ⟨h1, by have := hI.2.1; omega, hI.2.2.1, fun k hk y hy => ?_⟩
  by_cases e : k = h
  · subst e; rw [hx] at hy; injection hy with hy; rw [← hy]; exact hc
  · intro hlt
    exact hc ((ltP_cmp _ _).1 (ltP_trans (ss_get hs (by omega) hx hy) ((ltP_cmp _ _).2 hlt)))
theorem bsInv_end {o : List Pr} {p : Pr} {i : Nat} (hs : SS o) (hI : bsInv o p i i) : (∃ x, o[i]? = some x ∧ x = p) ↔ p ∈ o := by
  constructor
  · rintro ⟨x, hx, rfl⟩; exact List.mem_of_getElem? hx
  · intro hp
    obtain ⟨k, hk⟩ := List.mem_iff_getElem?.1 hp
    refine ⟨p, ?_, rfl⟩
    rcases Nat.lt_trichotomy k i with h | h | h
    · exact absurd (hI.2.2.1 k h p hk) (by have := (cmpP_zero p p).2 rfl; omega)
    · rw [← h]; exact hk
    · have hk' := (List.getElem?_eq_some_iff.1 hk).1
      have hi : o[i]? = some (o[i]'(by omega)) := List.getElem?_eq_getElem _
      exact absurd ((ltP_cmp _ _).1 (ss_get hs h hi hk)) (hI.2.2.2 i (Nat.le_refl _) _ hi)

/-- those of a that are in b, or are not, in their order -/
def chosenL (a b : List Pr) (f : Bool) : List Pr := (sortedL a).filter fun p => decide (p ∈ b) == f
theorem chosen_step {o b : List Pr} {f : Bool} {k : Nat} {p : Pr} (h : o[k]? = some p) : (o.take (k + 1)).filter (fun p => decide (p ∈ b) == f) = (o.take k).filter (fun p => decide (p ∈ b) == f) ++ (if (decide (p ∈ b) == f) = true then [p] else []) := by
  rw [take_succ_of h, List.filter_append]
  by_cases hc : (decide (p ∈ b) == f) = true <;> simp [hc]

end Go.Proofs.Ytgpmcpinnaggmaa
