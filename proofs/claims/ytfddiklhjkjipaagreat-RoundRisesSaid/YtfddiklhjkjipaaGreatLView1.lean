/-
  Layer 4: the laws ViewOrder, ViewPlaces: true for every input.
-/
import Derived.Test.YtfddiklhjkjipaaGreatAwake4
namespace Go.Proofs.YtfddiklhjkjipaaGreat
set_option linter.unusedSimpArgs false
set_option linter.unusedVariables false
set_option linter.unusedSectionVars false
open Go.RowKit

theorem cmpI_cases (a b : Int) : (a < b ∧ cmpI a b = -1 ∧ cmpI b a = 1) ∨ (a = b ∧ cmpI a b = 0 ∧ cmpI b a = 0) ∨ (b < a ∧ cmpI a b = 1 ∧ cmpI b a = -1) := by
  rcases Int.lt_trichotomy a b with h | h | h
  · exact .inl ⟨h, cmpI_lt h, cmpI_gt h⟩
  · exact .inr (.inl ⟨h, cmpI_eq h, cmpI_eq h.symm⟩)
  · exact .inr (.inr ⟨h, cmpI_gt h, cmpI_lt h⟩)
theorem cmpV_one (a b c d e f : Int) : cmpV a b c d e f = -1 ∨ cmpV a b c d e f = 0 ∨ cmpV a b c d e f = 1 := by
  unfold cmpV
  split
  · exact cmpP_one _ _
  · rcases cmpI_cases a d with ⟨_, h, _⟩ | ⟨_, h, _⟩ | ⟨_, h, _⟩ <;> rw [h] <;> simp
theorem cmpV_neg (a b c d e f : Int) : cmpV d e f a b c = - cmpV a b c d e f := by
  unfold cmpV
  rcases cmpI_cases a d with ⟨_, h, k⟩ | ⟨_, h, k⟩ | ⟨_, h, k⟩ <;> rw [h, k] <;> simp
  exact cmpP_neg _ _
theorem cmpV_zero (a b c d e f : Int) : cmpV a b c d e f = 0 ↔ a = d ∧ b = e ∧ c = f := by
  unfold cmpV
  rcases cmpI_cases a d with ⟨g, h, k⟩ | ⟨g, h, k⟩ | ⟨g, h, k⟩ <;> rw [h] <;> simp
  · intro h'; omega
  · rw [cmpP_zero]; simp [g]
  · intro h'; omega
theorem cmpV_lt (a b c d e f : Int) : cmpV a b c d e f < 0 ↔ a < d ∨ a = d ∧ ltP (b, c) (e, f) := by
  unfold cmpV
  rcases cmpI_cases a d with ⟨g, h, k⟩ | ⟨g, h, k⟩ | ⟨g, h, k⟩ <;> rw [h] <;> simp
  · exact .inl g
  · rw [← ltP_cmp]; simp [g]
  · omega
theorem cmpV_trans {a b c d e f g h i : Int} (h1 : cmpV a b c d e f < 0) (h2 : cmpV d e f g h i < 0) : cmpV a b c g h i < 0 := by
  rw [cmpV_lt] at *
  rcases h1 with h1 | ⟨h1, k1⟩ <;> rcases h2 with h2 | ⟨h2, k2⟩
  · exact .inl (by omega)
  · exact .inl (by omega)
  · exact .inl (by omega)
  · exact .inr ⟨by omega, ltP_trans k1 k2⟩
end Go.Proofs.YtfddiklhjkjipaaGreat
