/-
  Layer 4: the laws ViewOrder, ViewPlaces: true for every input.
-/
import Derived.Test.YtniogmefbjfoaaaGreatTcL
import Derived.Test.YtniogmefbjfoaaaGreatOpenV
import Derived.Test.YtniogmefbjfoaaaGreatPk3
namespace Go.Proofs.YtniogmefbjfoaaaGreat
set_option linter.unusedSimpArgs false
set_option linter.unusedVariables false
set_option linter.unusedSectionVars false
open Go.RowKit

theorem cmpI_cases (a b : Int) : (a < b ∧ cmpI a b = -1 ∧ cmpI b a = 1) ∨ (a = b ∧ cmpI a b = 0 ∧ cmpI b a = 0) ∨ (b < a ∧ cmpI a b = 1 ∧ cmpI b a = -1) := by
  rcases Int.lt_trichotomy a b with h | h | h
  · exact .inl ⟨h, cmpI_lt h, cmpI_gt h⟩
  · exact .inr (.inl ⟨h, cmpI_eq h, cmpI_eq h.symm⟩)
  · exact .inr (.inr ⟨h, cmpI_gt h, cmpI_lt h⟩)
theorem cmpV_one (a b c d e f : Int) : cmpV a b c d e f = -1 ∨ cmpV a b c d e f = 0 ∨ cmpV a b c d e f = 1 := by
  unfold cmpV
  split
  · exact cmpP_one _ _
  · rcases cmpI_cases a d with ⟨_, h, _⟩ | ⟨_, h, _⟩ | ⟨_, h, _⟩ <;> rw [h] <;> simp
theorem cmpV_neg (a b c d e f : Int) : cmpV d e f a b c = - cmpV a b c d e f := by
  unfold cmpV
  rcases cmpI_cases a d with ⟨_, h, k⟩ | ⟨_, h, k⟩ | ⟨_, h, k⟩ <;> rw [h, k] <;> simp
  exact cmpP_neg _ _
theorem cmpV_zero (a b c d e f : Int) : cmpV a b c d e f = 0 ↔ a = d ∧ b = e ∧ c = f := by
  unfold cmpV
  rcases cmpI_cases a d with ⟨g, h, k⟩ | ⟨g, h, k⟩ | ⟨g, h, k⟩ <;> rw [h] <;> simp
  · intro h'; omega
  · rw [cmpP_zero]; simp [g]
  · intro h'; omega
end Go.Proofs.YtniogmefbjfoaaaGreat

namespace Go.Proofs.YtniogmefbjfoaaaGreat
set_option linter.unusedSimpArgs false
set_option linter.unusedVariables false
set_option linter.unusedSectionVars false
open Go.RowKit

/-- is a view longer than is gone through? -/
def hvV (x : Vw) : Bool := decide (300 < (x.ms.length : Int)) || decide (300 < (x.us.length : Int))
theorem start_first (n i : Int) : startV [(n, i)] [0] (n, i) = .tuple #[.int .u64 0, .bool true] := by simp [startV]
theorem mayB_first (n i : Int) (MA UA : Option Addr) (mc uc : Nat) : Vw.mayB ⟨0, n, i, MA, mc, [(n, i)], UA, uc, [0]⟩ = mayIdB 0 n i := by
  unfold Vw.mayB
  simp [Vw.eqB]
theorem Vw.ok_of {w : World} {x : Vw} (hm : Sl w x.MA x.ms) (hu : Ul w x.UA x.us) (h : hvV x = false) : x.Ok w := by
  unfold hvV at h
  simp at h
  exact ⟨hm, hu, by omega, by omega⟩
end Go.Proofs.YtniogmefbjfoaaaGreat

namespace Go.Proofs.YtniogmefbjfoaaaGreat
set_option linter.unusedSimpArgs false
set_option linter.unusedVariables false
set_option linter.unusedSectionVars false
open Go.RowKit

end Go.Proofs.YtniogmefbjfoaaaGreat

namespace Go.Proofs.YtniogmefbjfoaaaGreat
set_option linter.unusedSimpArgs false
set_option linter.unusedVariables false
set_option linter.unusedSectionVars false
open Go.RowKit

/-! ### may a view be? -/
end Go.Proofs.YtniogmefbjfoaaaGreat
