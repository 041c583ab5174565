/-
  Layer 4: heavy; the reference's Place, Start; the laws ViewFirst, ViewPlaces: true for every input.
-/
import Derived.Test.YtfddiklhjkjipaaGreatLView1
import Derived.Test.YtfddiklhjkjipaaGreatOpenV
namespace Go.Proofs.YtfddiklhjkjipaaGreat
set_option linter.unusedSimpArgs false
set_option linter.unusedVariables false
set_option linter.unusedSectionVars false
open Go.RowKit

theorem first_u (n i : Int) (w : World) : Calls Tryz.prog 143 #[.agg #[.int .i64 n, .int .u64 i]] w fun e w' => ∃ MA mc UA uc, e = .returned (.agg #[.int .u64 0, .int .i64 n, .int .u64 i, .slice MA 1 mc, .slice UA 1 uc]) ∧ Vw.Ok w' ⟨0, n, i, MA, mc, [(n, i)], UA, uc, [0]⟩ ∧ Below w.heap.size w w' := first_s n i w
/-- is a view longer than is gone through? -/
def hvV (x : Vw) : Bool := decide (300 < (x.ms.length : Int)) || decide (300 < (x.us.length : Int))
theorem start_first (n i : Int) : startV [(n, i)] [0] (n, i) = .tuple #[.int .u64 0, .bool true] := by simp [startV]
theorem mayB_first (n i : Int) (MA UA : Option Addr) (mc uc : Nat) : Vw.mayB ⟨0, n, i, MA, mc, [(n, i)], UA, uc, [0]⟩ = mayIdB 0 n i := by
  unfold Vw.mayB
  simp [Vw.eqB]
theorem Vw.ok_of {w : World} {x : Vw} (hm : Sl w x.MA x.ms) (hu : Ul w x.UA x.us) (h : hvV x = false) : x.Ok w := by
  unfold hvV at h
  simp at h
  exact ⟨hm, hu, by omega, by omega⟩
end Go.Proofs.YtfddiklhjkjipaaGreat
