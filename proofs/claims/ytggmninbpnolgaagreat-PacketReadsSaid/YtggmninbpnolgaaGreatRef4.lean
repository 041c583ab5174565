/-
  Contracts: the reference of layer 4: Compare, Same, Common, MayId, First; view.Common.
-/
import Derived.Test.YtggmninbpnolgaaGreatLView2
import Derived.Test.YtggmninbpnolgaaGreatLives
namespace Go.Proofs.YtggmninbpnolgaaGreat
set_option linter.unusedSimpArgs false
set_option linter.unusedVariables false
set_option linter.unusedSectionVars false
open Go.RowKit

end Go.Proofs.YtggmninbpnolgaaGreat

namespace Go.Proofs.YtggmninbpnolgaaGreat
set_option linter.unusedSimpArgs false
set_option linter.unusedVariables false
set_option linter.unusedSectionVars false
open Go.RowKit

/-! ### may a view be? -/
end Go.Proofs.YtggmninbpnolgaaGreat
