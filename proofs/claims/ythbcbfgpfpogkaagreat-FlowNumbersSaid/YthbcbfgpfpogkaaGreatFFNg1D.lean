/- FlowNumbers: tokens of a long text (printed). -/
import Derived.Test.YthbcbfgpfpogkaaGreatFFNr0
import Derived.KernelRfl
set_option linter.all false
set_option warn.classDefReducibility false
open Go Go.Mid Go.Proofs
set_option maxRecDepth 100000
set_option linter.unusedVariables false
namespace Go.FN
theorem kTD : chkTok 5376 1195 [rTD] (goC 72 [.str tD]) = true := by kernel_rfl
end Go.FN
