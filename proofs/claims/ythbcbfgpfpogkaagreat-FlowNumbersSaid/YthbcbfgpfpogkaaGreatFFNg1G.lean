/- FlowNumbers: tokens of a long text (printed). -/
import Derived.Test.YthbcbfgpfpogkaaGreatFFNr0
import Derived.KernelRfl
set_option linter.all false
set_option warn.classDefReducibility false
open Go Go.Mid Go.Proofs
set_option maxRecDepth 100000
set_option linter.unusedVariables false
namespace Go.FN
theorem kTG : chkTok 5403 1201 [rTG] (goC 72 [.str tG]) = true := by kernel_rfl
end Go.FN
