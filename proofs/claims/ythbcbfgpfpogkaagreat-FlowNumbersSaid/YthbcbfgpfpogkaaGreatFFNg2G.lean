/- FlowNumbers: syntax of a long text (printed). -/
import Derived.Test.YthbcbfgpfpogkaaGreatFFNgT
import Derived.KernelRfl
set_option linter.all false
set_option warn.classDefReducibility false
open Go Go.Mid Go.Proofs
set_option maxRecDepth 100000
set_option linter.unusedVariables false
namespace Go.FN
theorem kPG : chkPar 200 rPG (QT.go 42 [.str tG]) = true := by kernel_rfl
end Go.FN
