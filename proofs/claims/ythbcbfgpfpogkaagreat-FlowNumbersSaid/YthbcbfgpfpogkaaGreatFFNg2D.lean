/- FlowNumbers: syntax of a long text (printed). -/
import Derived.Test.YthbcbfgpfpogkaaGreatFFNgT
import Derived.KernelRfl
set_option linter.all false
set_option warn.classDefReducibility false
open Go Go.Mid Go.Proofs
set_option maxRecDepth 100000
set_option linter.unusedVariables false
namespace Go.FN
theorem kPD : chkPar 199 rPD (QT.go 42 [.str tD]) = true := by kernel_rfl
end Go.FN
