/- FlowNumbers: long texts, reckoned by the kernel (printed). -/
import Derived.Test.YthbcbfgpfpogkaaGreatFFNgP
import Derived.KernelRfl
set_option linter.all false
set_option warn.classDefReducibility false
open Go Go.Mid Go.Proofs
set_option maxRecDepth 100000
set_option linter.unusedVariables false
namespace Go.FN
theorem rD : chkB 1 200 (QP.go 24 [.str tD]) = true := by kernel_rfl
end Go.FN
