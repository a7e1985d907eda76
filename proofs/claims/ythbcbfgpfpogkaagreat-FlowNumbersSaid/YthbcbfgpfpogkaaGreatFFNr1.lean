/- FlowNumbers: long texts, reckoned by the kernel (printed). -/
import Derived.Test.YthbcbfgpfpogkaaGreatFFNr0
import Derived.KernelRfl
set_option linter.all false
set_option warn.classDefReducibility false
open Go Go.Mid Go.Proofs
set_option maxRecDepth 100000
set_option linter.unusedVariables false
namespace Go.FN
theorem rA : chkA (goC 24 [.str tA]) = true := by kernel_rfl
theorem rB : chkA (goC 24 [.str tB]) = true := by kernel_rfl
end Go.FN
