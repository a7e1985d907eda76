/- FlowNumbers: long texts, reckoned by the kernel (printed). -/
import Derived.Test.YthbcbfgpfpogkaaGreatFFNr0
import Derived.KernelRfl
set_option linter.all false
set_option warn.classDefReducibility false
open Go Go.Mid Go.Proofs
set_option maxRecDepth 100000
set_option linter.unusedVariables false
namespace Go.FN
theorem rC : chkB 1 2 (goC 24 [.str tC]) = true := by kernel_rfl
theorem rI : chkF 3 122 (goC 24 [.str tI]) = true := by kernel_rfl
end Go.FN
