/- FlowNumbers: long texts, reckoned by the kernel (printed). -/
import Derived.Test.YthbcbfgpfpogkaaGreatFFNr0
import Derived.KernelRfl
set_option linter.all false
set_option warn.classDefReducibility false
open Go Go.Mid Go.Proofs
set_option maxRecDepth 100000
set_option linter.unusedVariables false
namespace Go.FN
theorem rw1 : chkT (goC 18 [.str w1, .int .i64 (.ofNat 3), .int .i64 (.ofNat 2)]) = true := by kernel_rfl
theorem rw2 : chkT (goC 18 [.str w2, .int .i64 (.ofNat 3), .int .i64 (.ofNat 2)]) = true := by kernel_rfl
theorem rw3 : chkT (goC 18 [.str w3, .int .i64 (.ofNat 3), .int .i64 (.ofNat 2)]) = true := by kernel_rfl
end Go.FN
