/- RightNumbers: the small machine of the Mid texts runs the law to 'true'; the kernel reckons it. So the model's run returns true, in whatever world. No condition. -/
import Derived.Test.YtgajpiaajkbilaaMidS
import Derived.Test.YtgajpiaajkbilaaProg
import Derived.KernelRfl
namespace Go.Proofs.Ytgajpiaajkbilaa.WalkRightNumbers
open Go.Mid
theorem named : Named Try.prog := named_of (by kernel_rfl)
theorem mixed : Try.prog.follows .mixedOrders = true := by kernel_rfl
theorem says : saysTrue Try.prog 1000000 3 = true := by kernel_rfl
theorem walk (w : World) : Calls Try.prog 3 #[] w fun e w' => e = .returned (.bool true) ∧ RowKit.Grown w w' := calls_true mixed named says w
end Go.Proofs.Ytgajpiaajkbilaa.WalkRightNumbers
