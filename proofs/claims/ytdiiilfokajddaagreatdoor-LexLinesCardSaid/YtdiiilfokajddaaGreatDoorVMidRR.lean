/- The operations of MidQQ are the model's. -/
import Derived.Test.YtdiiilfokajddaaGreatDoorVMidQQ
set_option linter.all false
set_option warn.classDefReducibility false
noncomputable section
section
open Go.RowKit
namespace Go.Mid
section
variable {P : Program}
variable [Orc] [Z : Res]

end
end Go.Mid
end
