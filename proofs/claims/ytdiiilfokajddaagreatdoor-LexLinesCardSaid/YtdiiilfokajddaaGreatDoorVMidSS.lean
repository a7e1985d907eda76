/- The operations on maps as a layer. -/
import Derived.Test.YtdiiilfokajddaaGreatDoorVMidRR
import Derived.Test.YtdiiilfokajddaaGreatDoorVMidBB
set_option linter.all false
set_option warn.classDefReducibility false
noncomputable section
section
open Go.RowKit
namespace Go.Mid
section
variable {P : Program}

end
end Go.Mid
end
