/- Types asserted of an interface's value; all operations from outside, in layers. -/
import Derived.Test.YtdiiilfokajddaaGreatDoorVMidSS
set_option linter.all false
set_option warn.classDefReducibility false
noncomputable section
section
open Go.RowKit
namespace Go.Mid
section
section
variable (P : Program)
end
variable {P : Program}
end
end Go.Mid
end
