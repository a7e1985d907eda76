/- Operations more: maps whose keys are structs of numbers, entries taken away, maps emptied. -/
import Derived.Test.YtdiiilfokajddaaGreatDoorVMidHH
import Derived.WideKeyRuns
set_option linter.all false
set_option warn.classDefReducibility false
noncomputable section
section
open Go.RowKit
namespace Go.Mid
section
inductive Kd where
 | leaf (d : TypeDesc)
 | struct (l : List (Nat × TypeDesc))
section
variable (P : Program)
end
variable {P : Program}
end
end Go.Mid
end
