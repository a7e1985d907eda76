/- A part of the proof. -/
import Derived.Test.YteeahoagedfehaaGreatDoorUHS17
set_option linter.all false
set_option warn.classDefReducibility false
noncomputable section
section
open Go Go.Mid Go.Proofs
set_option maxRecDepth 100000
namespace Go.MS
section
variable {l F : List Asn} {h h0 : Hp} {ro : Bool} {Q : V → List Asn → Prop} {k : V → VH} {K : V → Hp → VH} {v lV : V} {X X' : HI} {x y : IO} {i j : Nat} {pl : List Pl} {os : List IO}
def okV (v : Vl) : Prop:=0 ≤ v.1 ∧ v.1 ≤ 8 ∧ (v.1 ≤ 2 → v.2 = 0)
theorem mem_ofI {os : List IO} {a : Vl} {n : Int} (h : ofI os a n = some x) : x ∈ os:=List.mem_of_getElem? (ofI_at h).1
def ValsOk (X : HI) : Prop:=∀ x ∈ X.os, ∀ p ∈ x.a.pl, okV p.2

end
end Go.MS
end
