/- Laws told shortly. -/
import Derived.Test.YtdiiilfokajddaaGreatDoorVMidWA
import Derived.Test.YtdiiilfokajddaaGreatDoorVMidNN
set_option linter.all false
set_option warn.classDefReducibility false
noncomputable section
section
namespace Go.Mid
section
variable {l : List Asn} {h h0 h' : Hp} {b o i : Nat} {cs : List V} {ro ro' : Bool} {F F' : List Asn} {Q Q' : V → List Asn → Prop} {K : V → Hp → VH} {k : V → VH} {x y v a c : V} {X : VH}
theorem te (hx : Tri h ro F Q X) (L : Lo ro h0 h) : Tri h0 ro F Q X:=Tri.tail hx L (fun e => e) fun v h B hq H L => ⟨B, hq, H⟩
theorem tb (hx : Tri h ro F' Q' X) (L : Lo ro h0 h) (hK : ∀ v h' B, Q' v B → St (B ++ F') h' → Lo ro h0 h' → Tri h0 ro F Q (K v h')) : Tri h0 ro F Q (bindS X K):=Tri.bind hx L (fun e => e) hK
theorem sto (i : Nat) {x : V} {k : Hp → VH} (H : St l h) (hi : l[i]? = some (row b cs)) (e : Nat.ble (o + 1) cs.length = true) (L : Lo false h0 h) (h1 : oneCell x = true)
 (hk : ∀ h', St (l.set i (row b (cs.set o x))) h' → Lo false h0 h' → Tri h0 false F Q (k h')) : Tri h0 false F Q (storeC (.ptr b o) x h k):=Tri.store i H hi (Nat.le_of_ble_eq_true e) L (fun e => nomatch e) h1 hk
end
end Go.Mid
end
