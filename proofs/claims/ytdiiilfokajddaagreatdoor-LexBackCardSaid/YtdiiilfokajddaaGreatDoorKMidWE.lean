/- Texts as lists of bytes; laws for strings that are cut, put together, looked at. -/
import Derived.Test.YtdiiilfokajddaaGreatDoorKMidWA
import Derived.Test.YtdiiilfokajddaaGreatDoorKMidA
import Derived.Test.YtdiiilfokajddaaGreatDoorKMidNN
import Derived.Test.YtdiiilfokajddaaGreatDoorKMidQQ
import Derived.Test.YtdiiilfokajddaaGreatDoorKMidFF
set_option linter.all false
set_option warn.classDefReducibility false
noncomputable section
section
open Go
set_option maxRecDepth 100000
namespace Go.Mid
section
def bts (s : Bs) : List Nat:=s.l.map UInt8.toNat
theorem bts_len (s : Bs) : (bts s).length = s.n:=by rw [bts, List.length_map, Bs.l_len]
theorem bts_get {s : Bs} {i : Nat} (h : i < s.n) : (bts s)[i]? = some (s.byte i):=by
 have:=Bs.get_eq s i
 unfold Bs.get at this
 rw [show Nat.ble (Nat.succ i) s.n = true from Nat.ble_eq_true_of_le h] at this
 rw [bts, List.getElem?_map, ← this]
theorem bts_drop {s : Bs} {i : Nat} (h : i < s.n) : (bts s).drop i = s.byte i :: (bts s).drop (i + 1):=by
 have h1 : i < (bts s).length:=by rw [bts_len]; exact h
 rw [List.drop_eq_getElem_cons h1]
 congr 1
 have:=bts_get h
 rw [List.getElem?_eq_getElem h1, Option.some.injEq] at this
 exact this
theorem bts_end {s : Bs} {i : Nat} (h : s.n ≤ i) : (bts s).drop i = []:=List.drop_eq_nil_of_le (by rw [bts_len]; exact h)
theorem bts_lt (s : Bs) (i : Nat) : s.byte i < 256:=Nat.mod_lt _ (by decide)
theorem bts_mem {s : Bs} {b : Nat} (h : b ∈ bts s) : b < 256:=by
 rw [bts, List.mem_map] at h
 obtain ⟨x, _, rfl⟩:=h
 exact x.toNat_lt
theorem l_bts (s : Bs) : s.l = (bts s).map UInt8.ofNat:=by
 rw [bts, List.map_map]
 conv => lhs; rw [← List.map_id s.l]
 apply List.map_congr_left
 intro a _
 exact (UInt8.ofNat_toNat).symm
theorem bts_inj {x y : Bs} (h : bts x = bts y) : x.l = y.l:=by rw [l_bts x, l_bts y, h]
theorem bts_pack (l : List UInt8) : bts (pack l) = l.map UInt8.toNat:=by rw [bts, pack_l]
theorem bts_eq (x y : Bs) : x.eq y = decide (bts x = bts y):=by
 rw [Bool.eq_iff_iff, Bs.eq_iff, decide_eq_true_iff]
 exact ⟨fun h => by rw [bts, bts, h], bts_inj⟩
variable {l : List Asn} {h h0 h' : Hp} {ro : Bool} {F : List Asn} {Q : V → List Asn → Prop} {K : V → Hp → VH} {k : V → VH}
theorem Tri.strCat {x y : Bs} (hn : x.n + y.n ≤ 4611686018427387904) (hk : ∀ z : Bs, z.n = x.n + y.n → bts z = bts x ++ bts y → Tri h0 ro F Q (k (.str z))) : Tri h0 ro F Q (strS .add (.str x) (.str y) k):=by
 show Tri h0 ro F Q (optS (stAdd x y) k)
 unfold stAdd
 rw [Nat.ble_eq_true_of_le hn]
 refine hk _ rfl ?_
 show (Bs.cat x y).l.map _ = _
 rw [Bs.l_cat, List.map_append]; rfl
theorem Tri.cut {x : Bs} {a b : Nat} (hab : a ≤ b) (hb : b ≤ x.n) (hk : ∀ z : Bs, z.n = b - a → bts z = ((bts x).drop a).take (b - a) → Tri h0 ro F Q (k (.str z))) : Tri h0 ro F Q (whenE (Nat.ble a b && Nat.ble b x.n) (k (.str (x.cut a b)))):=by
 rw [Nat.ble_eq_true_of_le hab, Nat.ble_eq_true_of_le hb]
 refine hk _ rfl ?_
 rw [bts, Bs.l_cut x hab hb, List.map_take, List.map_drop]; rfl
theorem Tri.cutLo {x : Bs} {d : IntKind} {a : Int} (h0a : 0 ≤ a) (ha : a ≤ x.n) (hk : ∀ z : Bs, z.n = x.n - a.toNat → bts z = (bts x).drop a.toNat → Tri h0 ro F Q (k (.str z))) : Tri h0 ro F Q (slStrK (some (.int d a)) none (.str x) k):=by
 obtain ⟨a, rfl⟩ : ∃ j : Nat, a = j:=⟨a.toNat, by omega⟩
 refine Tri.cut (a:=a) (b:=x.n) (by omega) (Nat.le_refl _) fun z h1 h2 => hk z h1 ?_
 rw [h2, List.take_of_length_le (by rw [List.length_drop, bts_len]; omega)]; rfl
theorem Tri.cutHi {x : Bs} {d : IntKind} {b : Int} (h0b : 0 ≤ b) (hb : b ≤ x.n) (hk : ∀ z : Bs, z.n = b.toNat → bts z = (bts x).take b.toNat → Tri h0 ro F Q (k (.str z))) : Tri h0 ro F Q (slStrK none (some (.int d b)) (.str x) k):=by
 obtain ⟨b, rfl⟩ : ∃ j : Nat, b = j:=⟨b.toNat, by omega⟩
 exact Tri.cut (a:=0) (b:=b) (by omega) (by omega) fun z h1 h2 => hk z h1 h2
theorem Tri.cutB {x : Bs} {d d' : IntKind} {a b : Int} (h0a : 0 ≤ a) (hab : a ≤ b) (hb : b ≤ x.n) (hk : ∀ z : Bs, z.n = b.toNat - a.toNat → bts z = ((bts x).drop a.toNat).take (b.toNat - a.toNat) → Tri h0 ro F Q (k (.str z))) : Tri h0 ro F Q (slStrK (some (.int d a)) (some (.int d' b)) (.str x) k):=by
 obtain ⟨a, rfl⟩ : ∃ j : Nat, a = j:=⟨a.toNat, by omega⟩
 obtain ⟨b, rfl⟩ : ∃ j : Nat, b = j:=⟨b.toNat, by omega⟩
 exact Tri.cut (by omega) (by omega) hk
theorem bind_slStrK (lo hi : Option V) (x : V) (k : V → VH) (K : V → Hp → VH) : bindS (slStrK lo hi x k) K = slStrK lo hi x fun v => bindS (k v) K:=by
 unfold slStrK
 cases x <;> try rfl
 rename_i s
 show bindS (natO (boundP 0 lo) _) K = natO (boundP 0 lo) _
 cases boundP 0 lo <;> try rfl
 rename_i a
 show bindS (natO (boundP s.n hi) _) K = natO (boundP s.n hi) _
 cases boundP s.n hi <;> try rfl
 rename_i b
 show bindS (whenE (Nat.ble a b && Nat.ble b s.n) _) K = whenE (Nat.ble a b && Nat.ble b s.n) _
 cases (Nat.ble a b && Nat.ble b s.n) <;> rfl
theorem Tri.strEqL {x y : Bs} (hk : Tri h0 ro F Q (k (.bool (decide (bts x = bts y))))) : Tri h0 ro F Q (strS .eql (.str x) (.str y) k):=by
 rw [← bts_eq] at hk; exact hk
theorem Tri.strNeL {x y : Bs} (hk : Tri h0 ro F Q (k (.bool (!decide (bts x = bts y))))) : Tri h0 ro F Q (strS .neq (.str x) (.str y) k):=by
 rw [← bts_eq] at hk; exact hk
end
section
variable {l : List Asn} {h h0 h' : Hp} {b o i : Nat} {cs : List V} {ro ro' : Bool} {F F' : List Asn} {Q Q' : V → List Asn → Prop} {K : V → Hp → VH} {k : V → VH} {x y v a c : V} {X : VH}
theorem pF (hk : Tri h0 ro F Q (k c)) : Tri h0 ro F Q (optS (pickV (.bool false) a c) k):=hk
theorem pT (hk : Tri h0 ro F Q (k a)) : Tri h0 ro F Q (optS (pickV (.bool true) a c) k):=hk
theorem gft (hk : Tri h0 ro F Q (K undefV h)) : Tri h0 ro F Q (guardS (.bool false) true X h K):=hk
theorem gtf (hk : Tri h0 ro F Q (K undefV h)) : Tri h0 ro F Q (guardS (.bool true) false X h K):=hk
theorem gtt (hk : Tri h0 ro F Q (bindS X K)) : Tri h0 ro F Q (guardS (.bool true) true X h K):=hk
theorem gff (hk : Tri h0 ro F Q (bindS X K)) : Tri h0 ro F Q (guardS (.bool false) false X h K):=hk
theorem bL (hk : Tri h0 ro F Q (lenSl a fun v => bindS (k v) K)) : Tri h0 ro F Q (bindS (lenSl a k) K):=Tri.eqv (bind_lenSl _ _) hk
theorem bI {op : BinOp} (hk : Tri h0 ro F Q (intS op a c fun v => bindS (k v) K)) : Tri h0 ro F Q (bindS (intS op a c k) K):=Tri.eqv (bind_intS _ _) hk
theorem bB {J : V → Hp → VH} (hk : Tri h0 ro F Q (bindS X fun v h => bindS (J v h) K)) : Tri h0 ro F Q (bindS (bindS X J) K):=Tri.eqv (bind_bind _ _ _) hk
theorem bW (hk : Tri h0 ro F Q (load1 a h fun v => bindS (k v) K)) : Tri h0 ro F Q (bindS (load1 a h k) K):=Tri.eqv (bind_load1 _ _) hk
theorem bA {off : Nat} (hk : Tri h0 ro F Q (addrS off a fun v => bindS (k v) K)) : Tri h0 ro F Q (bindS (addrS off a k) K):=Tri.eqv (bind_addr _ _) hk
theorem bO {x : Option V} (hk : Tri h0 ro F Q (optS x fun v => bindS (k v) K)) : Tri h0 ro F Q (bindS (optS x k) K):=Tri.eqv (bind_optS _ _) hk
theorem ls (i : Nat) {s : Nat} (H : St l h) (hi : l[i]? = some (row b cs)) (e : (Nat.ble 1 s && Nat.ble (o + s) cs.length) = true) (hk : Tri h0 ro F Q (k (.agg ((cs.drop o).take s)))) : Tri h0 ro F Q (loadN s (.ptr b o) h k):=by
 rw [Bool.and_eq_true] at e
 have h1:=Nat.le_of_ble_eq_true e.1
 exact Tri.loads i (by omega) H hi (Nat.le_of_ble_eq_true e.2) hk
theorem te (hx : Tri h ro F Q X) (L : Lo ro h0 h) : Tri h0 ro F Q X:=Tri.tail hx L (fun e => e) fun v h B hq H L => ⟨B, hq, H⟩
theorem te1 (hx : Tri h true F Q X) (L : Lo ro h0 h) : Tri h0 ro F Q X:=Tri.tail hx L (fun _ => rfl) fun v h B hq H L => ⟨B, hq, H⟩
theorem tb (hx : Tri h ro F' Q' X) (L : Lo ro h0 h) (hK : ∀ v h' B, Q' v B → St (B ++ F') h' → Lo ro h0 h' → Tri h0 ro F Q (K v h')) : Tri h0 ro F Q (bindS X K):=Tri.bind hx L (fun e => e) hK
theorem tb1 (hx : Tri h true F' Q' X) (L : Lo ro h0 h) (hK : ∀ v h' B, Q' v B → St (B ++ F') h' → Lo ro h0 h' → Tri h0 ro F Q (K v h')) : Tri h0 ro F Q (bindS X K):=Tri.bind hx L (fun _ => rfl) hK
theorem sto (i : Nat) {x : V} {k : Hp → VH} (H : St l h) (hi : l[i]? = some (row b cs)) (e : Nat.ble (o + 1) cs.length = true) (L : Lo false h0 h) (h1 : oneCell x = true)
 (hk : ∀ h', St (l.set i (row b (cs.set o x))) h' → Lo false h0 h' → Tri h0 false F Q (k h')) : Tri h0 false F Q (storeC (.ptr b o) x h k):=Tri.store i H hi (Nat.le_of_ble_eq_true e) L (fun e => nomatch e) h1 hk
end
section
variable {l : List Asn} {h h0 h' : Hp} {b o i : Nat} {cs : List V} {ro ro' : Bool} {F F' : List Asn} {Q Q' : V → List Asn → Prop} {K : V → Hp → VH} {k : V → VH} {x y v a c : V}
theorem Tri.eqP {t : Nat} (hk : Tri h0 ro F Q (k (.bool false))) : Tri h0 ro F Q (eqS (.pointer t) .eql (.ptr b o) .nilPtr k):=hk
theorem Tri.eqZ {t : Nat} (hk : Tri h0 ro F Q (k (.bool true))) : Tri h0 ro F Q (eqS (.pointer t) .eql .nilPtr .nilPtr k):=hk
theorem Tri.loadC {w : V} (hc : h.cell b o = some w) (hk : Tri h0 ro F Q (k w)) : Tri h0 ro F Q (load1 (.ptr b o) h k):=by rw [load1_at, hc]; exact hk
end
section
variable {l : List Asn} {h h0 h' : Hp} {b o i e s : Nat} {cs : List V} {ro ro' : Bool} {F F' : List Asn} {Q Q' : V → List Asn → Prop} {K : V → Hp → VH} {k : V → VH} {x y v a c : V}

end
section
variable {l F : List Asn} {h h0 : Hp} {ro : Bool} {Q : V → List Asn → Prop} {k : V → VH} {K : V → Hp → VH} {v w : V} {b o s e i : Nat} {gr : Bool} {cs : List V}

end
section
variable {l F F' : List Asn} {h h0 h' : Hp} {b o i off : Nat} {cs : List V} {ro ro' : Bool} {Q Q' : V → List Asn → Prop} {K : V → Hp → VH} {k : V → VH} {x y v a c : V} {X : VH} {A A1 A2 A3 : Asn}
theorem ad (hk : Tri h0 ro F Q (k (.ptr b (o + off)))) : Tri h0 ro F Q (addrS off (.ptr b o) k):=hk
theorem nl (hk : Tri h0 ro F Q (k (.ptr b o))) : Tri h0 ro F Q (nilS (.ptr b o) k):=hk
theorem nT {x y : VH} (hk : Tri h0 ro F Q x) : Tri h0 ro F Q (ifS (.bool true) x y):=hk
theorem nF {x y : VH} (hk : Tri h0 ro F Q y) : Tri h0 ro F Q (ifS (.bool false) x y):=hk
theorem bS (hk : Tri h0 ro F Q (K v h)) : Tri h0 ro F Q (bindS (some (v, h)) K):=hk
theorem al (i : Nat) {J : V → V → VH} (H : St l h) (hi : l[i]? = some (row b cs)) (ho : cs[o + off]? = some v) (hk : Tri h0 ro F Q (J (.ptr b (o + off)) v)) : Tri h0 ro F Q (addrS off (.ptr b o) fun a => load1 a h (J a)) :=
 Tri.load i H hi ho hk
theorem nal (i : Nat) {J : V → V → V → VH} (H : St l h) (hi : l[i]? = some (row b cs)) (ho : cs[o + off]? = some v) (hk : Tri h0 ro F Q (J (.ptr b o) (.ptr b (o + off)) v)) : Tri h0 ro F Q (nilS (.ptr b o) fun w => addrS off w fun a => load1 a h (J w a)) :=
 Tri.load i H hi ho hk
theorem lo (i : Nat) (H : St l h) (hi : l[i]? = some (row b cs)) (ho : cs[o]? = some v) (hk : Tri h0 ro F Q (k v)) : Tri h0 ro F Q (load1 (.ptr b o) h k):=Tri.load i H hi ho hk
theorem bl (i : Nat) (H : St l h) (hi : l[i]? = some (row b cs)) (ho : cs[o]? = some v) (hk : Tri h0 ro F Q (bindS (k v) K)) : Tri h0 ro F Q (bindS (load1 (.ptr b o) h k) K) :=
 bW (Tri.load i H hi ho hk)
theorem ba (hk : Tri h0 ro F Q (bindS (k (.ptr b (o + off))) K)) : Tri h0 ro F Q (bindS (addrS off (.ptr b o) k) K):=bA hk
theorem eT {d : IntKind} {m n : Int} (e : m = n) (hk : Tri h0 ro F Q (k (.bool true))) : Tri h0 ro F Q (intS .eql (.int d m) (.int d n) k):=Tri.eql (fun _ => hk) fun c => absurd e c
theorem eTi {d : IntKind} {m n : Int} {x y : V → VH} (e : m = n) (hk : Tri h0 ro F Q (x (.bool true))) : Tri h0 ro F Q (intS .eql (.int d m) (.int d n) fun v => ifS v (x v) (y v)):=eT e hk
theorem nw {e : Nat} (H : St l h) (L : Lo ro h0 h) (hK : ∀ b h', h0.n ≤ b → St (row b cs :: l) h' → Lo ro h0 h' → Tri h0 ro F Q (K (.ptr b 0) h')) : Tri h0 ro F Q (Mid.newS e cs h K):=Tri.newS H L hK
theorem w0 (i : Nat) {s : Nat} {X : List V} {k : Hp → VH} (H : St l h) (hi : l[i]? = some (row b cs)) (hX : X.length = s) (e : (Nat.ble 1 s && Nat.ble (o + s) cs.length) = true) (L : Lo false h0 h) (h1 : allOne X = true)
 (hk : ∀ h', St (l.set i (row b (over cs o X))) h' → Lo false h0 h' → Tri h0 false F Q (k h')) : Tri h0 false F Q (storeN s (.ptr b o) (.agg X) h k):=by
 rw [Bool.and_eq_true] at e
 have h2:=Nat.le_of_ble_eq_true e.1
 exact Tri.stores i (by omega) H hi hX (Nat.le_of_ble_eq_true e.2) L (fun e => nomatch e) h1 hk
theorem w1 (i : Nat) {s : Nat} {X : List V} {k : Hp → VH} (H : St l h) (hi : l[i]? = some (row b cs)) (hX : X.length = s) (e : (Nat.ble 1 s && Nat.ble (o + s) cs.length) = true) (L : Lo ro h0 h) (hb : h0.n ≤ b) (h1 : allOne X = true)
 (hk : ∀ h', St (l.set i (row b (over cs o X))) h' → Lo ro h0 h' → Tri h0 ro F Q (k h')) : Tri h0 ro F Q (storeN s (.ptr b o) (.agg X) h k):=by
 rw [Bool.and_eq_true] at e
 have h2:=Nat.le_of_ble_eq_true e.1
 exact Tri.stores i (by omega) H hi hX (Nat.le_of_ble_eq_true e.2) L (fun _ => hb) h1 hk
theorem set_at {l : List Asn} {A : Asn} (hi : l[i]? = some A) (B : Asn) : (l.set i B)[i]? = some B:=by
 rw [List.getElem?_set_self (List.getElem?_eq_some_iff.1 hi).1]
theorem wl0 (i : Nat) {s : Nat} {X : List V} {k : Hp → V → VH} (H : St l h) (hi : l[i]? = some (row b cs)) (hX : X.length = s) (e : (Nat.ble 1 s && Nat.ble (o + s) cs.length) = true) (L : Lo false h0 h) (h1 : allOne X = true)
 (hk : ∀ h', St (l.set i (row b (over cs o X))) h' → Lo false h0 h' → Tri h0 false F Q (k h' (.agg (((over cs o X).drop o).take s)))) : Tri h0 false F Q (storeN s (.ptr b o) (.agg X) h fun h1 => loadN s (.ptr b o) h1 (k h1)):=by
 subst hX
 refine w0 i H hi rfl e L h1 fun h' H' L' => ls i H' (set_at hi _) ?_ (hk h' H' L')
 rw [Bool.and_eq_true] at e ⊢
 have h3:=Nat.le_of_ble_eq_true e.2
 rw [over_len h3]
 exact e
theorem wl1 (i : Nat) {s : Nat} {X : List V} {k : Hp → V → VH} (H : St l h) (hi : l[i]? = some (row b cs)) (hX : X.length = s) (e : (Nat.ble 1 s && Nat.ble (o + s) cs.length) = true) (L : Lo ro h0 h) (hb : h0.n ≤ b) (h1 : allOne X = true)
 (hk : ∀ h', St (l.set i (row b (over cs o X))) h' → Lo ro h0 h' → Tri h0 ro F Q (k h' (.agg (((over cs o X).drop o).take s)))) : Tri h0 ro F Q (storeN s (.ptr b o) (.agg X) h fun h1 => loadN s (.ptr b o) h1 (k h1)):=by
 subst hX
 refine w1 i H hi rfl e L hb h1 fun h' H' L' => ls i H' (set_at hi _) ?_ (hk h' H' L')
 rw [Bool.and_eq_true] at e ⊢
 have h3:=Nat.le_of_ble_eq_true e.2
 rw [over_len h3]
 exact e
theorem tbe {v : V} {B : List Asn} (hx : Tri h ro F' (fun w C => w = v ∧ C = B) X) (L : Lo ro h0 h) (hK : ∀ h', St (B ++ F') h' → Lo ro h0 h' → Tri h0 ro F Q (K v h')) : Tri h0 ro F Q (bindS X K) :=
 Tri.bind hx L (fun e => e) fun _ h' _ ⟨e1, e2⟩ H L => by subst e1; subst e2; exact hK h' H L
theorem tbe1 {v : V} {B : List Asn} (hx : Tri h true F' (fun w C => w = v ∧ C = B) X) (L : Lo ro h0 h) (hK : ∀ h', St (B ++ F') h' → Lo ro h0 h' → Tri h0 ro F Q (K v h')) : Tri h0 ro F Q (bindS X K) :=
 Tri.bind hx L (fun _ => rfl) fun _ h' _ ⟨e1, e2⟩ H L => by subst e1; subst e2; exact hK h' H L
end
section
variable {l F : List Asn} {h h0 : Hp} {ro : Bool} {Q : V → List Asn → Prop} {K : V → Hp → VH} {k : V → VH} {X : VH} {v w : V}
theorem gu {g : Bool} (hk : Tri h0 ro F Q (K undefV h)) : Tri h0 ro F Q (guardS undefV g X h K):=hk
theorem lS {s : Bs} (hk : Tri h0 ro F Q (K (.int .i64 (s.n : Nat)) h)) : Tri h0 ro F Q (bindS (lenStr (.str s) fun v => some (v, h)) K):=hk
theorem aD {m n : Int} (e : -9223372036854775808 ≤ m + n ∧ m + n ≤ 9223372036854775807) (hk : Tri h0 ro F Q (k (.int .i64 (m + n)))) : Tri h0 ro F Q (intS .add (.int .i64 m) (.int .i64 n) k):=Tri.addN e.1 e.2 hk
theorem iS {x : Bs} {d : IntKind} {i : Int} (e : 0 ≤ i ∧ i < (x.n : Int)) (hk : Tri h0 ro F Q (k (.int .u8 (x.byte i.toNat : Nat)))) : Tri h0 ro F Q (idxStr (.str x) (.int d i) k):=Tri.idxStr e.1 e.2 hk
theorem jS {x : Bs} {d : IntKind} {i : Int} (e : 0 ≤ i ∧ i < (x.n : Int)) (hk : Tri h0 ro F Q (bindS (k (.int .u8 (x.byte i.toNat : Nat))) K)) : Tri h0 ro F Q (bindS (idxStr (.str x) (.int d i) k) K):=Tri.eqv (bind_idxStr _ _) (Tri.idxStr e.1 e.2 hk)
theorem cB {x : Bs} {d d' : IntKind} {a b : Int} (e : 0 ≤ a ∧ a ≤ b ∧ b ≤ x.n) (hk : ∀ z : Bs, z.n = b.toNat - a.toNat → bts z = ((bts x).drop a.toNat).take (b.toNat - a.toNat) → Tri h0 ro F Q (k (.str z))) : Tri h0 ro F Q (slStrK (some (.int d a)) (some (.int d' b)) (.str x) k):=Tri.cutB e.1 e.2.1 e.2.2 hk
theorem dn (H : St l h) (L : Lo ro h0 h) : Tri h0 ro l (fun v B => v = w ∧ B = []) (some (w, h)):=Tri.done (B:=[]) ⟨rfl, rfl⟩ H L
end
section
variable {l : List Asn} {h h0 h' : Hp} {b o i e s : Nat} {cs : List V} {ro : Bool} {F : List Asn} {Q : V → List Asn → Prop} {K : V → Hp → VH} {k : V → VH} {v : V} {gr : Bool}
def rwT (b e : Nat) (cs : List V) : Asn:=fun f => ∃ t g, f b = some (.cells t cs.length g e) ∧ ∀ i, i < cs.length → t.get i = cs[i]?
theorem rwT_row : ∀ f, rwT b e cs f → row b cs f:=fun _ ⟨t, g, h⟩ => ⟨t, g, e, h⟩
theorem rwT_own : ∀ f, rwT b e cs f → f b ≠ none:=fun f ⟨t, g, h, _⟩ => by rw [h]; exact fun h => nomatch h
theorem St.rwT_get (H : St (rwT b e cs :: l) h) : ∃ t g, h.t.get b = some (.cells t cs.length g e):=by
 obtain ⟨f, h1, t, g, h2, _⟩:=H.sat.hd
 exact ⟨t, g, h1 b _ h2⟩
theorem St.rwT_cell (H : St (rwT b e cs :: l) h) (ho : o < cs.length) : h.cell b o = cs[o]?:=(H.imp0 rwT_row).row_cell (i:=0) rfl ho
theorem St.rwT_set {x : V} (H : St (rwT b e cs :: l) h) (ho : o < cs.length) : St (rwT b e (cs.set o x) :: l) (h.wr b o x):=by
 obtain ⟨f, h1, t, g, h2, h3⟩:=H.sat.hd
 have hg:=h1 b _ h2
 unfold hf at hg
 rw [wr_of hg]
 refine H.put (i:=0) (A':=rwT b e (cs.set o x)) rfl fun f' hf' => ⟨rwT_own f' hf', ?_⟩
 refine ⟨t.set o x, g, ?_, fun y hy => ?_⟩
 ·rw [up_eq, List.length_set]
 ·rw [List.length_set] at hy
  rw [Tr.get_set, List.getElem?_set]
  by_cases ey : o = y
  ·rw [if_pos ey, if_pos ey, if_pos ho]
  ·rw [if_neg ey, if_neg ey]; exact h3 y hy
theorem Tri.newT (H : St l h) (L : Lo ro h0 h) (hK : ∀ b h', h0.n ≤ b → St (rwT b e cs :: l) h' → Lo ro h0 h' → Tri h0 ro F Q (K (.ptr b 0) h')) : Tri h0 ro F Q (Mid.newS e cs h K) :=
 hK _ _ L.n (H.new ⟨_, false, up_eq _ _ _, setL_row cs⟩) (L.new e cs false)
theorem Tri.storeT {x : V} {k : Hp → VH} (H : St (rwT b e cs :: l) h) (ho : o < cs.length) (L : Lo ro h0 h) (hb : ro = true → h0.n ≤ b) (h1 : oneCell x = true)
 (hk : ∀ h', St (rwT b e (cs.set o x) :: l) h' → Lo ro h0 h' → Tri h0 ro F Q (k h')) : Tri h0 ro F Q (storeC (.ptr b o) x h k):=by
 rw [storeC_at k h1 (by rw [(H.imp0 rwT_row).row_wide (i:=0) rfl]; exact ho)]
 exact hk _ (H.rwT_set ho) (L.wr b o x hb)
theorem Tri.loadT {w : V} (H : St (rwT b e cs :: l) h) (ho : cs[o]? = some w) (hk : Tri h0 ro F Q (k w)) : Tri h0 ro F Q (load1 (.ptr b o) h k) :=
 Tri.loadC (by rw [H.rwT_cell (List.getElem?_eq_some_iff.1 ho).1, ho]) hk
abbrev u8 (b : Nat) : V:=.int .u8 (b : Int)
abbrev u8s (L : List Nat) : List V:=L.map u8
theorem newCells_str (h : Hp) (z : Bs) : newCells h 1 (.str z) = some (z.n, u8s (bts z)):=by
 show some (z.n, z.l.map fun b => V.int .u8 (Int.ofNat b.toNat)) = _
 rw [u8s, bts, List.map_map]; rfl
theorem bytesV_u8 : ∀ L : List Nat, bytesV (u8s L) = some (L.map UInt8.ofNat)
 | [] => rfl
 | a :: L => by
  show (match bytesV (u8s L) with
   | some r => some (UInt8.ofNat ((a : Int)).toNat :: r)
   | none => none) = _
  rw [bytesV_u8 L]; rfl
theorem bytesS_u8 : ∀ L : List Nat, (∀ b ∈ L, b < 256) → bytesS (u8s L) = some (L.map UInt8.ofNat)
 | [], _ => rfl
 | a :: L, h => by
  show (bif Nat.blt a 256 then (match bytesS (u8s L) with
   | some r => some (UInt8.ofNat a :: r)
   | none => none) else none) = _
  rw [bytesS_u8 L fun b hb => h b (List.mem_cons_of_mem _ hb), show Nat.blt a 256 = true from Nat.ble_eq_true_of_le (h a List.mem_cons_self)]; rfl
theorem bts_of {L : List Nat} (h : ∀ b ∈ L, b < 256) : bts (pack (L.map UInt8.ofNat)) = L:=by
 rw [bts_pack, List.map_map]
 conv => rhs; rw [← List.map_id L]
 apply List.map_congr_left
 intro a ha
 exact Bs.ofNat_toNat (h a ha)
theorem getL_of {t : Tr V} : ∀ {L : List V} {o : Nat}, (∀ i, i < L.length → t.get (o + i) = L[i]?) → t.getL o L.length = some L
 | [], _, _ => rfl
 | a :: L, o, h => by
  have h1:=h 0 (by simp)
  rw [Nat.add_zero, List.getElem?_cons_zero] at h1
  rw [List.length_cons, Tr.getL_succ, h1, getL_of (L:=L) (o:=o + 1) fun i hi => by rw [show o + 1 + i = o + (i + 1) by omega, h (i + 1) (by simpa using hi)]; simp]
theorem St.vc_bytes {L : List Nat} (H : St l h) (hi : l[i]? = some (vc gr v e 1 (u8s L))) (hL : ∀ b ∈ L, b < 256) : b2s h v = some (.str (Mid.pack (L.map UInt8.ofNat))):=by
 obtain ⟨f, f1, f2⟩:=H.sat.get hi
 have main : ∀ (b n c : Nat) (g : Bool) (t : Tr V) (ob : Ob), f b = some ob → cellsT (some ob) = some t → (u8s L).length = n * 1 → (∀ i, i < (u8s L).length → t.get i = (u8s L)[i]?) → b2s h (.slice b 0 n c g) = some (.str (Mid.pack (L.map UInt8.ofNat))):=by
  intro b n c g t ob a1 a2 a3 a4
  have hg : h.t.get b = some ob:=f1 _ _ a1
  have e1 : t.getL 0 n = some (u8s L):=by
   rw [Nat.mul_one] at a3
   rw [← a3]
   exact getL_of fun i hi => by rw [Nat.zero_add]; exact a4 i hi
  unfold b2s
  simp only [hg, a2, e1, bytesV_u8]
 cases f2 with
 | nil hc =>
  have : L = []:=List.map_eq_nil_iff.1 hc
  subst this; rfl
 | grown b n m t a1 a2 a3 a4 => exact main b n 0 true t _ a1 rfl a2 a4
 | full b n c t a0 a1 a2 a5 a3 => exact main b n c false t _ a1 rfl a2 a3
theorem Lo.put (L : Lo ro h0 h) (b : Nat) (o : Ob) (hb : ro = true → h0.n ≤ b) : Lo ro h0 (h.put b o) :=
 ⟨L.n, fun hr m h1 h2 => Nat.le_min.2 ⟨Nat.le_trans h1 (hb hr), L.low hr m h1 h2⟩⟩
theorem St.see {L : List Nat} (H : St (vc true v e 1 (u8s L) :: l) h) (hL : ∀ b ∈ L, b < 256) (hn : L.length ≤ 1073741824) (he : L = [] → v = .nilSlice) :
 ∃ p z h', headV h v = some p ∧ seeV h e p (.int .i64 (L.length : Nat)) = some (.str z, h') ∧ z.n = L.length ∧ bts z = L ∧ St l h' ∧ ∀ h0, Lo false h0 h → Lo false h0 h':=by
 obtain ⟨f, f1, f2⟩:=H.sat.hd
 cases f2 with
 | nil hc =>
  have : L = []:=List.map_eq_nil_iff.1 hc
  subst this
  exact ⟨.nilPtr, Mid.pack [], h, rfl, rfl, rfl, rfl, H.tl, fun _ L => L⟩
 | grown b n m t a1 a2 a3 a4 =>
  have hL0 : L ≠ []:=fun e => nomatch he e
  rw [Nat.mul_one] at a2 a3
  have hlen : L.length = n:=by rw [← a2, List.length_map]
  obtain ⟨n, rfl⟩ : ∃ n', n = n' + 1:=⟨n - 1, by have:=List.length_pos_iff.2 hL0; omega⟩
  have hg : h.t.get b = some (.cells t m true e):=f1 _ _ a1
  have eh : headV h (.slice b 0 (n + 1) 0 true) = some (.ptr b 0):=by
   unfold headV
   simp only [hg, Bool.true_and, show Nat.blt 0 m = true from Nat.ble_eq_true_of_le (by omega), show Nat.beq 0 0 = true from rfl, Bool.and_true, cond_true]
  have e1 : t.getL 0 (n + 1) = some (u8s L):=by rw [← a2]; exact getL_of fun i hi => by rw [Nat.zero_add]; exact a4 i hi
  have es : seeV h e (.ptr b 0) (.int .i64 (Int.ofNat (n + 1))) = some (.str (Mid.pack (L.map UInt8.ofNat)), h.put b (.ro t e)):=by
   unfold seeV
   simp only [hg, Nat.beq_refl, show Nat.ble (n + 1) m = true from Nat.ble_eq_true_of_le (by omega), show Nat.ble (n + 1) 9223372036854775807 = true from Nat.ble_eq_true_of_le (by omega), Bool.and_self, cond_true, e1, bytesS_u8 L hL]
  have own : ∀ f, vc true (.slice b 0 (n + 1) 0 true) e 1 (u8s L) f → f b ≠ none := fun f hf => by
   cases hf with
   | grown b' n' m' t' c1 c2 c3 c4 => rw [c1]; exact fun h => nomatch h
  rw [hlen]
  exact ⟨_, _, _, eh, es, by rw [pack_n, List.length_map, hlen], bts_of hL, (H.put (i:=0) (A':=fun _ => True) (b:=b) (o:=.ro t e) rfl fun f hf => ⟨own f hf, trivial⟩).tl, fun _ L1 => L1.put b _ fun e => nomatch e⟩
 | full b n c t a0 a1 a2 a5 a3 => cases a0
end
end Go.Mid
end
