/- Laws told shortly. -/
import Derived.Test.YteeahoagedfehaaGreatDoorUMidWA
import Derived.Test.YteeahoagedfehaaGreatDoorUMidNN
import Derived.Test.YteeahoagedfehaaGreatDoorUMidSS
set_option linter.all false
set_option warn.classDefReducibility false
noncomputable section
section
open Go
set_option maxRecDepth 100000
namespace Go.Mid
section
variable {l : List Asn} {h h0 h' : Hp} {b o i : Nat} {cs : List V} {ro ro' : Bool} {F F' : List Asn} {Q Q' : V → List Asn → Prop} {K : V → Hp → VH} {k : V → VH} {x y v a c : V} {X : VH}
theorem pF (hk : Tri h0 ro F Q (k c)) : Tri h0 ro F Q (optS (pickV (.bool false) a c) k):=hk
theorem pT (hk : Tri h0 ro F Q (k a)) : Tri h0 ro F Q (optS (pickV (.bool true) a c) k):=hk
theorem gft (hk : Tri h0 ro F Q (K undefV h)) : Tri h0 ro F Q (guardS (.bool false) true X h K):=hk
theorem gtf (hk : Tri h0 ro F Q (K undefV h)) : Tri h0 ro F Q (guardS (.bool true) false X h K):=hk
theorem gtt (hk : Tri h0 ro F Q (bindS X K)) : Tri h0 ro F Q (guardS (.bool true) true X h K):=hk
theorem gff (hk : Tri h0 ro F Q (bindS X K)) : Tri h0 ro F Q (guardS (.bool false) false X h K):=hk
theorem bL (hk : Tri h0 ro F Q (lenSl a fun v => bindS (k v) K)) : Tri h0 ro F Q (bindS (lenSl a k) K):=Tri.eqv (bind_lenSl _ _) hk
theorem bI {op : BinOp} (hk : Tri h0 ro F Q (intS op a c fun v => bindS (k v) K)) : Tri h0 ro F Q (bindS (intS op a c k) K):=Tri.eqv (bind_intS _ _) hk
theorem bB {J : V → Hp → VH} (hk : Tri h0 ro F Q (bindS X fun v h => bindS (J v h) K)) : Tri h0 ro F Q (bindS (bindS X J) K):=Tri.eqv (bind_bind _ _ _) hk
theorem bN {s : Nat} (hk : Tri h0 ro F Q (loadN s a h fun v => bindS (k v) K)) : Tri h0 ro F Q (bindS (loadN s a h k) K):=Tri.eqv (bind_loadN _ _) hk
theorem bW (hk : Tri h0 ro F Q (load1 a h fun v => bindS (k v) K)) : Tri h0 ro F Q (bindS (load1 a h k) K):=Tri.eqv (bind_load1 _ _) hk
theorem bA {off : Nat} (hk : Tri h0 ro F Q (addrS off a fun v => bindS (k v) K)) : Tri h0 ro F Q (bindS (addrS off a k) K):=Tri.eqv (bind_addr _ _) hk
theorem bO {x : Option V} (hk : Tri h0 ro F Q (optS x fun v => bindS (k v) K)) : Tri h0 ro F Q (bindS (optS x k) K):=Tri.eqv (bind_optS _ _) hk
theorem ls (i : Nat) {s : Nat} (H : St l h) (hi : l[i]? = some (row b cs)) (e : (Nat.ble 1 s && Nat.ble (o + s) cs.length) = true) (hk : Tri h0 ro F Q (k (.agg ((cs.drop o).take s)))) : Tri h0 ro F Q (loadN s (.ptr b o) h k):=by
 rw [Bool.and_eq_true] at e
 have h1:=Nat.le_of_ble_eq_true e.1
 exact Tri.loads i (by omega) H hi (Nat.le_of_ble_eq_true e.2) hk
theorem te (hx : Tri h ro F Q X) (L : Lo ro h0 h) : Tri h0 ro F Q X:=Tri.tail hx L (fun e => e) fun v h B hq H L => ⟨B, hq, H⟩
theorem te1 (hx : Tri h true F Q X) (L : Lo ro h0 h) : Tri h0 ro F Q X:=Tri.tail hx L (fun _ => rfl) fun v h B hq H L => ⟨B, hq, H⟩
theorem te0 (hx : Tri h ro F Q X) (L : Lo false h0 h) : Tri h0 false F Q X:=Tri.tail hx L (fun e => nomatch e) fun v h B hq H L => ⟨B, hq, H⟩
theorem tb (hx : Tri h ro F' Q' X) (L : Lo ro h0 h) (hK : ∀ v h' B, Q' v B → St (B ++ F') h' → Lo ro h0 h' → Tri h0 ro F Q (K v h')) : Tri h0 ro F Q (bindS X K):=Tri.bind hx L (fun e => e) hK
theorem tb1 (hx : Tri h true F' Q' X) (L : Lo ro h0 h) (hK : ∀ v h' B, Q' v B → St (B ++ F') h' → Lo ro h0 h' → Tri h0 ro F Q (K v h')) : Tri h0 ro F Q (bindS X K):=Tri.bind hx L (fun _ => rfl) hK
theorem tb0 (hx : Tri h ro F' Q' X) (L : Lo false h0 h) (hK : ∀ v h' B, Q' v B → St (B ++ F') h' → Lo false h0 h' → Tri h0 false F Q (K v h')) : Tri h0 false F Q (bindS X K):=Tri.bind hx L (fun e => nomatch e) hK
theorem sto (i : Nat) {x : V} {k : Hp → VH} (H : St l h) (hi : l[i]? = some (row b cs)) (e : Nat.ble (o + 1) cs.length = true) (L : Lo false h0 h) (h1 : oneCell x = true)
 (hk : ∀ h', St (l.set i (row b (cs.set o x))) h' → Lo false h0 h' → Tri h0 false F Q (k h')) : Tri h0 false F Q (storeC (.ptr b o) x h k):=Tri.store i H hi (Nat.le_of_ble_eq_true e) L (fun e => nomatch e) h1 hk
end
section
variable {l : List Asn} {h h0 h' : Hp} {b o i : Nat} {cs : List V} {ro ro' : Bool} {F F' : List Asn} {Q Q' : V → List Asn → Prop} {K : V → Hp → VH} {k : V → VH} {x y v a c : V}
theorem Tri.neP {t : Nat} (hk : Tri h0 ro F Q (k (.bool true))) : Tri h0 ro F Q (eqS (.pointer t) .neq (.ptr b o) .nilPtr k):=hk
theorem Tri.neZ {t : Nat} (hk : Tri h0 ro F Q (k (.bool false))) : Tri h0 ro F Q (eqS (.pointer t) .neq .nilPtr .nilPtr k):=hk
theorem Tri.eqP {t : Nat} (hk : Tri h0 ro F Q (k (.bool false))) : Tri h0 ro F Q (eqS (.pointer t) .eql (.ptr b o) .nilPtr k):=hk
theorem Tri.neM {s t : Nat} (hk : Tri h0 ro F Q (k (.bool true))) : Tri h0 ro F Q (eqS (.map s t) .neq (.map b) .nilMap k):=hk
def ies (L : List (Int × V)) : List (V × V):=L.map fun p => (.int .i64 p.1, p.2)
def iget (n : Int) : List (Int × V) → Option V
 | [] => none
 | p :: L => if n = p.1 then some p.2 else iget n L
theorem mapGet_ies (n : Int) : ∀ L, mapGet (.int .i64 n) (ies L) = some (iget n L)
 | [] => rfl
 | p :: L => by
  show (bif kEq .i64 .i64 then (bif iEq n p.1 then some (some p.2) else mapGet (.int .i64 n) (ies L)) else none) = _
  rw [kEq_self, iEq_eq, mapGet_ies n L]
  show _ = some (if n = p.1 then some p.2 else iget n L)
  by_cases e : n = p.1
  ·rw [if_pos e, beq_iff_eq.2 e]; rfl
  ·rw [if_neg e, beq_false_of_ne e]; rfl
theorem mapSet_ies (n : Int) (v : V) : ∀ L, iget n L = none → mapSet (.int .i64 n) v (ies L) = ies (L ++ [(n, v)])
 | [], _ => rfl
 | p :: L, h => by
  unfold iget at h
  by_cases e : n = p.1
  ·rw [if_pos e] at h; cases h
  ·rw [if_neg e] at h
   show (bif iEq n p.1 then _ else (V.int .i64 p.1, p.2) :: mapSet (.int .i64 n) v (ies L)) = _
   rw [iEq_eq, beq_false_of_ne e, mapSet_ies n v L h]; rfl
theorem Tri.lookI (i : Nat) {z : V} {ok : Bool} {n : Int} {L : List (Int × V)} (H : St l h) (hi : l[i]? = some (dict b (ies L)))
 (h1 : ∀ w, iget n L = some w → Tri h0 ro F Q (K (bif ok then .tuple [w, .bool true] else w) h)) (h2 : iget n L = none → Tri h0 ro F Q (K (bif ok then .tuple [z, .bool false] else z) h)) :
 Tri h0 ro F Q (bindS (lookS (.int .i64) (some z) ok (.map b) (.int .i64 n) h) K):=by
 have hg:=mapGet_ies n L
 cases e : iget n L with
 | none => rw [e] at hg; exact Tri.lookN i H hi rfl hg (h2 e)
 | some w => rw [e] at hg; exact Tri.lookT i H hi rfl hg (h1 w e)
abbrev vlV (p : Int × Int) : V:=.agg [.int .u8 p.1, .int .i64 p.2]
abbrev q2 : Kd:=.struct [(0, .int .u8), (1, .int .i64)]
def kes (L : List ((Int × Int) × V)) : List (V × V):=L.map fun p => (vlV p.1, p.2)
def kix (n : Int × Int) : List ((Int × Int) × V) → Nat → Option (Nat × V)
 | [], _ => none
 | p :: L, i => if n = p.1 then some (i, p.2) else kix n L (i + 1)
theorem keyEq_q2 (n m : Int × Int) : keyEq q2 (vlV n) (vlV m) = some (decide (n = m)):=by
 have e : cmpV [(0, .int .u8), (1, .int .i64)] (vlV n) (vlV m) = some (decide (n = m)):=by
  simp only [vlV, cmpV, cmpL, getN, eqLeaf, kEq_self, iEq_eq, cond_true]
  obtain ⟨a, b⟩:=n; obtain ⟨a', b'⟩:=m
  simp only [Prod.mk.injEq]
  by_cases h1 : a = a'
  ·by_cases h2 : b = b'
   ·simp [h1, h2]
   ·rw [beq_iff_eq.2 h1, beq_false_of_ne h2]; simp [h2]
  ·rw [beq_false_of_ne h1]; simp [h1]
 unfold keyEq
 simp only
 rw [e]
 by_cases h1 : n = m
 ·subst h1
  rw [decide_eq_true rfl]
  simp only [intsV, allInts, kEq_self, iEq_eq]
  simp
 ·rw [decide_eq_false h1]
theorem kFind_kes (n : Int × Int) : ∀ L i, kFind q2 (vlV n) (kes L) i = some (kix n L i)
 | [], _ => rfl
 | p :: L, i => by
  show (match keyEq q2 (vlV n) (vlV p.1) with
   | some true => some (some (i, p.2))
   | some false => kFind q2 (vlV n) (kes L) (i + 1)
   | none => none) = _
  rw [keyEq_q2]
  unfold kix
  by_cases e : n = p.1
  ·rw [decide_eq_true e, if_pos e]
  ·rw [decide_eq_false e, if_neg e]; exact kFind_kes n L (i + 1)
theorem putAt_kes (n : Int × Int) (v : V) : ∀ L i, putAt (kes L) i (vlV n, v) = kes (L.set i (n, v))
 | [], i => by cases i <;> rfl
 | p :: L, 0 => rfl
 | p :: L, i + 1 => by
  show (vlV p.1, p.2) :: putAt (kes L) i (vlV n, v) = _
  rw [putAt_kes n v L i]; rfl
theorem keyFit_q2 (n : Int × Int) : keyFit q2 (vlV n) = true:=by
 simp [keyFit, vlV, cmpL, getN, eqLeaf, kEq_self, iEq_eq]
theorem Tri.kLook (i : Nat) {z : V} {ok : Bool} {n : Int × Int} {L : List ((Int × Int) × V)} (H : St l h) (hi : l[i]? = some (dict b (kes L)))
 (h1 : ∀ j w, kix n L 0 = some (j, w) → Tri h0 ro F Q (K (bif ok then .tuple [w, .bool true] else w) h)) (h2 : kix n L 0 = none → Tri h0 ro F Q (K (bif ok then .tuple [z, .bool false] else z) h)) :
 Tri h0 ro F Q (bindS (vh h (Mid.kLook h q2 (some z) ok (.map b) (vlV n))) K):=by
 have hm:=H.mapOf_at hi
 unfold Mid.kLook
 rw [keyFit_q2, hm]
 simp only [cond_true, kFind_kes]
 cases e : kix n L 0 with
 | none => exact h2 e
 | some p => obtain ⟨j, w⟩:=p; exact h1 j w e
def kput (n : Int × Int) (v : V) (L : List ((Int × Int) × V)) : List ((Int × Int) × V) := match kix n L 0 with
 | some (j, _) => L.set j (n, v)
 | none => L ++ [(n, v)]
theorem Tri.kSet (i : Nat) {n : Int × Int} {v : V} {L : List ((Int × Int) × V)} (H : St l h) (hi : l[i]? = some (dict b (kes L))) (L1 : Lo ro h0 h) (hb : ro = true → h0.n ≤ b)
 (hk : ∀ h', St (l.set i (dict b (kes (kput n v L)))) h' → Lo ro h0 h' → Tri h0 ro F Q (K unitV h')) : Tri h0 ro F Q (bindS (Mid.kSet q2 h (.map b) (vlV n) v) K):=by
 have e1 : Mid.kSet q2 h (.map b) (vlV n) v = some (unitV, h.put b (.map (kes (kput n v L)))):=by
  unfold Mid.kSet
  rw [keyFit_q2]
  simp only [cond_true, H.dict_at hi, kFind_kes]
  unfold kput
  cases e : kix n L 0 with
  | none => simp only [kes, List.map_append]; rfl
  | some p => obtain ⟨j, w⟩:=p; simp only [putAt_kes]
 rw [e1]
 exact hk _ (H.put hi fun f hf => ⟨dict_own f hf, up_eq _ _ _⟩) ⟨L1.n, fun hr m a1 a2 => Nat.le_min.2 ⟨Nat.le_trans a1 (hb hr), L1.low hr m a1 a2⟩⟩
theorem Tri.kClear (i : Nat) {es : List (V × V)} (H : St l h) (hi : l[i]? = some (dict b es)) (L1 : Lo ro h0 h) (hb : ro = true → h0.n ≤ b)
 (hk : ∀ h', St (l.set i (dict b [])) h' → Lo ro h0 h' → Tri h0 ro F Q (K unitV h')) : Tri h0 ro F Q (bindS (Mid.kClear h (.map b)) K):=by
 have e1 : Mid.kClear h (.map b) = some (unitV, h.put b (.map [])):=by
  unfold Mid.kClear; simp only [H.dict_at hi]
 rw [e1]
 exact hk _ (H.put hi fun f hf => ⟨dict_own f hf, up_eq _ _ _⟩) ⟨L1.n, fun hr m a1 a2 => Nat.le_min.2 ⟨Nat.le_trans a1 (hb hr), L1.low hr m a1 a2⟩⟩
theorem Tri.loadC {w : V} (hc : h.cell b o = some w) (hk : Tri h0 ro F Q (k w)) : Tri h0 ro F Q (load1 (.ptr b o) h k):=by rw [load1_at, hc]; exact hk
theorem Tri.loadsC {s : Nat} {X : List V} (hs : s ≠ 0) (hl : X.length = s) (hc : ∀ x, x < s → h.cell b (o + x) = X[x]?) (hk : Tri h0 ro F Q (k (.agg X))) : Tri h0 ro F Q (loadN s (.ptr b o) h k):=by
 rw [loadN_at _ _ _ _ _ hs, St.cells_of hc (fun _ _ => rfl) hl]; exact hk
theorem cmpV_vl (n m : Int × Int) : cmpV [(0, .int .u8), (1, .int .i64)] (vlV n) (vlV m) = some (decide (n = m)):=by
 simp only [vlV, cmpV, cmpL, getN, eqLeaf, kEq_self, iEq_eq, cond_true]
 obtain ⟨a, b⟩:=n; obtain ⟨a', b'⟩:=m
 simp only [Prod.mk.injEq]
 by_cases h1 : a = a'
 ·by_cases h2 : b = b'
  ·simp [h1, h2]
  ·rw [beq_iff_eq.2 h1, beq_false_of_ne h2]; simp [h2]
 ·rw [beq_false_of_ne h1]; simp [h1]
theorem Tri.vlEq {n m : Int × Int} (h1 : n = m → Tri h0 ro F Q (K (.bool true) h)) (h2 : n ≠ m → Tri h0 ro F Q (K (.bool false) h)) : Tri h0 ro F Q (bindS (vh h (eqOp .eql (cmpV [(0, .int .u8), (1, .int .i64)] (vlV n) (vlV m)))) K):=by
 rw [cmpV_vl]
 by_cases e : n = m
 ·rw [decide_eq_true e]; exact h1 e
 ·rw [decide_eq_false e]; exact h2 e
theorem Tri.vlNe {n m : Int × Int} (h1 : n ≠ m → Tri h0 ro F Q (K (.bool true) h)) (h2 : n = m → Tri h0 ro F Q (K (.bool false) h)) : Tri h0 ro F Q (bindS (vh h (eqOp .neq (cmpV [(0, .int .u8), (1, .int .i64)] (vlV n) (vlV m)))) K):=by
 rw [cmpV_vl]
 by_cases e : n = m
 ·rw [decide_eq_true e]; exact h2 e
 ·rw [decide_eq_false e]; exact h1 e
end
section
theorem rep_len (z : List V) : ∀ (n : Nat) (a : List V), (rep n z a).length = n * z.length + a.length
 | 0, a => by simp [rep]
 | n + 1, a => by
  show (rep n z (z ++ a)).length = _
  rw [rep_len z n (z ++ a), List.length_append, Nat.succ_mul]; omega
theorem mulz_len (z : List V) (n : Nat) : (mulz z n).length = n * z.length:=rep_len z n []
theorem allOne_app : ∀ a b : List V, allOne a = true → allOne b = true → allOne (a ++ b) = true
 | [], _, _, hb => hb
 | x :: a, b, ha, hb => by
  have h1 : (oneCell x && allOne a) = true:=ha
  rw [Bool.and_eq_true] at h1
  show (oneCell x && allOne (a ++ b)) = true
  rw [h1.1, allOne_app a b h1.2 hb]; rfl
theorem rep_ones (z : List V) (hz : allOne z = true) : ∀ (n : Nat) (a : List V), allOne a = true → allOne (rep n z a) = true
 | 0, _, ha => ha
 | n + 1, a, ha => rep_ones z hz n (z ++ a) (allOne_app z a hz ha)
variable {l : List Asn} {h h0 h' : Hp} {b o i e s : Nat} {cs : List V} {ro ro' : Bool} {F F' : List Asn} {Q Q' : V → List Asn → Prop} {K : V → Hp → VH} {k : V → VH} {x y v a c : V}
theorem over_take {cs L : List V} {o : Nat} (h : o + L.length ≤ cs.length) : (over cs o L).take o = cs.take o:=by
 apply List.ext_getElem?
 intro y
 rw [List.getElem?_take, List.getElem?_take]
 by_cases e : y < o
 ·rw [if_pos e, if_pos e, over_get h, if_neg (by omega)]
 ·rw [if_neg e, if_neg e]
theorem Tri.clearV (i n r : Nat) {d : IntKind} {z : V} (H : St l h) (hi : l[i]? = some (vc true v e s cs)) (hs : 0 < s) (hn : cs.length = n * s) (hr : r ≤ n) (L : Lo ro h0 h) (hb : Own h0 ro v)
 (hz : (vcells z).length = s) (hz1 : allOne (vcells z) = true)
 (hK : ∀ cs' h', cs'.length = cs.length → cs'.take (r * s) = cs.take (r * s) → St (l.set i (vc true v e s cs')) h' → Lo ro h0 h' → Tri h0 ro F Q (K unitV h')) :
 Tri h0 ro F Q (bindS (slSlK e s (some (.int d (r : Nat))) none h v) fun u h1 => bindS (kZero h1 s (some z) u) K):=by
 obtain ⟨f, f1, f2⟩:=H.sat.get hi
 have hle : r * s ≤ n * s:=Nat.mul_le_mul_right s hr
 have hs0 : (Nat.beq s 0) = false := by cases s with
  | zero => cases hs
  | succ s => rfl
 have same : l.set i (vc true v e s cs) = l:=by
  apply List.ext_getElem?; intro j; rw [List.getElem?_set]; by_cases ej : i = j
  ·subst ej; rw [if_pos rfl, if_pos (List.getElem?_eq_some_iff.1 hi).1, hi]
  ·rw [if_neg ej]
 cases f2 with
 | nil hc =>
  subst hc
  have e1 : n = 0:=by rcases Nat.eq_zero_or_pos n with h | h; exact h; have:=Nat.mul_pos h hs; rw [← hn] at this; cases this
  subst e1
  have e2 : r = 0:=by omega
  subst e2
  exact hK [] h rfl rfl (by rw [same]; exact H) L
 | grown b m' m t a1 a2 a3 a4 =>
  have em : m' = n:=Nat.eq_of_mul_eq_mul_right hs (by rw [← a2, hn])
  subst em
  have hg:=f1 _ _ a1; unfold hf at hg
  have h4 : Nat.ble (m' * s) m = true:=Nat.ble_eq_true_of_le (by omega)
  have eS : slSlK e s (some (.int d (r : Nat))) none h (.slice b 0 m' 0 true) = slS h e s b 0 0 true r m':=rfl
  rw [eS]
  have hx : (h.t.get b) = some (.cells t m true e):=hg
  rcases Nat.lt_or_ge r m' with hlt | hge
  ·have e5 : slS h e s b 0 0 true r m' = some (.slice b (0 + r * s) (m' - r) (0 + r) true, h):=by
    unfold slS
    have e4 : Nat.ble (0 + m' * s) m = true:=Nat.ble_eq_true_of_le (by omega)
    have e6 : Nat.blt r m' = true:=Nat.ble_eq_true_of_le hlt
    rw [hx]
    simp only [e4, e6, hs0, Nat.ble_eq_true_of_le (Nat.le_of_lt hlt), Nat.beq_refl, Nat.zero_mul, cond_true, Bool.or_true, Bool.not_false, Bool.and_self]
   rw [e5]
   have hc : r * s + (m' - r) * s = m' * s:=by rw [← Nat.add_mul]; congr 1; omega
   have hml : (mulz (vcells z) (m' - r)).length = (m' - r) * s:=by rw [mulz_len, hz]
   have hov : r * s + (mulz (vcells z) (m' - r)).length ≤ cs.length:=by rw [hml, a2]; omega
   have e7 : kZero h s (some z) (.slice b (0 + r * s) (m' - r) (0 + r) true) = some (unitV, h.wrL b (r * s) (mulz (vcells z) (m' - r))):=by
    unfold kZero
    have e8 : Nat.beq (m' - r) 0 = false:=by
     rcases Bool.eq_false_or_eq_true (Nat.beq (m' - r) 0) with h | h
     ·have := Nat.eq_of_beq_eq_true h; omega
     ·exact h
    have e9 : Nat.ble (0 + r * s + (m' - r) * s) m = true:=Nat.ble_eq_true_of_le (by omega)
    have e10 : allOne (mulz (vcells z) (m' - r)) = true:=rep_ones _ hz1 _ [] rfl
    have e11 : Nat.beq (vcells z).length s = true:=by rw [hz]; exact Nat.beq_refl s
    simp only [e8, hx, cond_false, e9, e10, e11, Bool.and_self, cond_true]
    rw [wrL_of hx, Nat.zero_add]
   have H9 := H.vc_over (L := mulz (vcells z) (m' - r)) (o := r * s) hi hov (by
    rw [a2]; exact Nat.mul_pos (by omega) hs)
   show Tri h0 ro F Q (bindS (kZero h s (some z) (.slice b (0 + r * s) (m' - r) (0 + r) true)) K)
   rw [e7]
   exact hK _ _ (over_len hov) (over_take hov) H9 (L.wrL b _ _ (fun hr => hb hr _ _ _ _ rfl))
  ·have er : r = m' := by omega
   subst er
   have fin : ∀ u, slS h e s b 0 0 true r r = some (u, h) → kZero h s (some z) u = some (unitV, h) → Tri h0 ro F Q (bindS (slS h e s b 0 0 true r r) fun u h1 => bindS (kZero h1 s (some z) u) K) := fun u q1 q2 => by
    rw [q1]
    show Tri h0 ro F Q (bindS (kZero h s (some z) u) K)
    rw [q2]
    exact hK cs h rfl rfl (by rw [same]; exact H) L
   have e4 : Nat.ble (0 + r * s) m = true:=Nat.ble_eq_true_of_le (by omega)
   cases r with
   | zero =>
    refine fin (.slice b (0 + 0 * s) (0 - 0) (0 + 0) true) ?_ rfl
    unfold slS
    rw [hx]
    simp only [Nat.add_zero, show Nat.ble 0 m = true from Nat.ble_eq_true_of_le (Nat.zero_le m), hs0, Nat.ble_eq_true_of_le (Nat.le_refl 0), Nat.beq_refl, Nat.zero_mul, cond_true, Bool.true_or, Bool.not_false, Bool.and_self]
   | succ r =>
    refine fin (.slice b 0 0 (r + 1) true) ?_ rfl
    unfold slS
    rw [hx]
    have e6 : Nat.blt (r + 1) (r + 1) = false:=by
     rcases Bool.eq_false_or_eq_true (Nat.blt (r + 1) (r + 1)) with h | h
     ·have := Nat.le_of_ble_eq_true h; omega
     ·exact h
    have e7 : Nat.beq (r + 1) 0 = false:=rfl
    simp only [e4, e6, e7, hs0, Nat.ble_eq_true_of_le (Nat.le_refl (r + 1)), Nat.beq_refl, Nat.zero_mul, cond_true, cond_false, Bool.or_false, Bool.not_false, Bool.and_self, Bool.and_false, Bool.false_and]
 | full b m' c t a0 a1 a2 a5 a3 => cases a0
end
section
variable {l F : List Asn} {h h0 : Hp} {ro : Bool} {Q : V → List Asn → Prop} {k : V → VH} {K : V → Hp → VH} {v w : V} {b o s e i : Nat} {gr : Bool} {cs : List V}
theorem Tri.drawAppC {v x : V} {e s : Nat} {gr : Bool} {cs : List V} {c : V → Hp → Bool} {y : V → Hp → VH} (i n1 n2 : Nat) {bytes : Nat} {new : List V} (H : St l h) (hi : l[i]? = some (vc gr v e s cs)) (hnew : newCells h s x = some (n2, new)) (hs : 0 < s) (h1 : cs.length = n1 * s) (h2 : new.length = n2 * s)
 (hr1 : (n1 + n2) * bytes ≤ 1073741824) (hr2 : n1 + n2 ≤ 1073741824) (hall : allOne new = true) (L : Lo ro h0 h) (hb : Own h0 ro v)
 (hc : ∀ v' h', St (l.set i (vc gr v' e s (cs ++ new))) h' → c v' h' = true)
 (hK : ∀ v' h', St (l.set i (vc gr v' e s (cs ++ new))) h' → Lo ro h0 h' → Own h0 ro v' → oneCell v' = true → Tri h0 ro F Q (K v' h')) : Tri h0 ro F Q (bindS (appS e bytes s v x ⟨h.t, h.n, h.n⟩) fun v' h2 => cD (c v' h2) (wroteS h.low h2 fun h3 => K v' h3) (y v' h2)):=by
 obtain ⟨v', h', e1, H', hn, hl, hv⟩:=(H.draw h.n).append hi (by rw [newCells_low]; exact hnew) hs h1 h2 hr1 hr2 hall
 rw [e1, bindS_at, hc v' h' H']
 refine hK v' _ (H'.draw _) ⟨Nat.le_trans L.n hn, fun hr m a1 a2 => Nat.le_min.2 ⟨L.low hr m a1 a2, hl m (Nat.le_trans a1 L.n) fun b n c g ev => ?_⟩⟩ (fun hr b n c g ev => ?_) (H'.vc_one (i:=i) (List.getElem?_set_self (List.getElem?_eq_some_iff.1 hi).1))
 ·rcases H.vc_shape hi with ⟨rfl, _⟩ | ⟨b', n', c', g', rfl, _⟩
  ·cases ev
  ·cases ev; exact Nat.le_trans a1 (hb hr _ _ _ _ rfl)
 ·rcases hv b n c g ev with h3 | h3
  ·exact hb hr _ _ _ _ h3
  ·exact Nat.le_trans L.n h3
theorem same_ptr {h h' : Hp} {b o x y : Nat} (h1 : h.cell b o = some (.ptr x y)) (h2 : h'.cell b o = some (.ptr x y)) : sameA h h' (.ptr b o) 1 = true:=by
 have e : ∀ {h : Hp}, h.cell b o = some (.ptr x y) → h.cells b o 1 = some [.ptr x y] := fun {h} e => by
  refine St.cells_of (f:=fun i => [V.ptr x y][i]?) (fun i hi => ?_) (fun _ _ => rfl) rfl
  rw [show i = 0 by omega]; exact e
 refine sameA_of (e h1) (e h2) (by decide) ?_
 show (Nat.beq x x && Nat.beq y y && true) = true
 have hb : ∀ x, Nat.beq x x = true:=fun x => by induction x with | zero => rfl | succ x ih => exact ih
 rw [hb, hb]; rfl
theorem cells_row {h : Hp} {n : Nat} {X : List V} (hc : ∀ i, i < n → h.cell b (o + i) = X[i]?) (hl : X.length = n) : h.cells b o n = some X:=St.cells_of (f:=fun i => X[i]?) hc (fun _ _ => rfl) hl
theorem same_vl {h h' : Hp} {p : Int × Int} (h1 : ∀ i, i < 2 → h.cell b (o + i) = [V.int .u8 p.1, .int .i64 p.2][i]?) (h2 : ∀ i, i < 2 → h'.cell b (o + i) = [V.int .u8 p.1, .int .i64 p.2][i]?) : sameA h h' (.ptr b o) 2 = true:=by
 refine sameA_of (cells_row h1 rfl) (cells_row h2 rfl) (by decide) ?_
 have:=vEqL_refl_int .u8 p.1
 have h3:=vEqL_refl_int .i64 p.2
 rw [show vEqL [.int .u8 p.1] [.int .u8 p.1] = (vEq (.int .u8 p.1) (.int .u8 p.1) && true) from rfl, Bool.and_true] at this
 show (vEq (.int .u8 p.1) (.int .u8 p.1) && vEqL [.int .i64 p.2] [.int .i64 p.2]) = true
 rw [this, h3]; rfl
end
section
variable {l F F' : List Asn} {h h0 h' : Hp} {b o i off : Nat} {cs : List V} {ro ro' : Bool} {Q Q' : V → List Asn → Prop} {K : V → Hp → VH} {k : V → VH} {x y v a c : V} {X : VH} {A A1 A2 A3 : Asn}
theorem ad (hk : Tri h0 ro F Q (k (.ptr b (o + off)))) : Tri h0 ro F Q (addrS off (.ptr b o) k):=hk
theorem nl (hk : Tri h0 ro F Q (k (.ptr b o))) : Tri h0 ro F Q (nilS (.ptr b o) k):=hk
theorem nT {x y : VH} (hk : Tri h0 ro F Q x) : Tri h0 ro F Q (ifS (.bool true) x y):=hk
theorem nF {x y : VH} (hk : Tri h0 ro F Q y) : Tri h0 ro F Q (ifS (.bool false) x y):=hk
theorem bS (hk : Tri h0 ro F Q (K v h)) : Tri h0 ro F Q (bindS (some (v, h)) K):=hk
theorem pFi {x y : V → VH} (hk : Tri h0 ro F Q (y c)) : Tri h0 ro F Q (optS (pickV (.bool false) a c) fun v => ifS (.bool false) (x v) (y v)):=hk
theorem al (i : Nat) {J : V → V → VH} (H : St l h) (hi : l[i]? = some (row b cs)) (ho : cs[o + off]? = some v) (hk : Tri h0 ro F Q (J (.ptr b (o + off)) v)) : Tri h0 ro F Q (addrS off (.ptr b o) fun a => load1 a h (J a)) :=
 Tri.load i H hi ho hk
theorem nal (i : Nat) {J : V → V → V → VH} (H : St l h) (hi : l[i]? = some (row b cs)) (ho : cs[o + off]? = some v) (hk : Tri h0 ro F Q (J (.ptr b o) (.ptr b (o + off)) v)) : Tri h0 ro F Q (nilS (.ptr b o) fun w => addrS off w fun a => load1 a h (J w a)) :=
 Tri.load i H hi ho hk
theorem lo (i : Nat) (H : St l h) (hi : l[i]? = some (row b cs)) (ho : cs[o]? = some v) (hk : Tri h0 ro F Q (k v)) : Tri h0 ro F Q (load1 (.ptr b o) h k):=Tri.load i H hi ho hk
theorem bl (i : Nat) (H : St l h) (hi : l[i]? = some (row b cs)) (ho : cs[o]? = some v) (hk : Tri h0 ro F Q (bindS (k v) K)) : Tri h0 ro F Q (bindS (load1 (.ptr b o) h k) K) :=
 bW (Tri.load i H hi ho hk)
theorem bn (i : Nat) {s : Nat} (H : St l h) (hi : l[i]? = some (row b cs)) (e : (Nat.ble 1 s && Nat.ble (o + s) cs.length) = true) (hk : Tri h0 ro F Q (bindS (k (.agg ((cs.drop o).take s))) K)) : Tri h0 ro F Q (bindS (loadN s (.ptr b o) h k) K) :=
 bN (ls i H hi e hk)
theorem ba (hk : Tri h0 ro F Q (bindS (k (.ptr b (o + off))) K)) : Tri h0 ro F Q (bindS (addrS off (.ptr b o) k) K):=bA hk
theorem eF {d : IntKind} {m n : Int} (e : m ≠ n) (hk : Tri h0 ro F Q (k (.bool false))) : Tri h0 ro F Q (intS .eql (.int d m) (.int d n) k):=Tri.eql (fun c => absurd c e) fun _ => hk
theorem eT {d : IntKind} {m n : Int} (e : m = n) (hk : Tri h0 ro F Q (k (.bool true))) : Tri h0 ro F Q (intS .eql (.int d m) (.int d n) k):=Tri.eql (fun _ => hk) fun c => absurd e c
theorem eFi {d : IntKind} {m n : Int} {x y : V → VH} (e : m ≠ n) (hk : Tri h0 ro F Q (y (.bool false))) : Tri h0 ro F Q (intS .eql (.int d m) (.int d n) fun v => ifS v (x v) (y v)):=eF e hk
theorem eTi {d : IntKind} {m n : Int} {x y : V → VH} (e : m = n) (hk : Tri h0 ro F Q (x (.bool true))) : Tri h0 ro F Q (intS .eql (.int d m) (.int d n) fun v => ifS v (x v) (y v)):=eT e hk
theorem nw {e : Nat} (H : St l h) (L : Lo ro h0 h) (hK : ∀ b h', h0.n ≤ b → St (row b cs :: l) h' → Lo ro h0 h' → Tri h0 ro F Q (K (.ptr b 0) h')) : Tri h0 ro F Q (Mid.newS e cs h K):=Tri.newS H L hK
theorem nw1 {e : Nat} (H : St (A :: l) h) (L : Lo ro h0 h) (hK : ∀ b h', h0.n ≤ b → St (A :: row b cs :: l) h' → Lo ro h0 h' → Tri h0 ro F Q (K (.ptr b 0) h')) : Tri h0 ro F Q (Mid.newS e cs h K):=Tri.newS H L fun b h' hb H => hK b h' hb H.d1
theorem nw2 {e : Nat} (H : St (A :: A1 :: l) h) (L : Lo ro h0 h) (hK : ∀ b h', h0.n ≤ b → St (A :: A1 :: row b cs :: l) h' → Lo ro h0 h' → Tri h0 ro F Q (K (.ptr b 0) h')) : Tri h0 ro F Q (Mid.newS e cs h K):=Tri.newS H L fun b h' hb H => hK b h' hb H.d2
theorem nw3 {e : Nat} (H : St (A :: A1 :: A2 :: l) h) (L : Lo ro h0 h) (hK : ∀ b h', h0.n ≤ b → St (A :: A1 :: A2 :: row b cs :: l) h' → Lo ro h0 h' → Tri h0 ro F Q (K (.ptr b 0) h')) : Tri h0 ro F Q (Mid.newS e cs h K):=Tri.newS H L fun b h' hb H => hK b h' hb H.d3
theorem w0 (i : Nat) {s : Nat} {X : List V} {k : Hp → VH} (H : St l h) (hi : l[i]? = some (row b cs)) (hX : X.length = s) (e : (Nat.ble 1 s && Nat.ble (o + s) cs.length) = true) (L : Lo false h0 h) (h1 : allOne X = true)
 (hk : ∀ h', St (l.set i (row b (over cs o X))) h' → Lo false h0 h' → Tri h0 false F Q (k h')) : Tri h0 false F Q (storeN s (.ptr b o) (.agg X) h k):=by
 rw [Bool.and_eq_true] at e
 have h2:=Nat.le_of_ble_eq_true e.1
 exact Tri.stores i (by omega) H hi hX (Nat.le_of_ble_eq_true e.2) L (fun e => nomatch e) h1 hk
theorem w1 (i : Nat) {s : Nat} {X : List V} {k : Hp → VH} (H : St l h) (hi : l[i]? = some (row b cs)) (hX : X.length = s) (e : (Nat.ble 1 s && Nat.ble (o + s) cs.length) = true) (L : Lo ro h0 h) (hb : h0.n ≤ b) (h1 : allOne X = true)
 (hk : ∀ h', St (l.set i (row b (over cs o X))) h' → Lo ro h0 h' → Tri h0 ro F Q (k h')) : Tri h0 ro F Q (storeN s (.ptr b o) (.agg X) h k):=by
 rw [Bool.and_eq_true] at e
 have h2:=Nat.le_of_ble_eq_true e.1
 exact Tri.stores i (by omega) H hi hX (Nat.le_of_ble_eq_true e.2) L (fun _ => hb) h1 hk
theorem set_at {l : List Asn} {A : Asn} (hi : l[i]? = some A) (B : Asn) : (l.set i B)[i]? = some B:=by
 rw [List.getElem?_set_self (List.getElem?_eq_some_iff.1 hi).1]
theorem wl0 (i : Nat) {s : Nat} {X : List V} {k : Hp → V → VH} (H : St l h) (hi : l[i]? = some (row b cs)) (hX : X.length = s) (e : (Nat.ble 1 s && Nat.ble (o + s) cs.length) = true) (L : Lo false h0 h) (h1 : allOne X = true)
 (hk : ∀ h', St (l.set i (row b (over cs o X))) h' → Lo false h0 h' → Tri h0 false F Q (k h' (.agg (((over cs o X).drop o).take s)))) : Tri h0 false F Q (storeN s (.ptr b o) (.agg X) h fun h1 => loadN s (.ptr b o) h1 (k h1)):=by
 subst hX
 refine w0 i H hi rfl e L h1 fun h' H' L' => ls i H' (set_at hi _) ?_ (hk h' H' L')
 rw [Bool.and_eq_true] at e ⊢
 have h3:=Nat.le_of_ble_eq_true e.2
 rw [over_len h3]
 exact e
theorem wl1 (i : Nat) {s : Nat} {X : List V} {k : Hp → V → VH} (H : St l h) (hi : l[i]? = some (row b cs)) (hX : X.length = s) (e : (Nat.ble 1 s && Nat.ble (o + s) cs.length) = true) (L : Lo ro h0 h) (hb : h0.n ≤ b) (h1 : allOne X = true)
 (hk : ∀ h', St (l.set i (row b (over cs o X))) h' → Lo ro h0 h' → Tri h0 ro F Q (k h' (.agg (((over cs o X).drop o).take s)))) : Tri h0 ro F Q (storeN s (.ptr b o) (.agg X) h fun h1 => loadN s (.ptr b o) h1 (k h1)):=by
 subst hX
 refine w1 i H hi rfl e L hb h1 fun h' H' L' => ls i H' (set_at hi _) ?_ (hk h' H' L')
 rw [Bool.and_eq_true] at e ⊢
 have h3:=Nat.le_of_ble_eq_true e.2
 rw [over_len h3]
 exact e
theorem tbe {v : V} {B : List Asn} (hx : Tri h ro F' (fun w C => w = v ∧ C = B) X) (L : Lo ro h0 h) (hK : ∀ h', St (B ++ F') h' → Lo ro h0 h' → Tri h0 ro F Q (K v h')) : Tri h0 ro F Q (bindS X K) :=
 Tri.bind hx L (fun e => e) fun _ h' _ ⟨e1, e2⟩ H L => by subst e1; subst e2; exact hK h' H L
theorem tbe1 {v : V} {B : List Asn} (hx : Tri h true F' (fun w C => w = v ∧ C = B) X) (L : Lo ro h0 h) (hK : ∀ h', St (B ++ F') h' → Lo ro h0 h' → Tri h0 ro F Q (K v h')) : Tri h0 ro F Q (bindS X K) :=
 Tri.bind hx L (fun _ => rfl) fun _ h' _ ⟨e1, e2⟩ H L => by subst e1; subst e2; exact hK h' H L
end
end Go.Mid
end
