/- A part of the proof. -/
import Derived.Test.YteeahoagedfehaaGreatDoorUHS8
set_option linter.all false
set_option warn.classDefReducibility false
noncomputable section
section
open Go Go.Mid Go.Proofs
set_option maxRecDepth 100000
namespace Go.MS
section
variable {l F : List Asn} {h h0 : Hp} {ro : Bool} {Q : V → List Asn → Prop} {k : V → VH} {K : V → Hp → VH} {v lV : V} {X X' : HI} {x y : IO} {i j : Nat} {pl : List Pl} {os : List IO}
theorem sp110 {n : Int} (H : St (HK X :: l) h) : Tri h true l (rHK X (.tuple [])) (M 110 [.ptr X.hb 0, .int .i64 n] h):=by
 refine t2 e110 fun L => ?_
 unfold B110
 replace H:=openH H
 refine nal 0 H rfl rfl ?_
 apply nF
 exact dHK (closeH H) L
theorem map_zip_set {α : Type} (f : IO × Nat → α) (hj : os[j]? = some x) (he : ∀ n, f (y, n) = f (x, n)) : (os.set j y).zipIdx.map f = os.zipIdx.map f:=by
 apply List.ext_getElem?
 intro n
 rw [List.getElem?_map, List.getElem?_map, List.getElem?_zipIdx, List.getElem?_zipIdx, List.getElem?_set]
 by_cases e : j = n
 ·subst e
  rw [if_pos rfl, if_pos (List.getElem?_eq_some_iff.1 hj).1, hj]
  simp [he]
 ·rw [if_neg e]
theorem allL_set (hj : os[j]? = some x) (he : y.ob = x.ob) : allL (os.set j y) = allL os:=map_zip_set _ hj fun n => by rw [he]
theorem szs_set (hj : os[j]? = some x) (he : y.a.sz = x.a.sz) : szs ((os.set j y).map IO.a) = szs (os.map IO.a):=by
 unfold szs
 rw [List.map_map, List.map_map]
 apply List.ext_getElem?
 intro n
 rw [List.getElem?_map, List.getElem?_map, List.getElem?_set]
 by_cases e : j = n
 ·subst e
  rw [if_pos rfl, if_pos (List.getElem?_eq_some_iff.1 hj).1, hj]
  simp [he]
 ·rw [if_neg e]
theorem txL_set (hj : os[j]? = some x) (hx : x.a.kd ≠ 4) (hy : y.a.kd ≠ 4) : txL ((os.set j y).map IO.a) = txL (os.map IO.a):=by
 have key : ∀ (os : List IO) (j m : Nat), os[j]? = some x → (((os.set j y).map IO.a).zipIdx m).filter (fun x => x.1.kd == 4) = ((os.map IO.a).zipIdx m).filter (fun x => x.1.kd == 4):=by
  intro os
  induction os with
  | nil => intro j m h; cases h
  | cons o os ih =>
   intro j m h
   cases j with
   | zero =>
    cases h
    rw [List.set_cons_zero, List.map_cons, List.map_cons, List.zipIdx_cons, List.zipIdx_cons, List.filter_cons_of_neg (by simpa using hy), List.filter_cons_of_neg (by simpa using hx)]
   | succ j =>
    rw [List.set_cons_succ, List.map_cons, List.map_cons, List.zipIdx_cons, List.zipIdx_cons, List.filter_cons, List.filter_cons, ih j (m + 1) h]
 unfold txL
 rw [key os j 0 hj]
def IO.mt (x : IO) (m : Vl) : IO:={ x with a:={ x.a with me:=m } }
def HI.upd (X : HI) (j : Nat) (y : IO) : HI:={ X with os:=X.os.set j y }
theorem openO7 (H : St (TK x :: HR X i x :: l) h) : St (Mid.row X.hb X.row :: Mid.row X.pb X.prow :: vc true X.szV 3 1 ((szs X.as).map (V.int .i64)) :: dict X.allb (ies (allL X.os)) :: dict X.txb (txL X.as) :: dict X.ntb [] :: ands ((X.os.map IO.A).eraseIdx i) :: Mid.row x.ob x.row :: TK x :: l) h:=H.u1.app
theorem closeS (hj : X.os[j]? = some x) (hk : y.a.kd = 5) (hkx : x.a.kd = 5) (hob : y.ob = x.ob) (hsz : y.a.sz = x.a.sz)
 (H : St (Mid.row X.hb X.row :: Mid.row X.pb X.prow :: vc true X.szV 3 1 ((szs X.as).map (V.int .i64)) :: dict X.allb (ies (allL X.os)) :: dict X.txb (txL X.as) :: dict X.ntb [] :: ands ((X.os.map IO.A).eraseIdx j) :: Mid.row y.ob y.row :: TK y :: l) h) : St (HK (X.upd j y) :: l) h:=by
 have e1 : allL (X.upd j y).os = allL X.os:=allL_set hj hob
 have e2 : szs (X.upd j y).as = szs X.as:=szs_set hj hsz
 have e3 : txL (X.upd j y).as = txL X.as:=txL_set hj (by omega) (by omega)
 have e4 : (X.upd j y).prow = X.prow:=by
  unfold HI.prow used
  rw [e2]
  show _ = _
  unfold HI.upd
  simp
 refine closeO (X:=X) (X':=X.upd j y) hj hk rfl ?_
 rw [e1, e2, e3, e4]
 exact H
theorem sp52 {a m : Vl} (hx : ofI X.os a 5 = some x) (hm : ofI X.os m 5 = some y) (H : St (HK X :: l) h) : Tri h false l (rHK (X.upd (a.2.toNat - 1) (x.mt m)) (.int .i64 0)) (M 52 [.ptr X.hb 0, vlV a, vlV m] h):=by
 refine t3 e52 fun L => ?_
 unfold B52
 refine nw1 H L fun b0 h hb0 H L => ?_
 refine nw1 H L fun b1 h hb1 H L => ?_
 refine tbe1 (sp102 H) L fun h H L => ?_
 refine Tri.not ?_
 apply nF
 refine ls 2 H rfl rfl ?_
 refine tbe1 (sp60 H) L fun h H L => ?_
 rw [hx]
 obtain ⟨h1, h2, h3⟩:=ofI_at hx
 refine Tri.eqP ?_
 apply nF
 refine ls 1 H rfl rfl ?_
 refine Tri.bldS rfl ?_
 refine Tri.vlNe (m:=(0, 0)) (fun e => ?_) (fun e => ?_)
 ·apply gtt
  refine bn 1 H rfl rfl ?_
  apply Mid.bB
  refine tbe1 (sp60 H) L fun h H L => ?_
  refine Tri.eqv (bind_eqS _ _) ?_
  rw [hm]
  refine Tri.eqP ?_
  apply bS
  apply pT
  apply nF
  refine ls 1 H rfl rfl ?_
  apply nl
  apply ad
  replace H:=openO7 (openO H h1 h2)
  refine w0 7 H rfl rfl rfl L (by first|rfl|assumption) fun h H L => ?_
  refine al 10 H rfl rfl ?_
  replace H : St (Mid.row X.hb X.row :: Mid.row X.pb X.prow :: vc true X.szV 3 1 ((szs X.as).map (V.int .i64)) :: dict X.allb (ies (allL X.os)) :: dict X.txb (txL X.as) :: dict X.ntb [] :: ands ((X.os.map IO.A).eraseIdx (a.2.toNat - 1)) :: Mid.row (x.mt m).ob (x.mt m).row :: TK (x.mt m) :: Mid.row b1 (vlC m) :: Mid.row b0 (vlC a) :: l) _:=H
  replace H:=closeS h1 (y:=x.mt m) h2 h2 rfl rfl H
  refine tb0 (sp110 (X:=X.upd (a.2.toNat - 1) (x.mt m)) H) L fun v h B hq H L => ?_
  obtain ⟨rfl, rfl⟩:=hq
  exact dHK H.x1.x1 L
 ·exfalso
  have:=(ofI_at hm).2.2
  rw [e] at this; cases this
def HI.po (X : HI) : PI:=⟨X.pb, X.max, used X.as, (X.os.length : Nat), X.szV, szs X.as⟩
theorem keepI_fit {os : List IO} {a : Vl} (h : keepI os a = true) : a.1 ≤ 8 ∧ plain a:=by
 unfold keepI at h
 split at h
 ·cases h
 ·rename_i h1
  unfold plain
  refine ⟨by omega, ?_⟩
  by_cases e : a.2 = 0
  ·exact .inr e
  ·exact .inl (by omega)
def T56 (hb ob b0 : Nat) (v73 : V) (h74 : Hp) : VH :=
 intS .eql v73 (.int .i64 0) fun v75 =>
 ifS v75 (
 nilS (.ptr hb 0) fun v76 =>
 addrS 1 v76 fun v77 =>
 load1 v77 h74 fun v78 =>
 addrS 1 (.ptr b0 0) fun v79 =>
 load1 v79 h74 fun v80 =>
 nilS (.ptr ob 0) fun v81 =>
 addrS 3 v81 fun v82 =>
 load1 v82 h74 fun v83 =>
 bindS (M 130 [v83] ⟨h74.t, h74.n, h74.n⟩) fun v84 h85 =>
 cD ((pureB h74 h85 || sameA h74 h85 v79 (vcells v80).length) && ((pureB h74 h85 || sameA h74 h85 v77 (vcells v78).length) && true)) (
 wroteS h74.low h85 fun h86 =>
 intS .mul (.int .i64 2) v84 fun v87 =>
 intS .add (.int .i64 2) v87 fun v88 =>
 bindS (M 128 [v78, v80, v88] h86) fun v89 h90 =>
 addrS 1 (.ptr b0 0) fun v91 =>
 load1 v91 h90 fun v92 =>
 bindS (M 110 [.ptr hb 0, v92] h90) fun v93 h94 =>
 M 23 [v73] h94) none) (
 M 23 [v73] h74)
theorem _root_.Go.Mid.Tri.mulN {k : V → VH} {m n : Int} (h1 : -9223372036854775808 ≤ m * n) (h2 : m * n ≤ 9223372036854775807) (hk : Tri h0 ro F Q (k (.int .i64 (m * n)))) : Tri h0 ro F Q (intS .mul (.int .i64 m) (.int .i64 n) k):=by
 rw [intS_at, int_mul, i64_of h1 h2]; exact hk
theorem sum_set : ∀ (L : List Int) (j : Nat) (z m : Int), L[j]? = some z → (L.set j m).sum = L.sum + (m - z)
 | [], _, _, _, h => by cases h
 | a :: L, 0, z, m, h => by
  cases h
  rw [List.set_cons_zero, List.sum_cons, List.sum_cons]; omega
 | a :: L, j + 1, z, m, h => by
  rw [List.set_cons_succ, List.sum_cons, List.sum_cons, sum_set L j z m h]; omega
theorem k56 {a key w : Vl} {b0 b1 b2 : Nat} (g2 : x.a.kd = 5) (hy : y.tb = x.tb) (hf : y.a.pl.length ≤ 100000) {z : Int} (hj : 1 ≤ a.2 ∧ a.2 ≤ (szs X.as).length ∧ (szs X.as).length ≤ 100000) (hz : (szs X.as)[(a.2 - 1).toNat]? = some z) (hp : ∀ z ∈ szs X.as, 0 ≤ z) (hr : 2 + 2 * (live y.a.pl : Int) ≤ X.max - used X.as + z) (hu : 0 ≤ used X.as ∧ X.max ≤ 1073741824 ∧ z ≤ 1073741824 ∧ z ≤ used X.as)
 (hQ : ∀ h, St (PK { X.po with us:=X.po.us + (2 + 2 * (live y.a.pl : Int) - z), sz:=X.po.sz.set (a.2 - 1).toNat (2 + 2 * (live y.a.pl : Int)) } :: TK y :: Mid.row X.hb X.row :: dict X.allb (ies (allL X.os)) :: dict X.txb (txL X.as) :: dict X.ntb [] :: ands ((X.os.map IO.A).eraseIdx j) :: Mid.row x.ob x.row :: Mid.row b2 (vlC w) :: Mid.row b1 (vlC key) :: Mid.row b0 (vlC a) :: l) h → Lo false h0 h → Tri h0 false l Q (bindS (M 110 [.ptr X.hb 0, .int .i64 a.2] h) fun v93 h94 => M 23 [.int .i64 0] h94)) (H : St (TK y :: Mid.row X.hb X.row :: Mid.row X.pb X.prow :: vc true X.szV 3 1 ((szs X.as).map (V.int .i64)) :: dict X.allb (ies (allL X.os)) :: dict X.txb (txL X.as) :: dict X.ntb [] :: ands ((X.os.map IO.A).eraseIdx j) :: Mid.row x.ob x.row :: Mid.row b2 (vlC w) :: Mid.row b1 (vlC key) :: Mid.row b0 (vlC a) :: l) h) (L : Lo false h0 h) :
 Tri h0 false l Q (T56 X.hb x.ob b0 (.int .i64 0) h):=by
 unfold T56
 refine eTi (by decide) ?_
 refine nal 1 H rfl rfl ?_
 refine al 11 H rfl rfl ?_
 refine nal 8 H rfl rfl ?_
 have Ho10:=H
 rw [if_pos g2, ← hy]
 refine Tri.wroteC (sp130 hf (H.draw _)) L (fun v h2 e => by rw [e]; rfl) fun v h2 h B hq H2 hn hl eh H L => ?_
 obtain ⟨rfl, rfl⟩:=hq
 have hlv:=live_le y.a.pl
 refine Tri.mulN (by omega) (by omega) ?_
 refine Tri.addN (by omega) (by omega) ?_
 have H3:=closeP (p:=X.po) H.u3.u3
 refine tb0 (sp128 (p:=X.po) (n:=a.2) z hj.1 hj.2.1 hp hj.2.2 hz (by omega) hr hu.1 hu.2.1 hu.2.2.1 hu.2.2.2 H3) L fun v h B hq H L => ?_
 obtain ⟨rfl, rfl⟩:=hq
 refine al 10 H rfl rfl ?_
 exact hQ h H L
theorem szs_upd : szs (X.upd j y).as = (szs X.as).set j (y.a.sz : Int):=by
 unfold szs HI.as HI.upd
 simp only [List.map_map, List.map_set, Function.comp]
theorem szs_at (hj : X.os[j]? = some x) : (szs X.as)[j]? = some (x.a.sz : Int):=by
 unfold szs HI.as
 rw [List.getElem?_map, List.getElem?_map, hj]; rfl
theorem close56 {m z : Int} (hj : X.os[j]? = some x) (hkx : x.a.kd = 5) (hk : y.a.kd = 5) (hob : y.ob = x.ob) (hrow : y.row = x.row) (hm : m = (y.a.sz : Int)) (hz : z = (x.a.sz : Int))
 (H : St (PK { X.po with us:=X.po.us + (m - z), sz:=X.po.sz.set j m } :: TK y :: Mid.row X.hb X.row :: dict X.allb (ies (allL X.os)) :: dict X.txb (txL X.as) :: dict X.ntb [] :: ands ((X.os.map IO.A).eraseIdx j) :: Mid.row x.ob x.row :: l) h) : St (HK (X.upd j y) :: l) h:=by
 subst hm hz
 have e1 : allL (X.upd j y).os = allL X.os:=allL_set hj hob
 have e3 : txL (X.upd j y).as = txL X.as:=txL_set hj (by omega) (by omega)
 have e2 : szs (X.upd j y).as = (szs X.as).set j (y.a.sz : Int):=szs_upd
 have e5 : used (X.upd j y).as = used X.as + ((y.a.sz : Int) - (x.a.sz : Int)):=by
  unfold used; rw [e2]; exact sum_set _ _ _ _ (szs_at hj)
 have e6 : (X.upd j y).os.length = X.os.length:=by unfold HI.upd; simp
 have e4 : (X.upd j y).prow = [.bool true, .int .i64 X.max, .int .i64 (used X.as + ((y.a.sz : Int) - (x.a.sz : Int))), .int .i64 (X.os.length : Nat), X.szV, .nilSlice]:=by
  unfold HI.prow; rw [e5, e6]; rfl
 refine closeO (X:=X) (X':=X.upd j y) hj hk rfl ?_
 rw [e1, e2, e3, e4, hob, hrow]
 have H2:=openP H
 exact ((((H2.u3.out 3).ins 8) : St _ h))
theorem live_cons (p : Pl) (l : List Pl) : live (p :: l) = (if dead p then 0 else 1) + live l:=by
 unfold live dead
 by_cases e : p.2.1 = 0
 ·rw [List.filter_cons_of_neg (by simp [e])]; simp [e]
 ·rw [List.filter_cons_of_pos (by simp [e])]; simp [e]; omega
theorem live_set : ∀ (pl : List Pl) (j : Nat) (p : Pl), live (pl.set j p) ≤ live pl + 1
 | [], _, _ => by simp [live]
 | q :: pl, 0, p => by
  rw [List.set_cons_zero, live_cons, live_cons]
  split <;> split <;> omega
 | q :: pl, j + 1, p => by
  rw [List.set_cons_succ, live_cons, live_cons]
  have:=live_set pl j p
  omega
theorem live_app (a b : List Pl) : live (a ++ b) = live a + live b:=by
 unfold live; rw [List.filter_append, List.length_append]
theorem live_alive (pl : List Pl) : live (alive pl) ≤ live pl:=by
 unfold live alive; exact ((List.filter_sublist).filter _).length_le
theorem live_setP (pl : List Pl) (key w : Vl) : live (setP pl key w) ≤ live pl + 1:=by
 unfold setP
 split
 ·exact live_set _ _ _
 ·split
  ·omega
  ·rw [live_app]
   have:=live_alive pl
   have h2:=live_le [(key, w)]
   have h3 : [(key, w)].length = 1:=rfl
   omega
theorem setP_len (pl : List Pl) (key w : Vl) : (setP pl key w).length ≤ pl.length + 1:=by
 unfold setP
 split
 ·rw [List.length_set]; omega
 ·split
  ·omega
  ·rw [List.length_append]
   have:=(alive_sub pl).length_le
   have h3 : [(key, w)].length = 1:=rfl
   omega
theorem le_sum : ∀ (L : List Int) (z : Int), (∀ z ∈ L, 0 ≤ z) → z ∈ L → z ≤ L.sum
 | [], _, _, h => by cases h
 | a :: L, z, h0, h => by
  rw [List.sum_cons]
  have h1 : 0 ≤ a:=h0 a List.mem_cons_self
  have h3 : ∀ L : List Int, (∀ z ∈ L, 0 ≤ z) → 0 ≤ L.sum:=by
   intro L
   induction L with
   | nil => intro _; simp
   | cons b L ih => intro h; rw [List.sum_cons]; have:=h b List.mem_cons_self; have:=ih fun z hz => h z (List.mem_cons_of_mem _ hz); omega
  have h2:=h3 L fun z hz => h0 z (List.mem_cons_of_mem _ hz)
  rcases List.mem_cons.1 h with rfl | h
  ·omega
  ·have := le_sum L z (fun z hz => h0 z (List.mem_cons_of_mem _ hz)) h; omega
theorem szs_pos : ∀ z ∈ szs X.as, 0 ≤ z:=by
 intro z hz
 unfold szs at hz
 obtain ⟨a, _, rfl⟩:=List.mem_map.1 hz
 omega
theorem sz_tab {a : AO} (h : a.kd = 5) : a.sz = 2 + 2 * live a.pl:=by
 unfold AO.sz; rw [if_neg (by omega), if_pos h]
theorem t56 {a key w : Vl} {b0 b1 b2 : Nat} (g1 : X.os[a.2.toNat - 1]? = some x) (g2 : x.a.kd = 5) (g4 : 1 ≤ a.2) (hI : x.a.pl.length ≤ 60000) (hr : used X.as + 2 ≤ X.max) (hu : 0 ≤ used X.as) (hmx : X.max ≤ 1073741824) (hlen : X.os.length ≤ 100000)
 (H : St (TK (x.wi lV (setP x.a.pl key w)) :: Mid.row X.hb X.row :: Mid.row X.pb X.prow :: vc true X.szV 3 1 ((szs X.as).map (V.int .i64)) :: dict X.allb (ies (allL X.os)) :: dict X.txb (txL X.as) :: dict X.ntb [] :: ands ((X.os.map IO.A).eraseIdx (a.2.toNat - 1)) :: Mid.row x.ob x.row :: Mid.row b2 (vlC w) :: Mid.row b1 (vlC key) :: Mid.row b0 (vlC a) :: l) h) (L : Lo false h0 h) :
 Tri h0 false l (fun r B => ∃ lV, r = .int .i64 0 ∧ B = [HK (X.upd (a.2.toNat - 1) (x.wi lV (setP x.a.pl key w)))]) (T56 X.hb x.ob b0 (.int .i64 0) h):=by
 have hs:=szs_at g1
 have hm:=List.mem_of_getElem? hs
 have hsz:=sz_tab g2
 have l1:=live_setP x.a.pl key w
 have l2:=setP_len x.a.pl key w
 have l3:=live_le x.a.pl
 have ln : (szs X.as).length = X.os.length:=by unfold szs HI.as; simp
 have gl:=(List.getElem?_eq_some_iff.1 g1).1
 have ej : (a.2 - 1).toNat = a.2.toNat - 1:=by omega
 have hle : (x.a.sz : Int) ≤ used X.as:=le_sum _ _ szs_pos hm
 have eP : (x.wi lV (setP x.a.pl key w)).a.pl = setP x.a.pl key w:=rfl
 refine k56 (j:=a.2.toNat - 1) (y:=x.wi lV (setP x.a.pl key w)) (z:=(x.a.sz : Int)) g2 rfl (by rw [eP]; omega) ⟨g4, by omega, by omega⟩ (by rw [ej]; exact hs) szs_pos (by rw [eP]; omega) ⟨hu, hmx, by omega, hle⟩ (fun h H L => ?_) H L
 rw [ej] at H
 have H2:=close56 (y:=x.wi lV (setP x.a.pl key w)) g1 g2 g2 rfl rfl (by rw [sz_tab (a:=(x.wi lV (setP x.a.pl key w)).a) g2]; omega) rfl H
 refine tb0 (sp110 (X:=X.upd (a.2.toNat - 1) (x.wi lV (setP x.a.pl key w))) H2) L fun v h B hq H L => ?_
 obtain ⟨rfl, rfl⟩:=hq
 refine Tri.call (x:=B23 M (.int .i64 0) h) (fun p => e23 _ h p) ?_
 unfold B23
 exact Tri.done (B:=[HK _]) ⟨lV, rfl, rfl⟩ H.x1.x1.x1 L
theorem sp56 {a key w : Vl} (hx : ofI X.os a 5 = some x) (h1 : 1 ≤ key.1) (h2 : keepI X.os key = true) (h3 : keepI X.os w = true) (hr : used X.as + 2 ≤ X.max) (hu : 0 ≤ used X.as) (hmx : X.max ≤ 1073741824) (hI : x.a.pl.length ≤ 60000) (nd : (x.a.pl.map (·.1)).Nodup) (hlen : X.os.length ≤ 100000)
 (H : St (HK X :: l) h) : Tri h false l (fun r B => ∃ lV, r = .int .i64 0 ∧ B = [HK (X.upd (a.2.toNat - 1) (x.wi lV (setP x.a.pl key w)))]) (M 56 [.ptr X.hb 0, vlV a, vlV key, vlV w] h):=by
 refine t4 e56 fun L => ?_
 unfold B56
 refine nw1 H L fun b0 h hb0 H L => ?_
 refine nw1 H L fun b1 h hb1 H L => ?_
 refine nw1 H L fun b2 h hb2 H L => ?_
 refine tbe1 (sp102 H) L fun h H L => ?_
 refine Tri.not ?_
 apply nF
 refine ls 3 H rfl rfl ?_
 refine tbe1 (sp60 H) L fun h H L => ?_
 rw [hx]
 obtain ⟨g1, g2, g3⟩:=ofI_at hx
 have g4 : 1 ≤ a.2:=by
  unfold ofI at hx
  rw [if_pos g3] at hx
  exact (findI_at hx).2.2.1
 refine Tri.eqP ?_
 apply nF
 refine al 2 H rfl rfl ?_
 refine Tri.eql (fun e => by omega) (fun _ => ?_)
 have f1:=keepI_fit h2
 have f2:=keepI_fit h3
 apply gff
 refine bn 2 H rfl rfl ?_
 apply Mid.bB
 refine tbe1 (sp122 H) L fun h H L => ?_
 refine Tri.eqv (bind_notS _ _) ?_
 refine Tri.not ?_
 apply bS
 apply pF
 rw [h2]
 apply gff
 refine bn 1 H rfl rfl ?_
 apply Mid.bB
 refine tbe1 (sp122 H) L fun h H L => ?_
 refine Tri.eqv (bind_notS _ _) ?_
 refine Tri.not ?_
 apply bS
 apply pF
 rw [h3]
 apply nF
 apply nl
 apply ad
 refine Tri.loadC (w:=.ptr x.tb 0) ?_ ?_
 ·rw [obj_cell H (i := 0) (o := 3) rfl g1 rfl, if_pos g2]
 replace H:=(openO7 (openO H g1 g2)).u8
 refine ls 10 H rfl rfl ?_
 have Ho81:=H
 refine Tri.wrote (sp62 (by first|rfl|assumption|omega|(dsimp only;omega)) (H.draw _)) L (fun _ => rfl) fun v h2 h B hq81 H2 hn81 hl81 eh81 H L => ?_
 obtain ⟨rfl, rfl⟩:=hq81
 refine Tri.fld rfl ?_
 refine Tri.eql (fun e5 => ?_) (fun e5 => ?_)
 ·apply gtt
  apply ba
  apply bS
  apply gtt
  refine bl 9 H rfl rfl ?_
  apply bS
  apply gtt
  apply bI
  refine Tri.neq (fun e6 => ?_) (fun e6 => ?_)
  ·apply bS
   apply pT
   apply gtt
   apply bS
   apply gtt
   refine Tri.eqv (bind_nilS _ _) ?_
   apply nl
   apply bS
   apply gtt
   apply ba
   apply bS
   apply gtt
   refine bl 1 H rfl rfl ?_
   apply bS
   refine Tri.eqv (guardB_tt _ _) ?_
   have Ho317:=H
   replace H:=closeP (p:=X.po) H.u3.u3
   refine Tri.wrote (sp124 (p:=X.po) (H.draw _)) L (fun e => nomatch e) fun v h2 h B hq H2 hn hl eh H L => ?_
   obtain ⟨rfl, rfl⟩:=hq
   rw [show X.po.us = used X.as from rfl]
   replace H:=(openP H).u2.u3.u1
   apply gtt
   apply bI
   refine Tri.addN (by omega) (by omega) ?_
   apply bS
   apply gtt
   apply bS
   apply gtt
   refine Tri.eqv (bind_nilS _ _) ?_
   apply nl
   apply bS
   apply gtt
   apply ba
   apply bS
   refine Tri.eqv (guardB_tt _ _) ?_
   refine lo 1 Ho317 rfl rfl ?_
   refine Tri.cd (by rw [show pureB _ _ = true from Nat.ble_eq_true_of_le (hl rfl)]; rfl) ?_
   apply gtt
   apply bI
   refine Tri.gtr (fun e => by omega) (fun _ => ?_)
   apply bS
   apply pT
   apply nF
   refine nal 8 H rfl rfl ?_
   refine ls 10 H rfl rfl ?_
   refine ls 9 H rfl rfl ?_
   rw [if_pos g2]
   refine tb0 (sp126 ⟨h1, f1.1⟩ f1.2 f2.1 f2.2 hI nd H) L fun v h B hq H L => ?_
   obtain ⟨lV, rfl, rfl⟩:=hq
   exact t56 g1 g2 g4 hI hr hu hmx hlen H L
  ·apply bS
   apply pT
   apply gft
   apply gft
   apply gft
   apply gft
   refine Tri.eqv (guardB_ft _ _) ?_
   apply gft
   apply gft
   apply gft
   apply gft
   apply gft
   apply gft
   apply pF
   apply nF
   refine nal 8 H rfl rfl ?_
   refine ls 10 H rfl rfl ?_
   refine ls 9 H rfl rfl ?_
   rw [if_pos g2]
   refine tb0 (sp126 ⟨h1, f1.1⟩ f1.2 f2.1 f2.2 hI nd H) L fun v h B hq H L => ?_
   obtain ⟨lV, rfl, rfl⟩:=hq
   exact t56 g1 g2 g4 hI hr hu hmx hlen H L
 ·apply gft
  apply gft
  apply gft
  apply pF
  apply gft
  apply gft
  apply gft
  apply gft
  refine Tri.eqv (guardB_ft _ _) ?_
  apply gft
  apply gft
  apply gft
  apply gft
  apply gft
  apply gft
  apply pF
  apply nF
  refine nal 8 H rfl rfl ?_
  refine ls 10 H rfl rfl ?_
  refine ls 9 H rfl rfl ?_
  rw [if_pos g2]
  refine tb0 (sp126 ⟨h1, f1.1⟩ f1.2 f2.1 f2.2 hI nd H) L fun v h B hq H L => ?_
  obtain ⟨lV, rfl, rfl⟩:=hq
  exact t56 g1 g2 g4 hI hr hu hmx hlen H L
end
end Go.MS
end
