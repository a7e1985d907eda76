/- A part of the proof. -/
import Derived.Test.YteeahoagedfehaaGreatDoorUHS11
set_option linter.all false
set_option warn.classDefReducibility false
noncomputable section
section
open Go Go.Mid Go.Proofs
set_option maxRecDepth 100000
namespace Go.MS
section
variable {l F : List Asn} {h h0 : Hp} {ro : Bool} {Q : V → List Asn → Prop} {k : V → VH} {K : V → Hp → VH} {v lV : V} {X X' : HI} {x y : IO} {i j : Nat} {pl : List Pl} {os : List IO}
theorem k110 {b : Nat} {n mx md : Int} {pb tx nt ab : Nat} (H : St (Mid.row b [.int .i64 mx, .ptr pb 0, .map ab, .map tx, .int .i64 md, .bool false, .map nt] :: l) h) : Tri h true l (fun w B => w = .tuple [] ∧ B = [Mid.row b [.int .i64 mx, .ptr pb 0, .map ab, .map tx, .int .i64 md, .bool false, .map nt]]) (M 110 [.ptr b 0, .int .i64 n] h):=by
 refine t2 e110 fun L => ?_
 unfold B110
 refine nal 0 H rfl rfl ?_
 apply nF
 exact Tri.done (B:=[Mid.row b _]) ⟨rfl, rfl⟩ H L
theorem k57 {b ob b0 : Nat} {n mx md kd : Int} {pb tx nt ab : Nat} {C : List V} {z1 z2 : V} {L0 : List (Int × V)} (hC : C[0]? = some (.int .u8 kd)) (hn : iget n L0 = none)
 (H : St (Mid.row b [.int .i64 mx, .ptr pb 0, .map ab, .map tx, .int .i64 md, .bool false, .map nt] :: dict ab (ies L0) :: Mid.row ob C :: Mid.row b0 [z1, z2] :: l) h) :
 Tri h false l (fun w B => w = .tuple [vlV (kd, n), .int .i64 0] ∧ B = [Mid.row b [.int .i64 mx, .ptr pb 0, .map ab, .map tx, .int .i64 md, .bool false, .map nt], dict ab (ies (L0 ++ [(n, .ptr ob 0)])), Mid.row ob C]) (M 57 [.ptr b 0, .ptr ob 0, .ptr b0 0, .int .i64 n] h):=by
 refine t4 e57 fun L => ?_
 unfold B57
 refine nal 0 H rfl rfl ?_
 refine Tri.upd 1 H rfl rfl (mapGet_ies n L0) L (fun e => nomatch e) fun h H L => ?_
 rw [mapSet_ies n _ L0 hn] at H
 refine tb0 (k110 H) L fun v h B hq H L => ?_
 obtain ⟨rfl, rfl⟩:=hq
 apply nl
 apply ad
 refine lo 2 H rfl hC ?_
 refine Tri.bldS rfl ?_
 refine wl0 3 H rfl rfl rfl L (by first|rfl|assumption) fun h H L => ?_
 exact Tri.done (B:=[Mid.row b _, dict ab _, Mid.row ob C]) ⟨rfl, rfl⟩ H.x3 L
def numd (k : Int) : Bool:=k == 5 || k == 6 || k == 8
def IO.ser (x : IO) (n : Int) : IO:={ x with a:={ x.a with ser:=n } }
def rAdd (X : HI) (x : IO) (m : Int) : V → List Asn → Prop := fun w B => ∃ szV, w = .tuple [vlV (x.a.kd, ((X.os.length + 1 : Nat) : Int)), .int .i64 0] ∧
 B = [Mid.row X.hb (HI.row { X with made := if numd x.a.kd then X.made + 1 else X.made }), dict X.allb (ies (allL X.os ++ [(((X.os.length + 1 : Nat) : Int), .ptr x.ob 0)])), Mid.row x.ob (if numd x.a.kd then x.ser (X.made + 1) else x).row,
  PK { X.po with us:=X.po.us + m, n:=X.po.n + 1, szV:=szV, sz:=X.po.sz ++ [m] }, dict X.txb (txL X.as), dict X.ntb [], ands (X.os.map IO.A)]
theorem iget_next (os : List IO) : iget ((os.length + 1 : Nat) : Int) (allL os) = none:=by
 unfold allL
 rw [iget_all]
 split
 ·rw [List.getElem?_eq_none (by omega)]; rfl
 ·rfl
theorem sp104 {m : Int} (hm : 0 ≤ m) (hr : used X.as + m ≤ X.max) (hu : 0 ≤ used X.as) (hmx : X.max ≤ 1073741824) (hlen : X.os.length < 65536)
 (hk : x.a.kd = 5 ∨ x.a.kd = 6 ∨ x.a.kd = 4) (hmd : 0 ≤ X.made ∧ X.made ≤ 1000000) (H : St (HK X :: Mid.row x.ob x.row :: l) h) : Tri h false l (rAdd X x m) (M 104 [.ptr X.hb 0, .ptr x.ob 0, .int .i64 m] h):=by
 refine t3 e104 fun L => ?_
 unfold B104
 refine nw1 H L fun b0 h hb0 H L => ?_
 apply nl
 apply ad
 replace H:=openH H
 refine lo 0 H rfl rfl ?_
 have Ho11:=H
 have Ho:=H
 replace H:=closeP (p:=X.po) H.u2.u2
 refine Tri.wrote (sp124 (p:=X.po) (H.draw _)) L (fun e => nomatch e) fun v h2 h B hq H2 hn hl eh H L => ?_
 obtain ⟨rfl, rfl⟩:=hq
 rw [show X.po.us = used X.as from rfl]
 refine Tri.addN (by omega) (by omega) ?_
 refine nal 0 Ho rfl rfl ?_
 refine Tri.cd (by rw [show pureB _ _ = true from Nat.ble_eq_true_of_le (hl rfl)]; rfl) ?_
 refine Tri.gtr (fun e => by omega) (fun _ => ?_)
 apply nF
 refine nal 1 H rfl rfl ?_
 have ln : (szs X.as).length = X.os.length:=by unfold szs HI.as; simp
 refine tb0 (sp166 (p:=X.po) hm (by show m ≤ X.max - used X.as; omega) hu hmx ⟨by show (0 : Int) ≤ (X.os.length : Nat); omega, by show ((X.os.length : Nat) : Int) < 65536; omega⟩ (by show (szs X.as).length ≤ _; omega) H) L fun v h B hq H L => ?_
 obtain ⟨szV, rfl, rfl⟩:=hq
 replace H:=(openP H).u2
 refine Tri.ext rfl ?_
 refine Tri.ext rfl ?_
 refine Tri.neq (fun e => absurd e (by decide)) (fun _ => ?_)
 apply nF
 refine nal 8 H rfl rfl ?_
 have e7 : X.po.sz.length = X.os.length:=ln
 refine Tri.eql (fun e => ?_) (fun e => ?_)
 ·apply gtf
  apply pT
  apply gtf
  apply pT
  apply nT
  refine nal 0 H rfl rfl ?_
  refine Tri.addN (by omega) (by omega) ?_
  apply nl
  apply ad
  refine sto 0 H rfl rfl L (by first|rfl|assumption) fun h H L => ?_
  refine nal 0 H rfl rfl ?_
  apply nl
  apply ad
  refine sto 8 H rfl rfl L (by first|rfl|assumption) fun h H L => ?_
  have e8 : numd x.a.kd = true:=by unfold numd; rw [e]; rfl
  rw [show ((X.po.sz.length + 1 : Nat) : Int) = ((X.os.length + 1 : Nat) : Int) by rw [e7]]
  refine Tri.tail (k57 (kd:=x.a.kd) rfl (iget_next X.os) H.u7.u8.u5.u3) L (fun e => e) fun v h B hq H L => ?_
  obtain ⟨rfl, rfl⟩:=hq
  refine ⟨_, ⟨szV, rfl, rfl⟩, ?_⟩
  rw [e8]
  exact (closeP (p:={ X.po with us:=X.po.us + m, n:=X.po.n + 1, szV:=szV, sz:=X.po.sz ++ [m] }) H.u4.u4).d3
 ·apply gff
  refine Tri.eqv (bind_nilS _ _) ?_
  apply nl
  apply ba
  refine bl 8 H rfl rfl ?_
  apply bI
  refine Tri.eql (fun e' => ?_) (fun e' => ?_)
  ·apply bS
   apply pF
   apply gtf
   apply pT
   apply nT
   refine nal 0 H rfl rfl ?_
   refine Tri.addN (by omega) (by omega) ?_
   apply nl
   apply ad
   refine sto 0 H rfl rfl L (by first|rfl|assumption) fun h H L => ?_
   refine nal 0 H rfl rfl ?_
   apply nl
   apply ad
   refine sto 8 H rfl rfl L (by first|rfl|assumption) fun h H L => ?_
   have e8 : numd x.a.kd = true:=by unfold numd; rw [e']; rfl
   rw [show ((X.po.sz.length + 1 : Nat) : Int) = ((X.os.length + 1 : Nat) : Int) by rw [e7]]
   refine Tri.tail (k57 (kd:=x.a.kd) rfl (iget_next X.os) H.u7.u8.u5.u3) L (fun e => e) fun v h B hq H L => ?_
   obtain ⟨rfl, rfl⟩:=hq
   refine ⟨_, ⟨szV, rfl, rfl⟩, ?_⟩
   rw [e8]
   exact (closeP (p:={ X.po with us:=X.po.us + m, n:=X.po.n + 1, szV:=szV, sz:=X.po.sz ++ [m] }) H.u4.u4).d3
  ·apply bS
   apply pF
   apply gff
   refine Tri.eqv (bind_nilS _ _) ?_
   apply nl
   apply ba
   refine bl 8 H rfl rfl ?_
   apply bI
   refine Tri.eql (fun e' => by omega) (fun e'' => ?_)
   apply bS
   apply pF
   apply nF
   have e4 : x.a.kd = 4:=by omega
   have e8 : numd x.a.kd = false:=by unfold numd; rw [e4]; rfl
   rw [show ((X.po.sz.length + 1 : Nat) : Int) = ((X.os.length + 1 : Nat) : Int) by rw [e7]]
   refine Tri.tail (k57 (kd:=x.a.kd) rfl (iget_next X.os) H.u7.u8.u5.u3) L (fun e => e) fun v h B hq H L => ?_
   obtain ⟨rfl, rfl⟩:=hq
   refine ⟨_, ⟨szV, rfl, rfl⟩, ?_⟩
   rw [e8]
   exact (closeP (p:={ X.po with us:=X.po.us + m, n:=X.po.n + 1, szV:=szV, sz:=X.po.sz ++ [m] }) H.u4.u4).d3
theorem sp106 (H : St l h) : Tri h false l (fun w B => ∃ tb atb, w = .ptr tb 0 ∧ B = [Mid.row tb [.nilSlice, .map atb], dict atb []]) (M 106 [] h):=by
 refine t0 e106 fun L => ?_
 unfold B106
 refine Tri.bldS rfl ?_
 have H2:=H.new (A:=dict h.n []) (o:=.map []) (up_eq _ _ _)
 have L2 : Lo false h (h.new (.map [])):=⟨Nat.le_trans L.n (Nat.le_succ _), fun e => nomatch e⟩
 refine Tri.newS H2 L2 fun b h' hb H L => ?_
 exact Tri.done (B:=[Mid.row b _, dict _ []]) ⟨b, _, rfl, rfl⟩ H L
theorem ands_snoc {A : Asn} {L : List Asn} (H : St (A :: ands L :: l) h) : St (ands (L ++ [A]) :: l) h:=by
 have H1 : St (L ++ (A :: l)) h:=by
  have:=(H.u1).app
  exact this
 exact St.pack (l:=L ++ [A]) (by rw [List.append_assoc]; exact H1)
theorem allL_snoc (os : List IO) (x : IO) : allL (os ++ [x]) = allL os ++ [(((os.length + 1 : Nat) : Int), .ptr x.ob 0)]:=by
 unfold allL; rw [List.zipIdx_append, List.map_append]; simp
theorem szs_snoc (l : List AO) (a : AO) : szs (l ++ [a]) = szs l ++ [(a.sz : Int)]:=by
 unfold szs; rw [List.map_append]; rfl
theorem txL_snoc (l : List AO) (a : AO) (h : a.kd ≠ 4) : txL (l ++ [a]) = txL l:=by
 unfold txL; rw [List.zipIdx_append, List.filter_append, List.map_append]; simp [h]
def newT (n : Int) (ob tb atb : Nat) : IO:=⟨⟨5, n, ⟨0, 0⟩, [], (0, 0), 0, (0, 0)⟩, ob, tb, .nilSlice, atb⟩
theorem sp38 (hr : used X.as + 2 ≤ X.max) (hu : 0 ≤ used X.as) (hmx : X.max ≤ 1073741824) (hlen : X.os.length < 65536) (hmd : 0 ≤ X.made ∧ X.made ≤ 1000000) (H : St (HK X :: l) h) :
 Tri h false l (fun w B => ∃ szV ob tb atb, w = .tuple [vlV (5, ((X.os.length + 1 : Nat) : Int)), .int .i64 0] ∧ B = [HK { X with made:=X.made + 1, szV:=szV, os:=X.os ++ [newT (X.made + 1) ob tb atb] }]) (M 38 [.ptr X.hb 0] h):=by
 refine t1 e38 fun L => ?_
 unfold B38
 refine nw1 H L fun b0 h hb0 H L => ?_
 refine tbe1 (sp102 H) L fun h H L => ?_
 refine Tri.not ?_
 apply nF
 refine Mid.tb (sp106 H) L fun v h B hq4 H L => ?_
 obtain ⟨tb, atb, rfl, rfl⟩:=hq4
 refine Tri.bldS rfl ?_
 refine nw H L fun b21 h hb21 H L => ?_
 refine tb0 (sp104 (x:=newT 0 b21 tb atb) (m:=2) (by decide) hr hu hmx hlen (.inl rfl) hmd H.u3) L fun v h B hq H L => ?_
 obtain ⟨szV, rfl, rfl⟩:=hq
 refine Tri.ext rfl ?_
 refine Tri.ext rfl ?_
 refine wl0 9 H rfl rfl rfl L (by first|rfl|assumption) fun h H L => ?_
 have H1:=(((H.vc_new true 126 4).out 9).u1).out 9
 have H2 : St (TK (newT (X.made + 1) b21 tb atb) :: _) _:=closeT (x:=newT (X.made + 1) b21 tb atb) H1
 have H3:=(H2.out 3)
 have H4 : St ((newT (X.made + 1) b21 tb atb).A :: _) _:=St.pack (l:=[Mid.row b21 (newT (X.made + 1) b21 tb atb).row, TK (newT (X.made + 1) b21 tb atb)]) H3
 have H5:=ands_snoc (H4.out 6).u1
 have H6:=(((openP (H5.out 3)).u3).out 3).ins 6
 have e1:=allL_snoc X.os (newT (X.made + 1) b21 tb atb)
 have e2:=szs_snoc X.as (newT (X.made + 1) b21 tb atb).a
 have e3:=txL_snoc X.as (newT (X.made + 1) b21 tb atb).a (show (5 : Int) ≠ 4 by decide)
 have a1 : HI.as { X with made:=X.made + 1, szV:=szV, os:=X.os ++ [newT (X.made + 1) b21 tb atb] } = X.as ++ [(newT (X.made + 1) b21 tb atb).a]:=by unfold HI.as; simp
 have a2 : used (X.as ++ [(newT (X.made + 1) b21 tb atb).a]) = used X.as + 2:=by unfold used; rw [e2, List.sum_append]; rfl
 have a3 : HI.prow { X with made := X.made + 1, szV := szV, os := X.os ++ [newT (X.made + 1) b21 tb atb] } = [.bool true, .int .i64 X.max, .int .i64 (used X.as + 2), .int .i64 ((X.os.length : Nat) + 1), szV, .nilSlice] := by
  unfold HI.prow; rw [a1, a2]; simp
 have e9 : ((newT (X.made + 1) b21 tb atb).a.sz : Int) = 2:=rfl
 rw [e9] at e2
 have a4 : List.map IO.A (HI.os { X with made:=X.made + 1, szV:=szV, os:=X.os ++ [newT (X.made + 1) b21 tb atb] }) = X.os.map IO.A ++ [(newT (X.made + 1) b21 tb atb).A]:=List.map_append
 have H7:=closeH (l:=Mid.row b0 [.int .u8 5, .int .i64 ((X.os.length + 1 : Nat) : Int)] :: l) (X:={ X with made:=X.made + 1, szV:=szV, os:=X.os ++ [newT (X.made + 1) b21 tb atb] }) (by rw [a1, a3, a4, e1, e2, e3]; exact H6)
 exact Tri.done (B:=[HK _]) ⟨szV, b21, tb, atb, rfl, rfl⟩ H7.x1 L
def tget (s : Bs) : List AO → Nat → Option Int
 | [], _ => none
 | a :: l, i => if a.kd = 4 ∧ s.eq a.tx = true then some ((i + 1 : Nat) : Int) else tget s l (i + 1)
def txI (l : List AO) (i : Nat) : List (V × V):=((l.zipIdx i).filter fun x => x.1.kd == 4).map fun x => (.str x.1.tx, .int .i64 ((x.2 + 1 : Nat) : Int))
theorem txI_cons (a : AO) (l : List AO) (i : Nat) : txI (a :: l) i = (if a.kd = 4 then [(V.str a.tx, V.int .i64 ((i + 1 : Nat) : Int))] else []) ++ txI l (i + 1):=by
 unfold txI; rw [List.zipIdx_cons]
 by_cases e : a.kd = 4 <;> simp [e]
theorem mapGet_tx (s : Bs) : ∀ (l : List AO) (i : Nat), mapGet (.str s) (txI l i) = some ((tget s l i).map (.int .i64))
 | [], _ => rfl
 | a :: l, i => by
  rw [txI_cons]; unfold tget
  by_cases e : a.kd = 4
  ·rw [if_pos e]
   show (bif s.eq a.tx then some (some (V.int .i64 ((i + 1 : Nat) : Int))) else mapGet (.str s) (txI l (i + 1))) = _
   rw [mapGet_tx s l (i + 1)]
   cases e2 : s.eq a.tx with
   | true => rw [if_pos ⟨e, rfl⟩]; rfl
   | false => rw [if_neg (fun c => Bool.noConfusion c.2)]; rfl
  ·rw [if_neg e, if_neg (fun c => e c.1)]; exact mapGet_tx s l (i + 1)
theorem mapSet_tx (s : Bs) (v : V) : ∀ (l : List AO) (i : Nat), tget s l i = none → mapSet (.str s) v (txI l i) = txI l i ++ [(.str s, v)]
 | [], _, _ => rfl
 | a :: l, i, h => by
  unfold tget at h
  rw [txI_cons]
  by_cases e : a.kd = 4
  ·rw [if_pos e]
   show (bif s.eq a.tx then _ else (V.str a.tx, V.int .i64 ((i + 1 : Nat) : Int)) :: mapSet (.str s) v (txI l (i + 1))) = _
   cases e2 : s.eq a.tx with
   | true => rw [if_pos ⟨e, e2⟩] at h; cases h
   | false => rw [if_neg (fun c => by rw [e2] at c; exact Bool.noConfusion c.2)] at h; rw [mapSet_tx s v l (i + 1) h]; rfl
  ·rw [if_neg (fun c => e c.1)] at h; rw [if_neg e]; exact mapSet_tx s v l (i + 1) h
theorem txL_txt (l : List AO) (a : AO) (h : a.kd = 4) : txL (l ++ [a]) = txL l ++ [(.str a.tx, .int .i64 ((l.length + 1 : Nat) : Int))]:=by
 unfold txL; rw [List.zipIdx_append, List.filter_append, List.map_append]; simp [h]
def newX (s : Bs) (ob : Nat) : IO:=⟨⟨4, 0, s, [], (0, 0), 0, (0, 0)⟩, ob, 0, .nilSlice, 0⟩
def newFn (n p : Int) (ob : Nat) : IO:=⟨⟨6, n, ⟨0, 0⟩, [], (0, 0), p, (0, 0)⟩, ob, 0, .nilSlice, 0⟩
theorem Tri.quoN {m n : Int} {k : V → VH} (hn : n ≠ 0) (h1 : -9223372036854775808 ≤ m.tdiv n) (h2 : m.tdiv n ≤ 9223372036854775807) (hk : Tri h0 ro F Q (k (.int .i64 (m.tdiv n)))) : Tri h0 ro F Q (intS .quo (.int .i64 m) (.int .i64 n) k):=by rw [intS_at, int_quo _ _ _ hn, i64_of h1 h2]; exact hk
theorem k33 {b0 b1 : Nat} {p : Vl} {z1 z2 e : V} (H : St (Mid.row b0 [z1, z2] :: Mid.row b1 (vlC p) :: l) h) : Tri h false l (fun w B => w = .tuple [vlV p, e] ∧ B = []) (M 33 [.ptr b0 0, .ptr b1 0, e] h):=by
 refine t3 e33 fun L => ?_
 unfold B33
 refine ls 1 H rfl rfl ?_
 refine wl0 0 H rfl rfl rfl L (by first|rfl|assumption) fun h H L => ?_
 exact Tri.done (B:=[]) ⟨rfl, rfl⟩ H.tl.tl L
theorem closeNew {x : IO} {m : Nat} {md : Int} {szV : V} (hk : x.a.kd ≠ 5) (hm : x.a.sz = m) (H : St (Mid.row X.hb (HI.row { X with made := md }) :: dict X.allb (ies (allL X.os ++ [(((X.os.length + 1 : Nat) : Int), .ptr x.ob 0)])) :: Mid.row x.ob x.row ::
 PK { X.po with us:=X.po.us + m, n:=X.po.n + 1, szV:=szV, sz:=X.po.sz ++ [(m : Int)] } :: dict X.txb (txL (X.as ++ [x.a])) :: dict X.ntb [] :: ands (X.os.map IO.A) :: l) h) : St (HK { X with made:=md, szV:=szV, os:=X.os ++ [x] } :: l) h:=by
 have eA : x.A = ands [Mid.row x.ob x.row]:=by unfold IO.A; rw [if_neg hk]
 have H4:=St.pack (l:=[Mid.row x.ob x.row]) (H.out 2)
 rw [← eA] at H4
 have H5:=ands_snoc (H4.out 6).u1
 have H6:=(((openP (H5.out 3)).u3).out 3).ins 6
 have e1:=allL_snoc X.os x
 have e2:=szs_snoc X.as x.a
 have a1 : HI.as { X with made:=md, szV:=szV, os:=X.os ++ [x] } = X.as ++ [x.a]:=by unfold HI.as; simp
 have a2 : used (X.as ++ [x.a]) = used X.as + m:=by unfold used; rw [e2, List.sum_append, hm]; simp
 have a3 : HI.prow { X with made := md, szV := szV, os := X.os ++ [x] } = [.bool true, .int .i64 X.max, .int .i64 (used X.as + m), .int .i64 ((X.os.length : Nat) + 1), szV, .nilSlice] := by
  unfold HI.prow; rw [a1, a2]; simp
 rw [hm] at e2
 have a4 : List.map IO.A (HI.os { X with made:=md, szV:=szV, os:=X.os ++ [x] }) = X.os.map IO.A ++ [x.A]:=List.map_append
 exact closeH (X:={ X with made:=md, szV:=szV, os:=X.os ++ [x] }) (by rw [a1, a3, a4, e1, e2]; exact H6)
theorem str_new {s : Bs} (hs : s.n ≤ 65535) (ht : tget s X.as 0 = none) (hr : used X.as + (1 + s.n / 16 : Nat) ≤ X.max) (hu : 0 ≤ used X.as) (hmx : X.max ≤ 1073741824) (hlen : X.os.length < 65536) (hmd : 0 ≤ X.made ∧ X.made ≤ 1000000) (H : St (HK X :: l) h) :
 Tri h false l (fun w B => ∃ szV ob, w = .tuple [vlV (4, ((X.os.length + 1 : Nat) : Int)), .int .i64 0] ∧ B = [HK { X with szV:=szV, os:=X.os ++ [newX s ob] }]) (M 44 [.ptr X.hb 0, .str s] h):=by
 refine t2 e44 fun L => ?_
 unfold B44
 refine nw1 H L fun b0 h hb0 H L => ?_
 refine tbe1 (sp102 H) L fun h H L => ?_
 refine Tri.not ?_
 apply nF
 refine Tri.eqv (bind_lenStr _ _) ?_
 refine Tri.lenStr ?_
 apply bS
 refine Tri.gtr (fun e => by omega) (fun _ => ?_)
 replace H:=openH H
 apply nF
 refine nal 0 H rfl rfl ?_
 have hg : mapGet (.str s) (txL X.as) = some none:=by
  have:=mapGet_tx s X.as 0; rw [ht] at this; exact this
 refine Tri.lookN 4 H rfl rfl hg ?_
 refine Tri.ext rfl ?_
 refine Tri.ext rfl ?_
 apply nF
 refine Tri.bldS rfl ?_
 refine nw H L fun b44 h hb44 H L => ?_
 refine Tri.eqv (bind_lenStr _ _) ?_
 refine Tri.lenStr ?_
 apply bS
 have ed : ((s.n : Nat) : Int).tdiv 16 = ((s.n / 16 : Nat) : Int):=rfl
 refine Tri.quoN (by decide) (by rw [ed]; omega) (by rw [ed]; omega) ?_
 rw [ed]
 refine Tri.addN (by omega) (by omega) ?_
 rw [show (1 : Int) + ((s.n / 16 : Nat) : Int) = ((1 + s.n / 16 : Nat) : Int) by omega]
 have H1 : St (HK X :: Mid.row b44 (newX s b44).row :: Mid.row b0 [V.int IntKind.u8 0, V.int IntKind.i64 0] :: l) h:=closeH (X:=X) (H.ins 7)
 refine tb0 (sp104 (x:=newX s b44) (by omega) hr hu hmx hlen (.inr (.inr rfl)) hmd H1) L fun v h B hq H L => ?_
 obtain ⟨szV, rfl, rfl⟩:=hq
 refine Tri.ext rfl ?_
 refine Tri.ext rfl ?_
 refine nw H L fun b52 h hb52 H L => ?_
 refine w0 0 H rfl rfl rfl L (by first|rfl|assumption) fun h H L => ?_
 refine eTi (by decide) ?_
 refine nal 1 H rfl rfl ?_
 refine al 0 H rfl rfl ?_
 have hg2 : mapGet (.str s) (txL X.as) = some none:=hg
 refine Tri.upd 5 H rfl rfl hg2 L (fun e => nomatch e) fun h H L => ?_
 rw [show mapSet (.str s) (V.int .i64 ((X.os.length + 1 : Nat) : Int)) (txL X.as) = txL X.as ++ [(.str s, .int .i64 ((X.os.length + 1 : Nat) : Int))] from mapSet_tx s _ X.as 0 ht] at H
 have H2:=(H.out 8).ins 1
 refine Tri.tail (k33 (p:=(4, ((X.os.length + 1 : Nat) : Int))) (H2.u1)) L (fun e => e) fun v h B hq H L => ?_
 obtain ⟨rfl, rfl⟩:=hq
 have et:=txL_txt X.as (newX s b44).a rfl
 rw [show X.as.length = X.os.length by unfold HI.as; simp] at et
 rw [show [(V.str s, V.int .i64 ((X.os.length + 1 : Nat) : Int))] = [(V.str (newX s b44).a.tx, V.int .i64 ((X.os.length + 1 : Nat) : Int))] from rfl, ← et] at H
 exact ⟨_, ⟨szV, b44, rfl, rfl⟩, closeNew (x:=newX s b44) (m:=1 + s.n / 16) (show (4 : Int) ≠ 5 by decide) rfl H⟩
end
end Go.MS
end
