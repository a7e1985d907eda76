/- A part of the proof. -/
import Derived.Test.YteeahoagedfehaaGreatDoorUHT3
set_option linter.all false
set_option warn.classDefReducibility false
noncomputable section
section
open Go Go.Mid Go.Proofs
set_option maxRecDepth 100000
namespace Go.MS
section
variable {l F : List Asn} {h h0 : Hp} {ro : Bool} {Q : V → List Asn → Prop} {k : V → VH} {K : V → Hp → VH} {v lV : V} {X X' : DI} {x y : DO} {i j : Nat} {pl : List Pl} {os : List DO}
structure KeepD (X : DI) (v : Vl) : Prop where
 k : v.1 ≤ 8
 p : plain v
 o : isOb v.1 → ∃ b, dfnd v X.os = .ptr b 0
theorem f134 {v : Vl} (hv : KeepD X v) (hlen : X.os.length ≤ 100000) (H : St (DK X :: l) h) : Tri h true l (rDK X (.bool true)) (M 134 [.ptr X.hb 0, vlV v] h):=by
 refine t2 e134 fun L => ?_
 unfold B134
 have h1:=hv.k
 have h2:=hv.p
 refine nw1 H L fun b0 h hb0 H L => ?_
 refine ls 1 H rfl rfl ?_
 refine tbe1 (sp188 (by first|rfl|assumption|omega|(dsimp only;omega)) (by first|rfl|assumption|omega|(dsimp only;omega)) H) L fun h H L => ?_
 apply gtt
 refine bn 1 H rfl rfl ?_
 apply Mid.bB
 refine tbe1 (sp190 H) L fun h H L => ?_
 refine Tri.eqv (bind_notS _ _) ?_
 refine Tri.not ?_
 apply bS
 by_cases ho : isOb v.1
 ·rw [show decide (isOb v.1) = true from decide_eq_true ho]
  obtain ⟨b, hb⟩:=hv.o ho
  apply gff
  refine bn 1 H rfl rfl ?_
  apply Mid.bB
  refine tbe1 (sp118 (by first|rfl|assumption|omega|(dsimp only;omega)) H) L fun h H L => ?_
  refine Tri.eqv (bind_eqS _ _) ?_
  rw [hb]
  refine Tri.neP ?_
  apply bS
  apply gtt
  apply bO
  apply pF
  apply bS
  apply pT
  exact dDK H.x1 L
 ·rw [show decide (isOb v.1) = false from decide_eq_false ho]
  apply gtf
  apply gtt
  apply bO
  apply pT
  apply bS
  apply pT
  exact dDK H.x1 L
theorem openDO (H : St (DK X :: l) h) (hj : X.os[j]? = some x) (hk : x.a.kd = 5) : St (DT x :: Mid.row x.ob x.row :: ands ((X.os.map DO.A).eraseIdx j) :: Mid.row X.hb X.row :: vc true X.lV 106 1 (pts X.os) :: l) h:=by
 have H1:=((openD H).u2).pull (i:=j) (A:=x.A) (by rw [List.getElem?_map, hj]; rfl)
 have e : x.A = ands [Mid.row x.ob x.row, DT x]:=by unfold DO.A; rw [if_pos hk]
 rw [e] at H1
 exact (H1.app : St (Mid.row x.ob x.row :: DT x :: _) h).u1
theorem pts_set (hj : os[j]? = some x) (hob : y.ob = x.ob) : pts (os.set j y) = pts os:=by
 unfold pts
 rw [List.map_set, hob]
 exact set_self (by rw [List.getElem?_map, hj]; rfl)
theorem closeDO (hj : X.os[j]? = some x) (hk : y.a.kd = 5) (hob : y.ob = x.ob)
 (H : St (DT y :: Mid.row y.ob y.row :: ands ((X.os.map DO.A).eraseIdx j) :: Mid.row X.hb X.row :: vc true X.lV 106 1 (pts X.os) :: l) h) : St (DK { X with os:=X.os.set j y } :: l) h:=by
 have H1:=St.pack (l:=[Mid.row y.ob y.row, DT y]) (H.u1)
 have e : y.A = ands [Mid.row y.ob y.row, DT y]:=by unfold DO.A; rw [if_pos hk]
 rw [← e] at H1
 have H2:=H1.push (A:=x.A) (by rw [List.getElem?_map, hj]; rfl)
 rw [← List.map_set, ← pts_set hj hob] at H2
 exact closeD (X:={ X with os:=X.os.set j y }) H2.d2
theorem closeDO0 (hj : X.os[j]? = some x) (hk : x.a.kd = 5)
 (H : St (DT x :: Mid.row x.ob x.row :: ands ((X.os.map DO.A).eraseIdx j) :: Mid.row X.hb X.row :: vc true X.lV 106 1 (pts X.os) :: l) h) : St (DK X :: l) h:=by
 have:=closeDO hj hk rfl H
 rw [set_self hj] at this
 exact this
def DI.upd (X : DI) (j : Nat) (y : DO) : DI:={ X with os:=X.os.set j y }
theorem f58 {t key w : Vl} (R : RoomD X) (hj : X.os[j]? = some x) (hkd : x.a.kd = 5) (ht : t.1 = 5) (hd : dfnd t X.os = .ptr x.ob 0) (hk1 : 1 ≤ key.1) (h2 : KeepD X key) (h3 : KeepD X w) (H : St (DK X :: l) h) :
 Tri h false l (fun r B => ∃ lV, r = .int .i64 0 ∧ B = [DK (X.upd j (x.wi lV (setP x.a.pl key w)))]) (M 58 [.ptr X.hb 0, vlV t, vlV key, vlV w] h):=by
 refine t4 e58 fun L => ?_
 unfold B58
 have hlen:=R.len
 have hlen2 : X.os.length ≤ 100000:=by omega
 have hpl:=(R.sm x (List.mem_of_getElem? hj)).1
 have hpl2 : x.a.pl.length ≤ 100000:=by omega
 have hk8:=h2.k
 have hkc : 1 ≤ key.1 ∧ key.1 ≤ 8:=⟨hk1, hk8⟩
 have hkp:=h2.p
 have hw8:=h3.k
 have hwp:=h3.p
 have hr:=R.r
 have hmx:=R.mx
 have hup:=used_pos X.as
 refine nw1 H L fun b0 h hb0 H L => ?_
 refine nw1 H L fun b1 h hb1 H L => ?_
 refine nw1 H L fun b2 h hb2 H L => ?_
 refine ls 3 H rfl rfl ?_
 refine tbe1 (sp120 (by first|rfl|assumption|omega|(dsimp only;omega)) (by first|rfl|assumption|omega|(dsimp only;omega)) H) L fun h H L => ?_
 rw [hd]
 refine Tri.eqP ?_
 apply nF
 refine ls 2 H rfl rfl ?_
 refine tbe1 (sp132 (by first|rfl|assumption|omega|(dsimp only;omega)) (by first|rfl|assumption|omega|(dsimp only;omega)) (by first|rfl|assumption|omega|(dsimp only;omega)) H) L fun h H L => ?_
 refine Tri.not ?_
 apply gff
 refine bn 2 H rfl rfl ?_
 apply Mid.bB
 refine tbe1 (f134 h2 hlen2 H) L fun h H L => ?_
 refine Tri.eqv (bind_notS _ _) ?_
 refine Tri.not ?_
 apply bS
 apply pF
 apply gff
 refine bn 1 H rfl rfl ?_
 apply Mid.bB
 refine tbe1 (f134 h3 hlen2 H) L fun h H L => ?_
 refine Tri.eqv (bind_notS _ _) ?_
 refine Tri.not ?_
 apply bS
 apply pF
 apply nF
 apply nl
 apply ad
 have hrow : x.row[4]? = some (.ptr x.tb 0):=by unfold DO.row; rw [if_pos hkd]; rfl
 refine Tri.loadC (w:=.ptr x.tb 0) (dobj_cell H (i:=0) rfl hj hrow) ?_
 replace H:=openDO H hj hkd
 refine ls 6 H rfl rfl ?_
 have Ho81:=H
 refine Tri.wrote (sp136 (by first|rfl|assumption|omega|(dsimp only;omega)) (H.draw _)) L (fun _ => rfl) fun v h2 h B hq81 H2 hn81 hl81 eh81 H L => ?_
 obtain ⟨rfl, rfl⟩:=hq81
 refine Tri.fld rfl ?_
 refine Tri.eql (fun e5 => ?_) (fun e5 => ?_)
 ·apply gtt
  apply ba
  apply bS
  apply gtt
  refine bl 5 H rfl rfl ?_
  apply bS
  apply gtt
  apply bI
  refine Tri.neq (fun e6 => ?_) (fun e6 => ?_)
  ·apply bS
   apply pT
   apply gtt
   apply bS
   refine Tri.eqv (guardB_tt _ _) ?_
   have Ho305:=H
   have Ho:=H
   replace H:=closeDO0 hj hkd H
   refine Tri.wrote (sp138 (by omega) R.sm (H.draw _)) L (fun _ => rfl) fun v h2 h B hq H2 hn hl eh H L => ?_
   obtain ⟨rfl, rfl⟩:=hq
   apply gtt
   apply bI
   refine Tri.addN (by omega) (by omega) ?_
   apply bS
   apply gtt
   apply bS
   apply gtt
   refine Tri.eqv (bind_nilS _ _) ?_
   apply nl
   apply bS
   apply gtt
   apply ba
   apply bS
   refine Tri.eqv (guardB_tt _ _) ?_
   refine lo 3 Ho rfl rfl ?_
   refine Tri.cd (by rw [show pureB _ _ = true from Nat.ble_eq_true_of_le (hl rfl)]; rfl) ?_
   apply gtt
   apply bI
   refine Tri.gtr (fun e => by omega) (fun _ => ?_)
   replace H:=openDO H hj hkd
   apply bS
   apply pT
   apply nF
   refine nal 1 H rfl rfl ?_
   refine ls 6 H rfl rfl ?_
   refine ls 5 H rfl rfl ?_
   rw [if_pos hkd]
   refine Mid.tb (sp140 (by first|rfl|assumption|omega|(dsimp only;omega)) (by first|rfl|assumption|omega|(dsimp only;omega)) (by first|rfl|assumption|omega|(dsimp only;omega)) (by first|rfl|assumption|omega|(dsimp only;omega)) (by first|rfl|assumption|omega|(dsimp only;omega)) H) L fun v h B hq360 H L => ?_
   obtain ⟨lV, rfl, rfl⟩:=hq360
   refine eT (by decide) ?_
   apply gtt
   refine Tri.eqv (bind_nilS _ _) ?_
   apply nl
   apply ba
   refine bl 3 H rfl rfl ?_
   apply bS
   apply pT
   apply nF
   refine Tri.call (x:=B21 M (.int .i64 0) h) (fun p => e21 _ h p) ?_
   unfold B21
   exact Tri.done (B:=[DK _]) ⟨lV, rfl, rfl⟩ (closeDO (y:=x.wi lV (setP x.a.pl key w)) hj hkd rfl H).x1.x1.x1 L
  ·apply bS
   apply pT
   apply gft
   refine Tri.eqv (guardB_ft _ _) ?_
   apply gft
   apply gft
   apply gft
   apply gft
   apply gft
   apply gft
   apply pF
   apply nF
   refine nal 1 H rfl rfl ?_
   refine ls 6 H rfl rfl ?_
   refine ls 5 H rfl rfl ?_
   rw [if_pos hkd]
   refine Mid.tb (sp140 (by first|rfl|assumption|omega|(dsimp only;omega)) (by first|rfl|assumption|omega|(dsimp only;omega)) (by first|rfl|assumption|omega|(dsimp only;omega)) (by first|rfl|assumption|omega|(dsimp only;omega)) (by first|rfl|assumption|omega|(dsimp only;omega)) H) L fun v h B hq450 H L => ?_
   obtain ⟨lV, rfl, rfl⟩:=hq450
   refine eT (by decide) ?_
   apply gtt
   refine Tri.eqv (bind_nilS _ _) ?_
   apply nl
   apply ba
   refine bl 3 H rfl rfl ?_
   apply bS
   apply pT
   apply nF
   refine Tri.call (x:=B21 M (.int .i64 0) h) (fun p => e21 _ h p) ?_
   unfold B21
   exact Tri.done (B:=[DK _]) ⟨lV, rfl, rfl⟩ (closeDO (y:=x.wi lV (setP x.a.pl key w)) hj hkd rfl H).x1.x1.x1 L
 ·apply gft
  apply gft
  apply gft
  apply pF
  apply gft
  refine Tri.eqv (guardB_ft _ _) ?_
  apply gft
  apply gft
  apply gft
  apply gft
  apply gft
  apply gft
  apply pF
  apply nF
  refine nal 1 H rfl rfl ?_
  refine ls 6 H rfl rfl ?_
  refine ls 5 H rfl rfl ?_
  rw [if_pos hkd]
  refine Mid.tb (sp140 (by first|rfl|assumption|omega|(dsimp only;omega)) (by first|rfl|assumption|omega|(dsimp only;omega)) (by first|rfl|assumption|omega|(dsimp only;omega)) (by first|rfl|assumption|omega|(dsimp only;omega)) (by first|rfl|assumption|omega|(dsimp only;omega)) H) L fun v h B hq550 H L => ?_
  obtain ⟨lV, rfl, rfl⟩:=hq550
  refine eT (by decide) ?_
  apply gtt
  refine Tri.eqv (bind_nilS _ _) ?_
  apply nl
  apply ba
  refine bl 3 H rfl rfl ?_
  apply bS
  apply pT
  apply nF
  refine Tri.call (x:=B21 M (.int .i64 0) h) (fun p => e21 _ h p) ?_
  unfold B21
  exact Tri.done (B:=[DK _]) ⟨lV, rfl, rfl⟩ (closeDO (y:=x.wi lV (setP x.a.pl key w)) hj hkd rfl H).x1.x1.x1 L
def DO.mt (x : DO) (m : Vl) : DO:={ x with a:={ x.a with me:=m } }
theorem f54 {t m : Vl} (R : RoomD X) (hj : X.os[j]? = some x) (hkd : x.a.kd = 5) (ht : t.1 = 5) (hd : dfnd t X.os = .ptr x.ob 0) (hm : m.1 = 5) (hm2 : ∃ b, dfnd m X.os = .ptr b 0) (H : St (DK X :: l) h) :
 Tri h false l (rDK (X.upd j (x.mt m)) (.int .i64 0)) (M 54 [.ptr X.hb 0, vlV t, vlV m] h):=by
 refine t3 e54 fun L => ?_
 unfold B54
 have hlen:=R.len
 have hlen2 : X.os.length ≤ 100000:=by omega
 obtain ⟨bm, hbm⟩:=hm2
 refine nw1 H L fun b0 h hb0 H L => ?_
 refine nw1 H L fun b1 h hb1 H L => ?_
 refine ls 2 H rfl rfl ?_
 refine tbe1 (sp120 (by first|rfl|assumption|omega|(dsimp only;omega)) (by first|rfl|assumption|omega|(dsimp only;omega)) H) L fun h H L => ?_
 rw [hd]
 refine Tri.eqP ?_
 apply nF
 refine ls 1 H rfl rfl ?_
 refine Tri.bldS rfl ?_
 refine Tri.vlNe (n:=m) (m:=(0, 0)) (fun e => ?_) (fun e => by rw [e] at hm; exact absurd hm (by decide))
 apply gtt
 refine bn 1 H rfl rfl ?_
 apply Mid.bB
 refine tbe1 (sp120 (by first|rfl|assumption|omega|(dsimp only;omega)) (by first|rfl|assumption|omega|(dsimp only;omega)) H) L fun h H L => ?_
 refine Tri.eqv (bind_eqS _ _) ?_
 rw [hbm]
 refine Tri.eqP ?_
 apply bS
 apply pT
 apply nF
 refine ls 1 H rfl rfl ?_
 apply nl
 apply ad
 replace H:=openDO H hj hkd
 refine w0 1 H rfl rfl rfl L (by first|rfl|assumption) fun h H L => ?_
 refine nal 3 H rfl rfl ?_
 apply nF
 refine Tri.call (x:=B25 M h) (fun p => e25 h p) ?_
 unfold B25
 exact Tri.done (B:=[DK _]) ⟨rfl, rfl⟩ (closeDO (y:=x.mt m) hj hkd rfl H).x1.x1 L
end
end Go.MS
end
