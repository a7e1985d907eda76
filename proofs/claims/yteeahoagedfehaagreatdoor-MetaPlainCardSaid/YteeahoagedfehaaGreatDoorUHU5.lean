/- A part of the proof. -/
import Derived.Test.YteeahoagedfehaaGreatDoorUHU3
set_option linter.all false
set_option warn.classDefReducibility false
noncomputable section
section
open Go Go.Mid Go.Proofs
set_option maxRecDepth 100000
namespace Go.MS
section
variable {l F : List Asn} {h h0 : Hp} {ro : Bool} {Q : V → List Asn → Prop} {k : V → VH} {K : V → Hp → VH} {v lV : V} {X X' : HI} {Y Y' : DI} {Z Z' : BI} {i j : Nat} {nm : Bool}
theorem JI.add {m : Nat} {x : AO} {y : DO} {s : Shp} {v : V} (J : JI nm X Y Z i m) (hi : i < 28) (hs : shapes[i]? = some s) (hX : X'.as = X.as ++ [x]) (hXm : X'.max = X.max) (hXh : X'.hb = X.hb) (hmx : X.made ≤ X'.made ∧ X'.made ≤ X.made + 1)
 (hY : Y'.os = Y.os ++ [y]) (hYm : Y'.max = Y.max) (hYh : Y'.hb = Y.hb) (hmy : Y.made ≤ Y'.made ∧ Y'.made ≤ Y.made + 1) (hyn : y.n = ((Y.os.length + 1 : Nat) : Int)) (h1 : shp x = s) (h2 : shp y.a = s) (px : x.pl = []) (py : y.a.pl = []) (pm : x.me = (0, 0)) :
 JI nm X' Y' (Z.add v (s.1, ((i + 1 : Nat) : Int))) (i + 1) m:=by
 have jx:=J.hx
 have jy:=J.hy
 refine ⟨?_, ?_, by rw [hXm]; exact J.mx, by rw [hYm]; exact J.my, by omega, by omega, fun j z hz => ?_, ?_, by rw [hXh]; exact J.zh, by rw [hYh]; exact J.zd, fun hn a ha => ?_⟩
 ·rw [hX]; exact J.gx.add (by rw [h1]; exact hs) px
 ·have e : Y'.as = Y.as ++ [y.a] := by unfold DI.as; rw [hY, List.map_append]; rfl
  rw [e]; exact J.gy.add (by rw [h2]; exact hs) py
 ·rw [hY] at hz
  rw [List.getElem?_append] at hz
  split at hz
  ·exact J.nd j z hz
  ·rename_i hj
   have : j - Y.os.length = 0:=by
    rcases Nat.eq_zero_or_pos (j - Y.os.length) with h | h
    ·exact h
    ·rw [List.getElem?_eq_none (by show 1 ≤ _; omega)] at hz; cases hz
   rw [this] at hz
   cases hz
   rw [hyn]; congr 1; omega
 ·show Z.ls ++ [_] = _
  rw [J.ls, vals_succ hi hs]
 ·rw [hX] at ha
  rcases List.mem_append.1 ha with h | h
  ·exact J.me hn a h
  ·rw [List.mem_singleton] at h; subst h; exact pm
theorem JI.lx {m : Nat} (J : JI nm X Y Z i m) (hi : i ≤ 28) : X.os.length = i:=by
 have:=J.gx.len hi; unfold HI.as at this; rw [List.length_map] at this; exact this
theorem JI.ly {m : Nat} (J : JI nm X Y Z i m) (hi : i ≤ 28) : Y.os.length = i:=by
 have:=J.gy.len hi; unfold DI.as at this; rw [List.length_map] at this; exact this
theorem JI.room {m : Nat} (J : JI nm X Y Z i m) (hi : i ≤ 28) (hm : m ≤ 100) : Room X:=J.gx.room hi hm J.mx ⟨J.hx.1, by have:=J.hx.2; omega⟩
theorem JI.roomD {m : Nat} (J : JI nm X Y Z i m) (hi : i ≤ 28) (hm : m ≤ 100) : RoomD Y:=J.gy.roomD J.nd hi hm J.my ⟨J.hy.1, by have:=J.hy.2; omega⟩
theorem JI.noTx {m t : Nat} (J : JI nm X Y Z (4 + t) m) (ht : t < 23) : noTx Y (allS.getD t ⟨0, 0⟩) := fun x hx h4 => by
 have h1 : shp x.a ∈ shapes.take (4 + t):=by rw [← J.gy.sh]; exact List.mem_map_of_mem (List.mem_map_of_mem hx)
 exact (freshB_at (fresh_at ht) h1 h4).2
theorem JI.tg {m t : Nat} (J : JI nm X Y Z (4 + t) m) (ht : t < 23) : tget (allS.getD t ⟨0, 0⟩) X.as 0 = none:=by
 rw [tget_shp, J.gx.sh]; exact tgS_none (fresh_at ht)
theorem short_at {t : Nat} (ht : t < 23) : (allS.getD t ⟨0, 0⟩).n ≤ 10:=by
 have hl : allS.length = 23:=rfl
 have hx : allS[t]? = some allS[t]:=List.getElem?_eq_getElem (by omega)
 rw [List.getD_eq_getElem?_getD, hx]
 exact Nat.le_of_ble_eq_true (List.all_eq_true.1 all_short _ (List.getElem_mem _))
theorem allS_at {t : Nat} (ht : t < 23) : (allS.map V.str)[t]? = some (.str (allS.getD t ⟨0, 0⟩)):=by
 have hl : allS.length = 23:=rfl
 have hx : allS[t]? = some allS[t]:=List.getElem?_eq_getElem (by omega)
 rw [List.getElem?_map, hx, List.getD_eq_getElem?_getD, hx]; rfl
theorem loop11 {S : Mem} {ms : List Int} {ss : List T3} {mV sV rV nv : V} {g : Bool} {b0 : Nat} (hnm : nm = true → ms = []) (hms : FSl 1 (IntAt S) mV ms) (hs : FSl 3 (SetAt S) sV ss) (n : Nat) : ∀ {j : Nat} {X : HI} {Y : DI} {Z : BI} {h : Hp} {l : List Asn} (J : JI nm X Y Z (4 + j) 0) (hj : j ≤ 23) (hn : 23 - j ≤ n)
 (H : St (HK X :: DK Y :: BK Z :: Mid.row b0 [mV, sV, rV] :: frz S :: vc g nv 9 1 (allS.map V.str) :: l) h), Tri h false l (rMade nm) (M 11 [.ptr b0 0, .ptr X.hb 0, .ptr Y.hb 0, .ptr Z.bp 0, .func 18 [] [.ptr Z.bp 0], nv, .int .i64 23, .int .i64 (j : Nat)] h):=by
 induction n with
 | zero =>
  intro j X Y Z h l J hj hn H
  have hjj : j = 23:=by omega
  subst hjj
  refine t8 e11 fun L => ?_
  unfold B11
  have lx:=J.lx (by omega)
  have ly:=J.ly (by omega)
  have R:=J.room (by omega) (by omega)
  have RD:=J.roomD (by omega) (by omega)
  have rr:=R.r
  refine Tri.lss (fun e => absurd e (by decide)) (fun _ => ?_)
  apply nF
  refine Mid.tb (func_nil (p:=1) (by decide) (by omega) R.u R.mx (by omega) R.md H) L fun w h B hq H L => ?_
  obtain ⟨szV, ob, rfl, rfl⟩:=hq
  refine Tri.ext rfl ?_
  refine Tri.ext rfl ?_
  refine nw3 H L fun b2 h hb2 H L => ?_
  refine w0 3 H rfl rfl rfl L (by first|rfl|assumption) fun h H L => ?_
  refine Mid.tb (f50 (p:=1) (by decide) RD H.u1) L fun w h B hq H L => ?_
  obtain ⟨lV, ob2, cv, rfl, rfl⟩:=hq
  refine Tri.ext rfl ?_
  refine Tri.ext rfl ?_
  refine nw3 H L fun b22 h hb22 H L => ?_
  refine w0 3 H rfl rfl rfl L (by first|rfl|assumption) fun h H L => ?_
  refine ls 4 H rfl rfl ?_
  refine ls 3 H rfl rfl ?_
  refine Tri.eqv (congrArg (fun x => bindS x _) (dyn_at _ _ _ _ _ _)) ?_
  rw [lx, ly]
  have hlz : Z.ls.length = 34:=by rw [J.ls]; exact vals_len (i:=27) (by omega)
  refine Mid.tb (f36 (Z:=Z) (v:=(6, ((4 + 23 + 1 : Nat) : Int))) (by omega) (H.out 2)) L fun w h B hq H L => ?_
  obtain ⟨lV2, rfl, rfl⟩:=hq
  refine Tri.not ?_
  apply nF
  have J2:=J.add (X':={ X with made:=X.made + 1, szV:=szV, os:=X.os ++ [newFn (X.made + 1) 1 ob] }) (Y':={ Y with made:=Y.made + 1, lV:=lV, os:=Y.os ++ [newDF ((Y.os.length + 1 : Nat) : Int) (Y.made + 1) 1 ob2 cv] }) (x:=(newFn (X.made + 1) 1 ob).a) (v:=lV2) (by omega) (show shapes[27]? = some (6, ⟨0, 0⟩) from rfl) (by unfold HI.as; rw [List.map_append]; rfl) rfl rfl ⟨by show X.made ≤ X.made + 1; omega, Int.le_refl _⟩ rfl rfl rfl ⟨by show Y.made ≤ Y.made + 1; omega, Int.le_refl _⟩ rfl rfl rfl rfl rfl rfl
  have T:=loop13 hnm hms hs 4 (j:=0) J2 (by omega) (by omega) ((H.d2.d1.x3.x3.out 5).tl)
  exact Tri.tail T L (fun e => e) fun v h B hq H L => ⟨B, hq, H⟩
 | succ n ih =>
  intro j X Y Z h l J hj hn H
  by_cases hjj : j = 23
  ·exact ih J hj (by omega) H
  have hj23 : j < 23:=by omega
  refine t8 e11 fun L => ?_
  unfold B11
  have lx:=J.lx (by omega)
  have ly:=J.ly (by omega)
  have R:=J.room (by omega) (by omega)
  have RD:=J.roomD (by omega) (by omega)
  have rr:=R.r
  have hsn:=short_at hj23
  have ht:=J.tg hj23
  have hno:=J.noTx hj23
  have sh:=shp_txt hj23
  generalize hsv : allS.getD j ⟨0, 0⟩ = sv at hsn ht hno sh
  refine Tri.lss (fun e => ?_) (fun e => by omega)
  apply nT
  refine Tri.idxLd 5 H rfl (by omega) (allS_at hj23) ?_
  rw [Int.toNat_natCast, hsv]
  refine Mid.tb (str_new (s:=sv) (by omega) ht (by omega) R.u R.mx (by omega) R.md H) L fun w h B hq H L => ?_
  obtain ⟨szV, ob, rfl, rfl⟩:=hq
  refine Tri.ext rfl ?_
  refine Tri.ext rfl ?_
  refine nw3 H L fun b52 h hb52 H L => ?_
  refine w0 3 H rfl rfl rfl L (by first|rfl|assumption) fun h H L => ?_
  refine Mid.tb (f46 (s:=sv) RD (by omega) hno H.u1) L fun w h B hq H L => ?_
  obtain ⟨lV, ob2, rfl, rfl⟩:=hq
  refine Tri.ext rfl ?_
  refine Tri.ext rfl ?_
  refine nw3 H L fun b72 h hb72 H L => ?_
  refine w0 3 H rfl rfl rfl L (by first|rfl|assumption) fun h H L => ?_
  refine ls 4 H rfl rfl ?_
  refine ls 3 H rfl rfl ?_
  refine Tri.eqv (congrArg (fun x => bindS x _) (dyn_at _ _ _ _ _ _)) ?_
  rw [lx, ly]
  have hlz : Z.ls.length = 7 + (4 + j):=by rw [J.ls]; exact vals_len (by omega)
  refine Mid.tb (f36 (Z:=Z) (v:=(4, ((4 + j + 1 : Nat) : Int))) (by omega) (H.out 2)) L fun w h B hq H L => ?_
  obtain ⟨lV2, rfl, rfl⟩:=hq
  refine Tri.not ?_
  apply nF
  refine Tri.addN (by omega) (by omega) ?_
  have J2:=J.add (X':={ X with szV:=szV, os:=X.os ++ [newX sv ob] }) (Y':={ Y with lV:=lV, os:=Y.os ++ [newDX ((Y.os.length + 1 : Nat) : Int) sv ob2] }) (x:=(newX sv ob).a) (v:=lV2) (by omega) sh (by unfold HI.as; rw [List.map_append]; rfl) rfl rfl ⟨Int.le_refl _, by show X.made ≤ X.made + 1; omega⟩ rfl rfl rfl ⟨Int.le_refl _, by show Y.made ≤ Y.made + 1; omega⟩ rfl rfl rfl rfl rfl rfl
  have T:=ih (j:=j + 1) J2 (by omega) (by omega) (H.d2.d1.x3.x3)
  exact Tri.tail T L (fun e => e) fun v h B hq H L => ⟨B, hq, H⟩
theorem loop9 {S : Mem} {ms : List Int} {ss : List T3} {mV sV rV : V} {b0 : Nat} (hnm : nm = true → ms = []) (hms : FSl 1 (IntAt S) mV ms) (hs : FSl 3 (SetAt S) sV ss) (n : Nat) : ∀ {j : Nat} {X : HI} {Y : DI} {Z : BI} {h : Hp} {l : List Asn} (J : JI nm X Y Z j 0) (hj : j ≤ 4) (hn : 4 - j ≤ n)
 (H : St (HK X :: DK Y :: BK Z :: Mid.row b0 [mV, sV, rV] :: frz S :: l) h), Tri h false l (rMade nm) (M 9 [.ptr b0 0, .ptr X.hb 0, .ptr Y.hb 0, .ptr Z.bp 0, .func 18 [] [.ptr Z.bp 0], .int .i64 (j : Nat)] h):=by
 induction n with
 | zero =>
  intro j X Y Z h l J hj hn H
  have hjj : j = 4:=by omega
  subst hjj
  refine t6 e9 fun L => ?_
  unfold B9
  refine Tri.lss (fun e => absurd e (by decide)) (fun _ => ?_)
  apply nF
  refine tb0 (f42 H) L fun w h B hq H L => ?_
  obtain ⟨nb, rfl, rfl⟩:=hq
  refine Tri.bld (e:=_) (s:=_) H L rfl rfl fun b10 h hb10 H L => ?_
  refine Tri.app 1 22 1 H rfl (H.newCells (i:=0) rfl rfl) (by decide) rfl rfl (by decide) (by decide) rfl L (Own.off _ _) fun v' h H L O o1 => ?_
  replace H:=H.tl
  replace H : St (vc false v' 9 1 (allS.map V.str) :: HK X :: DK Y :: BK Z :: Mid.row b0 [mV, sV, rV] :: frz S :: l) h:=H
  apply bL
  refine Tri.lenV 0 23 H rfl (by decide) rfl ?_
  apply bS
  have H2:=H.ins 5
  have T:=loop11 hnm hms hs 23 (j:=0) J (by omega) (by omega) H2
  exact Tri.tail T L (fun e => e) fun v h B hq H L => ⟨B, hq, H⟩
 | succ n ih =>
  intro j X Y Z h l J hj hn H
  by_cases hjj : j = 4
  ·exact ih J hj (by omega) H
  have hj4 : j < 4:=by omega
  refine t6 e9 fun L => ?_
  unfold B9
  have lx:=J.lx (by omega)
  have ly:=J.ly (by omega)
  have R:=J.room (by omega) (by omega)
  have RD:=J.roomD (by omega) (by omega)
  have rr:=R.r
  have sh:=shp_tab hj4
  refine Tri.lss (fun e => ?_) (fun e => by omega)
  apply nT
  refine Mid.tb (sp38 (by omega) R.u R.mx (by omega) R.md H) L fun w h B hq H L => ?_
  obtain ⟨szV, ob, tb, atb, rfl, rfl⟩:=hq
  refine Tri.ext rfl ?_
  refine Tri.ext rfl ?_
  refine nw3 H L fun b52 h hb52 H L => ?_
  refine w0 3 H rfl rfl rfl L (by first|rfl|assumption) fun h H L => ?_
  refine Mid.tb (sp40 RD H.u1) L fun w h B hq H L => ?_
  obtain ⟨lV, ob2, tb2, rfl, rfl⟩:=hq
  refine Tri.ext rfl ?_
  refine Tri.ext rfl ?_
  refine nw3 H L fun b72 h hb72 H L => ?_
  refine w0 3 H rfl rfl rfl L (by first|rfl|assumption) fun h H L => ?_
  refine ls 4 H rfl rfl ?_
  refine ls 3 H rfl rfl ?_
  refine Tri.eqv (congrArg (fun x => bindS x _) (dyn_at _ _ _ _ _ _)) ?_
  rw [lx, ly]
  have hlz : Z.ls.length = 7 + j:=by rw [J.ls]; exact vals_len (by omega)
  refine Mid.tb (f36 (Z:=Z) (v:=(5, ((j + 1 : Nat) : Int))) (by omega) (H.out 2)) L fun w h B hq H L => ?_
  obtain ⟨lV2, rfl, rfl⟩:=hq
  refine Tri.not ?_
  apply nF
  refine Tri.addN (by omega) (by omega) ?_
  have J2:=J.add (X':={ X with made:=X.made + 1, szV:=szV, os:=X.os ++ [newT (X.made + 1) ob tb atb] }) (Y':={ Y with made:=Y.made + 1, lV:=lV, os:=Y.os ++ [newDT ((Y.os.length + 1 : Nat) : Int) (Y.made + 1) ob2 tb2] }) (x:=(newT (X.made + 1) ob tb atb).a) (v:=lV2) (by omega) sh (by unfold HI.as; rw [List.map_append]; rfl) rfl rfl ⟨by show X.made ≤ X.made + 1; omega, Int.le_refl _⟩ rfl rfl rfl ⟨by show Y.made ≤ Y.made + 1; omega, Int.le_refl _⟩ rfl rfl rfl rfl rfl rfl
  have T:=ih (j:=j + 1) J2 (by omega) (by omega) (H.d2.d1.x3.x3)
  exact Tri.tail T L (fun e => e) fun v h B hq H L => ⟨B, hq, H⟩
theorem f10 {S : Mem} {ms : List Int} {ss : List T3} {mV sV : V} {r : Int} (hnm : nm = true → ms = []) (hms : FSl 1 (IntAt S) mV ms) (hs : FSl 3 (SetAt S) sV ss) (H : St (frz S :: l) h) : Tri h false l (rMade nm) (M 10 [.agg [mV, sV, .int .i64 r]] h):=by
 refine t1 e10 fun L => ?_
 unfold B10
 refine nw H L fun b0 h hb0 H L => ?_
 refine Mid.tb (sp32 (m:=1048576) (by decide) (by decide) H) L fun w h B hq H L => ?_
 obtain ⟨hb, pb, allb, txb, ntb, rfl, rfl⟩:=hq
 refine Tri.ext rfl ?_
 refine Tri.ext rfl ?_
 refine Mid.tb (sp34 (by first|rfl|assumption|omega|(dsimp only;omega)) (by first|rfl|assumption|omega|(dsimp only;omega)) H) L fun v h B hq12 H L => ?_
 obtain ⟨db, rfl, rfl⟩:=hq12
 refine Tri.ext rfl ?_
 refine Tri.ext rfl ?_
 refine Tri.neq (fun e => absurd e (by decide)) (fun _ => ?_)
 apply nF
 refine Tri.bldS rfl ?_
 refine nw2 H L fun b18 h hb18 H L => ?_
 refine nw2 H L fun b19 h hb19 H L => ?_
 refine sto 2 H rfl rfl L (by first|rfl|assumption) fun h H L => ?_
 refine lo 2 H rfl rfl ?_
 refine Tri.bldS rfl ?_
 refine Tri.bldS rfl ?_
 refine Tri.bldS rfl ?_
 refine Tri.bldS rfl ?_
 refine Tri.bldS rfl ?_
 refine Tri.bldS rfl ?_
 refine Tri.bldS rfl ?_
 refine Tri.bld (e:=_) (s:=_) H L rfl rfl fun b29 h hb29 H L => ?_
 replace H:=H.d2
 apply nl
 apply ad
 refine sto 4 H rfl rfl L (by first|rfl|assumption) fun h H L => ?_
 have H1:=closeZ (Z:=⟨b18, b19, hb, db, .slice b29 0 7 7 false, baseV⟩) (((H.out 2).out 3).out 4)
 have J0 : JI nm (newH hb pb allb txb ntb 1048576) (newD db 1048576) ⟨b18, b19, hb, db, .slice b29 0 7 7 false, baseV⟩ 0 0:=by
  refine ⟨⟨rfl, (fun a h => nomatch h), (fun a h => nomatch h), (fun a h => nomatch h), (fun a h => nomatch h)⟩, ⟨rfl, (fun a h => nomatch h), (fun a h => nomatch h), (fun a h => nomatch h), (fun a h => nomatch h)⟩, rfl, rfl, ⟨Int.le_refl _, Int.le_refl _⟩, ⟨Int.le_refl _, Int.le_refl _⟩, (fun j x h => nomatch h), rfl, rfl, rfl, (fun _ a h => nomatch h)⟩
 have T:=loop9 hnm hms hs 4 (j:=0) J0 (by omega) (by omega) H1.u2.u2.u1
 exact Tri.tail T L (fun e => e) fun v h B hq H L => ⟨B, hq, H⟩
end
end Go.MS
end
