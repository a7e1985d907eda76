/- A part of the proof. -/
import Derived.Test.YteeahoagedfehaaGreatDoorUHT0
set_option linter.all false
set_option warn.classDefReducibility false
noncomputable section
section
open Go Go.Mid Go.Proofs
set_option maxRecDepth 100000
namespace Go.MS
section
variable {l F : List Asn} {h h0 : Hp} {ro : Bool} {Q : V → List Asn → Prop} {k : V → VH} {K : V → Hp → VH} {v lV : V} {X X' : DI} {x y : DO} {i j : Nat} {pl : List Pl} {os : List DO}
def DI.as (X : DI) : List AO:=X.os.map DO.a
def smA (a : AO) : Prop:=a.pl.length ≤ 60000 ∧ a.tx.n ≤ 65535
theorem sz_le {a : AO} (h : smA a) : a.sz ≤ 120002:=by
 have h1 : live a.pl ≤ a.pl.length:=live_le a.pl
 have:=h.1
 have:=h.2
 unfold AO.sz
 repeat' split
 all_goals omega
theorem cell_len (c : Option (Nat × Nat × Nat × Bool)) {k : V → VH} (hk : Tri h0 ro F Q (k (.int .i64 0))) : Tri h0 ro F Q (Mid.lenSl (cellV c) k):=by
 cases c with
 | none => exact hk
 | some p => exact hk
def rA (x : DO) (v : V) : V → List Asn → Prop:=fun w B => w = v ∧ B = [x.A]
theorem sp168 (hs : smA x.a) (H : St (x.A :: l) h) : Tri h true l (rA x (.int .i64 (x.a.sz : Nat))) (M 168 [.ptr x.ob 0] h):=by
 refine t1 e168 fun L => ?_
 unfold B168
 have hl:=live_le x.a.pl
 have h1:=hs.1
 have h2:=hs.2
 by_cases h5 : x.a.kd = 5
 ·have e : x.A = ands [Mid.row x.ob x.row, DT x] := by unfold DO.A; rw [if_pos h5]
  rw [e] at H
  replace H : St (Mid.row x.ob x.row :: DT x :: l) h:=H.app
  have er : x.row[4]? = some (.ptr x.tb 0):=by unfold DO.row; rw [if_pos h5]; rfl
  apply nl
  apply ad
  refine al 0 H rfl rfl ?_
  refine Tri.eql (fun e => by omega) (fun _ => ?_)
  apply nF
  refine Tri.eql (fun _ => ?_) (fun e => absurd h5 e)
  apply nT
  apply nl
  apply ad
  refine lo 0 H rfl er ?_
  replace H:=H.u1
  have h1' : x.a.pl.length ≤ 100000:=by omega
  refine tbe1 (sp202 (by first|rfl|assumption|omega|(dsimp only;omega)) H) L fun h H L => ?_
  refine Tri.mulN (by omega) (by omega) ?_
  refine Tri.addN (by omega) (by omega) ?_
  have es : x.a.sz = 2 + 2 * live x.a.pl:=by unfold AO.sz; rw [if_neg (by omega), if_pos h5]
  rw [es, show (2 : Int) + 2 * ((live x.a.pl : Nat) : Int) = ((2 + 2 * live x.a.pl : Nat) : Int) by omega]
  have H2:=St.pack (l:=[Mid.row x.ob x.row, DT x]) (l':=l) H.u1
  rw [← e] at H2
  exact Tri.done (B:=[x.A]) ⟨rfl, rfl⟩ H2 L
 ·have e : x.A = ands [Mid.row x.ob x.row] := by unfold DO.A; rw [if_neg h5]
  rw [e] at H
  replace H : St (Mid.row x.ob x.row :: l) h:=H.app
  have fin : ∀ {n : Int} {h' : Hp}, n = (x.a.sz : Nat) → St (Mid.row x.ob x.row :: l) h' → Lo true h h' → Tri h true l (rA x (.int .i64 (x.a.sz : Nat))) (some (.int .i64 n, h')):=by
   intro n h' hn H L
   have H2:=St.pack (l:=[Mid.row x.ob x.row]) H
   rw [← e] at H2
   subst hn
   exact Tri.done (B:=[x.A]) ⟨rfl, rfl⟩ H2 L
  apply nl
  apply ad
  refine al 0 H rfl rfl ?_
  refine Tri.eql (fun e4 => ?_) (fun e4 => ?_)
  ·apply nT
   refine nal 0 H rfl rfl ?_
   refine Tri.eqv (bind_lenStr _ _) ?_
   refine Tri.lenStr ?_
   apply bS
   have ed : ((x.a.tx.n : Nat) : Int).tdiv 16 = ((x.a.tx.n / 16 : Nat) : Int):=rfl
   refine Tri.quoN (by decide) (by rw [ed]; omega) (by rw [ed]; omega) ?_
   rw [ed]
   refine Tri.addN (by omega) (by omega) ?_
   refine fin ?_ H L
   unfold AO.sz; rw [if_pos e4]; omega
  ·apply nF
   refine Tri.eql (fun e => absurd e h5) (fun _ => ?_)
   apply nF
   refine Tri.eql (fun e6 => ?_) (fun e6 => ?_)
   ·apply nT
    refine nal 0 H rfl rfl ?_
    apply bL
    refine cell_len _ ?_
    apply bS
    refine Tri.addN (by omega) (by omega) ?_
    refine fin ?_ H L
    unfold AO.sz; rw [if_neg e4, if_neg h5, if_pos e6]; rfl
   ·apply nF
    refine Tri.eql (fun e8 => ?_) (fun e8 => ?_)
    ·apply nT
     refine fin ?_ H L
     unfold AO.sz; rw [if_neg e4, if_neg h5, if_neg e6, if_pos e8]; rfl
    ·apply nF
     refine fin ?_ H L
     unfold AO.sz; rw [if_neg e4, if_neg h5, if_neg e6, if_neg e8]; rfl
theorem used_cons (a : AO) (l : List AO) : used (a :: l) = (a.sz : Int) + used l:=by unfold used szs; rw [List.map_cons, List.sum_cons]
theorem used_pos : ∀ (l : List AO), 0 ≤ used l
 | [] => by decide
 | a :: l => by rw [used_cons]; have:=used_pos l; omega
theorem loop39 (hlen : X.os.length ≤ 60000) (hsm : ∀ x ∈ X.os, smA x.a) (m : Nat) : ∀ {j : Nat} {c : Int} {h : Hp} {l : List Asn} (hc : 0 ≤ c ∧ c ≤ 120002 * (j : Int)) (H : St (DK X :: l) h) (hj : j ≤ X.os.length) (hm : X.os.length - j ≤ m),
 Tri h true l (rDK X (.int .i64 (c + used ((X.os.drop j).map DO.a)))) (M 39 [.ptr X.hb 0, .int .i64 c, .int .i64 (j : Nat)] h):=by
 induction m with
 | zero =>
  intro j c h l hc H hj hm
  refine t3 e39 fun L => ?_
  unfold B39
  replace H:=openD H
  refine nal 0 H rfl rfl ?_
  apply bL
  refine Tri.lenV 1 X.os.length H rfl (by decide) (by rw [pts_len]; omega) ?_
  apply bS
  refine Tri.lss (fun e => by omega) (fun e => ?_)
  apply nF
  rw [List.drop_eq_nil_of_le (by omega), show c + used (List.map DO.a []) = c from Int.add_zero c]
  exact dDK (closeD H) L
 | succ m ih =>
  intro j c h l hc H hj hm
  refine t3 e39 fun L => ?_
  unfold B39
  replace H:=openD H
  refine nal 0 H rfl rfl ?_
  apply bL
  refine Tri.lenV 1 X.os.length H rfl (by decide) (by rw [pts_len]; omega) ?_
  apply bS
  refine Tri.lss (fun e => ?_) (fun e => ?_)
  ·have hlt : j < X.os.length := by omega
   apply nT
   refine nal 0 H rfl rfl ?_
   have hx : X.os[j]? = some X.os[j]:=List.getElem?_eq_getElem hlt
   refine Tri.idxLd 1 H rfl (by omega) (pts_at hx) ?_
   have hx2 : (X.os.map DO.A)[j]? = some X.os[j].A:=by rw [List.getElem?_map, hx]; rfl
   have hs:=hsm _ (List.getElem_mem hlt)
   have hs2:=sz_le hs
   replace H:=H.u2.pull hx2
   refine tbe (sp168 hs H) L fun h H L => ?_
   replace H:=St.push (A':=X.os[j].A) H hx2
   rw [set_self hx2] at H
   replace H:=closeD H.d2
   refine Tri.addN (by omega) (by omega) ?_
   refine Tri.addN (by omega) (by omega) ?_
   have hd : X.os.drop j = X.os[j] :: X.os.drop (j + 1):=List.drop_eq_getElem_cons hlt
   rw [hd, List.map_cons, used_cons, ← Int.add_assoc]
   exact te (ih (j:=j + 1) (c:=c + (X.os[j].a.sz : Nat)) (by omega) H (by omega) (by omega)) L
  ·apply nF
   rw [List.drop_eq_nil_of_le (by omega), show c + used (List.map DO.a []) = c from Int.add_zero c]
   exact dDK (closeD H) L
theorem sp138 (hlen : X.os.length ≤ 60000) (hsm : ∀ x ∈ X.os, smA x.a) (H : St (DK X :: l) h) : Tri h true l (rDK X (.int .i64 (used X.as))) (M 138 [.ptr X.hb 0] h):=by
 refine t1 e138 fun L => ?_
 unfold B138
 skip
 have:=loop39 hlen hsm X.os.length (j:=0) (c:=0) ⟨by decide, by decide⟩ H (by omega) (by omega)
 rw [Int.zero_add] at this
 exact this
def TX (x : DO) : Asn:=ands (if x.a.kd = 5 then [DT x] else [])
theorem mkA (H : St (Mid.row x.ob x.row :: TX x :: l) h) : St (x.A :: l) h :=
 St.pack (l:=Mid.row x.ob x.row :: (if x.a.kd = 5 then [DT x] else [])) (H.cons fun k hk => hk.app)
theorem unA (H : St (x.A :: l) h) : St (Mid.row x.ob x.row :: TX x :: l) h :=
 (St.app (l:=Mid.row x.ob x.row :: (if x.a.kd = 5 then [DT x] else [])) H).cons fun k hk => hk.pack
def DN (X : DI) : Prop:=∀ j x, X.os[j]? = some x → x.n = ((j + 1 : Nat) : Int)
def DO.nm (x : DO) (n ser : Int) : DO:={ x with n:=n, a:={ x.a with ser:=ser } }
def DO.row0 (x : DO) (kd n : Int) : List V:=.int .u8 kd :: .int .i64 n :: x.row.drop 2
def rDA (X : DI) (x : DO) (b6 : Nat) : V → List Asn → Prop := fun w B => ∃ lV, w = .tuple [vlV (x.a.kd, ((X.os.length + 1 : Nat) : Int)), .int .i64 0] ∧
 B = [DK { X with made:=if numd x.a.kd then X.made + 1 else X.made, lV:=lV, os:=X.os ++ [x.nm ((X.os.length + 1 : Nat) : Int) (if numd x.a.kd then X.made + 1 else x.a.ser)] }]
theorem k51 {b6 : Nat} {z1 z2 : V} {md : Int} (hn : x.n = ((X.os.length + 1 : Nat) : Int)) (hlen : X.os.length < 60000) (H : St (Mid.row X.hb [.int .i64 X.max, X.lV, .int .i64 md, .bool false] :: vc true X.lV 106 1 (pts X.os) :: ands (X.os.map DO.A) :: Mid.row x.ob x.row :: TX x :: Mid.row b6 [z1, z2] :: l) h) :
 Tri h false l (fun w B => ∃ lV, w = .tuple [vlV (x.a.kd, x.n), .int .i64 0] ∧ B = [DK { X with made:=md, lV:=lV, os:=X.os ++ [x] }]) (M 51 [.ptr X.hb 0, .ptr x.ob 0, .ptr b6 0, .int .i64 (X.os.length : Nat)] h):=by
 refine t4 e51 fun L => ?_
 unfold B51
 refine nal 0 H rfl rfl ?_
 refine Tri.bld (e:=_) (s:=_) H L rfl rfl fun b3 h hb3 H L => ?_
 refine Tri.app 2 X.os.length 1 H rfl (H.newCells (i:=0) rfl rfl) (by decide) (by rw [pts_len]; omega) rfl (by omega) (by omega) rfl L (Own.off _ _) fun v' h H L O o1 => ?_
 replace H:=H.tl
 apply nl
 apply ad
 refine sto 0 H rfl rfl L (by first|rfl|assumption) fun h H L => ?_
 refine nal 0 H rfl rfl ?_
 apply bL
 refine Tri.lenV 1 (X.os.length + 1) H rfl (by decide) (by simp [pts_len]) ?_
 apply bS
 refine Tri.subN (by omega) (by omega) ?_
 rw [show ((X.os.length + 1 : Nat) : Int) - 1 = (X.os.length : Nat) by omega]
 refine Tri.call (x:=B53 M (.ptr X.hb 0) (.ptr x.ob 0) (.ptr b6 0) (.int .i64 (X.os.length : Nat)) (.int .i64 (X.os.length : Nat)) h) (fun p => e53 _ _ _ _ _ h p) ?_
 unfold B53
 refine Tri.gtr (fun e => by omega) (fun _ => ?_)
 apply nF
 apply nl
 apply ad
 refine ls 3 H rfl rfl ?_
 refine wl0 5 H rfl rfl rfl L (by first|rfl|assumption) fun h H L => ?_
 have H1:=mkA ((H.out 4).out 4)
 have H2:=(ands_snoc ((H1.out 3).u1)).d2
 have e1 : X.os.map DO.A ++ [x.A] = (X.os ++ [x]).map DO.A:=by rw [List.map_append]; rfl
 have e2 : pts X.os ++ (V.ptr x.ob 0 :: [].append []) = pts (X.os ++ [x]):=by unfold pts; rw [List.map_append]; rfl
 rw [e1] at H2
 replace H2 : St (Mid.row X.hb [.int .i64 X.max, v', .int .i64 md, .bool false] :: vc true v' 106 1 (pts X.os ++ (V.ptr x.ob 0 :: [].append [])) :: _) _:=H2
 rw [e2] at H2
 exact Tri.done (B:=[DK _]) ⟨v', rfl, rfl⟩ (closeD (X:={ X with made:=md, lV:=v', os:=X.os ++ [x] }) H2).x1 L
theorem loop49 {b6 : Nat} {z1 z2 : V} {n0 : Int} (hN : DN X) (hlen : X.os.length < 60000) (hk : x.a.kd = 5 ∨ x.a.kd = 6 ∨ x.a.kd = 4) (hmd : 0 ≤ X.made ∧ X.made ≤ 1000000) (m : Nat) : ∀ {j : Nat} {h : Hp} {l : List Asn} (hj : j ≤ X.os.length) (hm : X.os.length - j ≤ m)
 (H : St (DK X :: Mid.row x.ob (x.row0 x.a.kd n0) :: TX x :: Mid.row b6 [z1, z2] :: l) h),
 Tri h false l (rDA X x b6) (M 49 [.ptr X.hb 0, .int .u8 x.a.kd, .ptr x.ob 0, .ptr b6 0, .int .i64 (j : Nat)] h):=by
 induction m with
 | zero =>
  intro j h l hj hm H
  have hjj : j = X.os.length:=by omega
  subst hjj
  refine t5 e49 fun L => ?_
  unfold B49
  replace H:=openD H
  refine nal 0 H rfl rfl ?_
  apply bL
  refine Tri.lenV 1 X.os.length H rfl (by decide) (by rw [pts_len]; omega) ?_
  apply bS
  refine Tri.lss (fun e => by omega) (fun e => ?_)
  apply gft
  apply pF
  apply nF
  refine Tri.addN (by omega) (by omega) ?_
  apply nl
  apply ad
  apply ad
  refine sto 3 H rfl rfl L (by first|rfl|assumption) fun h H L => ?_
  refine nal 0 H rfl rfl ?_
  apply nl
  apply ad
  refine sto 3 H rfl rfl L (by first|rfl|assumption) fun h H L => ?_
  have num (e : x.a.kd = 5 ∨ x.a.kd = 6) : numd x.a.kd = true:=by unfold numd; rcases e with e | e <;> rw [e] <;> rfl
  refine Tri.eql (fun e5 => ?_) (fun e5 => ?_)
  ·apply gtf
   apply pT
   apply gtf
   apply pT
   apply nT
   refine nal 0 H rfl rfl ?_
   refine Tri.addN (by omega) (by omega) ?_
   apply nl
   apply ad
   refine sto 0 H rfl rfl L (by first|rfl|assumption) fun h H L => ?_
   refine nal 0 H rfl rfl ?_
   apply nl
   apply ad
   refine sto 3 H rfl rfl L (by first|rfl|assumption) fun h H L => ?_
   have H1:=H
   exact Tri.tail (k51 (X := X) (x := x.nm ((X.os.length + 1 : Nat) : Int) (X.made + 1)) (md := X.made + 1) rfl hlen H1) L (fun e => e) fun v h B hq H L => by
    obtain ⟨lV, rfl, rfl⟩:=hq
    exact ⟨_, ⟨lV, by rfl, by rw [num (.inl e5)]; rfl⟩, H⟩
  ·apply gff
   apply bI
   refine Tri.eql (fun e6 => ?_) (fun e6 => ?_)
   ·apply bS
    apply pF
    apply gtf
    apply pT
    apply nT
    refine nal 0 H rfl rfl ?_
    refine Tri.addN (by omega) (by omega) ?_
    apply nl
    apply ad
    refine sto 0 H rfl rfl L (by first|rfl|assumption) fun h H L => ?_
    refine nal 0 H rfl rfl ?_
    apply nl
    apply ad
    refine sto 3 H rfl rfl L (by first|rfl|assumption) fun h H L => ?_
    exact Tri.tail (k51 (X := X) (x := x.nm ((X.os.length + 1 : Nat) : Int) (X.made + 1)) (md := X.made + 1) rfl hlen H) L (fun e => e) fun v h B hq H L => by
     obtain ⟨lV, rfl, rfl⟩:=hq
     exact ⟨_, ⟨lV, by rfl, by rw [num (.inr e6)]; rfl⟩, H⟩
   ·apply bS
    apply pF
    apply gff
    apply bI
    refine Tri.eql (fun e8 => by omega) (fun _ => ?_)
    apply bS
    apply pF
    apply nF
    have nn : numd x.a.kd = false:=by unfold numd; rw [show x.a.kd = 4 by omega]; rfl
    exact Tri.tail (k51 (X := X) (x := x.nm ((X.os.length + 1 : Nat) : Int) x.a.ser) (md := X.made) rfl hlen H) L (fun e => e) fun v h B hq H L => by
     obtain ⟨lV, rfl, rfl⟩:=hq
     exact ⟨_, ⟨lV, by rfl, by rw [nn]; rfl⟩, H⟩
 | succ m ih =>
  intro j h l hj hm H
  by_cases hjj : j = X.os.length
  ·exact ih hj (by omega) H
  have hlt : j < X.os.length:=by omega
  refine t5 e49 fun L => ?_
  unfold B49
  replace H:=openD H
  refine nal 0 H rfl rfl ?_
  apply bL
  refine Tri.lenV 1 X.os.length H rfl (by decide) (by rw [pts_len]; omega) ?_
  apply bS
  refine Tri.lss (fun e => ?_) (fun e => by omega)
  apply gtt
  refine Tri.eqv (bind_nilS _ _) ?_
  apply nl
  apply ba
  refine bl 0 H rfl rfl ?_
  refine Tri.eqv (bind_idxS _ _) ?_
  have hx : X.os[j]? = some X.os[j]:=List.getElem?_eq_getElem hlt
  refine Tri.idxV 1 H rfl (by omega) (by rw [pts_len]; omega) (by decide) fun b nn cc g hv _ => ?_
  rw [hv] at H
  apply bW
  refine Tri.loadV 1 H rfl (by rw [Nat.mul_one, Nat.zero_add]; exact pts_at hx) ?_
  rw [← hv] at H
  replace H:=closeD H
  refine Tri.eqv (bind_nilS _ _) ?_
  apply nl
  apply ba
  apply ba
  apply bW
  refine Tri.loadC (w:=.int .i64 X.os[j].n) (dobj_cell H (i:=0) rfl hx rfl) ?_
  rw [hN j _ hx]
  apply bI
  refine Tri.addN (by omega) (by omega) ?_
  apply bI
  refine Tri.eql (fun _ => ?_) (fun e => by omega)
  apply bS
  apply pT
  apply nT
  refine Tri.addN (by omega) (by omega) ?_
  exact te (ih (j:=j + 1) (by omega) (by omega) H) L
structure RoomD (X : DI) : Prop where
 r : used X.as + 4200 ≤ X.max
 mx : X.max ≤ 1073741824
 len : X.os.length ≤ 50000
 md : 0 ≤ X.made ∧ X.made ≤ 1000000
 sm : ∀ x ∈ X.os, smA x.a
 n : DN X
theorem f108 (R : RoomD X) (hs : smA x.a) (hz : x.a.sz ≤ 4200) (hk : x.a.kd = 5 ∨ x.a.kd = 6 ∨ x.a.kd = 4) (H : St (DK X :: Mid.row x.ob (x.row0 0 0) :: TX x :: l) h) :
 Tri h false l (rDA X x 0) (M 108 [.ptr X.hb 0, .int .u8 x.a.kd, .ptr x.ob 0] h):=by
 refine t3 e108 fun L => ?_
 unfold B108
 have hr:=R.r
 have hmx:=R.mx
 have hlen:=R.len
 have hup:=used_pos X.as
 refine nw1 H L fun b0 h hb0 H L => ?_
 refine Tri.bldS rfl ?_
 apply nl
 apply ad
 refine w0 2 H rfl rfl rfl L (by first|rfl|assumption) fun h H L => ?_
 apply nl
 apply ad
 replace H:=openD H
 refine lo 0 H rfl rfl ?_
 apply bL
 refine Tri.lenV 1 X.os.length H rfl (by decide) (by rw [pts_len]; omega) ?_
 apply bS
 refine Tri.geq (fun e => by omega) (fun _ => ?_)
 replace H:=closeD H
 apply gff
 apply bS
 refine Tri.eqv (guardB_ff _ _) ?_
 have Ho33:=H
 have Ho:=openD H
 refine Tri.wrote (sp138 (by omega) R.sm (H.draw _)) L (fun _ => rfl) fun v h2 h B hq H2 hn1 hl1 eh1 H L => ?_
 obtain ⟨rfl, rfl⟩:=hq
 apply gff
 apply bS
 refine Tri.eqv (guardB_ff _ _) ?_
 have Ho43:=H
 have hs1 : smA (x.nm 1 x.a.ser).a:=hs
 refine Tri.wrote (sp168 (x:=x.nm 1 x.a.ser) hs1 ((mkA (x:=x.nm 1 x.a.ser) ((H.out 3).out 3)).draw _)) L (fun _ => rfl) fun v h3 h B hq H3 hn2 hl2 eh2 H L => ?_
 obtain ⟨rfl, rfl⟩:=hq
 replace H:=((unA H).u2).u2
 have hz1:=hz
 apply gff
 apply bI
 refine Tri.add ?_
 apply bS
 apply gff
 apply bS
 apply gff
 refine Tri.eqv (bind_nilS _ _) ?_
 apply nl
 apply bS
 apply gff
 apply ba
 apply bS
 refine Tri.eqv (guardB_ff _ _) ?_
 refine lo 0 Ho rfl rfl ?_
 have ez : (x.nm 1 x.a.ser).a.sz = x.a.sz:=rfl
 rw [ez, i64_of (by omega) (by omega)]
 refine Tri.cd (by rw [show pureB _ h3 = true from Nat.ble_eq_true_of_le (hl2 rfl), show pureB _ h2 = true from Nat.ble_eq_true_of_le (hl1 rfl)]; rfl) ?_
 apply gff
 apply bI
 refine Tri.gtr (fun e => by omega) (fun _ => ?_)
 apply bS
 apply pF
 apply nF
 exact te (loop49 (x:=x) (n0:=1) (b6:=b0) R.n (by omega) hk R.md X.os.length (j:=0) (by omega) (by omega) H.d2) L
def newDT (n ser : Int) (ob tb : Nat) : DO:=⟨⟨5, ser, ⟨0, 0⟩, [], (0, 0), 0, (0, 0)⟩, n, ob, tb, .nilSlice, none⟩
def newDX (n : Int) (s : Bs) (ob : Nat) : DO:=⟨⟨4, 0, s, [], (0, 0), 0, (0, 0)⟩, n, ob, 0, .nilSlice, none⟩
def newDF (n ser p : Int) (ob : Nat) (c : Option (Nat × Nat × Nat × Bool)) : DO:=⟨⟨6, ser, ⟨0, 0⟩, [], (0, 0), p, (0, 0)⟩, n, ob, 0, .nilSlice, c⟩
theorem mkTX0 (hk : x.a.kd ≠ 5) (H : St l h) : St (TX x :: l) h:=by
 unfold TX; rw [if_neg hk]; exact St.pack (l:=[]) H
def rDTab (X : DI) : V → List Asn → Prop:=fun w B => ∃ lV ob tb, w = .tuple [vlV (5, ((X.os.length + 1 : Nat) : Int)), .int .i64 0] ∧ B = [DK { X with made:=X.made + 1, lV:=lV, os:=X.os ++ [newDT ((X.os.length + 1 : Nat) : Int) (X.made + 1) ob tb] }]
theorem sp40 (R : RoomD X) (H : St (DK X :: l) h) : Tri h false l (rDTab X) (M 40 [.ptr X.hb 0] h):=by
 refine t1 e40 fun L => ?_
 unfold B40
 refine nw1 H L fun b0 h hb0 H L => ?_
 refine Tri.bldS rfl ?_
 refine nw1 H L fun b2 h hb2 H L => ?_
 refine Tri.bldS rfl ?_
 refine nw1 H L fun b4 h hb4 H L => ?_
 have H1:=(H.out 2).vc_new true 152 4
 have H2:=closeDT (x:=newDT 0 0 b4 b2) H1.u1
 have H3 : St (TX (newDT 0 0 b4 b2) :: _) _:=St.pack (l:=[DT (newDT 0 0 b4 b2)]) H2
 refine Mid.tb (f108 (x:=newDT 0 0 b4 b2) R ⟨Nat.zero_le _, Nat.zero_le _⟩ (show (2 : Nat) ≤ 4200 by decide) (.inl rfl) H3.d2) L fun v h B hq H L => ?_
 obtain ⟨lV, rfl, rfl⟩:=hq
 refine Tri.ext rfl ?_
 refine Tri.ext rfl ?_
 refine wl0 1 H rfl rfl rfl L (by first|rfl|assumption) fun h H L => ?_
 exact Tri.done (B:=[DK _]) ⟨lV, b4, b2, rfl, rfl⟩ H.x1 L
def noTx (X : DI) (s : Bs) : Prop:=∀ x ∈ X.os, x.a.kd = 4 → x.a.tx.eq s = false
def rDStr (X : DI) (s : Bs) : V → List Asn → Prop:=fun w B => ∃ lV ob, w = .tuple [vlV (4, ((X.os.length + 1 : Nat) : Int)), .int .i64 0] ∧ B = [DK { X with lV:=lV, os:=X.os ++ [newDX ((X.os.length + 1 : Nat) : Int) s ob] }]
theorem loop29 {s : Bs} {b0 : Nat} (R : RoomD X) (hs : s.n ≤ 65535) (hno : noTx X s) (m : Nat) : ∀ {j : Nat} {h : Hp} {l : List Asn} (H : St (DK X :: Mid.row b0 [.int .u8 0, .int .i64 0] :: l) h) (hj : j ≤ X.os.length) (hm : X.os.length - j ≤ m),
 Tri h false l (rDStr X s) (M 29 [.ptr X.hb 0, .str s, .ptr b0 0, .int .i64 (j : Nat)] h):=by
 have hlen:=R.len
 induction m with
 | zero =>
  intro j h l H hj hm
  refine t4 e29 fun L => ?_
  unfold B29
  replace H:=openD H
  refine nal 0 H rfl rfl ?_
  apply bL
  refine Tri.lenV 1 X.os.length H rfl (by decide) (by rw [pts_len]; omega) ?_
  apply bS
  refine Tri.lss (fun e => by omega) (fun e => ?_)
  replace H:=closeD H
  apply nF
  refine Tri.bldS rfl ?_
  refine nw1 H L fun b22 h hb22 H L => ?_
  have H1:=mkTX0 (x:=newDX 0 s b22) (show (4 : Int) ≠ 5 by decide) H
  refine Mid.tb (f108 (x:=newDX 0 s b22) R ⟨Nat.zero_le _, hs⟩ (show 1 + s.n / 16 ≤ 4200 by omega) (.inr (.inr rfl)) H1.d2) L fun v h B hq H L => ?_
  obtain ⟨lV, rfl, rfl⟩:=hq
  refine Tri.ext rfl ?_
  refine Tri.ext rfl ?_
  refine wl0 1 H rfl rfl rfl L (by first|rfl|assumption) fun h H L => ?_
  exact Tri.done (B:=[DK _]) ⟨lV, b22, rfl, rfl⟩ H.x1 L
 | succ m ih =>
  intro j h l H hj hm
  by_cases hjj : j = X.os.length
  ·exact ih H hj (by omega)
  have hlt : j < X.os.length:=by omega
  refine t4 e29 fun L => ?_
  unfold B29
  replace H:=openD H
  refine nal 0 H rfl rfl ?_
  apply bL
  refine Tri.lenV 1 X.os.length H rfl (by decide) (by rw [pts_len]; omega) ?_
  apply bS
  refine Tri.lss (fun e => ?_) (fun e => by omega)
  have hx : X.os[j]? = some X.os[j]:=List.getElem?_eq_getElem hlt
  apply nT
  refine nal 0 H rfl rfl ?_
  refine Tri.idxLd 1 H rfl (by omega) (pts_at hx) ?_
  replace H:=closeD H
  apply nl
  apply ad
  apply ad
  refine Tri.loadC (w:=.int .u8 X.os[j].a.kd) (dobj_cell H (i:=0) rfl hx rfl) ?_
  refine Tri.eql (fun e4 => ?_) (fun e4 => ?_)
  ·apply gtt
   refine Tri.eqv (bind_nilS _ _) ?_
   apply nl
   apply ba
   apply bW
   replace H:=openD H
   refine lo 0 H rfl rfl ?_
   refine Tri.eqv (bind_idxS _ _) ?_
   refine Tri.idxV 1 H rfl (by omega) (by rw [pts_len]; omega) (by decide) fun b nn cc g hv _ => ?_
   rw [hv] at H
   apply bW
   refine Tri.loadV 1 H rfl (by rw [Nat.mul_one, Nat.zero_add]; exact pts_at hx) ?_
   rw [← hv] at H
   replace H:=closeD H
   refine Tri.eqv (bind_nilS _ _) ?_
   apply nl
   apply ba
   apply bW
   refine Tri.loadC (w:=.str X.os[j].a.tx) (dobj_cell H (i:=0) rfl hx rfl) ?_
   refine Tri.eqv (bind_strS _ _) ?_
   refine Tri.strEq fun bb hbb => ?_
   rw [hno _ (List.getElem_mem hlt) e4] at hbb
   subst hbb
   apply bS
   apply pT
   apply nF
   refine Tri.addN (by omega) (by omega) ?_
   exact te (ih (j:=j + 1) H (by omega) (by omega)) L
  ·apply gft
   apply pF
   apply nF
   refine Tri.addN (by omega) (by omega) ?_
   exact te (ih (j:=j + 1) H (by omega) (by omega)) L
theorem f46 {s : Bs} (R : RoomD X) (hs : s.n ≤ 65535) (hno : noTx X s) (H : St (DK X :: l) h) : Tri h false l (rDStr X s) (M 46 [.ptr X.hb 0, .str s] h):=by
 refine t2 e46 fun L => ?_
 unfold B46
 refine nw1 H L fun b0 h hb0 H L => ?_
 refine Tri.eqv (bind_lenStr _ _) ?_
 refine Tri.lenStr ?_
 apply bS
 refine Tri.gtr (fun e => by omega) (fun _ => ?_)
 apply nF
 exact te (loop29 R hs hno X.os.length (j:=0) H (by omega) (by omega)) L
def rDFun (X : DI) (p : Int) : V → List Asn → Prop:=fun w B => ∃ lV ob cv, w = .tuple [vlV (6, ((X.os.length + 1 : Nat) : Int)), .int .i64 0] ∧ B = [DK { X with made:=X.made + 1, lV:=lV, os:=X.os ++ [newDF ((X.os.length + 1 : Nat) : Int) (X.made + 1) p ob cv] }]
theorem k27 {p : Int} {b0 : Nat} (R : RoomD X) (H : St (DK X :: Mid.row b0 [.int .u8 0, .int .i64 0] :: l) h) : Tri h false l (rDFun X p) (M 27 [.ptr X.hb 0, .int .i64 p, .nilSlice, .ptr b0 0, .int .i64 0] h):=by
 refine t5 e27 fun L => ?_
 unfold B27
 apply bL
 refine Tri.lenNil ?_
 apply bS
 refine Tri.lss (fun e => absurd e (by decide)) (fun _ => ?_)
 apply nF
 refine Tri.bld (e:=_) (s:=_) H L rfl rfl fun b5 h hb5 H L => ?_
 replace H:=H.d1
 refine Tri.app 1 0 0 (new:=[]) H rfl rfl (by decide) rfl rfl (by omega) (by omega) rfl L (Own.off _ _) fun v' h H L O o1 => ?_
 obtain ⟨cv, hcv⟩ : ∃ cv, v' = cellV cv:=by
  rcases H.vc_shape (i:=1) rfl with ⟨e, _⟩ | ⟨b, n, c, g, e, hn, _⟩
  ·exact ⟨none, e⟩
  ·have hn0 : n = 0 := by have e0 : (0 : Nat) = n * 2 := hn; omega
   subst hn0
   exact ⟨some (b, 0, c, g), e⟩
 replace H:=H.x1
 have hb : bldStruct h [(5, .int .i64 p), (6, v')] (.agg [.int .u8 0, .int .i64 0, .int .i64 0, .str ⟨0, 0⟩, .nilPtr, .int .u8 0, .int .i64 0, .int .i64 0, .nilSlice, .int .u8 0, .int .i64 0, .nilPtr, .bool false]) (some [(0, 2), (2, 1), (3, 1), (4, 1), (5, 2), (7, 1), (8, 1), (9, 2), (11, 1), (12, 1)]) = some (.agg [.int .u8 0, .int .i64 0, .int .i64 0, .str ⟨0, 0⟩, .nilPtr, .int .u8 0, .int .i64 0, .int .i64 p, v', .int .u8 0, .int .i64 0, .nilPtr, .bool false], h):=by
  rw [hcv]; cases cv <;> rfl
 refine Tri.bldS hb ?_
 refine nw1 H L fun b20 h hb20 H L => ?_
 have H1:=mkTX0 (x:=newDF 0 0 p b20 cv) (show (6 : Int) ≠ 5 by decide) H
 rw [hcv] at H1
 refine Mid.tb (f108 (x:=newDF 0 0 p b20 cv) R ⟨Nat.zero_le _, Nat.zero_le _⟩ (show (2 : Nat) ≤ 4200 by decide) (.inr (.inl rfl)) H1.d2) L fun v h B hq H L => ?_
 obtain ⟨lV, rfl, rfl⟩:=hq
 refine Tri.ext rfl ?_
 refine Tri.ext rfl ?_
 refine wl0 1 H rfl rfl rfl L (by first|rfl|assumption) fun h H L => ?_
 exact Tri.done (B:=[DK _]) ⟨lV, b20, cv, rfl, rfl⟩ H.x1 L
theorem f50 {p : Int} (hp : 0 ≤ p) (R : RoomD X) (H : St (DK X :: l) h) : Tri h false l (rDFun X p) (M 50 [.ptr X.hb 0, .int .i64 p, .nilSlice] h):=by
 refine t3 e50 fun L => ?_
 unfold B50
 refine nw1 H L fun b0 h hb0 H L => ?_
 refine Tri.lss (fun e => by omega) (fun _ => ?_)
 apply gff
 apply Mid.bB
 apply bL
 refine Tri.lenNil ?_
 apply bS
 apply bI
 refine Tri.gtr (fun e => absurd e (by decide)) (fun _ => ?_)
 apply bS
 apply pF
 apply nF
 exact te (k27 R H) L
end
end Go.MS
end
