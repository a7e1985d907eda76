/- A part of the proof. -/
import Derived.Test.YteeahoagedfehaaGreatDoorUHU2
set_option linter.all false
set_option warn.classDefReducibility false
noncomputable section
section
open Go Go.Mid Go.Proofs
set_option maxRecDepth 100000
namespace Go.MS
section
variable {l F : List Asn} {h h0 : Hp} {ro : Bool} {Q : V → List Asn → Prop} {k : V → VH} {K : V → Hp → VH} {v lV : V} {X X' : HI} {Y Y' : DI} {Z Z' : BI} {i j : Nat} {nm : Bool}
abbrev Mem:=Nat → Nat → Option V
def FSl {α : Type} (s : Nat) (P : Nat → Nat → α → Prop) (v : V) (l : List α) : Prop :=
 (v = .nilSlice ∧ l = []) ∨ ∃ b o c, v = .slice b o l.length c false ∧ l.length ≤ c ∧ l.length ≤ 9223372036854775807 ∧ ∀ i (hi : i < l.length), P b (o + i * s) l[i]
def IntAt (S : Mem) (b o : Nat) (n : Int) : Prop:=S b o = some (.int .i64 n)
abbrev T3:=Int × Int × Int
structure SetAt (S : Mem) (b o : Nat) (x : T3) : Prop where
 c0 : S b o = some (.int .i64 x.1)
 c1 : S b (o + 1) = some (.int .i64 x.2.1)
 c2 : S b (o + 2) = some (.int .i64 x.2.2)
section
variable {α : Type} {s : Nat} {P : Nat → Nat → α → Prop} {L : List α} {v : V}
theorem FSl.len (hv : FSl s P v L) (hk : Tri h0 ro F Q (k (.int .i64 (L.length : Nat)))) : Tri h0 ro F Q (Mid.lenSl v k):=by
 rcases hv with ⟨rfl, rfl⟩ | ⟨b, o, c, rfl, _⟩ <;> exact hk
theorem FSl.idx {d : IntKind} {i : Int} (hv : FSl s P v L) (h1 : 0 ≤ i) (h2 : i < (L.length : Int)) (hk : ∀ b o, P b o (L[i.toNat]'(by omega)) → Tri h0 ro F Q (k (.ptr b o))) : Tri h0 ro F Q (idxS s v (.int d i) k):=by
 rcases hv with ⟨rfl, rfl⟩ | ⟨b, o, c, rfl, _, _, hP⟩
 ·simp only [List.length_nil] at h2; omega
 ·exact Tri.idx h1 (by omega) (hk b _ (hP i.toNat (by omega)))
theorem FSl.small (hv : FSl s P v L) : L.length ≤ 9223372036854775807:=by
 rcases hv with ⟨rfl, rfl⟩ | ⟨b, o, c, rfl, _, h, _⟩
 ·simp
 ·exact h
end
theorem storeO_agg {b o : Nat} {W : List V} (kk : Hp → VH) : storeB (storeO Tryz.prog h 31 b o (.agg W)) (fun ob => kk (h.put b ob)) = storeN 2 (.ptr b o) (.agg W) h kk:=by
 have hsz : sz Tryz.prog 31 = some 2:=rfl
 show _ = cellE (h.t.get b) fun c n g e => whenE (Nat.beq W.length 2 && Nat.ble (o + 2) n && allOne W) (kk (h.put b (.cells (c.setL o W) n g e)))
 unfold storeO
 rw [hsz]
 cases hb : h.t.get b with
 | none => rfl
 | some ob =>
  cases ob with
  | cells c n g e =>
   show storeB (bif (Nat.beq W.length 2 && Nat.ble (o + 2) n && allOne W) then some (.cells (c.setL o W) n g e) else none) _ = whenE (Nat.beq W.length 2 && Nat.ble (o + 2) n && allOne W) _
   cases (Nat.beq W.length 2 && Nat.ble (o + 2) n && allOne W) <;> rfl
  | map es => rfl
  | ro _ _ => rfl
  | dead => rfl
theorem ptrE_at {b o : Nat} {k : Nat → Nat → VH} : ptrE (.ptr b o) k = k b o:=rfl
theorem ne_of {A B : Asn} {b b' : Nat} (H : St (A :: B :: l) h) (hA : ∀ f, A f → f b ≠ none) (hB : ∀ f, B f → f b' ≠ none) : b ≠ b':=by
 obtain ⟨f, k, a1, a2, a3, a4, f2, k2, b1, b2, b3, b4, b5⟩:=H.sat
 rintro rfl
 have h1:=hA f a4
 have h2:=hB f2 b4
 cases hb : f2 b with
 | none => exact h2 hb
 | some ob => exact (a1 b).elim h1 (by rw [b2 b _ hb]; exact fun h => nomatch h)
theorem vc_own {gr : Bool} {e s b n c : Nat} {g : Bool} {cs : List V} : ∀ f, vc gr (.slice b 0 n c g) e s cs f → f b ≠ none := fun f hf => by
 cases hf with
 | grown b n m t a1 a2 a3 a4 => rw [a1]; exact fun h => nomatch h
 | full b n c t a0 a1 a2 a5 a3 => rw [a1]; exact fun h => nomatch h
structure JI (nm : Bool) (X : HI) (Y : DI) (Z : BI) (i m : Nat) : Prop where
 gx : Gd X.as i m
 gy : Gd Y.as i m
 mx : X.max = 1048576
 my : Y.max = 1048576
 hx : 0 ≤ X.made ∧ X.made ≤ i
 hy : 0 ≤ Y.made ∧ Y.made ≤ i
 nd : DN Y
 ls : Z.ls = valsL i
 zh : Z.hb = X.hb
 zd : Z.db = Y.hb
 me : nm = true → ∀ a ∈ X.as, a.me = (0, 0)
def rMade (nm : Bool) : V → List Asn → Prop:=fun w B => ∃ X Y Z m, m ≤ 60 ∧ JI nm X Y Z 28 m ∧ w = .ptr Z.bb 0 ∧ B = [HK X, DK Y, BK Z]
theorem offP_ne {x y o : Nat} (h : y ≠ x) : offP (.ptr x o) y = true:=by
 show (!(Nat.beq x y)) = true
 cases e : Nat.beq x y with
 | true => exact absurd (Nat.eq_of_beq_eq_true e).symm h
 | false => rfl
theorem shp_tab {p : Nat} (hp : p < 4) : shapes[p]? = some (5, ⟨0, 0⟩):=by
 match p, hp with
 | 0, _ => rfl
 | 1, _ => rfl
 | 2, _ => rfl
 | 3, _ => rfl
theorem shp_txt {q : Nat} (hq : q < 23) : shapes[4 + q]? = some (4, allS.getD q ⟨0, 0⟩):=by
 have hl : allS.length = 23:=rfl
 have hx : allS[q]? = some allS[q]:=List.getElem?_eq_getElem (by omega)
 unfold shapes
 rw [List.getElem?_append_left (by rw [List.length_append, List.length_replicate, List.length_map, hl]; omega), List.getElem?_append_right (by rw [List.length_replicate]; omega), List.length_replicate, List.getElem?_map, show 4 + q - 4 = q by omega, hx, List.getD_eq_getElem?_getD, hx]
 rfl
theorem JI.tab {m p : Nat} (J : JI nm X Y Z i m) (hi : i ≤ 28) (hp : p < 4) (hpi : p < i) : Z.ls[7 + p]? = some (5, ((p + 1 : Nat) : Int)):=by
 rw [J.ls]; exact vals_ob hpi hi (shp_tab hp)
theorem JI.txt {m q : Nat} (J : JI nm X Y Z 28 m) (hq : q < 22) : Z.ls[11 + q]? = some (4, ((4 + q + 1 : Nat) : Int)):=by
 rw [J.ls, show 11 + q = 7 + (4 + q) by omega]; exact vals_ob (i:=28) (by omega) (Nat.le_refl _) (shp_txt (by omega))
theorem vl_cells {p : Vl} {b : Nat} {i : Nat} (H : St l h) (hi : l[i]? = some (Mid.row b (vlC p))) : ∀ z, z < 2 → h.cell b (0 + z) = [V.int .u8 p.1, .int .i64 p.2][z]? := fun z hz => by
 rw [Nat.zero_add]; exact H.row_cell hi hz
theorem cd_vl {h h' : Hp} {a : Bool} {b : Nat} {p : Vl} (h1 : ∀ z, z < 2 → h.cell b (0 + z) = [V.int .u8 p.1, .int .i64 p.2][z]?) (h2 : ∀ z, z < 2 → h'.cell b (0 + z) = [V.int .u8 p.1, .int .i64 p.2][z]?) : ((a || sameA h h' (.ptr b 0) 2) && true) = true:=by
 rw [same_vl h1 h2, Bool.or_true]; rfl
theorem JI.set {m p : Nat} {key w : Vl} {x : IO} {y : DO} {v1 v2 : V} (J : JI nm X Y Z 28 m) (hx : X.os[p]? = some x) (hy : Y.os[p]? = some y) (hw : okV w) (hk : key.1 = 4) :
 JI nm (X.upd p (x.wi v1 (setP x.a.pl key w))) (Y.upd p (y.wi v2 (setP y.a.pl key w))) Z 28 (m + 1):=by
 have ax : X.as[p]? = some x.a:=by unfold HI.as; rw [List.getElem?_map, hx]; rfl
 have ay : Y.as[p]? = some y.a:=by unfold DI.as; rw [List.getElem?_map, hy]; rfl
 refine ⟨?_, ?_, J.mx, J.my, J.hx, J.hy, fun j z hz => ?_, J.ls, J.zh, J.zd, fun hn a ha => ?_⟩
 ·have e : (X.upd p (x.wi v1 (setP x.a.pl key w))).as = X.as.set p { x.a with pl := setP x.a.pl key w } := by unfold HI.as HI.upd; rw [List.map_set]; rfl
  rw [e]; exact J.gx.set ax hw hk rfl
 ·have e : (Y.upd p (y.wi v2 (setP y.a.pl key w))).as = Y.as.set p { y.a with pl := setP y.a.pl key w } := by unfold DI.as DI.upd; rw [List.map_set]; rfl
  rw [e]; exact J.gy.set ay hw hk rfl
 ·have hz' : (Y.os.set p (y.wi v2 (setP y.a.pl key w)))[j]? = some z := hz
  rw [List.getElem?_set] at hz'
  split at hz'
  ·rename_i e; subst e
   split at hz'
   ·cases hz'; exact J.nd p y hy
   ·cases hz'
  ·exact J.nd j z hz'
 ·have e : (X.upd p (x.wi v1 (setP x.a.pl key w))).as = X.as.set p { x.a with pl := setP x.a.pl key w } := by unfold HI.as HI.upd; rw [List.map_set]; rfl
  rw [e] at ha
  rcases List.mem_or_eq_of_mem_set ha with h | h
  ·exact J.me hn a h
  ·subst h; exact J.me hn x.a (List.mem_of_getElem? ax)
theorem loop15 {S : Mem} {ss : List T3} {mV sV rV : V} {b0 : Nat} (hs : FSl 3 (SetAt S) sV ss) (n : Nat) : ∀ {j : Nat} {X : HI} {Y : DI} {Z : BI} {h : Hp} {l : List Asn} (J : JI nm X Y Z 28 j) (hj : j ≤ 60) (hn : 60 - j ≤ n)
 (H : St (HK X :: DK Y :: BK Z :: Mid.row b0 [mV, sV, rV] :: frz S :: l) h), Tri h false l (rMade nm) (M 15 [.ptr b0 0, .ptr X.hb 0, .ptr Y.hb 0, .ptr Z.bp 0, .int .i64 (j : Nat)] h):=by
 have hsl:=hs.small
 induction n with
 | zero =>
  intro j X Y Z h l J hj hn H
  have hjj : j = 60:=by omega
  subst hjj
  refine t5 e15 fun L => ?_
  unfold B15
  have fin : ∀ {h' : Hp}, St (HK X :: DK Y :: BK Z :: Mid.row b0 [mV, sV, rV] :: frz S :: l) h' → Lo false h h' → Tri h false l (rMade nm) (load1 (.ptr Z.bp 0) h' fun v => some (v, h')):=by
   intro h' H L
   have H1:=openZ H.u2
   refine lo 1 H1 rfl rfl ?_
   exact Tri.done (B:=[HK X, DK Y, BK Z]) ⟨X, Y, Z, 60, Nat.le_refl _, J, rfl, rfl⟩ (closeZ H1).d2.x3.x3 L
  refine al 3 H rfl rfl ?_
  apply bL
  refine FSl.len (by assumption) ?_
  apply bS
  refine Tri.lss (fun e => ?_) (fun e => ?_)
  ·apply gtt
   apply bI
   refine Tri.lss (fun e => absurd e (by decide)) (fun _ => ?_)
   apply bS
   apply pT
   apply nF
   exact fin H L
  ·apply gft
   apply pF
   apply nF
   exact fin H L
 | succ n ih =>
  intro j X Y Z h l J hj hn H
  refine t5 e15 fun L => ?_
  unfold B15
  have fin : ∀ {h' : Hp}, St (HK X :: DK Y :: BK Z :: Mid.row b0 [mV, sV, rV] :: frz S :: l) h' → Lo false h h' → Tri h false l (rMade nm) (load1 (.ptr Z.bp 0) h' fun v => some (v, h')):=by
   intro h' H L
   have H1:=openZ H.u2
   refine lo 1 H1 rfl rfl ?_
   exact Tri.done (B:=[HK X, DK Y, BK Z]) ⟨X, Y, Z, j, hj, J, rfl, rfl⟩ (closeZ H1).d2.x3.x3 L
  refine al 3 H rfl rfl ?_
  apply bL
  refine FSl.len (by assumption) ?_
  apply bS
  refine Tri.lss (fun e => ?_) (fun e => ?_)
  ·apply gtt
   apply bI
   refine Tri.lss (fun e2 => ?_) (fun e2 => ?_)
   ·have H1 := openZ H.u2
    replace H:=H1
    have hlt : j < ss.length:=by omega
    apply bS
    apply pT
    apply nT
    refine nw H L fun b53 h hb53 H L => ?_
    refine nw H L fun b54 h hb54 H L => ?_
    refine lo 3 H rfl rfl ?_
    refine nal 2 H rfl rfl ?_
    refine al 7 H rfl rfl ?_
    refine FSl.idx (by assumption) (by omega) (by omega) fun b61 o61 hb61 => ?_
    have hc61:=hb61
    clear hc61
    obtain ⟨s0, s1, s2⟩:=hb61
    refine Tri.idxP (by decide) (by decide) ?_
    refine Tri.loadF 8 H rfl s0 ?_
    have Ho:=H
    refine Tri.wroteC (sp12 (n:=4) (by decide) (by decide) (H.draw _)) L (fun v h2 e => by rw [e]; rfl) fun v h2 h B hq H2 hn1 hl eh1 H L => ?_
    obtain ⟨rfl, rfl⟩:=hq
    have p0:=pick_in (x:=(ss[((j : Nat) : Int).toNat]'(by omega)).1) (n:=4) (by decide)
    obtain ⟨p, hp⟩:=Int.eq_ofNat_of_zero_le p0.1
    rw [hp] at p0 ⊢
    have hp4 : p < 4:=by omega
    refine Tri.addN (by omega) (by omega) ?_
    refine Tri.at_ (s:=7 + p) (by omega) (J.tab (Nat.le_refl _) hp4 (by omega)) H.tl.tl fun bt hct _ => ?_
    refine Tri.loadsC (X:=vlC (5, ((p + 1 : Nat) : Int))) (by decide) rfl hct ?_
    refine lo 3 Ho rfl rfl ?_
    refine Tri.cd (by rw [show pureB _ _ = true from Nat.ble_eq_true_of_le (hl rfl)]; rfl) ?_
    refine nal 2 Ho rfl rfl ?_
    refine Tri.cd (by rw [show pureB _ _ = true from Nat.ble_eq_true_of_le (hl rfl)]; rfl) ?_
    refine al 7 Ho rfl rfl ?_
    refine Tri.cd (by rw [show pureB _ _ = true from Nat.ble_eq_true_of_le (hl rfl)]; rfl) ?_
    refine FSl.idx (by assumption) (by omega) (by omega) fun b79 o79 hb79 => ?_
    have hc79:=hb79
    clear hc79
    obtain ⟨t0, t1, t2⟩:=hb79
    refine Tri.idxP (by decide) (by decide) ?_
    refine Tri.loadF 8 Ho rfl t1 ?_
    refine Tri.cd (by rw [show pureB _ _ = true from Nat.ble_eq_true_of_le (hl rfl)]; rfl) ?_
    refine Tri.wroteC (f42 (H.draw _)) L (fun v h2 e => by rw [e]; rfl) fun v h3 h B hq H3 hn2 hl2 eh2 H L => ?_
    obtain ⟨nb, rfl, rfl⟩:=hq
    apply bL
    refine Tri.wroteC (sp12 (n:=22) (by decide) (by decide) (H.draw _)) L (fun v h2 e => by rw [e]; rfl) fun v h4 h B hq H4 hn3 hl3 eh3 H L => ?_
    obtain ⟨rfl, rfl⟩:=hq
    have q0:=pick_in (x:=(ss[((j : Nat) : Int).toNat]'(by omega)).2.1) (n:=22) (by decide)
    obtain ⟨q, hq⟩:=Int.eq_ofNat_of_zero_le q0.1
    rw [hq] at q0 ⊢
    have hq4 : q < 22:=by omega
    refine Tri.addN (by omega) (by omega) ?_
    refine Tri.at_ (s:=11 + q) (by omega) (J.txt hq4) H.tl.tl.tl fun bk hck hvk => ?_
    refine Tri.loadsC (X:=vlC (4, ((4 + q + 1 : Nat) : Int))) (by decide) rfl hck ?_
    refine Tri.eqv ptrE_at ?_
    obtain ⟨zn, zc, zg, hzv⟩:=hvk
    have n1 : b53 ≠ bk:=by
     have Hn:=H
     rw [hzv] at Hn
     exact ne_of (Hn.out 5).u3 row_own vc_own
    have n2 : b53 ≠ Z.bb:=ne_of (H.out 3).u3 row_own row_own
    have n3 : b53 ≠ Z.bp:=ne_of (H.out 4).u3 row_own row_own
    refine Tri.eqv (storeO_agg (W:=vlC (5, ((p + 1 : Nat) : Int))) (fun h1 => cD _ (storeN 2 (.ptr b54 0) (.agg (vlC (4, ((4 + q + 1 : Nat) : Int)))) h1 _) _)) ?_
    refine Tri.stores 2 (by decide) H rfl rfl (Nat.le_of_ble_eq_true rfl) L (fun e => nomatch e) rfl fun h H L => ?_
    refine Tri.cd (by rw [offP_ne n1, offP_ne n2, offP_ne n3]; rfl) ?_
    refine w0 1 H rfl rfl rfl L (by first|rfl|assumption) fun h H L => ?_
    refine nw H L fun b121 h hb121 H L => ?_
    refine lo 5 H rfl rfl ?_
    refine al 9 H rfl rfl ?_
    refine FSl.idx (by assumption) (by omega) (by omega) fun b125 o125 hb125 => ?_
    have hc125:=hb125
    clear hc125
    obtain ⟨u0, u1, u2⟩:=hb125
    refine Tri.idxP (by decide) (by decide) ?_
    refine Tri.loadF 10 H rfl u2 ?_
    replace H:=closeZ (((H.out 6).out 6).out 6)
    have hlz : Z.ls.length = 35:=by rw [J.ls]; exact vals_len (Nat.le_refl _)
    refine Tri.wroteC (sp14 (Z:=Z) (by rw [hlz]; decide) (H.draw _)) L (fun v h2 e => by rw [e]; rfl) fun v h5 h B hq H5 hn4 hl4 eh4 H L => ?_
    obtain ⟨v, hv, rfl, rfl⟩:=hq
    refine w0 1 H rfl rfl rfl L (by first|rfl|assumption) fun h H L => ?_
    refine ls 4 H rfl rfl ?_
    refine ls 3 H rfl rfl ?_
    refine ls 1 H rfl rfl ?_
    have Ho144:=H
    have hvm : v ∈ valsL 28:=by rw [← J.ls]; exact List.mem_of_getElem? hv
    have hkm : ((4, ((4 + q + 1 : Nat) : Int)) : Vl) ∈ valsL 28:=by rw [← J.ls]; exact List.mem_of_getElem? (J.txt hq4)
    have R:=J.gx.room (Nat.le_refl _) (by omega) J.mx ⟨J.hx.1, by have:=J.hx.2; omega⟩
    have RD:=J.gy.roomD J.nd (Nat.le_refl _) (by omega) J.my ⟨J.hy.1, by have:=J.hy.2; omega⟩
    obtain ⟨x, hx, hxk, hxf⟩:=findI_ob J.gx (Nat.le_refl _) (show p < 28 by omega) (shp_tab hp4)
    obtain ⟨y, hy, hyk, hyf⟩:=findD_ob J.gy J.nd (Nat.le_refl _) (show p < 28 by omega) (shp_tab hp4)
    have hof : ofI X.os (5, ((p + 1 : Nat) : Int)) 5 = some x:=by unfold ofI; rw [if_pos rfl]; exact hxf
    have hxm:=List.mem_of_getElem? hx
    have rr:=R.r
    have Ho:=H
    refine Tri.wrote (sp56 (key:=(4, ((4 + q + 1 : Nat) : Int))) (w:=v) hof (by show (1 : Int) ≤ 4; decide) (keep_vals J.gx (Nat.le_refl _) hkm) (keep_vals J.gx (Nat.le_refl _) hvm) (by omega) R.u R.mx (R.pl x hxm) (R.nd x hxm) (by have:=R.len; omega) ((H.out 5).draw _)) L (fun e => e) fun w h6 h B hq H6 hn5 hl5 eh5 H L => ?_
    obtain ⟨lV1, rfl, rfl⟩:=hq
    refine ls 4 Ho rfl rfl ?_
    refine Tri.cd (cd_vl (p:=(5, ((p + 1 : Nat) : Int))) (vl_cells Ho (i:=4) rfl) (vl_cells H (i:=5) rfl)) ?_
    refine ls 3 Ho rfl rfl ?_
    refine Tri.cd (cd_vl (p:=(4, ((4 + q + 1 : Nat) : Int))) (vl_cells Ho (i:=3) rfl) (vl_cells H (i:=4) rfl)) ?_
    refine ls 1 Ho rfl rfl ?_
    refine Tri.cd (cd_vl (p:=v) (vl_cells Ho (i:=1) rfl) (vl_cells H (i:=2) rfl)) ?_
    refine Mid.tb (f58 (t:=(5, ((p + 1 : Nat) : Int))) (key:=(4, ((4 + q + 1 : Nat) : Int))) (w:=v) RD hy hyk rfl hyf (by show (1 : Int) ≤ 4; decide) (keepD_vals J.gy J.nd (Nat.le_refl _) hkm) (keepD_vals J.gy J.nd (Nat.le_refl _) hvm) (H.out 6)) L fun w h B hq H L => ?_
    obtain ⟨lV2, rfl, rfl⟩:=hq
    refine Tri.neq (fun e => absurd e (by decide)) (fun _ => ?_)
    apply nF
    refine Tri.addN (by omega) (by omega) ?_
    have J2:=J.set (key:=(4, ((4 + q + 1 : Nat) : Int))) (w:=v) (v1:=lV1) (v2:=lV2) hx hy (vals_ok (Nat.le_refl _) hvm) rfl
    have H2:=(H.u1.x3.x3.x3.x3)
    have ep : ((5, ((p + 1 : Nat) : Int)) : Vl).2.toNat - 1 = p:=by show ((p + 1 : Nat) : Int).toNat - 1 = p; omega
    rw [ep] at H2
    have T:=ih (j:=j + 1) J2 (by omega) (by omega) H2
    exact Tri.tail T L (fun e => e) fun v h B hq H L => ⟨B, hq, H⟩
   ·apply bS
    apply pT
    apply nF
    exact fin H L
  ·apply gft
   apply pF
   apply nF
   exact fin H L
end
section
variable {l F : List Asn} {h h0 : Hp} {ro : Bool} {Q : V → List Asn → Prop} {k : V → VH} {K : V → Hp → VH} {v lV : V} {X X' : HI} {Y Y' : DI} {Z Z' : BI} {i j : Nat} {nm : Bool}
theorem JI.mt {m p : Nat} {w : Vl} {x : IO} {y : DO} (hnm : nm = false) (J : JI nm X Y Z 28 m) (hx : X.os[p]? = some x) (hy : Y.os[p]? = some y) :
 JI nm (X.upd p (x.mt w)) (Y.upd p (y.mt w)) Z 28 m:=by
 have ax : X.as[p]? = some x.a:=by unfold HI.as; rw [List.getElem?_map, hx]; rfl
 have ay : Y.as[p]? = some y.a:=by unfold DI.as; rw [List.getElem?_map, hy]; rfl
 refine ⟨?_, ?_, J.mx, J.my, J.hx, J.hy, fun j z hz => ?_, J.ls, J.zh, J.zd, fun hn => by rw [hnm] at hn; cases hn⟩
 ·have e : (X.upd p (x.mt w)).as = X.as.set p { x.a with me := w } := by unfold HI.as HI.upd; rw [List.map_set]; rfl
  rw [e]; exact J.gx.mt ax rfl
 ·have e : (Y.upd p (y.mt w)).as = Y.as.set p { y.a with me := w } := by unfold DI.as DI.upd; rw [List.map_set]; rfl
  rw [e]; exact J.gy.mt ay rfl
 ·have hz' : (Y.os.set p (y.mt w))[j]? = some z := hz
  rw [List.getElem?_set] at hz'
  split at hz'
  ·rename_i e; subst e
   split at hz'
   ·cases hz'; exact J.nd p y hy
   ·cases hz'
  ·exact J.nd j z hz'
theorem loop13 {S : Mem} {ms : List Int} {ss : List T3} {mV sV rV : V} {b0 : Nat} (hnm : nm = true → ms = []) (hms : FSl 1 (IntAt S) mV ms) (hs : FSl 3 (SetAt S) sV ss) (n : Nat) : ∀ {j : Nat} {X : HI} {Y : DI} {Z : BI} {h : Hp} {l : List Asn} (J : JI nm X Y Z 28 0) (hj : j ≤ 4) (hn : 4 - j ≤ n)
 (H : St (HK X :: DK Y :: BK Z :: Mid.row b0 [mV, sV, rV] :: frz S :: l) h), Tri h false l (rMade nm) (M 13 [.ptr b0 0, .ptr X.hb 0, .ptr Y.hb 0, .ptr Z.bp 0, .int .i64 (j : Nat)] h):=by
 have hml:=hms.small
 have fin : ∀ {X : HI} {Y : DI} {Z : BI} {h' : Hp} {l : List Asn}, JI nm X Y Z 28 0 → St (HK X :: DK Y :: BK Z :: Mid.row b0 [mV, sV, rV] :: frz S :: l) h' → Tri h' false l (rMade nm) (M 15 [.ptr b0 0, .ptr X.hb 0, .ptr Y.hb 0, .ptr Z.bp 0, .int .i64 0] h'):=by
  intro X Y Z h' l J H
  exact loop15 hs 60 (j:=0) J (by omega) (by omega) H
 induction n with
 | zero =>
  intro j X Y Z h l J hj hn H
  have hjj : j = 4:=by omega
  subst hjj
  refine t5 e13 fun L => ?_
  unfold B13
  refine al 3 H rfl rfl ?_
  apply bL
  refine FSl.len (by assumption) ?_
  apply bS
  refine Tri.lss (fun e => ?_) (fun e => ?_)
  ·apply gtt
   apply bI
   refine Tri.lss (fun e => absurd e (by decide)) (fun _ => ?_)
   apply bS
   apply pT
   apply nF
   exact te (fin J H) L
  ·apply gft
   apply pF
   apply nF
   exact te (fin J H) L
 | succ n ih =>
  intro j X Y Z h l J hj hn H
  refine t5 e13 fun L => ?_
  unfold B13
  have next : ∀ {X : HI} {Y : DI} {h' : Hp} {l : List Asn}, JI nm X Y Z 28 0 → j < 4 → St (HK X :: DK Y :: BK Z :: Mid.row b0 [mV, sV, rV] :: frz S :: l) h' → Tri h' false l (rMade nm) (M 17 [.ptr b0 0, .ptr X.hb 0, .ptr Y.hb 0, .ptr Z.bp 0, .int .i64 (j : Nat)] h'):=by
   intro X Y h' l J hj4 H
   refine t5 e17 fun L => ?_
   unfold B17
   refine Tri.addN (by omega) (by omega) ?_
   exact ih (j:=j + 1) J (by omega) (by omega) H
  refine al 3 H rfl rfl ?_
  apply bL
  refine FSl.len (by assumption) ?_
  apply bS
  refine Tri.lss (fun e => ?_) (fun e => ?_)
  ·apply gtt
   apply bI
   refine Tri.lss (fun e2 => ?_) (fun e2 => ?_)
   ·have hlt : j < ms.length := by omega
    apply bS
    apply pT
    apply nT
    refine al 3 H rfl rfl ?_
    refine FSl.idx (by assumption) (by omega) (by omega) fun b55 o55 hb55 => ?_
    have hc55:=hb55
    clear hc55
    refine Tri.loadF 4 H rfl (by assumption) ?_
    refine Tri.geq (fun e3 => ?_) (fun e3 => ?_)
    ·apply gtt
     apply bI
     refine Tri.lss (fun e4 => ?_) (fun e4 => ?_)
     ·obtain ⟨q, hq⟩ := Int.eq_ofNat_of_zero_le e3
      rw [hq] at e3 e4 ⊢
      have hq4 : q < 4:=by omega
      have hj4 : j < 4:=by omega
      replace H:=openZ H.u2
      apply bS
      apply pT
      apply nT
      refine lo 1 H rfl rfl ?_
      refine nal 0 H rfl rfl ?_
      refine Tri.addN (by omega) (by omega) ?_
      refine Tri.at_ (s:=7 + j) (by omega) (J.tab (Nat.le_refl _) hj4 (by omega)) H fun bt hct _ => ?_
      refine Tri.loadsC (X:=vlC (5, ((j + 1 : Nat) : Int))) (by decide) rfl hct ?_
      refine lo 1 H rfl rfl ?_
      refine nal 0 H rfl rfl ?_
      refine Tri.addN (by omega) (by omega) ?_
      refine Tri.at_ (s:=7 + q) (by omega) (J.tab (Nat.le_refl _) hq4 (by omega)) H fun bu hcu _ => ?_
      refine Tri.loadsC (X:=vlC (5, ((q + 1 : Nat) : Int))) (by decide) rfl hcu ?_
      have R:=J.gx.room (Nat.le_refl _) (by omega) J.mx ⟨J.hx.1, by have:=J.hx.2; omega⟩
      have RD:=J.gy.roomD J.nd (Nat.le_refl _) (by omega) J.my ⟨J.hy.1, by have:=J.hy.2; omega⟩
      obtain ⟨x, hx, hxk, hxf⟩:=findI_ob J.gx (Nat.le_refl _) (show j < 28 by omega) (shp_tab hj4)
      obtain ⟨y, hy, hyk, hyf⟩:=findD_ob J.gy J.nd (Nat.le_refl _) (show j < 28 by omega) (shp_tab hj4)
      obtain ⟨x2, hx2, hxk2, hxf2⟩:=findI_ob J.gx (Nat.le_refl _) (show q < 28 by omega) (shp_tab hq4)
      obtain ⟨y2, hy2, hyk2, hyf2⟩:=findD_ob J.gy J.nd (Nat.le_refl _) (show q < 28 by omega) (shp_tab hq4)
      have hof : ofI X.os (5, ((j + 1 : Nat) : Int)) 5 = some x:=by unfold ofI; rw [if_pos rfl]; exact hxf
      have hof2 : ofI X.os (5, ((q + 1 : Nat) : Int)) 5 = some x2:=by unfold ofI; rw [if_pos rfl]; exact hxf2
      refine Mid.tb (sp52 (a:=(5, ((j + 1 : Nat) : Int))) (m:=(5, ((q + 1 : Nat) : Int))) hof hof2 (H.out 3)) L fun w h B hq H L => ?_
      obtain ⟨rfl, rfl⟩:=hq
      replace H:=H.d3
      refine lo 1 H rfl rfl ?_
      refine nal 0 H rfl rfl ?_
      refine Tri.addN (by omega) (by omega) ?_
      refine Tri.at_ (s:=7 + j) (by omega) (J.tab (Nat.le_refl _) hj4 (by omega)) H fun bt hct _ => ?_
      refine Tri.loadsC (X:=vlC (5, ((j + 1 : Nat) : Int))) (by decide) rfl hct ?_
      refine lo 1 H rfl rfl ?_
      refine nal 0 H rfl rfl ?_
      refine Tri.addN (by omega) (by omega) ?_
      refine Tri.at_ (s:=7 + q) (by omega) (J.tab (Nat.le_refl _) hq4 (by omega)) H fun bu hcu _ => ?_
      refine Tri.loadsC (X:=vlC (5, ((q + 1 : Nat) : Int))) (by decide) rfl hcu ?_
      refine Mid.tb (f54 (t:=(5, ((j + 1 : Nat) : Int))) (m:=(5, ((q + 1 : Nat) : Int))) RD hy hyk rfl hyf rfl ⟨_, hyf2⟩ (H.out 4)) L fun w h B hq H L => ?_
      obtain ⟨rfl, rfl⟩:=hq
      have ep : ((5, ((j + 1 : Nat) : Int)) : Vl).2.toNat - 1 = j:=by show ((j + 1 : Nat) : Int).toNat - 1 = j; omega
      rw [ep] at H
      have hnf : nm = false:=by
       cases nm with
       | false => rfl
       | true => rw [hnm rfl] at hlt; exact absurd hlt (Nat.not_lt_zero _)
      have J2:=J.mt hnf (w:=(5, ((q + 1 : Nat) : Int))) hx hy
      have H2:=closeZ (((H.out 3).out 3).out 3)
      have T:=next J2 hj4 H2.d2.d1
      exact Tri.tail T L (fun e => e) fun v h B hq H L => ⟨B, hq, H⟩
     ·apply bS
      apply pT
      apply nF
      exact te (next J (by omega) H) L
    ·apply gft
     apply pF
     apply nF
     exact te (next J (by omega) H) L
   ·apply bS
    apply pT
    apply nF
    exact te (fin J H) L
  ·apply gft
   apply pF
   apply nF
   exact te (fin J H) L
end
end Go.MS
end
