/- A part of the proof. -/
import Derived.Test.YteeahoagedfehaaGreatDoorUHS14
set_option linter.all false
set_option warn.classDefReducibility false
noncomputable section
section
open Go Go.Mid Go.Proofs
set_option maxRecDepth 100000
namespace Go.MS
section
variable {l F : List Asn} {h h0 : Hp} {ro : Bool} {Q : V → List Asn → Prop} {k : V → VH} {K : V → Hp → VH} {v lV : V} {X X' : HI} {x y : IO} {i j : Nat} {pl : List Pl} {os : List IO}
theorem Tri.eqSl {t : Nat} (hk : Tri h0 ro F Q (k (.bool true))) : Tri h0 ro F Q (eqS (.slice t) .eql .nilSlice .nilSlice k):=hk
theorem k65 {f : V} (H : St l h) : Tri h true l (fun w B => w = .int .i64 (-1) ∧ B = []) (M 65 [.nilSlice, f, .int .i64 0, .int .i64 0] h):=by
 refine t4 e65 fun L => ?_
 unfold B65
 refine Tri.lss (fun e => absurd e (by decide)) (fun _ => ?_)
 apply nF
 exact Tri.done (B:=[]) ⟨rfl, rfl⟩ H L
def rNo (v : V) : V → List Asn → Prop:=fun w B => w = v ∧ B = []
theorem sp170 {f : V} (H : St l h) : Tri h true l (rNo (.int .i64 (-1))) (M 170 [.nilSlice, f] h):=by
 refine t2 e170 fun L => ?_
 unfold B170
 apply bL
 refine Tri.lenNil ?_
 apply bS
 exact Tri.call (x:=M 65 _ h) (fun _ e => e) (k65 H)
theorem sp114 {f : V} (H : St l h) : Tri h true l (rNo (.bool false)) (M 114 [.nilSlice, f] h):=by
 refine t2 e114 fun L => ?_
 unfold B114
 refine tbe1 (sp170 H) L fun h H L => ?_
 refine Tri.geq (fun e => absurd e (by decide)) (fun _ => ?_)
 exact Tri.done (B:=[]) ⟨rfl, rfl⟩ H L
theorem sp116 (H : St l h) : Tri h true l (rNo .nilSlice) (M 116 [.nilSlice] h):=by
 refine t1 e116 fun L => ?_
 unfold B116
 refine Tri.eqSl ?_
 apply nT
 exact Tri.done (B:=[]) ⟨rfl, rfl⟩ H L
theorem func_nil {p : Int} (hp : 0 ≤ p) (hr : used X.as + 2 ≤ X.max) (hu : 0 ≤ used X.as) (hmx : X.max ≤ 1073741824) (hlen : X.os.length < 65536) (hmd : 0 ≤ X.made ∧ X.made ≤ 1000000) (H : St (HK X :: l) h) :
 Tri h false l (fun w B => ∃ szV ob, w = .tuple [vlV (6, ((X.os.length + 1 : Nat) : Int)), .int .i64 0] ∧ B = [HK { X with made:=X.made + 1, szV:=szV, os:=X.os ++ [newFn (X.made + 1) p ob] }]) (M 48 [.ptr X.hb 0, .int .i64 p, .nilSlice] h):=by
 refine t3 e48 fun L => ?_
 unfold B48
 refine nw1 H L fun b0 h hb0 H L => ?_
 refine nw1 H L fun b1 h hb1 H L => ?_
 refine lo 2 H rfl rfl ?_
 refine tbe1 (sp102 H) L fun h H L => ?_
 refine Tri.not ?_
 apply nF
 refine Tri.lss (fun e => by omega) (fun _ => ?_)
 apply gff
 apply Mid.bB
 apply bL
 refine Tri.lenNil ?_
 apply bS
 apply bI
 refine Tri.gtr (fun e => absurd e (by decide)) (fun _ => ?_)
 apply bS
 apply pF
 apply gff
 apply Mid.bB
 refine tbe1 (sp114 H) L fun h H L => ?_
 apply bS
 apply pF
 apply nF
 refine lo 2 H rfl rfl ?_
 have Ho36:=H
 refine Tri.wroteC (sp116 (H.draw _)) L (fun v h2 e => by rw [e]; rfl) fun v h2 h B hq H2 hn hl eh H L => ?_
 obtain ⟨rfl, rfl⟩:=hq
 refine Tri.bldS rfl ?_
 refine Tri.drawNew H L fun b41 h hb41 H L => ?_
 replace H:=H.d1
 apply bL
 refine Tri.lenNil ?_
 apply bS
 refine Tri.addN (by omega) (by omega) ?_
 have Ho46:=H
 refine Tri.wrote (sp104 (x:=newFn 0 p b41) (m:=2) (by decide) hr hu hmx hlen (.inr (.inl rfl)) hmd (H.draw _)) L (fun e => e) fun v h2 h B hq H2 hn hl eh H L => ?_
 obtain ⟨szV, rfl, rfl⟩:=hq
 refine Tri.ext rfl ?_
 refine Tri.ext rfl ?_
 refine wl0 7 H rfl rfl rfl L (by first|rfl|assumption) fun h H L => ?_
 have et:=txL_snoc X.as (newFn (X.made + 1) p b41).a (show (6 : Int) ≠ 4 by decide)
 have H1:=(H.out 7).tl
 have H2 : St (Mid.row X.hb (HI.row { X with made := X.made + 1 }) :: dict X.allb (ies (allL X.os ++ [(((X.os.length + 1 : Nat) : Int), .ptr b41 0)])) :: Mid.row b41 (newFn (X.made + 1) p b41).row ::
  PK { X.po with us:=X.po.us + 2, n:=X.po.n + 1, szV:=szV, sz:=X.po.sz ++ [((2 : Nat) : Int)] } :: dict X.txb (txL X.as) :: _) _:=H1
 rw [← et] at H2
 exact Tri.done (B:=[HK _]) ⟨szV, b41, rfl, rfl⟩ (closeNew (x:=newFn (X.made + 1) p b41) (m:=2) (show (6 : Int) ≠ 5 by decide) rfl H2).x1 L
def rPool (m : Int) : V → List Asn → Prop:=fun w B => ∃ pb, w = .tuple [.ptr pb 0, .int .i64 0] ∧ B = [Mid.row pb [.bool true, .int .i64 m, .int .i64 0, .int .i64 0, .nilSlice, .nilSlice]]
theorem sp100 {m : Int} (h1 : 0 ≤ m) (h2 : m ≤ 1073741824) (H : St l h) : Tri h false l (rPool m) (M 100 [.int .i64 m] h):=by
 refine t1 e100 fun L => ?_
 unfold B100
 refine Tri.lss (fun e => by omega) (fun _ => ?_)
 apply gff
 apply bI
 refine Tri.gtr (fun e => by omega) (fun _ => ?_)
 apply bS
 apply pF
 apply nF
 refine Tri.bldS rfl ?_
 refine nw H L fun b14 h hb14 H L => ?_
 exact Tri.done (B:=[Mid.row b14 _]) ⟨_, rfl, rfl⟩ H L
def newH (hb pb allb txb ntb : Nat) (m : Int) : HI:=⟨hb, pb, allb, txb, ntb, m, 0, .nilSlice, []⟩
def rNew (m : Int) : V → List Asn → Prop:=fun w B => ∃ hb pb allb txb ntb, w = .tuple [.ptr hb 0, .int .i64 0] ∧ B = [HK (newH hb pb allb txb ntb m)]
theorem sp32 {m : Int} (h1 : 1 ≤ m) (h2 : m ≤ 16777216) (H : St l h0) : Tri h0 false l (rNew m) (M 32 [.int .i64 m] h0):=by
 refine t1 e32 fun L => ?_
 unfold B32
 refine Tri.lss (fun e => by omega) (fun _ => ?_)
 apply gff
 apply bI
 refine Tri.gtr (fun e => by omega) (fun _ => ?_)
 apply bS
 apply pF
 apply nF
 refine Mid.tb (sp100 (by first|rfl|assumption|omega|(dsimp only;omega)) (by first|rfl|assumption|omega|(dsimp only;omega)) H) L fun v h B hq13 H L => ?_
 obtain ⟨pb, rfl, rfl⟩:=hq13
 refine Tri.ext rfl ?_
 refine Tri.ext rfl ?_
 refine Tri.neq (fun e => absurd e (by decide)) (fun _ => ?_)
 apply nF
 refine Tri.bldS rfl ?_
 have M1:=H.new (A:=dict h.n []) (o:=.map []) (up_eq _ _ _)
 have M2:=M1.new (A:=dict (h.new (.map [])).n []) (o:=.map []) (up_eq _ _ _)
 have M3:=M2.new (A:=dict ((h.new (.map [])).new (.map [])).n []) (o:=.map []) (up_eq _ _ _)
 have N (g : Hp) (L : Lo false h0 g) : Lo false h0 (g.new (.map [])):=⟨Nat.le_trans L.n (Nat.le_succ _), fun e => nomatch e⟩
 refine Tri.newS M3 (N _ (N _ (N _ L))) fun b h hb H L => ?_
 have H1:=((((H.out 4).ins 1).out 4).ins 2).out 4 |>.ins 3
 have H2:=(St.pack (l:=[]) (H1.vc_new true 3 1)).ins 6 |>.ins 2
 have H6:=closeH (X:=newH b pb _ _ _ m) (l:=l) H2
 exact Tri.done (B:=[HK _]) ⟨b, pb, _, _, _, rfl, rfl⟩ H6 L
def knV (ao : List AO) (s : Bs) : Vl := match tget s ao 0 with
 | some n => (4, n)
 | none => (0, 0)
def knB (ao : List AO) (s : Bs) : Bool:=(tget s ao 0).isSome
theorem sp146 {s : Bs} (H : St (HK X :: l) h) : Tri h true l (rHK X (.tuple [vlV (knV X.as s), .bool (knB X.as s)])) (M 146 [.ptr X.hb 0, .str s] h):=by
 refine t2 e146 fun L => ?_
 unfold B146
 refine nw1 H L fun b0 h hb0 H L => ?_
 refine tbe1 (sp102 H) L fun h H L => ?_
 refine Tri.not ?_
 apply nF
 apply nl
 apply ad
 replace H:=openH H
 have hg:=mapGet_tx s X.as 0
 unfold knV knB
 cases ht : tget s X.as 0 with
 | none =>
  rw [ht] at hg
  refine lo 0 H rfl rfl ?_
  refine Tri.lookN 4 H rfl rfl hg ?_
  replace H:=closeH H
  refine Tri.ext rfl ?_
  refine Tri.ext rfl ?_
  refine Tri.not ?_
  apply nT
  refine Tri.bldS rfl ?_
  refine wl1 1 H rfl rfl rfl L ‹_› (by first|rfl|assumption) fun h H L => ?_
  exact dHK H.x1 L
 | some n =>
  rw [ht] at hg
  refine lo 0 H rfl rfl ?_
  refine Tri.lookT 4 H rfl rfl hg ?_
  replace H:=closeH H
  refine Tri.ext rfl ?_
  refine Tri.ext rfl ?_
  refine Tri.not ?_
  apply nF
  refine Tri.bldS rfl ?_
  refine wl1 1 H rfl rfl rfl L ‹_› (by first|rfl|assumption) fun h H L => ?_
  exact dHK H.x1 L
def FA (hb b0 b1 b2 : Nat) (kn : Vl) (ok : Bool) : List Asn:=[Mid.row b0 [.ptr hb 0], Mid.row b1 [.bool ok], Mid.row b2 (vlC kn)]
def FD (hb b0 b1 b2 : Nat) (kn : Vl) (ok : Bool) : Asn:=ands (FA hb b0 b1 b2 kn ok)
theorem openF {b0 b1 b2 : Nat} {kn : Vl} {ok : Bool} {hb : Nat} (H : St (FD hb b0 b1 b2 kn ok :: l) h) : St (Mid.row b0 [.ptr hb 0] :: Mid.row b1 [.bool ok] :: Mid.row b2 (vlC kn) :: l) h:=H.app
theorem closeF {b0 b1 b2 : Nat} {kn : Vl} {ok : Bool} {hb : Nat} (H : St (Mid.row b0 [.ptr hb 0] :: Mid.row b1 [.bool ok] :: Mid.row b2 (vlC kn) :: l) h) : St (FD hb b0 b1 b2 kn ok :: l) h:=St.pack (l:=FA hb b0 b1 b2 kn ok) H
def rFnd (X : HI) (s : Bs) : V → List Asn → Prop:=fun w B => ∃ b0 b1 b2, w = .func 74 [] [.ptr b0 0, .ptr b1 0, .ptr b2 0] ∧ B = [HK X, FD X.hb b0 b1 b2 (knV X.as s) (knB X.as s)]
def fndI (os : List IO) (kn : Vl) (ok : Bool) (a : Vl) : Vl:=if ok = true ∧ (metaI os a).1 = 5 then getI os (metaI os a) kn else (0, 0)
def rF2 (X : HI) (A : Asn) (v : V) : V → List Asn → Prop:=fun w B => w = v ∧ B = [HK X, A]
theorem sp148 {a kn : Vl} {ok : Bool} {c0 c1 c2 : Nat} (hI : ∀ x ∈ X.os, x.a.pl.length ≤ 100000) (H : St (HK X :: FD X.hb c0 c1 c2 kn ok :: l) h) : Tri h true l (rF2 X (FD X.hb c0 c1 c2 kn ok) (vlV (fndI X.os kn ok a))) (M 148 [vlV a, .ptr c0 0, .ptr c1 0, .ptr c2 0] h):=by
 refine t4 e148 fun L => ?_
 unfold B148
 replace H:=(openF H.u1).u3
 refine nw1 H L fun b0 h hb0 H L => ?_
 refine nw1 H L fun b1 h hb1 H L => ?_
 refine lo 3 H rfl rfl ?_
 refine ls 2 H rfl rfl ?_
 refine tbe1 (sp16 H) L fun h H L => ?_
 refine nw1 H L fun b5 h hb5 H L => ?_
 refine w1 1 H rfl rfl rfl L ‹_› (by first|rfl|assumption) fun h H L => ?_
 refine lo 5 H rfl rfl ?_
 cases ok with
 | false =>
  apply gft
  apply pF
  apply nF
  refine Tri.bldS rfl ?_
  refine wl1 2 H rfl rfl rfl L ‹_› (by first|rfl|assumption) fun h H L => ?_
  rw [show fndI X.os kn false a = (0, 0) from if_neg (fun c => Bool.noConfusion c.1)]
  exact Tri.done (B:=[HK X, FD X.hb c0 c1 c2 kn false]) ⟨rfl, rfl⟩ (closeF H.x1.x1.x1.d3).u1 L
 | true =>
  apply gtt
  apply ba
  refine bl 1 H rfl rfl ?_
  apply bI
  refine Tri.eql (fun e => ?_) (fun e => ?_)
  ·apply bS
   apply pT
   apply nT
   refine lo 4 H rfl rfl ?_
   refine ls 1 H rfl rfl ?_
   refine ls 6 H rfl rfl ?_
   refine tbe1 (sp18 (by first|rfl|assumption|omega|(dsimp only;omega)) H) L fun h H L => ?_
   refine wl1 2 H rfl rfl rfl L ‹_› (by first|rfl|assumption) fun h H L => ?_
   rw [show fndI X.os kn true a = getI X.os (metaI X.os a) kn from if_pos ⟨rfl, e⟩]
   exact Tri.done (B:=[HK X, FD X.hb c0 c1 c2 kn true]) ⟨rfl, rfl⟩ (closeF H.x1.x1.x1.d3).u1 L
  ·apply bS
   apply pT
   apply nF
   refine Tri.bldS rfl ?_
   refine wl1 2 H rfl rfl rfl L ‹_› (by first|rfl|assumption) fun h H L => ?_
   rw [show fndI X.os kn true a = (0, 0) from if_neg (fun c => e c.2)]
   exact Tri.done (B:=[HK X, FD X.hb c0 c1 c2 kn true]) ⟨rfl, rfl⟩ (closeF H.x1.x1.x1.d3).u1 L
abbrev outV (kd : Int) (v fn : Vl) (ag : V) (po : Int) : V:=.agg [.int .u8 kd, .int .u8 v.1, .int .i64 v.2, .int .u8 fn.1, .int .i64 fn.2, ag, .int .u8 po]
theorem sp82 {a : Vl} (H : St l h) : Tri h true l (rNo (outV 1 a (0, 0) .nilSlice 0)) (M 82 [vlV a] h):=by
 refine t1 e82 fun L => ?_
 unfold B82
 refine nw H L fun b0 h hb0 H L => ?_
 refine nw H L fun b1 h hb1 H L => ?_
 refine ls 1 H rfl rfl ?_
 refine Tri.bldS rfl ?_
 refine wl1 0 H rfl rfl rfl L ‹_› (by first|rfl|assumption) fun h H L => ?_
 exact Tri.done (B:=[]) ⟨rfl, rfl⟩ H.tl.tl L
theorem sp66 {a : Vl} (H : St (HK X :: l) h) : Tri h true l (rHK X (.bool (ofI X.os a 5).isSome)) (M 66 [.ptr X.hb 0, vlV a] h):=by
 refine t2 e66 fun L => ?_
 unfold B66
 refine nw1 H L fun b0 h hb0 H L => ?_
 refine al 1 H rfl rfl ?_
 unfold ofI
 refine Tri.eql (fun e => ?_) (fun e => ?_)
 ·rw [if_pos e]
  apply gtt
  refine bn 1 H rfl rfl ?_
  apply Mid.bB
  refine tbe1 (sp150 H) L fun h H L => ?_
  apply bS
  apply pT
  exact dHK H.x1 L
 ·rw [if_neg e]
  apply gft
  apply pF
  exact dHK H.x1 L
def rStr (m : Nat) : V → List Asn → Prop:=fun w B => ∃ z : Bs, z.n ≤ m ∧ w = .str z ∧ B = []
theorem Tri.idxP {s n b o : Nat} {d : IntKind} {i : Int} (h1 : 0 ≤ i) (h2 : i < n) (hk : Tri h0 ro F Q (k (.ptr b (o + i.toNat * s)))) : Tri h0 ro F Q (Mid.idxP s n (.ptr b o) (.int d i) k):=by
 obtain ⟨j, rfl⟩ : ∃ j : Nat, i = j:=⟨i.toNat, by omega⟩
 rw [idxP_at _ _ _ _ _ _ _ (by omega)]; exact hk
theorem sp72 {a : Vl} (h0 : 0 ≤ a.1) (h255 : a.1 ≤ 255) (H : St l h) : Tri h true l (rStr 8) (M 72 [vlV a] h):=by
 refine t1 e72 fun L => ?_
 unfold B72
 refine nw H L fun b0 h hb0 H L => ?_
 refine Tri.bldS rfl ?_
 refine nw H L fun b2 h hb2 H L => ?_
 refine w1 0 H rfl rfl rfl L ‹_› (by first|rfl|assumption) fun h H L => ?_
 refine al 1 H rfl rfl ?_
 refine Tri.conv ?_
 rw [i64_of (by omega) (by omega)]
 refine Tri.geq (fun e => ?_) (fun e => ?_)
 ·apply nT
  exact Tri.done (B:=[]) ⟨_, by decide, rfl, rfl⟩ H.tl.tl L
 ·apply nF
  refine al 1 H rfl rfl ?_
  have hc : ∃ z : Bs, z.n ≤ 8 ∧ [V.str ⟨3, 7104878⟩, .str ⟨7, 31069335677005666⟩, .str ⟨7, 31069335677005666⟩, .str ⟨6, 125779768604014⟩, .str ⟨6, 113723913172083⟩, .str ⟨5, 435610083700⟩, .str ⟨8, 7957695015192261990⟩, .str ⟨8, 7957695015192261990⟩, .str ⟨6, 110369476601972⟩][a.1.toNat]? = some (.str z):=by
   obtain ⟨n, hn⟩ : ∃ n : Nat, a.1 = n:=⟨a.1.toNat, by omega⟩
   rw [hn]
   have : n < 9:=by omega
   match n, this with
   | 0, _ => exact ⟨_, by decide, rfl⟩
   | 1, _ => exact ⟨_, by decide, rfl⟩
   | 2, _ => exact ⟨_, by decide, rfl⟩
   | 3, _ => exact ⟨_, by decide, rfl⟩
   | 4, _ => exact ⟨_, by decide, rfl⟩
   | 5, _ => exact ⟨_, by decide, rfl⟩
   | 6, _ => exact ⟨_, by decide, rfl⟩
   | 7, _ => exact ⟨_, by decide, rfl⟩
   | 8, _ => exact ⟨_, by decide, rfl⟩
  obtain ⟨z, hz, hc⟩:=hc
  refine Tri.idxP h0 (by omega) ?_
  rw [Nat.mul_one, Nat.zero_add]
  refine lo 0 (v:=.str z) H rfl hc ?_
  exact Tri.done (B:=[]) ⟨z, hz, rfl, rfl⟩ H.tl.tl L
structure Room (X : HI) : Prop where
 r : used X.as + 4200 ≤ X.max
 u : 0 ≤ used X.as
 mx : X.max ≤ 1073741824
 len : X.os.length ≤ 60000
 md : 0 ≤ X.made ∧ X.made ≤ 1000000
 pl : ∀ x ∈ X.os, x.a.pl.length ≤ 60000
 nd : ∀ x ∈ X.os, (x.a.pl.map (·.1)).Nodup
end
end Go.MS
end
