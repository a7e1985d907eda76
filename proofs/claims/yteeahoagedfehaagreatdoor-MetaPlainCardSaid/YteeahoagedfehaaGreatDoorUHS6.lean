/- A part of the proof. -/
import Derived.Test.YteeahoagedfehaaGreatDoorUHS2
set_option linter.all false
set_option warn.classDefReducibility false
noncomputable section
section
open Go Go.Mid Go.Proofs
set_option maxRecDepth 100000
namespace Go.MS
section
variable {l F : List Asn} {h h0 : Hp} {ro : Bool} {Q : V → List Asn → Prop} {k : V → VH} {K : V → Hp → VH} {v : V} {X X' : HI} {x y : IO} {i : Nat}
structure PI where
 b : Nat
 mx : Int
 us : Int
 n : Int
 szV : V
 sz : List Int
def PI.row (p : PI) : List V:=[.bool true, .int .i64 p.mx, .int .i64 p.us, .int .i64 p.n, p.szV, .nilSlice]
def PK (p : PI) : Asn:=ands [Mid.row p.b p.row, vc true p.szV 3 1 (p.sz.map (V.int .i64))]
variable {p p' : PI}
theorem openP (H : St (PK p :: l) h) : St (Mid.row p.b p.row :: vc true p.szV 3 1 (p.sz.map (V.int .i64)) :: l) h:=H.app
theorem closeP (H : St (Mid.row p.b p.row :: vc true p.szV 3 1 (p.sz.map (V.int .i64)) :: l) h) : St (PK p :: l) h:=St.pack (l:=[Mid.row p.b p.row, vc true p.szV 3 1 (p.sz.map (V.int .i64))]) H
def rPK (p : PI) (v : V) : V → List Asn → Prop:=fun w B => w = v ∧ B = [PK p]
theorem dPK {v : V} (H : St (PK p :: l) h) (L : Lo ro h0 h) : Tri h0 ro l (rPK p v) (some (v, h)):=Tri.done (B:=[PK p]) ⟨rfl, rfl⟩ H L
theorem sp174 (H : St (PK p :: l) h) : Tri h true l (rPK p (.bool false)) (M 174 [.ptr p.b 0] h):=by
 refine t1 e174 fun L => ?_
 unfold B174
 replace H:=openP H
 refine Tri.eqP ?_
 apply gff
 refine Tri.eqv (bind_nilS _ _) ?_
 apply nl
 apply ba
 refine bl 0 H rfl rfl ?_
 refine Tri.eqv (bind_notS _ _) ?_
 refine Tri.not ?_
 apply bS
 apply pF
 exact dPK (closeP H) L
theorem sp124 (H : St (PK p :: l) h) : Tri h true l (rPK p (.int .i64 p.us)) (M 124 [.ptr p.b 0] h):=by
 refine t1 e124 fun L => ?_
 unfold B124
 refine tbe1 (sp174 H) L fun h H L => ?_
 apply nF
 apply nl
 apply ad
 replace H:=openP H
 refine lo 0 H rfl rfl ?_
 exact dPK (closeP H) L
theorem at_sz {sz : List Int} {n : Int} (h1 : 1 ≤ n) (h2 : n ≤ sz.length) : ∃ z, sz[(n - 1).toNat]? = some z ∧ (sz.map (V.int .i64))[0 + (n - 1).toNat * 1]? = some (V.int .i64 z) ∧ z ∈ sz:=by
 have h : (n - 1).toNat < sz.length:=by omega
 refine ⟨sz[(n - 1).toNat], List.getElem?_eq_getElem h, ?_, List.getElem_mem h⟩
 rw [Nat.zero_add, Nat.mul_one, List.getElem?_map, List.getElem?_eq_getElem h]; rfl
theorem sp184 {n : Int} (h1 : 1 ≤ n) (h2 : n ≤ p.sz.length) (h3 : ∀ z ∈ p.sz, 0 ≤ z) (hl : p.sz.length ≤ 100000) (H : St (PK p :: l) h) : Tri h true l (rPK p (.bool true)) (M 184 [.ptr p.b 0, .int .i64 n] h):=by
 refine t2 e184 fun L => ?_
 unfold B184
 refine Tri.geq (fun _ => ?_) (fun e => by omega)
 replace H:=openP H
 apply gtt
 refine Tri.eqv (bind_nilS _ _) ?_
 apply nl
 apply ba
 refine bl 0 H rfl rfl ?_
 apply Mid.bB
 apply bL
 refine Tri.lenV 1 p.sz.length H rfl (by decide) (by rw [List.length_map]; omega) ?_
 apply bS
 apply bI
 refine Tri.leq (fun _ => ?_) (fun e => by omega)
 apply bS
 apply pT
 apply gtt
 refine Tri.eqv (bind_nilS _ _) ?_
 apply nl
 apply ba
 refine bl 0 H rfl rfl ?_
 apply bI
 refine Tri.subN (by omega) (by omega) ?_
 refine Tri.eqv (bind_idxS _ _) ?_
 refine Tri.idxV 1 H rfl (by omega) (by rw [List.length_map]; omega) (by decide) fun b nn cc g hv _ => ?_
 rw [hv] at H
 obtain ⟨z, hz, hz1, hz2⟩:=at_sz h1 h2
 apply bW
 refine Tri.loadV 1 H rfl hz1 ?_
 rw [← hv] at H
 apply bI
 refine Tri.geq (fun _ => ?_) (fun e => absurd (h3 z hz2) (by omega))
 apply bS
 apply pT
 exact dPK (closeP H) L
theorem sp128 {n m : Int} (z : Int) (h1 : 1 ≤ n) (h2 : n ≤ p.sz.length) (h3 : ∀ z ∈ p.sz, 0 ≤ z) (hl : p.sz.length ≤ 100000) (hz : p.sz[(n - 1).toNat]? = some z) (hm : 0 ≤ m) (hr : m ≤ p.mx - p.us + z) (hu : 0 ≤ p.us) (hx : p.mx ≤ 1073741824) (hz1 : z ≤ 1073741824) (hz0 : z ≤ p.us)
 (H : St (PK p :: l) h) : Tri h false l (rPK { p with us:=p.us + (m - z), sz:=p.sz.set (n - 1).toNat m } (.int .i64 0)) (M 128 [.ptr p.b 0, .int .i64 n, .int .i64 m] h):=by
 refine t3 e128 fun L => ?_
 unfold B128
 have hzc : (p.sz.map (V.int .i64))[0 + (n - 1).toNat * 1]? = some (V.int .i64 z):=by rw [Nat.zero_add, Nat.mul_one, List.getElem?_map, hz]; rfl
 have hz9 : 0 ≤ z:=h3 z (List.mem_of_getElem? hz)
 refine tbe1 (sp174 H) L fun h H L => ?_
 apply nF
 refine tbe1 (sp184 (by first|rfl|assumption|omega|(dsimp only;omega)) (by first|rfl|assumption|omega|(dsimp only;omega)) (by first|rfl|assumption|omega|(dsimp only;omega)) (by first|rfl|assumption|omega|(dsimp only;omega)) H) L fun h H L => ?_
 refine Tri.not ?_
 apply gff
 apply bI
 refine Tri.lss (fun e => by omega) (fun _ => ?_)
 replace H:=openP H
 apply bS
 apply pF
 apply nF
 refine nal 0 H rfl rfl ?_
 refine nal 0 H rfl rfl ?_
 refine Tri.subN (by omega) (by omega) ?_
 refine nal 0 H rfl rfl ?_
 refine Tri.subN (by omega) (by omega) ?_
 refine Tri.idxV 1 H rfl (by omega) (by rw [List.length_map]; omega) (by decide) fun b nn cc g hv _ => ?_
 rw [hv] at H
 refine Tri.loadV 1 H rfl hzc ?_
 refine Tri.addN (by omega) (by omega) ?_
 refine Tri.gtr (fun e => by omega) (fun _ => ?_)
 rw [← hv] at H
 apply nF
 refine nal 0 H rfl rfl ?_
 refine nal 0 H rfl rfl ?_
 refine Tri.subN (by omega) (by omega) ?_
 refine Tri.idxV 1 H rfl (by omega) (by rw [List.length_map]; omega) (by decide) fun b nn cc g hv _ => ?_
 rw [hv] at H
 refine Tri.loadV 1 H rfl hzc ?_
 rw [← hv] at H
 refine Tri.subN (by omega) (by omega) ?_
 refine Tri.addN (by omega) (by omega) ?_
 apply nl
 apply ad
 refine sto 0 H rfl rfl L (by first|rfl|assumption) fun h H L => ?_
 refine nal 0 H rfl rfl ?_
 refine Tri.subN (by omega) (by omega) ?_
 refine Tri.idxV 1 H rfl (by omega) (by rw [List.length_map]; omega) (by decide) fun b nn cc g hv _ => ?_
 rw [hv] at H
 refine Tri.storeV 1 H rfl (by rw [List.length_map]; omega) L (fun e => nomatch e) rfl fun h H L => ?_
 rw [← hv, show 0 + (n - 1).toNat * 1 = (n - 1).toNat by omega, ← List.map_set] at H
 have H2 : St (Mid.row p.b (PI.row { p with us:=p.us + (m - z), sz:=p.sz.set (n - 1).toNat m }) :: vc true p.szV 3 1 ((p.sz.set (n - 1).toNat m).map (V.int .i64)) :: l) h:=H
 exact dPK (p:={ p with us:=p.us + (m - z), sz:=p.sz.set (n - 1).toNat m }) (closeP H2) L
def rPT (p : PI) (m : Int) : V → List Asn → Prop:=fun w B => ∃ szV, w = .tuple [.int .i64 ((p.sz.length + 1 : Nat) : Int), .int .i64 0] ∧ B = [PK { p with us:=p.us + m, n:=p.n + 1, szV:=szV, sz:=p.sz ++ [m] }]
theorem sp166 {m : Int} (hm : 0 ≤ m) (hr : m ≤ p.mx - p.us) (hu : 0 ≤ p.us) (hx : p.mx ≤ 1073741824) (hn : 0 ≤ p.n ∧ p.n < 65536) (hl : p.sz.length ≤ 100000)
 (H : St (PK p :: l) h) : Tri h false l (rPT p m) (M 166 [.ptr p.b 0, .int .i64 m] h):=by
 refine t2 e166 fun L => ?_
 unfold B166
 refine tbe1 (sp174 H) L fun h H L => ?_
 apply nF
 refine Tri.lss (fun e => by omega) (fun _ => ?_)
 replace H:=openP H
 apply nF
 refine nal 0 H rfl rfl ?_
 refine nal 0 H rfl rfl ?_
 refine Tri.subN (by omega) (by omega) ?_
 refine Tri.gtr (fun e => by omega) (fun _ => ?_)
 apply gff
 refine Tri.eqv (bind_nilS _ _) ?_
 apply nl
 apply ba
 refine bl 0 H rfl rfl ?_
 apply bI
 refine Tri.eql (fun e => by omega) (fun _ => ?_)
 apply bS
 apply pF
 apply nF
 refine nal 0 H rfl rfl ?_
 refine Tri.addN (by omega) (by omega) ?_
 apply nl
 apply ad
 refine sto 0 H rfl rfl L (by first|rfl|assumption) fun h H L => ?_
 refine nal 0 H rfl rfl ?_
 refine Tri.addN (by omega) (by omega) ?_
 apply nl
 apply ad
 refine sto 0 H rfl rfl L (by first|rfl|assumption) fun h H L => ?_
 refine nal 0 H rfl rfl ?_
 apply bL
 refine Tri.lenNil ?_
 apply bS
 refine eTi (by decide) ?_
 refine nal 0 H rfl rfl ?_
 refine Tri.bld (e:=_) (s:=_) H L rfl rfl fun b58 h hb58 H L => ?_
 refine Tri.app 2 p.sz.length 1 H rfl (H.newCells (i:=0) rfl rfl) (by decide) (by simp) rfl (by omega) (by omega) rfl L (Own.off _ _) fun v' h H L O o1 => ?_
 replace H:=H.tl
 apply nl
 apply ad
 refine sto 0 H rfl rfl L (by first|rfl|assumption) fun h H L => ?_
 refine nal 0 H rfl rfl ?_
 apply bL
 have e1 : p.sz.map (V.int .i64) ++ (V.int .i64 m :: [].append []) = (p.sz ++ [m]).map (V.int .i64):=by rw [List.map_append]; rfl
 replace H : St (_ :: vc true v' 3 1 (p.sz.map (V.int .i64) ++ (V.int .i64 m :: [].append [])) :: _) _:=H
 rw [e1] at H
 refine Tri.lenV 1 (p.sz.length + 1) H rfl (by decide) (by simp) ?_
 apply bS
 exact Tri.done (B:=[PK _]) ⟨v', rfl, rfl⟩ (closeP (p:={ p with us:=p.us + m, n:=p.n + 1, szV:=v', sz:=p.sz ++ [m] }) H) L
end
section
variable {l F : List Asn} {h h0 : Hp} {ro : Bool} {Q : V → List Asn → Prop} {k : V → VH} {K : V → Hp → VH} {v lV : V} {X X' : HI} {x y : IO} {i : Nat} {pl : List Pl}
abbrev pls (v : V) (pl : List Pl) : Asn:=vc true v 126 4 (pl.flatMap plC)
def rPl (v : V) (pl : List Pl) (w : V) : V → List Asn → Prop:=fun u B => u = w ∧ B = [pls v pl]
theorem dPl {w : V} (H : St (pls v pl :: l) h) (L : Lo ro h0 h) : Tri h0 ro l (rPl v pl w) (some (w, h)):=Tri.done (B:=[pls v pl]) ⟨rfl, rfl⟩ H L
def dAt : List Pl → Int → Int
 | [], _ => -1
 | p :: l, j => if dead p then j else dAt l (j + 1)
theorem loop71 (hf : pl.length ≤ 100000) (m : Nat) : ∀ {j : Nat} {h : Hp} {l : List Asn} (H : St (pls v pl :: l) h) (hj : j ≤ pl.length) (hm : pl.length - j ≤ m),
 Tri h true l (rPl v pl (.int .i64 (dAt (pl.drop j) (j : Nat)))) (M 71 [v, .func 90 [] [], .int .i64 (pl.length : Nat), .int .i64 (j : Nat)] h):=by
 induction m with
 | zero =>
  intro j h l H hj hm
  refine t4 e71 fun L => ?_
  unfold B71
  refine Tri.lss (fun e => by omega) (fun e => ?_)
  apply nF
  rw [List.drop_eq_nil_of_le (by omega)]
  exact dPl H L
 | succ m ih =>
  intro j h l H hj hm
  refine t4 e71 fun L => ?_
  unfold B71
  refine Tri.lss (fun e => ?_) (fun e => ?_)
  ·have hlt : j < pl.length := by omega
   rw [List.drop_eq_getElem_cons hlt]
   unfold dAt
   apply nT
   refine Tri.idxV 0 H rfl (by omega) (by rw [plC_len]; omega) (by decide) fun b nn cc g hv _ => ?_
   rw [hv] at H
   refine Tri.loadsV 0 (by decide) H rfl (by rw [plC_len]; omega) (X:=plC pl[j]) (by rw [Nat.zero_add, Int.toNat_natCast]; exact plC_pl _ j hlt) ?_
   rw [← hv] at H
   refine Tri.eqv (congrArg (fun x => bindS x _) (dyn_at _ _ _ _ _ _)) ?_
   refine Mid.tb (sp180 H) L fun u h B hq H L => ?_
   obtain ⟨rfl, rfl⟩:=hq
   cases hd : dead pl[j] with
   | true =>
    apply nT
    exact dPl H L
   | false =>
    apply nF
    refine Tri.addN (by omega) (by omega) ?_
    refine te (ih (j:=j + 1) H (by omega) (by omega)) L
  ·apply nF
   rw [List.drop_eq_nil_of_le (by omega)]
   exact dPl H L
theorem sp204 (hf : pl.length ≤ 100000) (H : St (pls v pl :: l) h) : Tri h true l (rPl v pl (.int .i64 (dAt pl 0))) (M 204 [v, .func 90 [] []] h):=by
 refine t2 e204 fun L => ?_
 unfold B204
 apply bL
 refine Tri.lenV 0 pl.length H rfl (by decide) (plC_len _) ?_
 apply bS
 exact te (loop71 hf pl.length (j:=0) H (by omega) (by omega)) L
theorem sp178 (hf : pl.length ≤ 100000) (H : St (pls v pl :: l) h) : Tri h true l (rPl v pl (.bool (decide (0 ≤ dAt pl 0)))) (M 178 [v, .func 90 [] []] h):=by
 refine t2 e178 fun L => ?_
 unfold B178
 refine tbe1 (sp204 (by first|rfl|assumption|omega|(dsimp only;omega)) H) L fun h H L => ?_
 refine Tri.geq (fun e => ?_) (fun e => ?_)
 ·rw [decide_eq_true e]; exact dPl H L
 ·rw [decide_eq_false (by omega)]; exact dPl H L
end
end Go.MS
end
