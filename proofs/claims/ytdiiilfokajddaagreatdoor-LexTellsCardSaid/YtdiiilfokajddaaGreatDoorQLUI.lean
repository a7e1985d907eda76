/- A part of the proof. -/
import Derived.Test.YtdiiilfokajddaaGreatDoorQLUD
set_option linter.all false
set_option warn.classDefReducibility false
noncomputable section
section
open Go Go.Mid Go.Proofs
set_option maxRecDepth 100000
namespace Go.LT
section
variable {l F : List Asn} {h h0 : Hp} {ro : Bool} {Q : V → List Asn → Prop} {k : V → VH} {K : V → Hp → VH} {v lV : V} {i j n : Nat}
def wdB : List Bs:=[⟨3, 6581857⟩, ⟨5, 461195539042⟩, ⟨2, 28516⟩, ⟨4, 1702063205⟩, ⟨6, 112602859662437⟩, ⟨3, 6581861⟩, ⟨5, 435728179558⟩, ⟨3, 7499622⟩, ⟨8, 7957695015192261990⟩, ⟨4, 1869901671⟩, ⟨2, 26217⟩, ⟨2, 28265⟩, ⟨5, 465490374508⟩, ⟨3, 7104878⟩, ⟨3, 7630702⟩, ⟨2, 29295⟩, ⟨6, 127961662514546⟩, ⟨6, 121437875889522⟩, ⟨4, 1852139636⟩, ⟨4, 1702195828⟩, ⟨5, 465625706101⟩, ⟨5, 435610544247⟩]
theorem wd_eq : wdB.map bts = WL:=by kernel_rfl
def rWd : V → List Asn → Prop:=fun w B => ∃ sb, w = .slice sb 0 22 22 false ∧ B = [vc false (.slice sb 0 22 22 false) 9 1 (wdB.map V.str)]
theorem sp22 (H : St l h) : Tri h true l rWd (M 22 [] h):=by
 refine t0 e22 fun L => ?_
 unfold B22
 refine Tri.bld (e:=_) (s:=_) H L rfl rfl fun b0 h hb0 H L => ?_
 exact Tri.done (B:=[_]) ⟨_, rfl, rfl⟩ H L
theorem word_from {sb : Nat} {s : Bs} : ∀ (m i : Nat) (h : Hp) (l : List Asn), i + m = 22 → St (vc false (.slice sb 0 22 22 false) 9 1 (wdB.map V.str) :: l) h →
 Tri h true l (rNo (.bool ((wdB.drop i).any fun w => decide (bts s = bts w)))) (M 1 [.str s, .slice sb 0 22 22 false, .int .i64 (i : Int)] h):=by
 have hl : wdB.length = 22:=rfl
 intro m
 induction m with
 | zero =>
  intro i h l hi H
  refine t3 e1 fun L => ?_
  unfold B1
  apply bL
  refine Tri.lenSl ?_
  apply bS
  refine Tri.lss (fun e => by omega) (fun e => ?_)
  rw [List.drop_eq_nil_of_le (by omega)]
  apply nF
  exact Tri.done (B:=[]) ⟨rfl, rfl⟩ H.tl L
 | succ m ih =>
  intro i h l hi H
  have hlt : i < wdB.length:=by omega
  have hc : (wdB.map V.str)[i]? = some (.str wdB[i]):=by rw [List.getElem?_map, List.getElem?_eq_getElem hlt]; rfl
  rw [List.drop_eq_getElem_cons hlt, List.any_cons]
  generalize wdB[i] = z at hc
  refine t3 e1 fun L => ?_
  unfold B1
  apply bL
  refine Tri.lenSl ?_
  apply bS
  refine Tri.lss (fun e => ?_) (fun e => by omega)
  apply nT
  refine Tri.idx (by omega) (by omega) ?_
  refine Tri.loadV (i:=0) H rfl (w:=.str z) (by rw [show 0 + ((i : Int)).toNat * 1 = i by rw [Int.toNat_natCast]; omega]; exact hc) ?_
  refine Tri.strEqL ?_
  rw [decide_eq_decide.2 (show bts z = bts s ↔ bts s = bts z from eq_comm)]
  cases h1 : decide (bts s = bts z) with
  | true =>
   apply nT
   exact Tri.done (B:=[]) ⟨rfl, rfl⟩ H.tl L
  | false =>
   apply nF
   refine aD (by omega) ?_
   exact te (ih (i + 1) h l (by omega) H) L
theorem sp38 {s : Bs} (H : St l h) : Tri h true l (rNo (.bool (wrd (bts s)))) (M 38 [.str s] h):=by
 have e : wrd (bts s) = (wdB.drop 0).any fun w => decide (bts s = bts w):=by
  rw [wrd_eq (fun b hb => bts_mem hb), ← wd_eq, List.any_map]; rfl
 rw [e]
 refine t1 e38 fun L => ?_
 unfold B38
 refine tb1 (sp22 H) L fun v h B hq0 H L => ?_
 obtain ⟨sb0, rfl, rfl⟩:=hq0
 exact te (word_from 22 0 h l rfl H) L
theorem sp30 (H : St l h) : Tri h true l rSg (M 30 [] h):=by
 refine t0 e30 fun L => ?_
 unfold B30
 refine Tri.bld (e:=_) (s:=_) H L rfl rfl fun b0 h hb0 H L => ?_
 exact Tri.done (B:=[_]) ⟨_, rfl, rfl⟩ H L
def rOne (t : Tk) : V → List Asn → Prop:=fun w B => ∃ (z : Bs) (k N : Int) (n : Nat), w = .tuple [tokV k z N 0, .int .i64 (n : Int), .int .i64 t.e] ∧ (t.e = 0 → k = t.k ∧ z.n = t.z.length ∧ bts z = t.z ∧ N = t.N ∧ n = t.n) ∧ B = []
theorem sign_from {s : Bs} {a b0 sb : Nat} (hs : s.n ≤ 60000) (ha : a < s.n) : ∀ (m i : Nat) (best : Bs) (h : Hp) (l : List Asn), i + m = 31 → best.n ≤ 3 → St (vc false (.slice sb 0 31 31 false) 9 1 (sgR.map V.str) :: Mid.row b0 zeroT :: l) h →
 ∀ X, bst ((bts s).drop a) (sgR.drop i) best = X → Tri h false l (rOne (if X.n = 0 then sgE ((bts s).drop a) else ⟨3, bts X, 0, X.n, 0⟩)) (M 37 [.str s, .int .i64 (a : Int), .ptr b0 0, .str best, .slice sb 0 31 31 false, .int .i64 (i : Int)] h):=by
 have hl : sgR.length = 31:=rfl
 intro m
 induction m with
 | zero =>
  intro i best h l hi hbn H X hX
  rw [show sgR.drop i = [] from List.drop_eq_nil_of_le (by omega), bst] at hX
  refine t6 e37 fun L => ?_
  unfold B37
  apply bL
  refine Tri.lenSl ?_
  apply bS
  refine Tri.lss (fun e => by omega) (fun e => ?_)
  apply nF
  refine Tri.strNeL ?_
  cases hb : decide (bts best = bts ⟨0, 0⟩) with
  | false =>
   have hn : best.n ≠ 0 := fun c => by
    have : bts best = []:=List.eq_nil_of_length_eq_zero (by rw [bts_len]; exact c)
    rw [this] at hb; exact absurd hb (by decide)
   subst hX
   rw [if_neg hn]
   apply nT
   refine Tri.bldS rfl ?_
   apply lS
   refine wl0 1 H rfl rfl rfl L (by first|rfl|assumption) fun h H L => ?_
   exact Tri.done (B:=[]) ⟨best, 3, 0, best.n, rfl, fun _ => ⟨rfl, (bts_len best).symm, rfl, rfl, rfl⟩, rfl⟩ H.tl.tl L
  | true =>
   have hn : best.n = 0:=by rw [← bts_len, of_decide_eq_true hb]; rfl
   subst hX
   rw [if_pos hn]
   apply nF
   refine iS (by omega) ?_
   rw [show ((a : Int)).toNat = a from rfl]
   have hd : ((bts s).drop a).headD 0 = s.byte a:=by rw [bts_drop ha, List.headD_cons]
   refine Tri.eql ?_ ?_<;>intro e1
   ·have ee : sgE ((bts s).drop a) = ⟨0, [], 0, 0, 31⟩ := by unfold sgE; rw [hd, if_pos (.inl (Int.ofNat.inj e1))]
    rw [ee]
    apply gtf
    apply pT
    apply nT
    refine Tri.bldS rfl ?_
    refine wl0 1 H rfl rfl rfl L (by first|rfl|assumption) fun h H L => ?_
    exact Tri.done (B:=[]) ⟨⟨0, 0⟩, 0, 0, 0, rfl, (fun c => absurd c (by decide)), rfl⟩ H.tl.tl L
   ·apply gff
    refine jS (by omega) ?_
    apply bI
    rw [show ((a : Int)).toNat = a from rfl]
    refine Tri.eql ?_ ?_<;>intro e2
    ·have ee : sgE ((bts s).drop a) = ⟨0, [], 0, 0, 31⟩ := by unfold sgE; rw [hd, if_pos (.inr (Int.ofNat.inj e2))]
     rw [ee]
     apply bS
     apply pF
     apply nT
     refine Tri.bldS rfl ?_
     refine wl0 1 H rfl rfl rfl L (by first|rfl|assumption) fun h H L => ?_
     exact Tri.done (B:=[]) ⟨⟨0, 0⟩, 0, 0, 0, rfl, (fun c => absurd c (by decide)), rfl⟩ H.tl.tl L
    ·have ee : sgE ((bts s).drop a) = ⟨0, [], 0, 0, 30⟩ := by unfold sgE; rw [hd, if_neg (fun c => c.elim (fun c => e1 (congrArg Int.ofNat c)) (fun c => e2 (congrArg Int.ofNat c)))]
     rw [ee]
     apply bS
     apply pF
     apply nF
     refine Tri.bldS rfl ?_
     refine wl0 1 H rfl rfl rfl L (by first|rfl|assumption) fun h H L => ?_
     exact Tri.done (B:=[]) ⟨⟨0, 0⟩, 0, 0, 0, rfl, (fun c => absurd c (by decide)), rfl⟩ H.tl.tl L
 | succ m ih =>
  intro i best h l hi hbn H X hX
  have hlt : i < sgR.length:=by omega
  have hc : (sgR.map V.str)[i]? = some (.str sgR[i]):=by rw [List.getElem?_map, List.getElem?_eq_getElem hlt]; rfl
  have hmx:=sg_max _ ((sg_perm _).2 (List.getElem_mem hlt))
  rw [List.drop_eq_getElem_cons hlt, bst] at hX
  generalize sgR[i] = z at hc hmx hX
  have k39 : ∀ (best : Bs) (h : Hp) (l : List Asn), bst ((bts s).drop a) (sgR.drop (i + 1)) best = X → best.n ≤ 3 → St (vc false (.slice sb 0 31 31 false) 9 1 (sgR.map V.str) :: Mid.row b0 zeroT :: l) h → Tri h false l (rOne (if X.n = 0 then sgE ((bts s).drop a) else ⟨3, bts X, 0, X.n, 0⟩)) (M 39 [.str s, .int .i64 (a : Int), .ptr b0 0, .str best, .slice sb 0 31 31 false, .int .i64 (i : Int)] h):=by
   intro best h l e hb H
   refine t6 e39 fun L => ?_
   unfold B39
   refine aD (by omega) ?_
   exact te (ih (i + 1) best h l (by omega) hb H X e) L
  refine t6 e37 fun L => ?_
  unfold B37
  apply bL
  refine Tri.lenSl ?_
  apply bS
  refine Tri.lss (fun e => ?_) (fun e => by omega)
  apply nT
  refine Tri.idx (by omega) (by omega) ?_
  refine Tri.loadV (i:=0) H rfl (w:=.str z) (by rw [show 0 + ((i : Int)).toNat * 1 = i by rw [Int.toNat_natCast]; omega]; exact hc) ?_
  refine tbe1 (sp120 (by first|assumption|omega|rfl|(dsimp;omega)) (by first|assumption|omega|rfl|(dsimp;omega)) (by first|assumption|omega|rfl|(dsimp;omega)) H) L fun h H L => ?_
  cases hp : (bts z).isPrefixOf ((bts s).drop a) with
  | true =>
   rw [hp] at hX
   apply gtt
   refine Tri.eqv (bind_idxS _ _) ?_
   refine Tri.idx (by omega) (by omega) (Tri.eqv (bind_load1 _ _) ?_)
   have hc0 : (sgR.map V.str)[0 + ((i : Int)).toNat * 1]? = some (.str z):=by rw [show 0 + ((i : Int)).toNat * 1 = i by rw [Int.toNat_natCast]; omega]; exact hc
   refine Tri.loadV (i:=0) H rfl (w:=.str z) hc0 ?_
   apply Mid.bB
   apply lS
   apply Mid.bB
   apply lS
   apply bI
   refine Tri.gtr ?_ ?_<;>intro e2
   ·rw [if_pos ⟨rfl, by omega⟩] at hX
    apply bS
    apply pT
    apply nT
    refine Tri.idx (by omega) (by omega) ?_
    refine Tri.loadV (i:=0) H rfl (w:=.str z) hc0 ?_
    exact te (k39 z h l hX hmx.2 H) L
   ·rw [if_neg (fun c => by have := c.2; omega)] at hX
    apply bS
    apply pT
    apply nF
    exact te (k39 best h l hX hbn H) L
  | false =>
   rw [hp, if_neg (fun c => nomatch c.1)] at hX
   apply gft
   apply pF
   apply nF
   exact te (k39 best h l hX hbn H) L
theorem sp138 {s : Bs} {a : Nat} (hs : s.n ≤ 60000) (ha : a < s.n) (H : St l h) : Tri h false l (rOne (sgn ((bts s).drop a) sgL)) (M 138 [.str s, .int .i64 (a : Int)] h):=by
 rw [sgn_bst]
 refine t2 e138 fun L => ?_
 unfold B138
 refine nw H L fun b0 h hb0 H L => ?_
 refine tb1 (sp30 H) L fun v h B hq H L => ?_
 obtain ⟨sb, rfl, rfl⟩:=hq
 refine te (sign_from hs ha 31 0 ⟨0, 0⟩ h l rfl (Nat.zero_le _) ?_ _ rfl) L
 exact H
theorem nml_pos {L : List Nat} (h : dig L = true) : 0 < nml L:=by
 cases L with
 | nil => rw [dig_at] at h; exact absurd h (by decide)
 | cons b r =>
  show 0 < wh _ _ _
  have : (nstep (pwz (b :: r)) 0 b).1 = true:=by
   unfold dig at h
   rw [List.headD_cons, Bool.or_eq_true, Bool.and_eq_true, decide_eq_true_iff, beq_iff_eq] at h
   unfold nstep
   rcases h with h2 | h2
   ·have h3 : isDg b = true := cnt_head h2
    rw [h3]; rfl
   ·rw [h2.1]; simp
  rw [wh, if_pos this]; omega
theorem numb_kind {L : List Nat} (h : (numb L).2.2 = 0) : (numb L).1 = 4:=by
 unfold numb at h ⊢
 split at h
 ·rename_i c; rw [if_pos c]
 ·split at h <;> cases h
theorem Tri.qI {s : Bs} {a : Nat} {R : V → Hp → VH} (ha : a < s.n) (hk : Tri h0 ro F Q (R (.bool (decide (s.byte a = 34 ∨ s.byte a = 39))) h)) : Tri h0 ro F Q (intS .eql (.int .u8 (s.byte a : Nat)) (.int .u8 34) fun v2 =>
 guardS v2 false (idxStr (.str s) (.int .i64 (a : Int)) fun v3 => intS .eql v3 (.int .u8 39) fun v4 => some (v4, h)) h fun v5 h6 => optS (pickV v2 (.bool true) v5) fun v7 => R v7 h6):=by
 refine Tri.eql ?_ ?_<;>intro e
 ·rw [decide_eq_true (.inl (Int.ofNat.inj e))] at hk
  exact hk
 ·refine Tri.eqv (bind_idxStr _ _) (Tri.idxStr (by omega) (by omega) (Tri.eqv (bind_intS _ _) (Tri.eql (fun e2 => ?_) (fun e2 => ?_))))
  ·rw [decide_eq_true (.inr (Int.ofNat.inj e2))] at hk
   exact hk
  ·rw [decide_eq_false (show ¬ (s.byte a = 34 ∨ s.byte a = 39) from fun c => c.elim (fun c => e (congrArg Int.ofNat c)) (fun c => e2 (congrArg Int.ofNat c)))] at hk
   exact hk
def ONB (a0 a1 a4 : V) (h : Hp) : VH :=
 bindS (M 130 [a0, a1] h) fun b h =>
 intS .gtr b (.int .i64 0) fun l =>
 ifS l (
 intS .add a1 b fun m =>
 slStrK (some a1) (some m) a0 fun n =>
 bindS (M 132 [n] h) fun e h =>
 extS 0 e fun o =>
 extS 1 e fun p =>
 bindS (bldStruct h [(0, (.int .u8 4)), (2, o)] (.agg [(.int .u8 0), (.str ⟨0, 0⟩), (.int .i64 0), (.int .i64 0)]) (some [(0, 1), (1, 1), (2, 1), (3, 1)])) fun q h =>
 storeN 4 a4 q h fun h =>
 loadN 4 a4 h fun r =>
 some (.tuple [r, b, p], h)) (
 bindS (M 122 [a0, a1] h) fun c h =>
 extS 0 c fun s =>
 extS 1 c fun g =>
 extS 2 c fun t =>
 ifS t (
 intS .eql g (.int .i64 0) fun u =>
 ifS u (
 bindS (bldStruct h [] (.agg [(.int .u8 0), (.str ⟨0, 0⟩), (.int .i64 0), (.int .i64 0)]) (some [(0, 1), (1, 1), (2, 1), (3, 1)])) fun w h =>
 storeN 4 a4 w h fun h =>
 loadN 4 a4 h fun x =>
 some (.tuple [x, (.int .i64 0), (.int .i64 30)], h)) (
 bindS (bldStruct h [(0, (.int .u8 5)), (1, s)] (.agg [(.int .u8 0), (.str ⟨0, 0⟩), (.int .i64 0), (.int .i64 0)]) (some [(0, 1), (1, 1), (2, 1), (3, 1)])) fun y h =>
 storeN 4 a4 y h fun h =>
 loadN 4 a4 h fun z =>
 some (.tuple [z, g, (.int .i64 0)], h))) (
 idxStr a0 a1 fun A =>
 intS .eql A (.int .u8 34) fun i =>
 guardS i false (idxStr a0 a1 fun C =>
 intS .eql C (.int .u8 39) fun D =>
 some (D, h)) h fun E h =>
 optS (pickV i (.bool true) E) fun F =>
 ifS F (
 bindS (M 134 [a0, a1] h) fun j h =>
 intS .add a1 j fun G =>
 slStrK (some a1) (some G) a0 fun H =>
 bindS (M 136 [H] h) fun k h =>
 extS 0 k fun I =>
 extS 1 k fun J =>
 bindS (bldStruct h [(0, (.int .u8 5)), (1, I)] (.agg [(.int .u8 0), (.str ⟨0, 0⟩), (.int .i64 0), (.int .i64 0)]) (some [(0, 1), (1, 1), (2, 1), (3, 1)])) fun K h =>
 storeN 4 a4 K h fun h =>
 loadN 4 a4 h fun L =>
 some (.tuple [L, j, J], h)) (
 bindS (M 120 [a0, a1, (.str ⟨2, 15707⟩)] h) fun N h =>
 ifS N (
 bindS (bldStruct h [] (.agg [(.int .u8 0), (.str ⟨0, 0⟩), (.int .i64 0), (.int .i64 0)]) (some [(0, 1), (1, 1), (2, 1), (3, 1)])) fun O h =>
 storeN 4 a4 O h fun h =>
 loadN 4 a4 h fun P =>
 some (.tuple [P, (.int .i64 0), (.int .i64 30)], h)) (
 bindS (M 138 [a0, a1] h) fun d h =>
 extS 0 d fun R =>
 extS 1 d fun S =>
 extS 2 d fun T =>
 storeN 4 a4 R h fun h =>
 loadN 4 a4 h fun U =>
 some (.tuple [U, S, T], h)))))
theorem onb_ok {s : Bs} {a b0 : Nat} (hs : s.n ≤ 60000) (ha : a < s.n) (hn : isLt (s.byte a) = false) (L : Lo false h0 h) (H : St (Mid.row b0 zeroT :: l) h) : Tri h0 false l (rOne (tk ((bts s).drop a))) (ONB (.str s) (.int .i64 (a : Int)) (.ptr b0 0) h):=by
 generalize hX : tk ((bts s).drop a) = X
 unfold tk at hX
 rw [show ((bts s).drop a).headD 0 = s.byte a by rw [bts_drop ha]; rfl, hn, if_neg (by decide)] at hX
 unfold ONB
 refine tbe1 (sp130 (by first|assumption|omega|rfl|(dsimp;omega)) (by first|assumption|omega|rfl|(dsimp;omega)) H) L fun h H L => ?_
 cases h1 : dig ((bts s).drop a) with
 | true =>
  have hp:=nml_pos h1
  have hle:=nml_le ((bts s).drop a)
  rw [List.length_drop, bts_len] at hle
  have hnum:=wh_num (pwz ((bts s).drop a)) ((bts s).drop a) 0
  have hhead:=num_head h1
  rw [show wh (nstep (pwz ((bts s).drop a))) 0 ((bts s).drop a) = nml ((bts s).drop a) from rfl] at hnum
  rw [h1, if_pos rfl] at hX
  rw [if_pos rfl]
  have hk:=@numb_kind (((bts s).drop a).take (nml ((bts s).drop a)))
  generalize nml ((bts s).drop a) = C at hp hle hX hnum hhead hk ⊢
  refine Tri.gtr (fun e => ?_) (fun e => by omega)
  apply nT
  refine aD (by omega) ?_
  refine cB (by omega) fun z22 nz22 ez22 => ?_
  have e22 : bts z22 = ((bts s).drop a).take C:=by rw [ez22, show ((a : Int) + (C : Int)).toNat - ((a : Int)).toNat = C by omega, Int.toNat_natCast]
  rw [← e22] at hX hnum hhead hk
  refine tbe1 (sp132 (by omega) hnum hhead H) L fun h H L => ?_
  refine Tri.ext rfl ?_
  refine Tri.ext rfl ?_
  refine Tri.bldS rfl ?_
  refine wl0 0 H rfl rfl rfl L (by first|rfl|assumption) fun h H L => ?_
  subst hX
  exact Tri.done (B:=[]) ⟨⟨0, 0⟩, 4, _, C, rfl, (fun c => ⟨(hk c).symm, rfl, rfl, rfl, rfl⟩), rfl⟩ H.tl L
 | false =>
  rw [h1, if_neg (by decide)] at hX
  rw [if_neg (by decide)]
  refine Tri.gtr (fun e => by omega) (fun e => ?_)
  apply nF
  refine tb1 (sp122 (by first|assumption|omega|rfl|(dsimp;omega)) (by first|assumption|omega|rfl|(dsimp;omega)) H) L fun v h B hq101 H L => ?_
  obtain ⟨z101, nz101, ez101, rfl, rfl⟩:=hq101
  refine Tri.ext rfl ?_
  refine Tri.ext rfl ?_
  refine Tri.ext rfl ?_
  have hle:=@lng_le ((bts s).drop a)
  rw [List.length_drop, bts_len] at hle
  generalize lng ((bts s).drop a) = G at hX hle nz101 ez101 ⊢
  obtain ⟨G1, G2, G3⟩:=G
  dsimp only at hX hle nz101 ez101 ⊢
  cases G3 with
  | true =>
   rw [if_pos rfl] at hX
   apply nT
   refine Tri.eql ?_ ?_<;>intro e1
   ·rw [if_pos (show G2 = 0 from Int.ofNat.inj e1)] at hX
    subst hX
    apply nT
    refine Tri.bldS rfl ?_
    refine wl0 0 H rfl rfl rfl L (by first|rfl|assumption) fun h H L => ?_
    exact Tri.done (B:=[]) ⟨⟨0, 0⟩, 0, 0, 0, rfl, (fun c => absurd c (by decide)), rfl⟩ H.tl L
   ·rw [if_neg (show ¬ G2 = 0 from fun c => e1 (congrArg Int.ofNat c))] at hX
    subst hX
    apply nF
    refine Tri.bldS rfl ?_
    refine wl0 0 H rfl rfl rfl L (by first|rfl|assumption) fun h H L => ?_
    exact Tri.done (B:=[]) ⟨z101, 5, 0, G2, rfl, (fun _ => ⟨rfl, nz101, ez101, rfl, rfl⟩), rfl⟩ H.tl L
  | false =>
   rw [if_neg (by decide)] at hX
   apply nF
   refine iS (by omega) ?_
   rw [show ((a : Int)).toNat = a from rfl]
   refine Tri.qI ha ?_
   by_cases hq : s.byte a = 34 ∨ s.byte a = 39
   ·rw [if_pos hq] at hX
    rw [decide_eq_true hq]
    have hc:=quo_le ((bts s).drop a) (by rw [bts_drop ha]; exact List.cons_ne_nil _ _)
    rw [List.length_drop, bts_len] at hc
    have ih134:=fun (h : Hp) (l : List Asn) (H : St l h) => sp134 hs ha H
    generalize quo ((bts s).drop a) = C at hc hX ih134 ⊢
    apply nT
    refine tbe1 (ih134 _ _ H) L fun h H L => ?_
    refine aD (by omega) ?_
    refine cB (by omega) fun z183 nz183 ez183 => ?_
    refine Mid.tb (sp136 (by first|assumption|omega|rfl|(dsimp;omega)) H) L fun v h B hq184 H L => ?_
    obtain ⟨z184, nz184, ez184, rfl, rfl⟩:=hq184
    refine Tri.ext rfl ?_
    refine Tri.ext rfl ?_
    refine Tri.bldS rfl ?_
    refine wl0 0 H rfl rfl rfl L (by first|rfl|assumption) fun h H L => ?_
    have e183 : bts z183 = ((bts s).drop a).take C:=by rw [ez183, show ((a : Int) + (C : Int)).toNat - ((a : Int)).toNat = C by omega, Int.toNat_natCast]
    rw [← e183] at hX
    subst hX
    exact Tri.done (B:=[]) ⟨z184, 5, 0, C, rfl, (fun _ => ⟨rfl, nz184, ez184, rfl, rfl⟩), rfl⟩ H.tl L
   ·rw [if_neg hq] at hX
    rw [decide_eq_false hq]
    apply nF
    refine tbe1 (sp120 (by first|assumption|omega|rfl|(dsimp;omega)) (by first|assumption|omega|rfl|(dsimp;omega)) (by first|assumption|omega|rfl|(dsimp;omega)) H) L fun h H L => ?_
    rw [show bts ⟨2, 15707⟩ = [91, 61] from rfl]
    cases h3 : [91, 61].isPrefixOf ((bts s).drop a) with
    | true =>
     rw [h3, if_pos rfl] at hX
     subst hX
     apply nT
     refine Tri.bldS rfl ?_
     refine wl0 0 H rfl rfl rfl L (by first|rfl|assumption) fun h H L => ?_
     exact Tri.done (B:=[]) ⟨⟨0, 0⟩, 0, 0, 0, rfl, (fun c => absurd c (by decide)), rfl⟩ H.tl L
    | false =>
     rw [h3, if_neg (by decide)] at hX
     apply nF
     refine Mid.tb (sp138 (by first|assumption|omega|rfl|(dsimp;omega)) (by first|assumption|omega|rfl|(dsimp;omega)) H) L fun v h B hq241 H L => ?_
     obtain ⟨z241, k241, N241, n241, rfl, h241, rfl⟩:=hq241
     refine Tri.ext rfl ?_
     refine Tri.ext rfl ?_
     refine Tri.ext rfl ?_
     refine wl0 0 H rfl rfl rfl L (by first|rfl|assumption) fun h H L => ?_
     rw [hX] at h241 ⊢
     exact Tri.done (B:=[]) ⟨z241, k241, N241, n241, rfl, h241, rfl⟩ H.tl L
theorem lt_at {s : Bs} {i : Nat} (h : isLt (at0 (bts s) i) = true ∨ isDg (at0 (bts s) i) = true) : i < s.n:=by
 rcases Nat.lt_or_ge i s.n with c | c
 ·exact c
 ·have e : at0 (bts s) i = 0 := by unfold at0; rw [List.getD_eq_getElem?_getD, List.getElem?_eq_none (by rw [bts_len]; exact c)]; rfl
  rw [e] at h; rcases h with h | h <;> exact absurd h (by decide)
theorem at0_in {s : Bs} {i : Nat} (h : i < s.n) : at0 (bts s) i = s.byte i:=by unfold at0; rw [List.getD_eq_getElem?_getD, bts_get h]; rfl
theorem one_from {s : Bs} {a b0 : Nat} (hs : s.n ≤ 60000) (ha : a < s.n) : ∀ (m n : Nat) (h : Hp) (l : List Asn), s.n - (a + n) < m → a + n ≤ s.n →
 (0 < n → isLt (s.byte a) = true ∧ n + cnt (fun b => isLt b || isDg b) ((bts s).drop (a + n)) = cnt (fun b => isLt b || isDg b) ((bts s).drop a)) → St (Mid.row b0 zeroT :: l) h →
 Tri h false l (rOne (tk ((bts s).drop a))) (M 19 [.str s, .int .i64 (a : Int), .ptr b0 0, .int .i64 (n : Int)] h):=by
 have hhd : ((bts s).drop a).headD 0 = s.byte a:=by rw [bts_drop ha]; rfl
 intro m
 induction m with
 | zero => intro n h l hm; omega
 | succ m ih =>
  intro n h l hm hn hC H
  have h21 : ∀ (b1 : Nat) (k : Int) (z : Bs) (h : Hp) (l : List Asn), St (Mid.row b1 [.int .u8 k, .str z, .int .i64 0, .int .i64 0] :: Mid.row b0 zeroT :: l) h →
   Tri h false l (rOne ⟨k, bts z, 0, n, 0⟩) (M 21 [.ptr b0 0, .int .i64 (n : Int), .ptr b1 0] h):=by
   intro b1 k z h l H
   refine t3 e21 fun L => ?_
   unfold B21
   refine ls 0 H rfl rfl ?_
   refine wl0 1 H rfl rfl rfl L (by first|rfl|assumption) fun h H L => ?_
   exact Tri.done (B:=[]) ⟨z, k, 0, n, rfl, (fun _ => ⟨rfl, (bts_len z).symm, rfl, rfl, rfl⟩), rfl⟩ H.tl.tl L
  have ihx:=@ih
  clear ih
  have hb:=at0_lt s (a + n)
  have hC2 : n + cnt (fun b => isLt b || isDg b) ((bts s).drop (a + n)) = cnt (fun b => isLt b || isDg b) ((bts s).drop a):=by
   rcases Nat.eq_zero_or_pos n with c | c
   ·subst c; rw [Nat.zero_add]; rfl
   ·exact (hC c).2
  have go : ∀ {h h0 : Hp}, a + n < s.n → (isLt (s.byte (a + n)) || isDg (s.byte (a + n))) = true → (n = 0 → isLt (s.byte (a + n)) = true) → St (Mid.row b0 zeroT :: l) h → Lo false h0 h → Tri h0 false l (rOne (tk ((bts s).drop a))) (M 19 [.str s, .int .i64 (a : Int), .ptr b0 0, .int .i64 ((n : Int) + 1)] h):=by
   intro h h0 hlt hp hz H L
   refine te (ihx (n + 1) h l (by omega) (by omega) (fun _ => ⟨?_, ?_⟩) H) L
   ·rcases Nat.eq_zero_or_pos n with c | c
    ·have := hz c; rw [c] at this; exact this
    ·exact (hC c).1
   ·rw [← hC2, bts_drop hlt, cnt_cons, if_pos hp]
    show n + 1 + cnt _ ((bts s).drop (a + n + 1)) = _
    omega
  have nam : ∀ {h h0 : Hp}, 0 < n → cnt (fun b => isLt b || isDg b) ((bts s).drop (a + n)) = 0 → St (Mid.row b0 zeroT :: l) h → Lo false h0 h → Tri h0 false l (rOne (tk ((bts s).drop a))) (intS .add (.int .i64 (a : Int)) (.int .i64 (n : Int)) fun v23 => slStrK (some (.int .i64 (a : Int))) (some v23) (.str s) fun v24 =>
   bindS (bldStruct h [(0, .int .u8 1), (1, v24)] (.agg [.int .u8 0, .str ⟨0, 0⟩, .int .i64 0, .int .i64 0]) (some [(0, 1), (1, 1), (2, 1), (3, 1)])) fun v25 h26 =>
   newS 25 [.int .u8 0, .str ⟨0, 0⟩, .int .i64 0, .int .i64 0] h26 fun v27 h28 => storeN 4 v27 v25 h28 fun h29 => addrS 1 v27 fun v30 => load1 v30 h29 fun v31 => bindS (M 38 [v31] h29) fun v32 h33 =>
   ifS v32 (addrS 0 v27 fun v34 => storeC v34 (.int .u8 2) h33 fun h35 => M 21 [.ptr b0 0, .int .i64 (n : Int), v27] h35) (M 21 [.ptr b0 0, .int .i64 (n : Int), v27] h33)):=by
   intro h h0 hn0 hz H L
   generalize hX : tk ((bts s).drop a) = X
   unfold tk at hX
   rw [hhd, (hC hn0).1, if_pos rfl, ← hC2, hz, Nat.add_zero] at hX
   refine aD (by omega) ?_
   refine cB (by omega) fun z101 nz101 ez101 => ?_
   refine Tri.bldS rfl ?_
   refine nw H L fun b103 h hb103 H L => ?_
   refine w0 0 H rfl rfl rfl L (by first|rfl|assumption) fun h H L => ?_
   refine al 0 H rfl rfl ?_
   refine tbe1 (sp38 H) L fun h H L => ?_
   have e101 : bts z101 = ((bts s).drop a).take n:=by rw [ez101, show ((a : Int) + (n : Int)).toNat - ((a : Int)).toNat = n by omega, Int.toNat_natCast]
   rw [← e101] at hX
   cases h2 : wrd (bts z101) with
   | true =>
    rw [h2, if_pos rfl] at hX
    subst hX
    apply nT
    apply ad
    refine sto 0 H rfl rfl L (by first|rfl|assumption) fun h H L => ?_
    exact te (h21 b103 2 z101 h l H) L
   | false =>
    rw [h2, if_neg (by decide)] at hX
    subst hX
    apply nF
    exact te (h21 b103 1 z101 h l H) L
  refine t4 e19 fun L => ?_
  unfold B19
  refine aD (by omega) ?_
  refine tbe1 (sp126 (by first|assumption|omega|rfl|(dsimp;omega)) (by first|assumption|omega|rfl|(dsimp;omega)) H) L fun h H L => ?_
  refine tbe1 (sp124 (by first|assumption|omega|rfl|(dsimp;omega)) H) L fun h H L => ?_
  cases h1 : isLt (at0 (bts s) (a + n)) with
  | true =>
   have hlt:=lt_at (.inl h1)
   rw [at0_in hlt] at h1
   apply gtf
   apply gu
   apply gtf
   apply pT
   apply nT
   refine aD (by omega) ?_
   exact go hlt (by rw [h1]; rfl) (fun _ => h1) H L
  | false =>
   apply gff
   apply bI
   refine Tri.gtr ?_ ?_<;>intro e
   ·apply bS
    apply gtt
    apply bI
    refine aD (by omega) ?_
    apply Mid.bB
    refine tbe1 (sp126 (by first|assumption|omega|rfl|(dsimp;omega)) (by first|assumption|omega|rfl|(dsimp;omega)) H) L fun h H L => ?_
    apply Mid.bB
    refine tbe1 (sp128 (by first|assumption|omega|rfl|(dsimp;omega)) H) L fun h H L => ?_
    apply bS
    apply gff
    apply bO
    apply pT
    apply bS
    apply pF
    cases h2 : isDg (at0 (bts s) (a + n)) with
    | true =>
     have hlt:=lt_at (.inr h2)
     rw [at0_in hlt] at h2
     apply nT
     refine aD (by omega) ?_
     exact go hlt (by rw [h2, Bool.or_true]) (fun c => by omega) H L
    | false =>
     apply nF
     refine Tri.gtr (fun e => ?_) (fun e => by omega)
     apply nT
     refine nam (by omega) ?_ H L
     rcases Nat.lt_or_ge (a + n) s.n with c | c
     ·rw [at0_in c] at h1 h2
      rw [bts_drop c, cnt_cons, h1, h2]; rfl
     ·rw [bts_end c]; rfl
   ·have hn0 : n = 0 := by omega
    apply bS
    apply gft
    apply gff
    apply bO
    apply pF
    apply bS
    apply pF
    apply nF
    refine Tri.gtr (fun e => by omega) (fun e => ?_)
    apply nF
    have h1' : isLt (s.byte a) = false:=by
     rw [hn0, Nat.add_zero, at0_in ha] at h1; exact h1
    exact onb_ok hs ha h1' L H
theorem sp70 {s : Bs} {a : Nat} (hs : s.n ≤ 60000) (ha : a < s.n) (H : St l h) : Tri h false l (rOne (tk ((bts s).drop a))) (M 70 [.str s, .int .i64 (a : Int)] h):=by
 refine t2 e70 fun L => ?_
 unfold B70
 refine nw H L fun b0 h hb0 H L => ?_
 exact te (one_from hs ha (s.n + 1) 0 h l (by omega) (by omega) (fun c => absurd c (by decide)) H) L
theorem nt_err {L : List Nat} (h : (nt L).2.1 ≠ 0) : (nt L).1 = true ∧ (nt L).2.2 = 0 ∧ (nt L).2.1 = 30:=by
 unfold nt at h ⊢
 split at h
 ·rename_i c
  rw [if_pos c]
  split at h
  ·rename_i c2
   rw [if_pos c2]
   split at h
   ·rename_i c3; rw [if_pos c3]; exact ⟨rfl, rfl, rfl⟩
   ·exact absurd rfl h
  ·exact absurd rfl h
 ·exact absurd rfl h
def TKB (a0 a3 a4 a5 a6 a7 : V) (h : Hp) : VH :=
 intS .add a6 a7 fun k =>
 slStrK (some a6) (some k) a0 fun l =>
 bindS (M 66 [l] h) fun m h =>
 intS .add a5 m fun b =>
 intS .add a6 a7 fun c =>
 bindS (lenStr a0 fun v => some (v, h)) fun n h =>
 intS .eql c n fun o =>
 ifS o (
 bindS (bldStruct h [(0, (.int .u8 6)), (3, b)] (.agg [(.int .u8 0), (.str ⟨0, 0⟩), (.int .i64 0), (.int .i64 0)]) (some [(0, 1), (1, 1), (2, 1), (3, 1)])) fun p h =>
 bindS (bldSl h [(0, p)] 25 1 4 (.agg [(.int .u8 0), (.str ⟨0, 0⟩), (.int .i64 0), (.int .i64 0)])) fun q h =>
 bindS (appS 25 40 4 a4 q h) fun r h =>
 bindS (bldStruct h [] (.agg [(.int .i64 0), (.int .i64 0)]) (some [(0, 1), (1, 1)])) fun s h =>
 storeN 2 a3 s h fun h =>
 loadN 2 a3 h fun t =>
 some (.tuple [r, t], h)) (
 bindS (M 68 [a0, c] h) fun g h =>
 extS 0 g fun i =>
 extS 1 g fun u =>
 ifS u (
 intS .eql i (.int .i64 0) fun w =>
 ifS w (
 bindS (bldStruct h [(0, (.int .i64 30)), (1, b)] (.agg [(.int .i64 0), (.int .i64 0)]) (some [(0, 1), (1, 1)])) fun x h =>
 storeN 2 a3 x h fun h =>
 loadN 2 a3 h fun y =>
 some (.tuple [.nilSlice, y], h)) (
 M 9 [a0, a3, a4, b, c, i] h)) (
 bindS (M 70 [a0, c] h) fun d h =>
 extS 0 d fun z =>
 extS 1 d fun A =>
 extS 2 d fun j =>
 newS 25 [(.int .u8 0), (.str ⟨0, 0⟩), (.int .i64 0), (.int .i64 0)] h fun e h =>
 storeN 4 e z h fun h =>
 intS .neq j (.int .i64 0) fun C =>
 ifS C (
 bindS (bldStruct h [(0, j), (1, b)] (.agg [(.int .i64 0), (.int .i64 0)]) (some [(0, 1), (1, 1)])) fun D h =>
 storeN 2 a3 D h fun h =>
 loadN 2 a3 h fun E =>
 some (.tuple [.nilSlice, E], h)) (
 addrS 3 e fun F =>
 storeC F b h fun h =>
 loadN 4 e h fun G =>
 bindS (bldSl h [(0, G)] 25 1 4 (.agg [(.int .u8 0), (.str ⟨0, 0⟩), (.int .i64 0), (.int .i64 0)])) fun H h =>
 bindS (appS 25 40 4 a4 H h) fun I h =>
 M 9 [a0, a3, I, b, c, A] h)))
def TSpec (s : Bs) (fb f : Nat) : Prop := ∀ (a ln : Nat) (ov : V) (O : List Ti) (h : Hp) (l : List Asn), s.n - a < f → a ≤ s.n → ln ≤ 1 + a → O.length ≤ a → (∀ x ∈ O, x.ok) →
 St (Mid.row fb [.int .i64 0, .int .i64 0] :: vc true ov 25 4 (tcs O) :: l) h →
 ∀ X, lexL f ((bts s).drop a) ln (O.map fun x => (x.t, x.ln)) = X → Tri h false l (rTs X) (M 5 [.str s, .ptr fb 0, ov, .int .i64 (ln : Int), .int .i64 (a : Int)] h)
theorem k9_ok {s : Bs} {fb f : Nat} (hs : s.n ≤ 60000) (ih : TSpec s fb f) {a ln n : Nat} {ov : V} {O : List Ti} (hn : 1 ≤ n) (han : a + n ≤ s.n) (hf : s.n - a < f + 1) (hln : ln ≤ 1 + a) (hO : O.length ≤ a + 1) (hok : ∀ x ∈ O, x.ok)
 (H : St (Mid.row fb [.int .i64 0, .int .i64 0] :: vc true ov 25 4 (tcs O) :: l) h) {X : List (Tk × Nat) × Int × Int} (hX : lexL f ((bts s).drop (a + n)) (ln + lnc (seg s a (a + n))) (O.map fun x => (x.t, x.ln)) = X) :
 Tri h false l (rTs X) (M 9 [.str s, .ptr fb 0, ov, .int .i64 (ln : Int), .int .i64 (a : Int), .int .i64 (n : Int)] h):=by
 have hlw:=lnc_le _ (seg s a (a + n)) (Nat.le_refl _)
 rw [seg_len (by omega)] at hlw
 refine t6 e9 fun L => ?_
 unfold B9
 refine aD (by omega) ?_
 refine cB (by omega) fun z1 nz1 ez1 => ?_
 refine tbe1 (sp66 (by first|assumption|omega|rfl|(dsimp;omega)) H) L fun h H L => ?_
 refine Tri.add ?_
 refine aD (by omega) ?_
 have ez : bts z1 = seg s a (a + n):=ez1
 rw [ez, show IntKind.i64.wrap ((ln : Int) + (lnc (seg s a (a + n)) : Nat)) = ((ln + lnc (seg s a (a + n)) : Nat) : Int) by rw [i64_of (by omega) (by omega)]; rfl]
 exact te (ih (a + n) _ ov O h l (by omega) han (by omega) (by omega) hok H X hX) L
theorem tkb_ok {s : Bs} {fb f : Nat} (hs : s.n ≤ 60000) (ih : TSpec s fb f) {a ln w : Nat} {ov : V} {O : List Ti} (hf : s.n - a < f + 1) (ha : a ≤ s.n) (hln : ln ≤ 1 + a) (hO : O.length ≤ a) (hok : ∀ x ∈ O, x.ok) (hw : cnt isSp ((bts s).drop a) = w) (L : Lo false h0 h)
 (H : St (Mid.row fb [.int .i64 0, .int .i64 0] :: vc true ov 25 4 (tcs O) :: l) h) {X : List (Tk × Nat) × Int × Int} (hX : lexL (f + 1) ((bts s).drop a) ln (O.map fun x => (x.t, x.ln)) = X) :
 Tri h0 false l (rTs X) (TKB (.str s) (.ptr fb 0) ov (.int .i64 (ln : Int)) (.int .i64 (a : Int)) (.int .i64 (w : Int)) h):=by
 have okc : ∀ (O : List Ti) (x : Ti), (∀ y ∈ O, y.ok) → x.ok → ∀ y ∈ O ++ [x], y.ok:=fun O x h1 h2 y hy => (List.mem_append.1 hy).elim (h1 y) fun h => by rw [List.mem_singleton.1 h]; exact h2
 have e1 : ∀ (O : List Ti) (x : Ti), (O.map fun x => (x.t, x.ln)) ++ [(x.t, x.ln)] = (O ++ [x]).map fun x => (x.t, x.ln):=fun O x => by rw [List.map_append]; rfl
 have e2 : ∀ (O : List Ti) (x : Ti), tcs O ++ x.c = tcs (O ++ [x]):=fun O x => by rw [tcs, tcs, List.flatMap_append, List.flatMap_singleton]
 have hwl:=cnt_le isSp ((bts s).drop a)
 rw [List.length_drop, bts_len, hw] at hwl
 rw [lexL, hw, List.drop_drop, ← seg_take] at hX
 have hlw:=lnc_le _ (seg s a (a + w)) (Nat.le_refl _)
 rw [seg_len (by omega)] at hlw
 unfold TKB
 refine aD (by omega) ?_
 refine cB (by omega) fun z1 nz1 ez1 => ?_
 refine tbe1 (sp66 (by first|assumption|omega|rfl|(dsimp;omega)) H) L fun h H L => ?_
 refine Tri.add ?_
 refine aD (by omega) ?_
 apply lS
 have ez : bts z1 = seg s a (a + w):=ez1
 rw [ez, show IntKind.i64.wrap ((ln : Int) + (lnc (seg s a (a + w)) : Nat)) = ((ln + lnc (seg s a (a + w)) : Nat) : Int) by rw [i64_of (by omega) (by omega)]; rfl]
 rw [show (a : Int) + (w : Int) = ((a + w : Nat) : Int) from rfl]
 have hln1 : ln + lnc (seg s a (a + w)) ≤ 1 + (a + w):=by omega
 have hf1 : s.n - (a + w) < f + 1:=by omega
 have haw : a + w ≤ s.n:=by omega
 have hO1 : O.length ≤ a + w:=by omega
 clear hlw hwl hO hln ha hf hw ez ez1 nz1
 generalize ln + lnc (seg s a (a + w)) = ln at hX hln1 H ⊢
 generalize a + w = a at hX hf1 haw hO1 hln1 H ⊢
 refine Tri.eql ?_ ?_<;>intro e
 ·have ea : a = s.n := Int.ofNat.inj e
  rw [if_pos (bts_end (by omega)), e1 O ⟨⟨0, 0⟩, ⟨6, [], 0, 0, 0⟩, ln⟩] at hX
  subst hX
  apply nT
  refine Tri.bldS rfl ?_
  refine Tri.bld (e:=_) (s:=_) H L rfl rfl fun b22 h hb22 H L => ?_
  refine Tri.app 2 O.length 1 (new:=Ti.c ⟨⟨0, 0⟩, ⟨6, [], 0, 0, 0⟩, ln⟩) H rfl (H.newCells (i:=0) rfl rfl) (by decide) (tcs_len O) rfl (by omega) (by omega) rfl L (Own.off _ _) fun v' h H L hO h1 => ?_
  refine Tri.bldS rfl ?_
  refine wl0 1 H rfl rfl rfl L (by first|rfl|assumption) fun h H L => ?_
  refine Tri.done (B:=[_]) ⟨v', O ++ [⟨⟨0, 0⟩, ⟨6, [], 0, 0, 0⟩, ln⟩], okc O _ hok ⟨rfl, rfl⟩, rfl, rfl, rfl⟩ ?_ L
  rw [← e2]
  exact H.tl.tl
 ·have hlt : a < s.n := by have : a ≠ s.n := fun c => e (congrArg Int.ofNat c); omega
  rw [if_neg (by rw [bts_drop hlt]; exact List.cons_ne_nil _ _)] at hX
  have hle:=nt_le ((bts s).drop a)
  have hpos:=@nt_pos ((bts s).drop a)
  have hno:=@nt_none ((bts s).drop a)
  rw [List.length_drop, bts_len] at hle
  have her:=fun c => (@nt_err ((bts s).drop a) c).2
  have hnf:=fun c => (@nt_err ((bts s).drop a) c).1
  apply nF
  refine tbe1 (sp68 (by first|assumption|omega|rfl|(dsimp;omega)) (by first|assumption|omega|rfl|(dsimp;omega)) H) L fun h H L => ?_
  refine Tri.ext rfl ?_
  refine Tri.ext rfl ?_
  generalize nt ((bts s).drop a) = N at hX hle hpos hno her hnf H ⊢
  obtain ⟨N1, N2, N3⟩:=N
  dsimp only at hX hle hpos hno her hnf H ⊢
  cases N1 with
  | true =>
   apply nT
   refine Tri.eql ?_ ?_<;>intro e3
   ·have h2 : N2 ≠ 0 := fun c => by have := hpos rfl c; omega
    obtain ⟨_, h30⟩:=her h2
    have h3 : N3 = 0:=Int.ofNat.inj e3
    subst h30
    rw [if_neg (fun c => h2 c.1), if_pos h2, h3, List.take_zero] at hX
    subst hX
    apply nT
    refine Tri.bldS rfl ?_
    refine wl0 0 H rfl rfl rfl L (by first|rfl|assumption) fun h H L => ?_
    exact Tri.done (B:=[_]) ⟨.nilSlice, [], (fun x hx => nomatch hx), rfl, rfl, rfl⟩ (St.vc_new true 25 4 H.tl.tl) L
   ·have h2 : N2 = 0 := Decidable.byContradiction fun c => e3 (by rw [(her c).1]; rfl)
    subst h2
    rw [if_pos ⟨rfl, rfl⟩, List.drop_drop, ← seg_take] at hX
    have:=hpos rfl rfl
    apply nF
    exact te (k9_ok hs ih (by omega) (by omega) (by omega) (by omega) (by omega) hok H hX) L
  | false =>
   have h2 : N2 = 0:=Decidable.byContradiction fun c => nomatch hnf c
   subst h2
   rw [if_neg (fun c => nomatch c.2), if_neg (fun c => c rfl)] at hX
   apply nF
   refine Mid.tb (sp70 (by first|assumption|omega|rfl|(dsimp;omega)) (by first|assumption|omega|rfl|(dsimp;omega)) H) L fun v h B hq101 H L => ?_
   obtain ⟨z101, k101, N101, n101, rfl, h101, rfl⟩:=hq101
   refine Tri.ext rfl ?_
   refine Tri.ext rfl ?_
   refine Tri.ext rfl ?_
   refine nw H L fun b105 h hb105 H L => ?_
   refine w0 0 H rfl rfl rfl L (by first|rfl|assumption) fun h H L => ?_
   have htl:=tk_le ((bts s).drop a) (by rw [bts_drop hlt]; exact List.cons_ne_nil _ _)
   have htp:=@tk_pos ((bts s).drop a) (by rw [bts_drop hlt]; exact List.cons_ne_nil _ _)
   rw [List.length_drop, bts_len] at htl
   generalize tk ((bts s).drop a) = t at hX htl htp h101 ⊢
   refine Tri.neq (fun he => ?_) (fun he => ?_)
   ·rw [if_pos he] at hX
    subst hX
    apply nT
    refine Tri.bldS rfl ?_
    refine wl0 1 H rfl rfl rfl L (by first|rfl|assumption) fun h H L => ?_
    exact Tri.done (B:=[_]) ⟨.nilSlice, [], (fun x hx => nomatch hx), rfl, rfl, rfl⟩ (St.vc_new true 25 4 H.tl.tl.tl) L
   ·obtain ⟨rfl, nz, ez, rfl, rfl⟩ := h101 he
    have hpn:=htp he
    rw [if_neg (fun c => c he), List.drop_drop, ← seg_take, e1 O ⟨z101, t, ln⟩] at hX
    apply nF
    apply ad
    refine sto 0 H rfl rfl L (by first|rfl|assumption) fun h H L => ?_
    refine ls 0 H rfl rfl ?_
    refine Tri.bld (e:=_) (s:=_) H L rfl rfl fun b144 h hb144 H L => ?_
    refine Tri.app 3 O.length 1 (new:=Ti.c ⟨z101, t, ln⟩) H rfl (H.newCells (i:=0) rfl rfl) (by decide) (tcs_len O) rfl (by omega) (by omega) rfl L (Own.off _ _) fun v' h H L hO h1 => ?_
    refine te (k9_ok hs ih (O:=O ++ [⟨z101, t, ln⟩]) hpn (by omega) (by omega) (by omega) (by rw [List.length_append, List.length_singleton]; omega) (okc O _ hok ⟨nz, ez⟩) ?_ hX) L
    rw [← e2]
    exact H.tl.tl
theorem k7_ok {s : Bs} {fb f : Nat} (hs : s.n ≤ 60000) (ih : TSpec s fb f) {a ln w : Nat} {ov : V} {O : List Ti} (hf : s.n - a < f + 1) (ha : a ≤ s.n) (hln : ln ≤ 1 + a) (hO : O.length ≤ a) (hok : ∀ x ∈ O, x.ok) (hw : cnt isSp ((bts s).drop a) = w) {X : List (Tk × Nat) × Int × Int} (hX : lexL (f + 1) ((bts s).drop a) ln (O.map fun x => (x.t, x.ln)) = X) :
 ∀ (m n : Nat) (h : Hp) (l : List Asn), s.n - (a + n) < m → a + n ≤ s.n → n + cnt isSp ((bts s).drop (a + n)) = w → St (Mid.row fb [.int .i64 0, .int .i64 0] :: vc true ov 25 4 (tcs O) :: l) h →
 Tri h false l (rTs X) (M 7 [.str s, .ptr fb 0, ov, .int .i64 (ln : Int), .int .i64 (a : Int), .int .i64 (n : Int)] h):=by
 intro m
 induction m with
 | zero => intro n h l hm; omega
 | succ m ihm =>
  intro n h l hm hn hC H
  have hb:=bts_lt s (a + n)
  have hb : s.byte (((a : Int) + (n : Int)).toNat) < 256:=hb
  refine t6 e7 fun L => ?_
  unfold B7
  refine aD (by omega) ?_
  apply lS
  refine Tri.lss ?_ ?_<;>intro e
  ·have hlt : a + n < s.n := by omega
   rw [bts_drop hlt, cnt_cons] at hC
   apply gtt
   apply bI
   refine aD (by omega) ?_
   refine jS (by omega) ?_
   apply Mid.bB
   refine tbe1 (sp64 (by first|assumption|omega|rfl|(dsimp;omega)) H) L fun h H L => ?_
   apply bS
   apply pT
   rw [show ((a : Int) + (n : Int)).toNat = a + n from rfl]
   cases h1 : isSp (s.byte (a + n)) with
   | true =>
    rw [h1, if_pos rfl] at hC
    apply nT
    refine aD (by omega) ?_
    refine te (ihm (n + 1) h l (by omega) (by omega) ?_ H) L
    show n + 1 + cnt isSp ((bts s).drop (a + n + 1)) = w
    omega
   | false =>
    rw [h1, if_neg (by decide), Nat.add_zero] at hC
    subst hC
    exact Tri.iff (tkb_ok hs ih hf ha hln hO hok hw L H hX)
  ·rw [bts_end (by omega)] at hC
   have hC : n = w:=hC
   subst hC
   exact Tri.eqv rfl (tkb_ok hs ih hf ha hln hO hok hw L H hX)
theorem toks5 {s : Bs} {fb : Nat} (hs : s.n ≤ 60000) : ∀ f, TSpec s fb f
 | 0 => fun a ln ov O h l hf => by omega
 | f + 1 => by
  intro a ln ov O h l hf ha hln hO hok H X hX
  refine t5 e5 fun L => ?_
  unfold B5
  exact te (k7_ok hs (toks5 hs f) hf ha hln hO hok rfl hX (s.n + 1) 0 h l (by omega) (by omega) (Nat.zero_add _) H) L
def lexA (L : List Nat) : List (Tk × Nat) × Int × Int:=lexL (L.length + 1) L 1 []
theorem sp34 {s : Bs} (hs : s.n ≤ 60000) (H : St l h) : Tri h false l (rTs (lexA (bts s))) (M 34 [.str s] h):=by
 refine t1 e34 fun L => ?_
 unfold B34
 refine nw H L fun b0 h hb0 H L => ?_
 apply lS
 refine Tri.gtr (fun e => by omega) (fun _ => Tri.iff ?_)
 exact te (toks5 hs (s.n + 1) 0 1 .nilSlice [] h l (by omega) (by omega) (by omega) (Nat.le_refl _) (fun x hx => nomatch hx) (St.vc_new true 25 4 H).u1 (lexA (bts s)) (by unfold lexA; rw [bts_len]; rfl)) L
theorem sp20 {s : Bs} (hs : s.n ≤ 65535) (H : St l h) : Tri h false l (rTs (lexA (bts s))) (M 20 [.str s] h):=by
 refine t1 e20 fun L => ?_
 unfold B20
 refine nw H L fun b0 h hb0 H L => ?_
 apply lS
 refine Tri.gtr (fun e => by omega) (fun _ => ?_)
 apply nF
 refine tb1 (sp28 H) L fun v h B hq21 H L => ?_
 obtain ⟨sb21, rfl, rfl⟩:=hq21
 refine Tri.bldS rfl ?_
 refine nw H L fun b23 h hb23 H L => ?_
 refine nal 0 H rfl rfl ?_
 refine tbe (sp44 H.u1) L fun h H L => ?_
 exact te (toks_ok hs (s.n + 1) 0 1 .nilSlice [] h l (by omega) (by omega) (by omega) (Nat.le_refl _) (fun x hx => nomatch hx) (St.vc_new true 25 4 H.u1).d3 (lexA (bts s)) (by unfold lexA; rw [bts_len]; rfl)) L
theorem sp32 (H : St l h) : Tri h true l (rNo (.bool true)) (M 32 [] h):=by
 have e : M 32 [] h = some (.bool true, h):=by
  refine (@lim_F Tryz.prog (orc fnA Inv) labs 16 _ _ _).2 ⟨0, ?_⟩
  rfl
 rw [e]
 exact Tri.done (B:=[]) ⟨rfl, rfl⟩ H (Lo.refl _ _)
theorem cmp_ti {x y : Ti} (hx : x.ok) (hy : y.ok) (h : (x.t, x.ln) = (y.t, y.ln)) : cmpV [(0, .int .u8), (1, .string), (2, .int .i64), (3, .int .i64)] (.agg x.c) (.agg y.c) = some true:=by
 obtain ⟨h1, h2⟩:=Prod.mk.inj h
 have hz : x.z.eq y.z = true:=by rw [bts_eq, hx.2, hy.2, h1]; exact decide_eq_true rfl
 unfold Ti.c
 rw [h1, show x.ln = y.ln from h2]
 simp only [cmpV, cmpL, getN, eqLeaf, kEq_self, iEq_eq, cond_true, hz, beq_self_eq_true]
theorem cmp_ft (a b : Int) : cmpV [(0, .int .i64), (1, .int .i64)] (.agg [.int .i64 a, .int .i64 b]) (.agg [.int .i64 a, .int .i64 b]) = some true:=by
 simp only [cmpV, cmpL, getN, eqLeaf, kEq_self, iEq_eq, cond_true, beq_self_eq_true]
theorem tcs_take (O : List Ti) (i : Nat) (x : Ti) (h : O[i]? = some x) : ((tcs O).drop (i * 4)).take 4 = x.c:=by
 induction O generalizing i with
 | nil => simp at h
 | cons y O ih =>
  cases i with
  | zero =>
   rw [List.getElem?_cons_zero, Option.some.injEq] at h
   subst h
   rfl
  | succ i =>
   rw [List.getElem?_cons_succ] at h
   rw [tcs, List.flatMap_cons, show (i + 1) * 4 = y.c.length + i * 4 by show _ = 4 + _; omega, List.drop_length_add_append]
   exact ih i h
theorem same_from {ov pv : V} {O P : List Ti} (hO : ∀ x ∈ O, x.ok) (hP : ∀ x ∈ P, x.ok) (hOP : (O.map fun x => (x.t, x.ln)) = P.map fun x => (x.t, x.ln)) (hlen : O.length ≤ 100000) : ∀ (m i : Nat) (h : Hp) (l : List Asn), i + m = O.length → St (vc true ov 25 4 (tcs O) :: vc true pv 25 4 (tcs P) :: l) h →
 Tri h true l (rNo (.bool true)) (M 3 [ov, pv, .int .i64 (i : Int)] h):=by
 have hl : O.length = P.length:=by have:=congrArg List.length hOP; rw [List.length_map, List.length_map] at this; exact this
 intro m
 induction m with
 | zero =>
  intro i h l hi H
  refine t3 e3 fun L => ?_
  unfold B3
  apply bL
  refine Tri.lenV 0 O.length H rfl (by decide) (tcs_len O) ?_
  apply bS
  refine Tri.lss (fun e => by omega) (fun e => ?_)
  apply nF
  exact Tri.done (B:=[]) ⟨rfl, rfl⟩ H.tl.tl L
 | succ m ih =>
  intro i h l hi H
  have hlt : i < O.length:=by omega
  have hx : O[i]? = some O[i]:=List.getElem?_eq_getElem hlt
  have hy : P[i]? = some (P[i]'(by omega)):=List.getElem?_eq_getElem (by omega)
  have hxy : (O[i].t, O[i].ln) = ((P[i]'(by omega)).t, (P[i]'(by omega)).ln):=by
   have:=congrArg (fun z => z[i]?) hOP
   simp only [List.getElem?_map, hx, hy, Option.map_some, Option.some.injEq] at this
   exact this
  have hox:=hO _ (List.getElem_mem hlt)
  have hpy:=hP _ (List.getElem_mem (show i < P.length by omega))
  generalize O[i] = x at hx hxy hox
  generalize (P[i]'(by omega)) = y at hy hxy hpy
  have hc:=cmp_ti hox hpy hxy
  refine t3 e3 fun L => ?_
  unfold B3
  apply bL
  refine Tri.lenV 0 O.length H rfl (by decide) (tcs_len O) ?_
  apply bS
  refine Tri.lss (fun e => ?_) (fun e => by omega)
  apply nT
  refine Tri.idxV 0 H rfl (by omega) (by rw [tcs_len]; omega) (by decide) fun b n c g ev hg => ?_
  subst ev
  refine Tri.loadsV 0 (X:=x.c) (by decide) H rfl (by rw [tcs_len]; omega) (by rw [show 0 + ((i : Int)).toNat * 4 = i * 4 by omega]; exact tcs_take O i x hx) ?_
  refine Tri.idxV 1 H rfl (by omega) (by rw [tcs_len]; omega) (by decide) fun b2 n2 c2 g2 ev2 hg2 => ?_
  subst ev2
  refine Tri.loadsV 1 (X:=y.c) (by decide) H rfl (by rw [tcs_len]; omega) (by rw [show 0 + ((i : Int)).toNat * 4 = i * 4 by omega]; exact tcs_take P i y hy) ?_
  rw [hc]
  change Tri _ true _ _ (bindS (some (V.bool false, h)) _)
  apply bS
  apply nF
  refine aD (by omega) ?_
  exact te (ih (i + 1) h l (by omega) H) L
theorem sp36 {ov pv : V} {O P : List Ti} (hO : ∀ x ∈ O, x.ok) (hP : ∀ x ∈ P, x.ok) (hOP : (O.map fun x => (x.t, x.ln)) = P.map fun x => (x.t, x.ln)) (hlen : O.length ≤ 100000) (H : St (vc true ov 25 4 (tcs O) :: vc true pv 25 4 (tcs P) :: l) h) : Tri h true l (rNo (.bool true)) (M 36 [ov, pv] h):=by
 have hl : O.length = P.length:=by have:=congrArg List.length hOP; rw [List.length_map, List.length_map] at this; exact this
 refine t2 e36 fun L => ?_
 unfold B36
 apply bL
 refine Tri.lenV 0 O.length H rfl (by decide) (tcs_len O) ?_
 apply bS
 apply bL
 refine Tri.lenV 1 P.length H rfl (by decide) (tcs_len P) ?_
 apply bS
 refine Tri.neq (fun e => absurd (by rw [hl]) e) (fun e => ?_)
 apply nF
 exact te (same_from hO hP hOP hlen O.length 0 h l (by omega) H) L
theorem lexL_len : ∀ (f : Nat) (R : List Nat) (ln : Nat) (acc : List (Tk × Nat)), (lexL f R ln acc).1.length ≤ acc.length + f
 | 0, _, _, _ => Nat.zero_le _
 | f + 1, R, ln, acc => by
  rw [lexL]
  split
  ·show (acc ++ [_]).length ≤ _
   rw [List.length_append, List.length_singleton]; omega
  ·split
   ·exact Nat.le_trans (lexL_len f _ _ acc) (by omega)
   ·split
    ·exact Nat.zero_le _
    ·split
     ·exact Nat.zero_le _
     ·refine Nat.le_trans (lexL_len f _ _ _) ?_
      rw [List.length_append, List.length_singleton]; omega
theorem sp8 {s : Bs} (H : St l h) : Tri h false l (rNo (.bool true)) (M 8 [.str s] h):=by
 refine t1 e8 fun L => ?_
 unfold B8
 apply lS
 refine Tri.gtr ?_ ?_<;>intro e
 ·apply nT
  refine tbe1 (sp32 H) L fun h H L => ?_
  exact dn H L
 ·have hs : s.n ≤ 4000 := by omega
  have hlen:=lexL_len ((bts s).length + 1) (bts s) 1 []
  rw [show lexL ((bts s).length + 1) (bts s) 1 [] = lexA (bts s) from rfl, bts_len, List.length_nil] at hlen
  refine Tri.iff (Mid.tb (sp20 (by omega) H) L fun v h B hq H L => ?_)
  obtain ⟨ov, O, hO, eO, rfl, rfl⟩:=hq
  refine Tri.ext rfl ?_
  refine Tri.ext rfl ?_
  refine nw H L fun b22 h hb22 H L => ?_
  refine w0 0 H rfl rfl rfl L (by first|rfl|assumption) fun h H L => ?_
  refine Mid.tb (sp34 (by first|assumption|omega|rfl|(dsimp;omega)) H) L fun v h B hq24 H L => ?_
  obtain ⟨ov24, O24, hO24, eO24, rfl, rfl⟩:=hq24
  refine Tri.ext rfl ?_
  refine Tri.ext rfl ?_
  refine nw H L fun b27 h hb27 H L => ?_
  refine w0 0 H rfl rfl rfl L (by first|rfl|assumption) fun h H L => ?_
  refine ls 2 H rfl rfl ?_
  refine ls 0 H rfl rfl ?_
  generalize lexA (bts s) = X at *
  change Tri _ false _ _ (bindS (vh h (eqOp .eql (cmpV [(0, .int .i64), (1, .int .i64)] (.agg [.int .i64 X.2.1, .int .i64 X.2.2]) (.agg [.int .i64 X.2.1, .int .i64 X.2.2])))) _)
  rw [cmp_ft]
  change Tri _ false _ _ (bindS (some (V.bool true, h)) _)
  apply bS
  have hX : O.length = X.1.length:=by rw [← eO, List.length_map]
  replace H : St (vc true ov 25 4 (tcs O) :: vc true ov24 25 4 (tcs O24) :: l) h:=H.tl.x1.u1
  have ih36:=fun (h : Hp) (l : List Asn) (H : St (vc true ov 25 4 (tcs O) :: vc true ov24 25 4 (tcs O24) :: l) h) => sp36 hO hO24 (by rw [eO, eO24]) (by omega) H
  apply gtt
  apply Mid.bB
  refine tbe1 (ih36 _ _ H) L fun h H L => ?_
  apply bS
  apply pT
  apply gtt
  apply Mid.bB
  refine tbe1 (sp24 (by first|assumption|omega|rfl|(dsimp;omega)) H) L fun h H L => ?_
  apply Mid.bB
  refine tbe1 (sp38 H) L fun h H L => ?_
  refine Tri.eqv (bind_eqS _ _) ?_
  refine Tri.eqBool fun s71 es71 => ?_
  apply bS
  apply pT
  rw [beq_self_eq_true] at es71
  subst es71
  apply gtt
  apply Mid.bB
  refine tbe1 (sp32 H) L fun h H L => ?_
  apply bS
  apply pT
  exact dn H L
end
end Go.LT
end
