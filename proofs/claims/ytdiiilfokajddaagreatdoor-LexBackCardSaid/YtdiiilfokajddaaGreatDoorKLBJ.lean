/- A part of the proof. -/
import Derived.Test.YtdiiilfokajddaaGreatDoorKLBD
set_option linter.all false
set_option warn.classDefReducibility false
noncomputable section
section
open Go Go.Mid Go.Proofs
set_option maxRecDepth 100000
namespace Go.LB
section
variable {l F : List Asn} {h h0 : Hp} {ro : Bool} {Q : V → List Asn → Prop} {k : V → VH} {K : V → Hp → VH} {v lV : V} {i j n : Nat}
theorem wh_num (pz : Bs) : ∀ (L : List Nat) (s : Nat), ∀ b ∈ L.take (wh (nstep pz) s L), numC b = true
 | [], s, b, hb => by simp at hb
 | c :: L, s, b, hb => by
  rw [wh] at hb
  cases h1 : (nstep pz s c).1 with
  | false => rw [h1, if_neg (by decide), List.take_zero] at hb; exact nomatch hb
  | true =>
   rw [h1, if_pos rfl, List.take_succ_cons, List.mem_cons] at hb
   rcases hb with rfl | hb
   ·unfold nstep at h1
    unfold numC
    dsimp only at h1
    rw [Bool.or_eq_true, Bool.and_eq_true] at h1
    rcases h1 with h1 | ⟨h1, _⟩
    ·rw [h1]; rfl
    ·rw [Bool.or_assoc, h1, Bool.or_true]
   ·exact wh_num pz L _ b hb
def dig (L : List Nat) : Bool:=decide (0 < cnt isDg L) || (L.headD 0 == 46 && decide (0 < cnt isDg (L.drop 1)))
theorem cnt_head {p : Nat → Bool} {b : Nat} {r : List Nat} (h : 0 < cnt p (b :: r)) : p b = true:=by
 unfold cnt at h
 rw [wh] at h
 cases hp : p b with
 | true => rfl
 | false => rw [show ((fun (_ : Unit) b => (p b, ())) () b).1 = p b from rfl, hp, if_neg (by decide)] at h; exact absurd h (by decide)
theorem num_head {L : List Nat} (h : dig L = true) : ∀ b, (L.take (nml L)).head? = some b → b ≠ 43 ∧ b ≠ 45:=by
 intro b hb
 cases L with
 | nil => simp at hb
 | cons c r =>
  have hc : b = c:=by
   cases hn : nml (c :: r) with
   | zero => rw [hn] at hb; simp at hb
   | succ n => rw [hn, List.take_succ_cons, List.head?_cons, Option.some.injEq] at hb; exact hb.symm
  subst hc
  unfold dig at h
  rw [Bool.or_eq_true, Bool.and_eq_true, decide_eq_true_iff, beq_iff_eq] at h
  rcases h with h | h
  ·have h2 : isDg b = true := cnt_head h
   have:=in_of (show isIn 48 b 57 = true from h2); omega
  ·have : b = 46 := h.1; omega
def tk (L : List Nat) : Tk :=
 if isLt (L.headD 0) then ⟨if wrd (L.take (cnt (fun b => isLt b || isDg b) L)) then 2 else 1, L.take (cnt (fun b => isLt b || isDg b) L), 0, cnt (fun b => isLt b || isDg b) L, 0⟩
 else if dig L then ⟨(numb (L.take (nml L))).1, [], (numb (L.take (nml L))).2.1, nml L, (numb (L.take (nml L))).2.2⟩
 else if (lng L).2.2 then (if (lng L).2.1 = 0 then ⟨0, [], 0, 0, 30⟩ else ⟨5, (lng L).1, 0, (lng L).2.1, 0⟩)
 else if L.headD 0 = 34 ∨ L.headD 0 = 39 then ⟨5, (resU (unq (L.take (quo L)))).1, 0, quo L, (resU (unq (L.take (quo L)))).2⟩
 else if [91, 61].isPrefixOf L then ⟨0, [], 0, 0, 30⟩
 else sgn L sgL
theorem storeO4 {b o : Nat} {X : List V} {kk : Hp → VH} (hX : X.length = 4) : storeB (storeO Tryz.prog h 25 b o (.agg X)) (fun ob => kk (h.put b ob)) = storeN 4 (.ptr b o) (.agg X) h kk:=by
 have hsz : sz Tryz.prog 25 = some 4:=by kernel_rfl
 show _ = cellE (h.t.get b) fun c n g e => whenE (Nat.beq (vcells (.agg X)).length 4 && Nat.ble (o + 4) n && allOne (vcells (.agg X))) (kk (h.put b (.cells (c.setL o (vcells (.agg X))) n g e)))
 unfold storeO
 rw [hsz]
 cases hb : h.t.get b with
 | none => rfl
 | some ob =>
  cases ob with
  | cells c n g e =>
   show storeB (bif Nat.beq (vcells (.agg X)).length 4 && Nat.ble (o + 4) n && allOne (vcells (.agg X)) then some (.cells (c.setL o (vcells (.agg X))) n g e) else none) _ = whenE (Nat.beq (vcells (.agg X)).length 4 && Nat.ble (o + 4) n && allOne (vcells (.agg X))) (kk (h.put b (.cells (c.setL o (vcells (.agg X))) n g e)))
   cases (Nat.beq (vcells (.agg X)).length 4 && Nat.ble (o + 4) n && allOne (vcells (.agg X))) <;> rfl
  | map es => rfl
  | ro _ _ => rfl
  | dead => rfl
theorem Tri.digS {rb a ln : Nat} {s : Bs} {sv : V} {R : V → Hp → VH} (hs : s.n ≤ 70000) (ha : a < s.n) (H : St (Mid.row rb (rc s a ln sv) :: l) h) (L : Lo ro h0 h)
 (hk : ∀ h', St (Mid.row rb (rc s a ln sv) :: l) h' → Lo ro h0 h' → Tri h0 ro F Q (R (.bool (dig ((bts s).drop a))) h')) : Tri h0 ro F Q (bindS (M 50 [.ptr rb 0, .int .i64 0, .func 45 [] []] h) fun v9 h10 =>
   intS .gtr v9 (.int .i64 0) fun v11 => guardS v11 false (intS .eql (.int .u8 (s.byte a : Nat)) (.int .u8 46) fun v12 => some (v12, h10)) h10 fun v13 h14 =>
   guardS v13 true (bindS (M 50 [.ptr rb 0, .int .i64 1, .func 45 [] []] h14) fun v15 h16 => intS .gtr v15 (.int .i64 0) fun v17 => some (v17, h16)) h14 fun v18 h19 =>
   guardS v11 false (optS (pickV v13 v18 (.bool false)) fun v20 => some (v20, h19)) h19 fun v21 h22 => optS (pickV v11 (.bool true) v21) fun v23 => R v23 h22):=by
 have hd : ((bts s).drop a).headD 0 = s.byte a:=by rw [bts_drop ha]; rfl
 have hk2 : ∀ h' d, dig ((bts s).drop a) = d → St (Mid.row rb (rc s a ln sv) :: l) h' → Lo ro h0 h' → Tri h0 ro F Q (R (.bool d) h'):=fun h' d e => by subst e; exact hk h'
 unfold dig at hk2
 rw [hd, List.drop_drop] at hk2
 refine tbe1 (f50 (fr:=0) (p:=isDg) (g:=.func 45 [] []) (fun b h l _ H => sp90 H) hs (by omega) (by omega) H) L fun h H L => ?_
 refine Tri.gtr ?_ ?_<;>intro e
 ·have e' : 0 < cnt isDg ((bts s).drop a) := Int.ofNat_lt.1 e
  have hk3:=hk2 h true (by rw [decide_eq_true e', Bool.true_or]) H L
  exact hk3
 ·rw [decide_eq_false (show ¬ 0 < cnt isDg ((bts s).drop a) from fun c => absurd e (Int.not_le.2 (Int.ofNat_lt.2 c))), Bool.false_or] at hk2
  apply gff
  apply bI
  refine Tri.eql ?_ ?_<;>intro e2
  ·rw [show (s.byte a == 46) = true from beq_iff_eq.2 (Int.ofNat.inj e2), Bool.true_and] at hk2
   apply bS
   apply gtt
   apply Mid.bB
   refine tbe1 (f50 (fr:=1) (p:=isDg) (g:=.func 45 [] []) (fun b h l _ H => sp90 H) hs (by omega) (by omega) H) L fun h H L => ?_
   refine Tri.eqv (bind_intS _ _) (Tri.gtr (fun e3 => ?_) (fun e3 => ?_))
   ·exact hk2 h true (decide_eq_true (Int.ofNat_lt.1 e3)) H L
   ·exact hk2 h false (decide_eq_false (fun c => absurd e3 (Int.not_le.2 (Int.ofNat_lt.2 c)))) H L
  ·rw [show (s.byte a == 46) = false from beq_eq_false_iff_ne.2 (fun c => e2 (congrArg Int.ofNat c)), Bool.false_and] at hk2
   exact hk2 h false rfl H L
theorem Tri.qS {b : Nat} {R : V → Hp → VH} (hk : Tri h0 ro F Q (R (.bool (decide (b = 34 ∨ b = 39))) h)) : Tri h0 ro F Q (intS .eql (.int .u8 (b : Int)) (.int .u8 34) fun v2 =>
 guardS v2 false (intS .eql (.int .u8 (b : Int)) (.int .u8 39) fun v4 => some (v4, h)) h fun v5 h6 => optS (pickV v2 (.bool true) v5) fun v7 => R v7 h6):=by
 refine Tri.eql ?_ ?_<;>intro e
 ·rw [decide_eq_true (.inl (Int.ofNat.inj e))] at hk
  exact hk
 ·apply gff
  apply bI
  refine Tri.eql ?_ ?_<;>intro e2
  ·rw [decide_eq_true (.inr (Int.ofNat.inj e2))] at hk
   exact hk
  ·rw [decide_eq_false (fun c => c.elim (fun c => e (congrArg Int.ofNat c)) (fun c => e2 (congrArg Int.ofNat c)))] at hk
   exact hk
abbrev zeroT : List V:=[.int .u8 0, .str ⟨0, 0⟩, .int .i64 0, .int .i64 0]
theorem sp56 {rb sb a ln : Nat} {s : Bs} (hs : s.n ≤ 70000) (ha : a < s.n) (H : St (Mid.row rb (rc s a ln (sgV sb)) :: SG sb :: l) h) :
 Tri h false l (rTk rb (rc s a ln (sgV sb)) sb (tk ((bts s).drop a))) (M 56 [.ptr rb 0] h):=by
 have ih50a:=fun (p : Nat → Bool) (g : V) (hg : ∀ (b : Nat) (h : Hp) (l : List Asn), b < 256 → St l h → Tri h true l (rNo (.bool (p b))) (dynE M g [.int .u8 (b : Int)] h)) (h : Hp) (l : List Asn) (H : St (Mid.row rb (rc s a ln (sgV sb)) :: l) h) => f50 hg (rb:=rb) (fr:=0) hs (by omega) (by omega) H
 have ih86:=fun (h : Hp) (l : List Asn) (H : St (Mid.row rb (rc s a ln (sgV sb)) :: l) h) => sp86 (fr:=0) hs (by omega) H
 have ih25 : ∀ (b0 b1 : Nat) (k : Int) (z : Bs) (n : Nat) (h : Hp) (l : List Asn), St (Mid.row b1 [.int .u8 k, .str z, .int .i64 0, .int .i64 0] :: Mid.row rb (rc s a ln (sgV sb)) :: Mid.row b0 zeroT :: SG sb :: l) h →
  Tri h false l (rTk rb (rc s a ln (sgV sb)) sb ⟨k, bts z, 0, n, 0⟩) (M 25 [.ptr b0 0, .int .i64 (n : Int), .ptr b1 0] h):=by
  intro b0 b1 k z n h l H
  refine t3 e25 fun L => ?_
  unfold B25
  refine ls 0 H rfl rfl ?_
  refine wl0 2 H rfl rfl rfl L (by first|rfl|assumption) fun h H L => ?_
  exact Tri.done (B:=[_, _]) ⟨z, (bts_len z).symm, rfl, rfl, rfl⟩ H.tl.x1 L
 rw [Nat.add_zero] at ih86
 generalize hX : tk ((bts s).drop a) = X
 unfold tk at hX
 rw [show ((bts s).drop a).headD 0 = s.byte a by rw [bts_drop ha]; rfl] at hX
 refine t1 e56 fun L => ?_
 unfold B56
 refine nw H L fun b0 h hb0 H L => ?_
 replace H:=H.u1
 refine nal 0 H rfl rfl ?_
 refine nal 0 H rfl rfl ?_
 refine iS (by omega) ?_
 rw [show ((a : Int)).toNat = a from rfl]
 refine Tri.digS hs ha H L fun h H L => ?_
 refine Mid.tb (ih86 _ _ H) L fun v h B hq20 H L => ?_
 obtain ⟨z20, nz20, ez20, rfl, rfl⟩:=hq20
 refine Tri.ext rfl ?_
 refine Tri.ext rfl ?_
 refine Tri.ext rfl ?_
 refine tbe1 (sp92 H) L fun h H L => ?_
 cases h1 : isLt (s.byte a) with
 | true =>
  rw [h1, if_pos rfl] at hX
  have hc:=cnt_le (fun b => isLt b || isDg b) ((bts s).drop a)
  rw [List.length_drop, bts_len] at hc
  refine tbe1 (ih50a (fun b => isLt b || isDg b) (.func 47 [] []) (fun b h l _ H => sp94 H) h _ H) L fun h H L => ?_
  rw [Nat.add_zero]
  generalize cnt (fun b => isLt b || isDg b) ((bts s).drop a) = C at hc hX ⊢
  refine nw H L fun b40 h hb40 H L => ?_
  refine nal 1 H rfl rfl ?_
  refine nal 1 H rfl rfl ?_
  refine nal 1 H rfl rfl ?_
  refine aD (by omega) ?_
  refine cB (by omega) fun z51 nz51 ez51 => ?_
  refine Tri.bldS rfl ?_
  refine w0 0 H rfl rfl rfl L (by first|rfl|assumption) fun h H L => ?_
  refine al 0 H rfl rfl ?_
  refine tbe1 (sp24 (by first|assumption|omega|rfl|(dsimp;omega)) H) L fun h H L => ?_
  have e51 : bts z51 = ((bts s).drop a).take C:=by rw [ez51, show ((a : Int) + (C : Int)).toNat - ((a : Int)).toNat = C by omega]; rfl
  rw [← e51] at hX
  cases hw : wrd (bts z51) with
  | true =>
   rw [hw, if_pos rfl] at hX
   subst hX
   apply nT
   apply ad
   refine sto 0 H rfl rfl L (by first|rfl|assumption) fun h H L => ?_
   refine te (ih25 _ _ _ _ _ _ _ H) L
  | false =>
   rw [hw, if_neg (by decide)] at hX
   subst hX
   apply nF
   refine te (ih25 _ _ _ _ _ _ _ H) L
 | false =>
  rw [h1, if_neg (by decide)] at hX
  cases h2 : dig ((bts s).drop a) with
  | true =>
   rw [h2, if_pos rfl] at hX
   have hc:=nml_le ((bts s).drop a)
   rw [List.length_drop, bts_len] at hc
   have hnum:=wh_num (pwz ((bts s).drop a)) ((bts s).drop a) 0
   have hhead:=num_head h2
   rw [show wh (nstep (pwz ((bts s).drop a))) 0 ((bts s).drop a) = nml ((bts s).drop a) from rfl] at hnum
   have ih96:=fun (h : Hp) (l : List Asn) (H : St (Mid.row rb (rc s a ln (sgV sb)) :: l) h) => sp96 hs (by omega) H
   generalize nml ((bts s).drop a) = C at hc hX hnum hhead ih96 ⊢
   apply nF
   apply nT
   refine tbe (ih96 _ _ H) L fun h H L => ?_
   refine nw H L fun b63 h hb63 H L => ?_
   refine nal 1 H rfl rfl ?_
   refine nal 1 H rfl rfl ?_
   refine nal 1 H rfl rfl ?_
   refine aD (by omega) ?_
   refine cB (by omega) fun z74 nz74 ez74 => ?_
   have Ho75:=H
   have e74 : bts z74 = ((bts s).drop a).take C:=by rw [ez74, show ((a : Int) + (C : Int)).toNat - ((a : Int)).toNat = C by omega]; rfl
   rw [← e74] at hX hnum hhead
   refine Tri.wroteC (sp98 (by omega) hnum hhead (H.draw _)) L (fun v h2 e => by rw [e]; rfl) fun v h2 h B hq H2 hn hl eh H L => ?_
   obtain ⟨rfl, rfl⟩:=hq
   refine Tri.ext rfl (Tri.ext rfl ?_)
   have key:=storeO4 (h:=h) (b:=b63) (o:=0) (X:=[.int .u8 (numb (bts z74)).1, .str ⟨0, 0⟩, .int .i64 (numb (bts z74)).2.1, .int .i64 0]) (kk:=fun h' => loadN 4 (.ptr b63 0) h' fun v78 => storeN 4 (.ptr b0 0) v78 h' fun h79 => loadN 4 (.ptr b0 0) h79 fun v80 => some (.tuple [v80, .int .i64 (C : Nat), .int .i64 (numb (bts z74)).2.2], h79)) rfl
   refine Tri.eqv key ?_
   refine wl0 0 H rfl rfl rfl L (by first|rfl|assumption) fun h H L => ?_
   refine wl0 2 H rfl rfl rfl L (by first|rfl|assumption) fun h H L => ?_
   subst hX
   exact Tri.done (B:=[_, _]) ⟨⟨0, 0⟩, rfl, rfl, rfl, rfl⟩ H.tl.x1 L
  | false =>
   rw [h2, if_neg (by decide)] at hX
   have hle:=lng_le ((bts s).drop a)
   rw [List.length_drop, bts_len] at hle
   generalize lng ((bts s).drop a) = G at hX hle nz20 ez20 ⊢
   obtain ⟨G1, G2, G3⟩:=G
   dsimp only at hX hle nz20 ez20 ⊢
   cases G3 with
   | true =>
    rw [if_pos rfl] at hX
    apply nF
    apply nF
    apply gtt
    apply bI
    refine Tri.eql ?_ ?_<;>intro e1
    ·rw [if_pos (show G2 = 0 from Int.ofNat.inj e1)] at hX
     subst hX
     apply bS
     apply pT
     apply nT
     refine Tri.bldS rfl ?_
     refine wl0 1 H rfl rfl rfl L (by first|rfl|assumption) fun h H L => ?_
     exact Tri.done (B:=[_, _]) ⟨⟨0, 0⟩, rfl, rfl, rfl, rfl⟩ H.x1 L
    ·rw [if_neg (show ¬ G2 = 0 from fun c => e1 (congrArg Int.ofNat c))] at hX
     subst hX
     apply bS
     apply pT
     apply nF
     apply nT
     refine Tri.bldS rfl ?_
     refine wl0 1 H rfl rfl rfl L (by first|rfl|assumption) fun h H L => ?_
     exact Tri.done (B:=[_, _]) ⟨z20, nz20, ez20, rfl, rfl⟩ H.x1 L
   | false =>
    rw [if_neg (by decide)] at hX
    apply nF
    apply nF
    apply gft
    apply pF
    apply nF
    apply nF
    refine Tri.qS ?_
    by_cases hq : s.byte a = 34 ∨ s.byte a = 39
    ·rw [if_pos hq] at hX
     rw [decide_eq_true hq]
     have hc:=quo_le ((bts s).drop a) (by rw [bts_drop ha]; exact List.cons_ne_nil _ _)
     rw [List.length_drop, bts_len] at hc
     have ih100:=fun (h : Hp) (l : List Asn) (H : St (Mid.row rb (rc s a ln (sgV sb)) :: l) h) => sp100 hs ha H
     generalize quo ((bts s).drop a) = C at hc hX ih100 ⊢
     apply nT
     refine tbe1 (ih100 _ _ H) L fun h H L => ?_
     refine nal 0 H rfl rfl ?_
     refine nal 0 H rfl rfl ?_
     refine nal 0 H rfl rfl ?_
     refine aD (by omega) ?_
     refine cB (by omega) fun z192 nz192 ez192 => ?_
     have Ho193:=H
     refine Tri.wrote (sp102 (by first|assumption|omega|rfl|(dsimp;omega)) (H.draw _)) L (fun e => e) fun v h2 h B hq193 H2 hn193 hl193 eh193 H L => ?_
     obtain ⟨z193, nz193, ez193, rfl, rfl⟩:=hq193
     refine Tri.ext rfl ?_
     refine Tri.ext rfl ?_
     refine Tri.bldS rfl ?_
     refine wl0 1 H rfl rfl rfl L (by first|rfl|assumption) fun h H L => ?_
     have e192 : bts z192 = ((bts s).drop a).take C:=by rw [ez192, show ((a : Int) + (C : Int)).toNat - ((a : Int)).toNat = C by omega]; rfl
     rw [← e192] at hX
     subst hX
     exact Tri.done (B:=[_, _]) ⟨z193, nz193, ez193, rfl, rfl⟩ H.x1 L
    ·rw [if_neg hq] at hX
     rw [decide_eq_false hq]
     apply nF
     refine nal 0 H rfl rfl ?_
     refine nal 0 H rfl rfl ?_
     refine Tri.cutLo (by omega) (by omega) fun z207 nz207 ez207 => ?_
     refine tbe1 (sp104 (by first|assumption|omega|rfl|(dsimp;omega)) (by first|assumption|omega|rfl|(dsimp;omega)) H) L fun h H L => ?_
     have e207 : bts z207 = (bts s).drop a:=ez207
     rw [e207, show bts ⟨2, 15707⟩ = [91, 61] from rfl]
     cases h3 : [91, 61].isPrefixOf ((bts s).drop a) with
     | true =>
      rw [h3, if_pos rfl] at hX
      subst hX
      apply nT
      refine Tri.bldS rfl ?_
      refine wl0 1 H rfl rfl rfl L (by first|rfl|assumption) fun h H L => ?_
      exact Tri.done (B:=[_, _]) ⟨⟨0, 0⟩, rfl, rfl, rfl, rfl⟩ H.x1 L
     | false =>
      rw [h3, if_neg (by decide)] at hX
      apply nF
      refine nal 0 H rfl rfl ?_
      apply bL
      refine Tri.lenSl ?_
      apply bS
      exact te (sgn_ok hs ha 31 0 h l rfl H X hX) L
def rSg : V → List Asn → Prop:=fun w B => ∃ sb, w = sgV sb ∧ B = [vc false (sgV sb) 9 1 sgA]
theorem row_nil (cs : List V) : ∀ i, i < cs.length → (Tr.nil.setL 0 cs).get i = cs[i]?:=setL_row cs
theorem sp28 (H : St l h) : Tri h true l rSg (M 28 [] h):=by
 have e : M 28 [] h = some (sgV h.n, h.new (.cells (Tr.nil.setL 0 sgA) 31 false 9)):=by
  refine (@lim_F Tryz.prog (orc fnA Inv) labs 14 _ _ _).2 ⟨0, ?_⟩
  rfl
 rw [e]
 have hl : sgA.length = 31:=rfl
 refine Tri.done (B:=[vc false (sgV h.n) 9 1 sgA]) ⟨_, rfl, rfl⟩ (H.new ?_) ⟨Nat.le_succ _, (Lo.refl true h).low⟩
 exact .full _ _ _ _ rfl (up_eq _ _ _) hl (Nat.le_refl _) (row_nil sgA)
theorem sp78 {sb : Nat} (H : St (vc false (sgV sb) 9 1 sgA :: l) h) : Tri h false l (fun w B => w = .tuple [] ∧ B = [SG sb]) (M 78 [sgV sb, .int .i64 31, .func 23 [] []] h):=by
 obtain ⟨f, f1, f2⟩:=H.sat.hd
 have hl : sgA.length = 31:=rfl
 have hl2 : sgB.length = 31:=rfl
 have key : ∃ t, f sb = some (.cells t 31 false 9) ∧ ∀ i, i < sgA.length → t.get i = sgA[i]?:=by
  cases f2 with
  | full b n c t a0 a1 a2 a5 a3 => exact ⟨t, a1, a3⟩
 obtain ⟨t, a1, a3⟩:=key
 have hg : h.t.get sb = some (.cells t 31 false 9):=f1 _ _ a1
 have e1 : t.getL 0 31 = some sgA:=by rw [← hl]; exact getL_of fun i hi => by rw [Nat.zero_add]; exact a3 i hi
 have e2 : vEqO (some sgA) (some sgA) = true:=by kernel_rfl
 have hd : sortF 23 [sgV sb, .int .i64 31, .func 23 [] []] h = some (.tuple [], h.put sb (.cells (Tr.nil.setL 0 sgB) 31 false 9)):=by
  show (bif Nat.beq 23 23 then (match h.t.get sb with
   | some (.cells t 31 false 9) => bif vEqO (t.getL 0 31) (some sgA) then some (V.tuple [], h.put sb (.cells (Tr.nil.setL 0 sgB) 31 false 9)) else none
   | _ => none) else none) = _
  rw [hg]
  simp only [e1, e2]
  rfl
 have e : M 78 [sgV sb, .int .i64 31, .func 23 [] []] h = some (.tuple [], h.put sb (.cells (Tr.nil.setL 0 sgB) 31 false 9)):=by
  refine (@lim_F Tryz.prog (orc fnA Inv) labs 39 _ _ _).2 ⟨0, ?_⟩
  show enterO Tryz.prog _ h 39 _ (sortF 23 [sgV sb, .int .i64 31, .func 23 [] []] h) = _
  rw [hd]
  rfl
 rw [e]
 refine Tri.done (B:=[SG sb]) ⟨rfl, rfl⟩ ?_ ((Lo.refl false h).put sb _ fun e => nomatch e)
 refine H.put (i:=0) (A':=SG sb) rfl fun f hf => ⟨?_, .full _ _ _ _ rfl (up_eq _ _ _) hl2 (Nat.le_refl _) (row_nil sgB)⟩
 cases hf with
 | full b n c t a0 a1 a2 a5 a3 => rw [a1]; exact fun h => nomatch h
theorem sp44 {sb : Nat} (H : St (vc false (sgV sb) 9 1 sgA :: l) h) : Tri h false l (fun w B => w = .tuple [] ∧ B = [SG sb]) (M 44 [sgV sb, .func 23 [] []] h):=by
 refine t2 e44 fun L => ?_
 unfold B44
 apply bL
 refine tbe (sp78 H) L fun h H L => ?_
 skip
 exact Tri.done (B:=[_]) ⟨rfl, rfl⟩ H L
theorem nt_pos {L : List Nat} (h1 : (nt L).1 = true) (h2 : (nt L).2.1 = 0) : 1 ≤ (nt L).2.2:=by
 unfold nt at h1 h2 ⊢
 cases hp : [45, 45].isPrefixOf L with
 | false => rw [hp] at h1; cases h1
 | true =>
  rw [hp] at h2
  rw [if_pos rfl] at h2 ⊢
  split at h2 <;> rename_i hx
  ·split at h2
   ·cases h2
   ·rename_i hy; rw [if_pos hx, if_neg hy]; show 1 ≤ _ + 2; omega
  ·rw [if_neg hx]
   show 1 ≤ cnt _ L
   rw [pfx_take, decide_eq_true_iff] at hp
   cases L with
   | nil => exact absurd hp.1 (by simp)
   | cons b r =>
    have hb : b = 45:=by have:=hp.2; simp at this; exact this.1
    subst hb
    show 1 ≤ wh _ _ _
    rw [wh, if_pos (show (!isEnd 45) = true from rfl)]; omega
theorem sgn_le (L : List Nat) : ∀ Z : List Bs, (∀ z ∈ Z, 1 ≤ z.n) → (sgn L Z).n ≤ L.length ∧ ((sgn L Z).e = 0 → 1 ≤ (sgn L Z).n)
 | [], _ => ⟨Nat.zero_le _, fun h => by unfold sgn at h; dsimp only at h; split at h <;> cases h⟩
 | z :: Z, hz => by
  rw [sgn]
  cases hp : (bts z).isPrefixOf L with
  | true =>
   rw [if_pos rfl]
   rw [pfx_take, decide_eq_true_iff, bts_len] at hp
   exact ⟨hp.1, fun _ => hz z List.mem_cons_self⟩
  | false => rw [if_neg (by decide)]; exact sgn_le L Z fun z h => hz z (List.mem_cons_of_mem _ h)
theorem tk_le (L : List Nat) (hL : L ≠ []) : (tk L).n ≤ L.length:=by
 unfold tk
 split
 ·exact cnt_le _ _
 ·split
  ·exact nml_le _
  ·split
   ·rename_i h
    split
    ·exact Nat.zero_le _
    ·exact lng_le _ h
   ·split
    ·exact quo_le _ hL
    ·split
     ·exact Nat.zero_le _
     ·exact (sgn_le L sgL fun z h => (sg_max z h).1).1
theorem tk_pos {L : List Nat} (hL : L ≠ []) (h : (tk L).e = 0) : 1 ≤ (tk L).n:=by
 obtain ⟨b, r, rfl⟩:=List.exists_cons_of_ne_nil hL
 unfold tk at h ⊢
 rw [List.headD_cons] at h ⊢
 split
 ·rename_i h1
  show 1 ≤ wh _ _ _
  rw [wh, if_pos (show (isLt b || isDg b) = true by rw [h1]; rfl)]; omega
 ·rename_i h1
  rw [if_neg h1] at h
  split
  ·rename_i h2
   show 1 ≤ wh _ _ _
   have : (nstep (pwz (b :: r)) 0 b).1 = true:=by
    unfold dig at h2
    rw [List.headD_cons, Bool.or_eq_true, Bool.and_eq_true, decide_eq_true_iff, beq_iff_eq] at h2
    unfold nstep
    rcases h2 with h2 | h2
    ·have h3 : isDg b = true := cnt_head h2
     rw [h3]; rfl
    ·rw [h2.1]; simp
   rw [wh, if_pos this]; omega
  ·rename_i h2
   rw [if_neg h2] at h
   split
   ·rename_i h3
    rw [if_pos h3] at h
    split
    ·rename_i h4
     rw [if_pos h4] at h; cases h
    ·rename_i h4; show 1 ≤ (lng (b :: r)).2.1; omega
   ·rename_i h3
    rw [if_neg h3] at h
    split
    ·rename_i h4
     rw [if_pos h4] at h
     have:=unq_len h
     rw [List.length_take] at this
     show 1 ≤ quo (b :: r); omega
    ·rename_i h4
     rw [if_neg h4] at h
     split
     ·rename_i h5
      rw [if_pos h5] at h; cases h
     ·rename_i h5
      rw [if_neg h5] at h
      exact (sgn_le _ sgL fun z h => (sg_max z h).1).2 h
theorem nt_none {L : List Nat} (h : (nt L).1 = false) : (nt L).2.2 = 0:=by
 unfold nt at h ⊢
 cases hp : [45, 45].isPrefixOf L with
 | false => rfl
 | true =>
  rw [hp, if_pos rfl] at h
  split at h
  ·split at h <;> cases h
  ·cases h
def lexL : Nat → List Nat → Nat → List (Tk × Nat) → List (Tk × Nat) × Int × Int
 | 0, _, _, _ => ([], 0, 0)
 | f + 1, R, ln, acc =>
  if R.drop (cnt isSp R) = [] then (acc ++ [(⟨6, [], 0, 0, 0⟩, ln + lnc (R.take (cnt isSp R)))], 0, 0)
  else if (nt (R.drop (cnt isSp R))).2.1 = 0 ∧ (nt (R.drop (cnt isSp R))).1 = true then
   lexL f ((R.drop (cnt isSp R)).drop (nt (R.drop (cnt isSp R))).2.2) (ln + lnc (R.take (cnt isSp R)) + lnc ((R.drop (cnt isSp R)).take (nt (R.drop (cnt isSp R))).2.2)) acc
  else if (nt (R.drop (cnt isSp R))).2.1 ≠ 0 then ([], (nt (R.drop (cnt isSp R))).2.1, ((ln + lnc (R.take (cnt isSp R)) + lnc ((R.drop (cnt isSp R)).take (nt (R.drop (cnt isSp R))).2.2) : Nat) : Int))
  else if (tk (R.drop (cnt isSp R))).e ≠ 0 then ([], (tk (R.drop (cnt isSp R))).e, ((ln + lnc (R.take (cnt isSp R)) : Nat) : Int))
  else lexL f ((R.drop (cnt isSp R)).drop (tk (R.drop (cnt isSp R))).n) (ln + lnc (R.take (cnt isSp R)) + lnc ((R.drop (cnt isSp R)).take (tk (R.drop (cnt isSp R))).n)) (acc ++ [(tk (R.drop (cnt isSp R)), ln + lnc (R.take (cnt isSp R)))])
structure Ti where
 z : Bs
 t : Tk
 ln : Nat
def Ti.c (x : Ti) : List V:=[.int .u8 x.t.k, .str x.z, .int .i64 x.t.N, .int .i64 (x.ln : Int)]
def Ti.ok (x : Ti) : Prop:=x.z.n = x.t.z.length ∧ bts x.z = x.t.z
abbrev tcs (O : List Ti) : List V:=O.flatMap Ti.c
theorem tcs_len (O : List Ti) : (tcs O).length = O.length * 4:=by
 induction O with
 | nil => rfl
 | cons x O ih => rw [tcs, List.flatMap_cons, List.length_append, ih, List.length_cons]; show 4 + _ = _; omega
def rTs (X : List (Tk × Nat) × Int × Int) : V → List Asn → Prop:=fun w B => ∃ (ov : V) (O : List Ti), (∀ x ∈ O, x.ok) ∧ O.map (fun x => (x.t, x.ln)) = X.1 ∧ w = .tuple [ov, .agg [.int .i64 X.2.1, .int .i64 X.2.2]] ∧ B = [vc true ov 25 4 (tcs O)]
theorem seg_take (s : Bs) (a n : Nat) : seg s a (a + n) = ((bts s).drop a).take n:=by rw [seg, Nat.add_sub_cancel_left]
theorem toks_ok {s : Bs} {rb sb fb : Nat} (hs : s.n ≤ 65535) : ∀ (f a ln : Nat) (ov : V) (O : List Ti) (h : Hp) (l : List Asn), s.n - a < f → a ≤ s.n → ln ≤ 1 + a → O.length ≤ a → (∀ x ∈ O, x.ok) →
 St (Mid.row rb (rc s a ln (sgV sb)) :: SG sb :: Mid.row fb [.int .i64 0, .int .i64 0] :: vc true ov 25 4 (tcs O) :: l) h →
 ∀ X, lexL f ((bts s).drop a) ln (O.map fun x => (x.t, x.ln)) = X → Tri h false l (rTs X) (M 9 [.ptr fb 0, .ptr rb 0, ov] h):=by
 intro f
 induction f with
 | zero => intro a ln ov O h l hf; omega
 | succ f ih =>
  intro a ln ov O h l hf ha hln hO hok H X hX
  have okc : ∀ (O : List Ti) (x : Ti), (∀ y ∈ O, y.ok) → x.ok → ∀ y ∈ O ++ [x], y.ok:=fun O x h1 h2 y hy => (List.mem_append.1 hy).elim (h1 y) fun h => by rw [List.mem_singleton.1 h]; exact h2
  have e1 : ∀ (O : List Ti) (x : Ti), (O.map fun x => (x.t, x.ln)) ++ [(x.t, x.ln)] = (O ++ [x]).map fun x => (x.t, x.ln):=fun O x => by rw [List.map_append]; rfl
  have e2 : ∀ (O : List Ti) (x : Ti), tcs O ++ x.c = tcs (O ++ [x]):=fun O x => by rw [tcs, tcs, List.flatMap_append, List.flatMap_singleton]
  have ih11e : ∀ (a ln n tb : Nat) (ov : V) (O : List Ti) (T : List V) (e : Int) (h : Hp) (l : List Asn), e ≠ 0 → St (Mid.row tb T :: Mid.row rb (rc s a ln (sgV sb)) :: SG sb :: Mid.row fb [.int .i64 0, .int .i64 0] :: vc true ov 25 4 (tcs O) :: l) h →
   ∀ X, ([], e, (ln : Int)) = X → Tri h false l (rTs X) (M 11 [.ptr fb 0, .ptr rb 0, ov, .ptr tb 0, .int .i64 (n : Int), .int .i64 e] h):=by
   intro a ln n tb ov O T e h l he H X hX
   refine t6 e11 fun L => ?_
   unfold B11
   refine Tri.neq (fun _ => ?_) (fun c => absurd c he)
   subst hX
   apply nT
   refine nal 1 H rfl rfl ?_
   refine Tri.bldS rfl ?_
   refine wl0 3 H rfl rfl rfl L (by first|rfl|assumption) fun h H L => ?_
   exact Tri.done (B:=[_]) ⟨.nilSlice, [], (fun x hx => nomatch hx), rfl, rfl, rfl⟩ (St.vc_new true 25 4 H.tl.tl.tl.tl.tl) L
  have ih11k : ∀ (a ln tb : Nat) (ov : V) (O : List Ti) (x : Ti) (h : Hp) (l : List Asn), x.ok → x.ln = ln → x.t.e = 0 → a + x.t.n ≤ s.n → 1 ≤ x.t.n → s.n - (a + x.t.n) < f → ln ≤ 1 + a → O.length ≤ a → (∀ x ∈ O, x.ok) →
   St (Mid.row tb [.int .u8 x.t.k, .str x.z, .int .i64 x.t.N, .int .i64 0] :: Mid.row rb (rc s a ln (sgV sb)) :: SG sb :: Mid.row fb [.int .i64 0, .int .i64 0] :: vc true ov 25 4 (tcs O) :: l) h →
   ∀ X, lexL f ((bts s).drop (a + x.t.n)) (ln + lnc (seg s a (a + x.t.n))) ((O ++ [x]).map fun x => (x.t, x.ln)) = X → Tri h false l (rTs X) (M 11 [.ptr fb 0, .ptr rb 0, ov, .ptr tb 0, .int .i64 (x.t.n : Int), .int .i64 0] h):=by
   intro a ln tb ov O x h l hx hxl hxe han hpos hf1 hln hO hok H X hX
   have hlw:=lnc_le _ (seg s a (a + x.t.n)) (Nat.le_refl _)
   rw [seg_len (by omega)] at hlw
   refine t6 e11 fun L => ?_
   unfold B11
   refine Tri.neq (fun e => absurd e (by decide)) (fun _ => ?_)
   apply nF
   refine nal 1 H rfl rfl ?_
   apply ad
   refine sto 0 H rfl rfl L (by first|rfl|assumption) fun h H L => ?_
   replace H:=H.u1
   refine tbe (sp48 (by first|assumption|omega|rfl|(dsimp;omega)) (by first|assumption|omega|rfl|(dsimp;omega)) (by first|assumption|omega|rfl|(dsimp;omega)) H) L fun h H L => ?_
   refine ls 1 H rfl rfl ?_
   refine Tri.bld (e:=_) (s:=_) H L rfl rfl fun b22 h hb22 H L => ?_
   refine Tri.app 5 O.length 1 (new:=[.int .u8 x.t.k, .str x.z, .int .i64 x.t.N, .int .i64 (ln : Int)]) H rfl (H.newCells (i:=0) rfl rfl) (by decide) (tcs_len O) rfl (by omega) (by omega) rfl L (Own.off _ _) fun v' h H L hO1 h1 => ?_
   refine te (ih (a + x.t.n) _ v' (O ++ [x]) h l (by omega) (by omega) (by omega) (by rw [List.length_append, List.length_singleton]; omega) (okc O x hok hx) ?_ X hX) L
   rw [← e2]
   subst hxl
   exact H.tl.x1
  have ih50:=fun (h : Hp) (l : List Asn) (H : St (Mid.row rb (rc s a ln (sgV sb)) :: l) h) => f50 (fr:=0) (p:=isSp) (g:=.func 26 [] []) (fun b h l _ H => sp52 H) (show s.n ≤ 70000 by omega) (by omega) (by omega) H
  rw [Nat.add_zero] at ih50
  have hw:=cnt_le isSp ((bts s).drop a)
  rw [List.length_drop, bts_len] at hw
  rw [lexL, List.drop_drop, ← seg_take] at hX
  generalize cnt isSp ((bts s).drop a) = w at hX hw ih50
  have hlw:=lnc_le _ (seg s a (a + w)) (Nat.le_refl _)
  rw [seg_len (by omega)] at hlw
  refine t3 e9 fun L => ?_
  unfold B9
  refine tbe1 (ih50 _ _ H) L fun h H L => ?_
  refine tbe (sp48 (by first|assumption|omega|rfl|(dsimp;omega)) (by first|assumption|omega|rfl|(dsimp;omega)) (by first|assumption|omega|rfl|(dsimp;omega)) H) L fun h H L => ?_
  refine nal 0 H rfl rfl ?_
  refine nal 0 H rfl rfl ?_
  apply lS
  have hln1 : ln + lnc (seg s a (a + w)) ≤ 1 + (a + w):=by omega
  have hf1 : s.n - (a + w) < f + 1:=by omega
  have haw : a + w ≤ s.n:=by omega
  have hO1 : O.length ≤ a + w:=by omega
  clear hlw hw hO hln ha hf
  generalize ln + lnc (seg s a (a + w)) = ln at hX hln1 H
  generalize a + w = a at hX hf1 haw hO1 hln1 H
  refine Tri.eql ?_ ?_<;>intro e
  ·have ea : a = s.n := Int.ofNat.inj e
   rw [if_pos (bts_end (by omega)), e1 O ⟨⟨0, 0⟩, ⟨6, [], 0, 0, 0⟩, ln⟩] at hX
   subst hX
   apply nT
   refine nal 0 H rfl rfl ?_
   refine Tri.bldS rfl ?_
   refine Tri.bld (e:=_) (s:=_) H L rfl rfl fun b25 h hb25 H L => ?_
   refine Tri.app 4 O.length 1 (new:=Ti.c ⟨⟨0, 0⟩, ⟨6, [], 0, 0, 0⟩, ln⟩) H rfl (H.newCells (i:=0) rfl rfl) (by decide) (tcs_len O) rfl (by omega) (by omega) rfl L (Own.off _ _) fun v' h H L hO h1 => ?_
   refine Tri.bldS rfl ?_
   refine wl0 3 H rfl rfl rfl L (by first|rfl|assumption) fun h H L => ?_
   refine Tri.done (B:=[_]) ⟨v', O ++ [⟨⟨0, 0⟩, ⟨6, [], 0, 0, 0⟩, ln⟩], okc O _ hok ⟨rfl, rfl⟩, rfl, rfl, rfl⟩ ?_ L
   rw [← e2]
   exact H.tl.tl.tl.tl
  ·have hlt : a < s.n := by have : a ≠ s.n := fun c => e (congrArg Int.ofNat c); omega
   rw [if_neg (by rw [bts_drop hlt]; exact List.cons_ne_nil _ _)] at hX
   have hle:=nt_le ((bts s).drop a)
   have hpos:=@nt_pos ((bts s).drop a)
   have hno:=@nt_none ((bts s).drop a)
   rw [List.length_drop, bts_len] at hle
   apply nF
   refine tbe (sp54 (by first|assumption|omega|rfl|(dsimp;omega)) (by first|assumption|omega|rfl|(dsimp;omega)) (by first|assumption|omega|rfl|(dsimp;omega)) H) L fun h H L => ?_
   refine Tri.ext rfl ?_
   refine Tri.ext rfl ?_
   generalize nt ((bts s).drop a) = N at hX hle hpos hno H ⊢
   obtain ⟨N1, N2, N3⟩:=N
   dsimp only at hX hle hpos hno H ⊢
   have hlw:=lnc_le _ (seg s a (a + N3)) (Nat.le_refl _)
   rw [seg_len (by omega)] at hlw
   refine Tri.eql ?_ ?_<;>intro e3
   ·subst e3
    cases N1 with
    | true =>
     have:=hpos rfl rfl
     rw [if_pos ⟨rfl, rfl⟩, List.drop_drop, ← seg_take] at hX
     apply gtt
     apply bS
     apply pT
     apply nT
     exact te (ih (a + N3) _ ov O h l (by omega) (by omega) (by omega) (by omega) hok H X hX) L
    | false =>
     obtain rfl:=hno rfl
     rw [if_neg (fun c => nomatch c.2), if_neg (fun c => c rfl)] at hX
     replace H : St (Mid.row rb (rc s a ln (sgV sb)) :: SG sb :: Mid.row fb [.int .i64 0, .int .i64 0] :: vc true ov 25 4 (tcs O) :: l) h:=by
      rw [show seg s a (a + 0) = [] from seg_nil s a] at H; exact H
     apply gtt
     apply bS
     apply pT
     apply nF
     refine Tri.bldS rfl ?_
     refine nw H L fun b105 h hb105 H L => ?_
     refine w0 0 H rfl rfl rfl L (by first|rfl|assumption) fun h H L => ?_
     refine eTi (by decide) ?_
     replace H:=H.d2
     refine Mid.tb (sp56 (show s.n ≤ 70000 by omega) hlt H) L fun v h B hq H L => ?_
     obtain ⟨z, nz, ez, rfl, rfl⟩:=hq
     have htl:=tk_le ((bts s).drop a) (by rw [bts_drop hlt]; exact List.cons_ne_nil _ _)
     have htp:=@tk_pos ((bts s).drop a) (by rw [bts_drop hlt]; exact List.cons_ne_nil _ _)
     rw [List.length_drop, bts_len] at htl
     generalize tk ((bts s).drop a) = t at hX htl htp nz ez ⊢
     refine Tri.ext rfl ?_
     refine Tri.ext rfl ?_
     refine Tri.ext rfl ?_
     refine w0 2 H rfl rfl rfl L (by first|rfl|assumption) fun h H L => ?_
     replace H:=H.u2
     by_cases he : t.e = 0
     ·rw [if_neg (fun c => c he), List.drop_drop, ← seg_take, e1 O ⟨z, t, ln⟩] at hX
      rw [he]
      exact te (ih11k a ln b105 ov O ⟨z, t, ln⟩ h l ⟨nz, ez⟩ rfl he (by dsimp only; omega) (htp he) (by have:=htp he; dsimp only; omega) hln1 hO1 hok H X hX) L
     ·rw [if_pos he] at hX
      exact te (ih11e a ln t.n b105 ov O _ t.e h l he H X hX) L
   ·rw [if_neg (fun c => e3 c.1), if_pos e3, ← seg_take] at hX
    apply gft
    apply pF
    apply nF
    refine Tri.bldS rfl ?_
    refine nw H L fun b144 h hb144 H L => ?_
    refine w0 0 H rfl rfl rfl L (by first|rfl|assumption) fun h H L => ?_
    refine Tri.eql (fun c => absurd c e3) (fun _ => ?_)
    apply nF
    exact te (ih11e (a + N3) _ 0 b144 ov O _ N2 h l e3 H X hX) L
end
section
theorem all256 {p q : Nat → Bool} (h : (List.range 256).all (fun b => p b == q b) = true) {b : Nat} (hb : b < 256) : p b = q b:=by
 have:=List.all_eq_true.1 h b (List.mem_range.2 hb)
 exact beq_iff_eq.1 this
def at0 (L : List Nat) (i : Nat) : Nat:=L.getD i 0
theorem at0_drop (L : List Nat) (i j : Nat) : at0 (L.drop i) j = at0 L (i + j):=by unfold at0; rw [List.getD_eq_getElem?_getD, List.getD_eq_getElem?_getD, List.getElem?_drop]
theorem isEnd_no {b : Nat} (h1 : b ≠ 10) (h2 : b ≠ 13) : isEnd b = false:=by unfold isEnd; simp [h1, h2]
theorem dw_rep : ∀ (j : Nat) (R : List Nat), R.head? ≠ some 61 → (List.replicate j 61 ++ R).dropWhile (· == 61) = R
 | 0, [], _ => rfl
 | 0, b :: R, h => by
  have hb : (b == 61) = false:=beq_eq_false_iff_ne.2 fun c => h (by rw [c]; rfl)
  show (b :: R).dropWhile _ = _
  rw [List.dropWhile_cons, hb]; rfl
 | j + 1, R, h => by
  rw [List.replicate_succ, List.cons_append, List.dropWhile_cons]
  exact dw_rep j R h
theorem eqn_rep (j : Nat) (R : List Nat) (h : R.head? ≠ some 61) : eqn (List.replicate j 61 ++ R) = j:=by
 unfold eqn
 rw [dw_rep j R h, List.length_append, List.length_replicate]; omega
theorem pfx_one (a : Nat) (L : List Nat) : [a].isPrefixOf L = decide (L.head? = some a):=by
 cases L with
 | nil => rfl
 | cons b r =>
  simp only [List.isPrefixOf, Bool.and_true, List.head?_cons, Option.some.injEq]
  rw [Bool.eq_iff_iff, beq_iff_eq, decide_eq_true_iff]
  exact eq_comm
theorem dig_at {L : List Nat} : dig L = (isDg (at0 L 0) || (at0 L 0 == 46 && isDg (at0 L 1))):=by
 have hc : ∀ L : List Nat, decide (0 < cnt isDg L) = isDg (at0 L 0):=by
  intro L
  cases L with
  | nil => rfl
  | cons b r =>
   show decide (0 < cnt isDg (b :: r)) = isDg b
   rw [show cnt isDg (b :: r) = if isDg b then cnt isDg r + 1 else 0 from rfl]
   cases isDg b <;> simp
 have h1 : at0 L 1 = at0 (L.drop 1) 0:=by rw [at0_drop]
 rw [h1]
 unfold dig
 rw [hc, hc]
 cases L <;> rfl
theorem hst_eq (n : Int) {d : Nat} (hd : d < 16) : hst n d = (16 * n + d) % 18446744073709551616:=by
 unfold hst
 simp only [IntKind.wrap_u64]
 rw [BitVec.toNat_or, BitVec.toNat_ofInt, BitVec.toNat_ofInt]
 have e1 : ((n * 2 ^ 4) % 18446744073709551616 % ((2 ^ 64 : Nat) : Int)).toNat = 2 ^ 4 * ((n % 1152921504606846976).toNat):=by omega
 have e2 : (((d : Int) % 18446744073709551616) % ((2 ^ 64 : Nat) : Int)).toNat = d:=by omega
 rw [e1, e2, ← Nat.two_pow_add_eq_or_of_lt (show d < 2 ^ 4 from hd)]
 omega
def vl (a : Nat) (L : List Nat) : Nat:=L.foldl (fun a b => a * 10 + (b - 48)) a
theorem vl_cons (a b : Nat) (r : List Nat) : vl a (b :: r) = vl (a * 10 + (b - 48)) r:=by unfold vl; rw [List.foldl_cons]
theorem vl_le (a : Nat) : ∀ L : List Nat, a ≤ vl a L:=by
 intro L
 induction L generalizing a with
 | nil => exact Nat.le_refl _
 | cons b r ih => rw [vl_cons]; exact Nat.le_trans (by omega) (ih (a * 10 + (b - 48)))
theorem pU_cons (M a : Nat) (c : UInt8) (r : List UInt8) : Lib.parseUintM M a (c :: r) = if 48 ≤ c.toNat ∧ c.toNat ≤ 57 then (if 1844674407370955162 ≤ a then .range else if M < a * 10 + (c.toNat - 48) then .range else Lib.parseUintM M (a * 10 + (c.toNat - 48)) r) else Lib.parseUintM M a (c :: r):=by
 by_cases h : 48 ≤ c.toNat ∧ c.toNat ≤ 57
 ·rw [if_pos h]
  conv => lhs; rw [Lib.parseUintM, if_pos h]
 ·rw [if_neg h]
theorem pU_nil (M a : Nat) : Lib.parseUintM M a [] = .ok a:=by rw [Lib.parseUintM]
theorem pU_ok {M : Nat} (hM : M = 18446744073709551615) : ∀ (L : List Nat) (a : Nat), (∀ b ∈ L, isDg b = true) →
 (Lib.parseUintM M a (L.map UInt8.ofNat) = .ok (vl a L)) ∨ (Lib.parseUintM M a (L.map UInt8.ofNat) = .range ∧ 9223372036854775808 ≤ vl a L):=by
 intro L
 induction L with
 | nil =>
  intro a _
  exact .inl (pU_nil M a)
 | cons b r ih =>
  intro a h
  have hb:=in_of (show isIn 48 b 57 = true from h b List.mem_cons_self)
  have e : (UInt8.ofNat b).toNat = b:=by rw [UInt8.toNat_ofNat']; omega
  rw [List.map_cons, pU_cons, e, if_pos hb, vl_cons]
  by_cases h1 : 1844674407370955162 ≤ a
  ·rw [if_pos h1]
   have:=vl_le (a * 10 + (b - 48)) r
   exact .inr ⟨rfl, by omega⟩
  ·rw [if_neg h1]
   by_cases h2 : M < a * 10 + (b - 48)
   ·rw [if_pos h2]
    have:=vl_le (a * 10 + (b - 48)) r
    exact .inr ⟨rfl, by omega⟩
   ·rw [if_neg h2]
    exact ih _ fun c hc => h c (List.mem_cons_of_mem _ hc)
theorem pI_eq {L : List Nat} (h : ∀ b ∈ L, isDg b = true) : pI L = if L ≠ [] ∧ vl 0 L < 9223372036854775808 then (((vl 0 L : Nat) : Int), true) else (0, false):=by
 cases L with
 | nil => rfl
 | cons b r =>
  have hb:=in_of (show isIn 48 b 57 = true from h b List.mem_cons_self)
  have e : (UInt8.ofNat b).toNat = b:=by rw [UInt8.toNat_ofNat']; omega
  unfold pI
  rw [List.map_cons, Lib.parseIntB, e, if_neg (by omega), Lib.parseUintB, if_neg (List.cons_ne_nil _ _), ← List.map_cons (f:=UInt8.ofNat)]
  rcases pU_ok (M:=2 ^ 64 - 1) (by decide) (b :: r) 0 h with h1 | ⟨h1, h2⟩
  ·rw [h1]
   dsimp only
   by_cases h3 : 9223372036854775808 ≤ vl 0 (b :: r)
   ·rw [if_pos ⟨by omega, h3⟩, if_neg (fun c => by omega)]
   ·rw [if_neg (fun c => h3 c.2), if_neg (fun c => by omega), if_neg (by omega), if_pos ⟨List.cons_ne_nil _ _, by omega⟩]
  ·rw [h1, if_neg (fun c => by omega)]
theorem hexv_dg {b : Nat} (h : isDg b = true) : hexv b = (b - 48, true):=by unfold hexv; rw [if_pos h]
theorem all_congr {p q : Nat → Bool} : ∀ {L : List Nat}, (∀ b ∈ L, p b = q b) → L.all p = L.all q
 | [], _ => rfl
 | b :: L, h => by rw [List.all_cons, List.all_cons, h b List.mem_cons_self, all_congr fun c hc => h c (List.mem_cons_of_mem _ hc)]
theorem dw_nil {α : Type} {p : α → Bool} : ∀ {L : List α}, L.dropWhile p = [] ↔ L.all p = true
 | [] => ⟨fun _ => rfl, fun _ => rfl⟩
 | a :: L => by
  rw [List.dropWhile_cons, List.all_cons]
  cases h : p a with
  | true => rw [if_pos rfl, Bool.true_and]; exact dw_nil
  | false => simp
theorem dw_head {α : Type} {p : α → Bool} : ∀ {L : List α} {a : α} {r : List α}, L.dropWhile p = a :: r → p a = false
 | [], _, _, h => nomatch h
 | b :: L, a, r, h => by
  rw [List.dropWhile_cons] at h
  cases hb : p b with
  | true => rw [hb, if_pos rfl] at h; exact dw_head h
  | false => rw [hb, if_neg (by decide)] at h; rw [← (List.cons.inj h).1]; exact hb
theorem trim_nil {α : Type} {p : α → Bool} (L : List α) : ((L.reverse.dropWhile p).reverse.dropWhile p = []) ↔ L.all p = true:=by
 rw [dw_nil]
 constructor
 ·intro h
  cases hE : L.reverse.dropWhile p with
  | nil =>
   have:=dw_nil.1 hE
   rw [List.all_reverse] at this
   exact this
  | cons a r =>
   have h1:=dw_head hE
   rw [List.all_reverse, hE, List.all_cons, h1] at h
   cases h
 ·intro h
  rw [List.all_reverse] at *
  rw [dw_nil.2 (by rw [List.all_reverse]; exact h)]; rfl
theorem pln_eq {L : List Nat} (h : ∀ b ∈ L, b < 256) : pln L = L.all isDg:=by
 have e : ∀ b ∈ L, (Bs.l ⟨10, 270211885617516653982000⟩).contains (UInt8.ofNat b) = isDg b:=fun b hb => all256 (p:=fun b => (Bs.l ⟨10, 270211885617516653982000⟩).contains (UInt8.ofNat b)) (by kernel_rfl) (h b hb)
 have h2:=trim_nil (p:=fun x => (Bs.l ⟨10, 270211885617516653982000⟩).contains x) (L.map UInt8.ofNat)
 rw [List.all_map] at h2
 rw [← all_congr e]
 unfold pln trm Lib.trimS Lib.trimLeftS Lib.trimRightS
 rw [Bool.eq_iff_iff, decide_eq_true_iff, List.map_eq_nil_iff, h2]
 exact Iff.rfl
def PR : List (Nat × Nat):=[(97, 7), (98, 8), (102, 12), (110, 10), (114, 13), (116, 9), (118, 11), (92, 92), (39, 39), (34, 34)]
def lk (b : Nat) : List (Nat × Nat) → Int
 | [] => -1
 | p :: r => if p.1 = b then (p.2 : Int) else lk b r
theorem lk_plk {b : Nat} (hb : b < 256) : plk b 10 0 = (if 0 ≤ lk b PR then [(lk b PR).toNat] else [], if 0 ≤ lk b PR then 1 else 0):=beq_iff_eq.1 (all256 (p:=fun b => plk b 10 0 == (if 0 ≤ lk b PR then [(lk b PR).toNat] else [], if 0 ≤ lk b PR then 1 else 0)) (q:=fun _ => true) (by kernel_rfl) hb)
def prt (q : Nat) : List Nat → List Nat × Nat
 | [] => ([], 0)
 | b :: r => if b = q ∨ isEnd b = true then ([], 0) else if b = 92 then (if (eso r).2 = 0 then ([], 0) else ((eso r).1, (eso r).2 + 1)) else ([b], 1)
theorem unl_prt {q : Nat} (hq : isEnd q = false) (h92 : q ≠ 92) (f : Nat) (R acc : List Nat) :
 unl (f + 1) q R acc = if (prt q R).2 = 0 then (if R = [q] then some acc else none) else unl f q (R.drop (prt q R).2) (acc ++ (prt q R).1):=by
 cases R with
 | nil => rw [unl, prt, if_pos rfl, if_neg (show ¬ ([] = [q]) from fun c => nomatch c)]
 | cons b r =>
  by_cases hb : b = q
  ·subst hb
   have e : prt b (b :: r) = ([], 0):=by rw [prt, if_pos (Or.inl rfl)]
   rw [e, if_pos rfl, unl, if_pos rfl]
   by_cases hr : r = []
   ·rw [if_pos hr, if_pos (by rw [hr])]
   ·rw [if_neg hr, if_neg (fun c => hr (List.cons.inj c).2)]
  ·have hne : ¬ (b :: r = [q]) := fun c => hb (List.cons.inj c).1
   cases he : isEnd b with
   | true =>
    have e : prt q (b :: r) = ([], 0):=by rw [prt, if_pos (Or.inr he)]
    rw [e, if_pos rfl, if_neg hne, unl, if_neg hb, he, if_pos rfl]
   | false =>
    have h1 : ¬ (b = q ∨ isEnd b = true):=fun c => c.elim hb (fun c => by rw [he] at c; exact nomatch c)
    by_cases h9 : b = 92
    ·by_cases h0 : (eso r).2 = 0
     ·have e : prt q (b :: r) = ([], 0) := by rw [prt, if_neg h1, if_pos h9, if_pos h0]
      rw [e, if_pos rfl, if_neg hne, unl, if_neg hb, he, if_neg (by decide), if_pos h9, if_pos h0]
     ·have e : prt q (b :: r) = ((eso r).1, (eso r).2 + 1) := by rw [prt, if_neg h1, if_pos h9, if_neg h0]
      rw [e, if_neg (show ¬ ((eso r).1, (eso r).2 + 1).2 = 0 from Nat.succ_ne_zero _), unl, if_neg hb, he, if_neg (by decide), if_pos h9, if_neg h0]; rfl
    ·have e : prt q (b :: r) = ([b], 1) := by rw [prt, if_neg h1, if_neg h9]
     rw [e, if_neg (show ¬ ([b], 1).2 = 0 from Nat.succ_ne_zero _), unl, if_neg hb, he, if_neg (by decide), if_neg h9]; rfl
theorem lk_far {b : Nat} (hb : b < 256) : lk b PR ≤ 255 ∧ (0 ≤ lk b PR → b ≠ 120 ∧ b ≠ 122 ∧ b ≠ 117 ∧ isDg b = false ∧ isEnd b = false):=by
 have h:=all256 (p:=fun b => decide (lk b PR ≤ 255) && (decide (lk b PR < 0) || (!(b == 120) && !(b == 122) && !(b == 117) && !isDg b && !isEnd b))) (q:=fun _ => true) (by kernel_rfl) hb
 rw [Bool.and_eq_true, decide_eq_true_iff, Bool.or_eq_true, decide_eq_true_iff] at h
 refine ⟨h.1, fun c => ?_⟩
 rcases h.2 with h | h
 ·omega
 ·simp only [Bool.and_eq_true, Bool.not_eq_true', beq_eq_false_iff_ne] at h
  exact ⟨h.1.1.1.1, h.1.1.1.2, h.1.1.2, h.1.2, h.2⟩
def sgE (L : List Nat) : Tk:=⟨0, [], 0, 0, if L.headD 0 = 47 ∨ L.headD 0 = 94 then 31 else 30⟩
theorem sgn_find (L : List Nat) : ∀ Z : List Bs, Z.Pairwise (fun a b => b.n ≤ a.n) → ((∀ z ∈ Z, (bts z).isPrefixOf L = false) ∧ sgn L Z = sgE L) ∨ ∃ z ∈ Z, (bts z).isPrefixOf L = true ∧ sgn L Z = ⟨3, bts z, 0, z.n, 0⟩ ∧ ∀ y ∈ Z, (bts y).isPrefixOf L = true → y.n ≤ z.n
 | [], _ => .inl ⟨fun z hz => (nomatch hz), rfl⟩
 | z :: Z, h => by
  rw [sgn]
  cases hp : (bts z).isPrefixOf L with
  | true =>
   rw [if_pos rfl]
   exact .inr ⟨z, List.mem_cons_self, hp, rfl, fun y hy _ => (List.mem_cons.1 hy).elim (fun e => by rw [e]; exact Nat.le_refl _) (fun hy => (List.pairwise_cons.1 h).1 y hy)⟩
  | false =>
   rw [if_neg (by decide)]
   rcases sgn_find L Z (List.pairwise_cons.1 h).2 with ⟨h1, h2⟩ | ⟨y, h1, h2, h3, h4⟩
   ·exact .inl ⟨fun y hy => (List.mem_cons.1 hy).elim (fun e => by rw [e]; exact hp) (h1 y), h2⟩
   ·exact .inr ⟨y, List.mem_cons_of_mem _ h1, h2, h3, fun x hx hpx => (List.mem_cons.1 hx).elim (fun e => by rw [e, hp] at hpx; exact nomatch hpx) (fun hx => h4 x hx hpx)⟩
def decr : List Bs → Bool
 | a :: b :: r => Nat.ble b.n a.n && decr (b :: r)
 | _ => true
theorem decr_ok : ∀ (r : List Bs) (a : Bs), decr (a :: r) = true → (a :: r).Pairwise (fun a b => b.n ≤ a.n)
 | [], a, _ => List.pairwise_singleton _ _
 | b :: r, a, h => by
  rw [decr, Bool.and_eq_true] at h
  have ih:=decr_ok r b h.2
  have hba:=Nat.le_of_ble_eq_true h.1
  rw [List.pairwise_cons]
  refine ⟨fun y hy => ?_, ih⟩
  rcases List.mem_cons.1 hy with rfl | hy
  ·exact hba
  ·exact Nat.le_trans ((List.pairwise_cons.1 ih).1 y hy) hba
theorem sgL_down : sgL.Pairwise (fun a b => b.n ≤ a.n):=by
 have h : decr sgL = true:=by kernel_rfl
 have hne : sgL ≠ []:=fun c => by have:=sg_len; rw [c] at this; exact absurd this (by decide)
 obtain ⟨a, r, e⟩:=List.exists_cons_of_ne_nil hne
 rw [e] at h ⊢
 exact decr_ok r a h
end
end Go.LB
end
