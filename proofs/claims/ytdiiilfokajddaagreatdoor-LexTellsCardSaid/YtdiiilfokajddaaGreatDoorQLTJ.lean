/- A part of the proof. -/
import Derived.Test.YtdiiilfokajddaaGreatDoorQLTD
set_option linter.all false
set_option warn.classDefReducibility false
noncomputable section
section
open Go Go.Mid Go.Proofs
set_option maxRecDepth 100000
namespace Go.LT
section
variable {l F : List Asn} {h h0 : Hp} {ro : Bool} {Q : V → List Asn → Prop} {k : V → VH} {K : V → Hp → VH} {v lV : V} {i j n : Nat}
theorem wh_num (pz : Bs) : ∀ (L : List Nat) (s : Nat), ∀ b ∈ L.take (wh (nstep pz) s L), numC b = true
 | [], s, b, hb => by simp at hb
 | c :: L, s, b, hb => by
  rw [wh] at hb
  cases h1 : (nstep pz s c).1 with
  | false => rw [h1, if_neg (by decide), List.take_zero] at hb; exact nomatch hb
  | true =>
   rw [h1, if_pos rfl, List.take_succ_cons, List.mem_cons] at hb
   rcases hb with rfl | hb
   ·unfold nstep at h1
    unfold numC
    dsimp only at h1
    rw [Bool.or_eq_true, Bool.and_eq_true] at h1
    rcases h1 with h1 | ⟨h1, _⟩
    ·rw [h1]; rfl
    ·rw [Bool.or_assoc, h1, Bool.or_true]
   ·exact wh_num pz L _ b hb
def dig (L : List Nat) : Bool:=decide (0 < cnt isDg L) || (L.headD 0 == 46 && decide (0 < cnt isDg (L.drop 1)))
theorem cnt_head {p : Nat → Bool} {b : Nat} {r : List Nat} (h : 0 < cnt p (b :: r)) : p b = true:=by
 unfold cnt at h
 rw [wh] at h
 cases hp : p b with
 | true => rfl
 | false => rw [show ((fun (_ : Unit) b => (p b, ())) () b).1 = p b from rfl, hp, if_neg (by decide)] at h; exact absurd h (by decide)
theorem num_head {L : List Nat} (h : dig L = true) : ∀ b, (L.take (nml L)).head? = some b → b ≠ 43 ∧ b ≠ 45:=by
 intro b hb
 cases L with
 | nil => simp at hb
 | cons c r =>
  have hc : b = c:=by
   cases hn : nml (c :: r) with
   | zero => rw [hn] at hb; simp at hb
   | succ n => rw [hn, List.take_succ_cons, List.head?_cons, Option.some.injEq] at hb; exact hb.symm
  subst hc
  unfold dig at h
  rw [Bool.or_eq_true, Bool.and_eq_true, decide_eq_true_iff, beq_iff_eq] at h
  rcases h with h | h
  ·have h2 : isDg b = true := cnt_head h
   have:=in_of (show isIn 48 b 57 = true from h2); omega
  ·have : b = 46 := h.1; omega
def tk (L : List Nat) : Tk :=
 if isLt (L.headD 0) then ⟨if wrd (L.take (cnt (fun b => isLt b || isDg b) L)) then 2 else 1, L.take (cnt (fun b => isLt b || isDg b) L), 0, cnt (fun b => isLt b || isDg b) L, 0⟩
 else if dig L then ⟨(numb (L.take (nml L))).1, [], (numb (L.take (nml L))).2.1, nml L, (numb (L.take (nml L))).2.2⟩
 else if (lng L).2.2 then (if (lng L).2.1 = 0 then ⟨0, [], 0, 0, 30⟩ else ⟨5, (lng L).1, 0, (lng L).2.1, 0⟩)
 else if L.headD 0 = 34 ∨ L.headD 0 = 39 then ⟨5, (resU (unq (L.take (quo L)))).1, 0, quo L, (resU (unq (L.take (quo L)))).2⟩
 else if [91, 61].isPrefixOf L then ⟨0, [], 0, 0, 30⟩
 else sgn L sgL
theorem storeO4 {b o : Nat} {X : List V} {kk : Hp → VH} (hX : X.length = 4) : storeB (storeO Tryz.prog h 25 b o (.agg X)) (fun ob => kk (h.put b ob)) = storeN 4 (.ptr b o) (.agg X) h kk:=by
 have hsz : sz Tryz.prog 25 = some 4:=by kernel_rfl
 show _ = cellE (h.t.get b) fun c n g e => whenE (Nat.beq (vcells (.agg X)).length 4 && Nat.ble (o + 4) n && allOne (vcells (.agg X))) (kk (h.put b (.cells (c.setL o (vcells (.agg X))) n g e)))
 unfold storeO
 rw [hsz]
 cases hb : h.t.get b with
 | none => rfl
 | some ob =>
  cases ob with
  | cells c n g e =>
   show storeB (bif Nat.beq (vcells (.agg X)).length 4 && Nat.ble (o + 4) n && allOne (vcells (.agg X)) then some (.cells (c.setL o (vcells (.agg X))) n g e) else none) _ = whenE (Nat.beq (vcells (.agg X)).length 4 && Nat.ble (o + 4) n && allOne (vcells (.agg X))) (kk (h.put b (.cells (c.setL o (vcells (.agg X))) n g e)))
   cases (Nat.beq (vcells (.agg X)).length 4 && Nat.ble (o + 4) n && allOne (vcells (.agg X))) <;> rfl
  | map es => rfl
  | ro _ _ => rfl
  | dead => rfl
theorem Tri.digS {rb a ln : Nat} {s : Bs} {sv : V} {R : V → Hp → VH} (hs : s.n ≤ 70000) (ha : a < s.n) (H : St (Mid.row rb (rc s a ln sv) :: l) h) (L : Lo ro h0 h)
 (hk : ∀ h', St (Mid.row rb (rc s a ln sv) :: l) h' → Lo ro h0 h' → Tri h0 ro F Q (R (.bool (dig ((bts s).drop a))) h')) : Tri h0 ro F Q (bindS (M 50 [.ptr rb 0, .int .i64 0, .func 45 [] []] h) fun v9 h10 =>
   intS .gtr v9 (.int .i64 0) fun v11 => guardS v11 false (intS .eql (.int .u8 (s.byte a : Nat)) (.int .u8 46) fun v12 => some (v12, h10)) h10 fun v13 h14 =>
   guardS v13 true (bindS (M 50 [.ptr rb 0, .int .i64 1, .func 45 [] []] h14) fun v15 h16 => intS .gtr v15 (.int .i64 0) fun v17 => some (v17, h16)) h14 fun v18 h19 =>
   guardS v11 false (optS (pickV v13 v18 (.bool false)) fun v20 => some (v20, h19)) h19 fun v21 h22 => optS (pickV v11 (.bool true) v21) fun v23 => R v23 h22):=by
 have hd : ((bts s).drop a).headD 0 = s.byte a:=by rw [bts_drop ha]; rfl
 have hk2 : ∀ h' d, dig ((bts s).drop a) = d → St (Mid.row rb (rc s a ln sv) :: l) h' → Lo ro h0 h' → Tri h0 ro F Q (R (.bool d) h'):=fun h' d e => by subst e; exact hk h'
 unfold dig at hk2
 rw [hd, List.drop_drop] at hk2
 refine tbe1 (f50 (fr:=0) (p:=isDg) (g:=.func 45 [] []) (fun b h l _ H => sp90 H) hs (by omega) (by omega) H) L fun h H L => ?_
 refine Tri.gtr ?_ ?_<;>intro e
 ·have e' : 0 < cnt isDg ((bts s).drop a) := Int.ofNat_lt.1 e
  have hk3:=hk2 h true (by rw [decide_eq_true e', Bool.true_or]) H L
  exact hk3
 ·rw [decide_eq_false (show ¬ 0 < cnt isDg ((bts s).drop a) from fun c => absurd e (Int.not_le.2 (Int.ofNat_lt.2 c))), Bool.false_or] at hk2
  apply gff
  apply bI
  refine Tri.eql ?_ ?_<;>intro e2
  ·rw [show (s.byte a == 46) = true from beq_iff_eq.2 (Int.ofNat.inj e2), Bool.true_and] at hk2
   apply bS
   apply gtt
   apply Mid.bB
   refine tbe1 (f50 (fr:=1) (p:=isDg) (g:=.func 45 [] []) (fun b h l _ H => sp90 H) hs (by omega) (by omega) H) L fun h H L => ?_
   refine Tri.eqv (bind_intS _ _) (Tri.gtr (fun e3 => ?_) (fun e3 => ?_))
   ·exact hk2 h true (decide_eq_true (Int.ofNat_lt.1 e3)) H L
   ·exact hk2 h false (decide_eq_false (fun c => absurd e3 (Int.not_le.2 (Int.ofNat_lt.2 c)))) H L
  ·rw [show (s.byte a == 46) = false from beq_eq_false_iff_ne.2 (fun c => e2 (congrArg Int.ofNat c)), Bool.false_and] at hk2
   exact hk2 h false rfl H L
theorem Tri.qS {b : Nat} {R : V → Hp → VH} (hk : Tri h0 ro F Q (R (.bool (decide (b = 34 ∨ b = 39))) h)) : Tri h0 ro F Q (intS .eql (.int .u8 (b : Int)) (.int .u8 34) fun v2 =>
 guardS v2 false (intS .eql (.int .u8 (b : Int)) (.int .u8 39) fun v4 => some (v4, h)) h fun v5 h6 => optS (pickV v2 (.bool true) v5) fun v7 => R v7 h6):=by
 refine Tri.eql ?_ ?_<;>intro e
 ·rw [decide_eq_true (.inl (Int.ofNat.inj e))] at hk
  exact hk
 ·apply gff
  apply bI
  refine Tri.eql ?_ ?_<;>intro e2
  ·rw [decide_eq_true (.inr (Int.ofNat.inj e2))] at hk
   exact hk
  ·rw [decide_eq_false (fun c => c.elim (fun c => e (congrArg Int.ofNat c)) (fun c => e2 (congrArg Int.ofNat c)))] at hk
   exact hk
abbrev zeroT : List V:=[.int .u8 0, .str ⟨0, 0⟩, .int .i64 0, .int .i64 0]
theorem sp56 {rb sb a ln : Nat} {s : Bs} (hs : s.n ≤ 70000) (ha : a < s.n) (H : St (Mid.row rb (rc s a ln (sgV sb)) :: SG sb :: l) h) :
 Tri h false l (rTk rb (rc s a ln (sgV sb)) sb (tk ((bts s).drop a))) (M 56 [.ptr rb 0] h):=by
 have ih50a:=fun (p : Nat → Bool) (g : V) (hg : ∀ (b : Nat) (h : Hp) (l : List Asn), b < 256 → St l h → Tri h true l (rNo (.bool (p b))) (dynE M g [.int .u8 (b : Int)] h)) (h : Hp) (l : List Asn) (H : St (Mid.row rb (rc s a ln (sgV sb)) :: l) h) => f50 hg (rb:=rb) (fr:=0) hs (by omega) (by omega) H
 have ih86:=fun (h : Hp) (l : List Asn) (H : St (Mid.row rb (rc s a ln (sgV sb)) :: l) h) => sp86 (fr:=0) hs (by omega) H
 have ih31 : ∀ (b0 b1 : Nat) (k : Int) (z : Bs) (n : Nat) (h : Hp) (l : List Asn), St (Mid.row b1 [.int .u8 k, .str z, .int .i64 0, .int .i64 0] :: Mid.row rb (rc s a ln (sgV sb)) :: Mid.row b0 zeroT :: SG sb :: l) h →
  Tri h false l (rTk rb (rc s a ln (sgV sb)) sb ⟨k, bts z, 0, n, 0⟩) (M 31 [.ptr b0 0, .int .i64 (n : Int), .ptr b1 0] h):=by
  intro b0 b1 k z n h l H
  refine t3 e31 fun L => ?_
  unfold B31
  refine ls 0 H rfl rfl ?_
  refine wl0 2 H rfl rfl rfl L (by first|rfl|assumption) fun h H L => ?_
  exact Tri.done (B:=[_, _]) ⟨z, (bts_len z).symm, rfl, rfl, rfl⟩ H.tl.x1 L
 rw [Nat.add_zero] at ih86
 generalize hX : tk ((bts s).drop a) = X
 unfold tk at hX
 rw [show ((bts s).drop a).headD 0 = s.byte a by rw [bts_drop ha]; rfl] at hX
 refine t1 e56 fun L => ?_
 unfold B56
 refine nw H L fun b0 h hb0 H L => ?_
 replace H:=H.u1
 refine nal 0 H rfl rfl ?_
 refine nal 0 H rfl rfl ?_
 refine iS (by omega) ?_
 rw [show ((a : Int)).toNat = a from rfl]
 refine Tri.digS hs ha H L fun h H L => ?_
 refine Mid.tb (ih86 _ _ H) L fun v h B hq20 H L => ?_
 obtain ⟨z20, nz20, ez20, rfl, rfl⟩:=hq20
 refine Tri.ext rfl ?_
 refine Tri.ext rfl ?_
 refine Tri.ext rfl ?_
 refine tbe1 (sp92 H) L fun h H L => ?_
 cases h1 : isLt (s.byte a) with
 | true =>
  rw [h1, if_pos rfl] at hX
  have hc:=cnt_le (fun b => isLt b || isDg b) ((bts s).drop a)
  rw [List.length_drop, bts_len] at hc
  refine tbe1 (ih50a (fun b => isLt b || isDg b) (.func 47 [] []) (fun b h l _ H => sp94 H) h _ H) L fun h H L => ?_
  rw [Nat.add_zero]
  generalize cnt (fun b => isLt b || isDg b) ((bts s).drop a) = C at hc hX ⊢
  refine nw H L fun b40 h hb40 H L => ?_
  refine nal 1 H rfl rfl ?_
  refine nal 1 H rfl rfl ?_
  refine nal 1 H rfl rfl ?_
  refine aD (by omega) ?_
  refine cB (by omega) fun z51 nz51 ez51 => ?_
  refine Tri.bldS rfl ?_
  refine w0 0 H rfl rfl rfl L (by first|rfl|assumption) fun h H L => ?_
  refine al 0 H rfl rfl ?_
  refine tbe1 (sp24 (by first|assumption|omega|rfl|(dsimp;omega)) H) L fun h H L => ?_
  have e51 : bts z51 = ((bts s).drop a).take C:=by rw [ez51, show ((a : Int) + (C : Int)).toNat - ((a : Int)).toNat = C by omega]; rfl
  rw [← e51] at hX
  cases hw : wrd (bts z51) with
  | true =>
   rw [hw, if_pos rfl] at hX
   subst hX
   apply nT
   apply ad
   refine sto 0 H rfl rfl L (by first|rfl|assumption) fun h H L => ?_
   refine te (ih31 _ _ _ _ _ _ _ H) L
  | false =>
   rw [hw, if_neg (by decide)] at hX
   subst hX
   apply nF
   refine te (ih31 _ _ _ _ _ _ _ H) L
 | false =>
  rw [h1, if_neg (by decide)] at hX
  cases h2 : dig ((bts s).drop a) with
  | true =>
   rw [h2, if_pos rfl] at hX
   have hc:=nml_le ((bts s).drop a)
   rw [List.length_drop, bts_len] at hc
   have hnum:=wh_num (pwz ((bts s).drop a)) ((bts s).drop a) 0
   have hhead:=num_head h2
   rw [show wh (nstep (pwz ((bts s).drop a))) 0 ((bts s).drop a) = nml ((bts s).drop a) from rfl] at hnum
   have ih96:=fun (h : Hp) (l : List Asn) (H : St (Mid.row rb (rc s a ln (sgV sb)) :: l) h) => sp96 hs (by omega) H
   generalize nml ((bts s).drop a) = C at hc hX hnum hhead ih96 ⊢
   apply nF
   apply nT
   refine tbe (ih96 _ _ H) L fun h H L => ?_
   refine nw H L fun b63 h hb63 H L => ?_
   refine nal 1 H rfl rfl ?_
   refine nal 1 H rfl rfl ?_
   refine nal 1 H rfl rfl ?_
   refine aD (by omega) ?_
   refine cB (by omega) fun z74 nz74 ez74 => ?_
   have Ho75:=H
   have e74 : bts z74 = ((bts s).drop a).take C:=by rw [ez74, show ((a : Int) + (C : Int)).toNat - ((a : Int)).toNat = C by omega]; rfl
   rw [← e74] at hX hnum hhead
   refine Tri.wroteC (sp98 (by omega) hnum hhead (H.draw _)) L (fun v h2 e => by rw [e]; rfl) fun v h2 h B hq H2 hn hl eh H L => ?_
   obtain ⟨rfl, rfl⟩:=hq
   refine Tri.ext rfl (Tri.ext rfl ?_)
   have key:=storeO4 (h:=h) (b:=b63) (o:=0) (X:=[.int .u8 (numb (bts z74)).1, .str ⟨0, 0⟩, .int .i64 (numb (bts z74)).2.1, .int .i64 0]) (kk:=fun h' => loadN 4 (.ptr b63 0) h' fun v78 => storeN 4 (.ptr b0 0) v78 h' fun h79 => loadN 4 (.ptr b0 0) h79 fun v80 => some (.tuple [v80, .int .i64 (C : Nat), .int .i64 (numb (bts z74)).2.2], h79)) rfl
   refine Tri.eqv key ?_
   refine wl0 0 H rfl rfl rfl L (by first|rfl|assumption) fun h H L => ?_
   refine wl0 2 H rfl rfl rfl L (by first|rfl|assumption) fun h H L => ?_
   subst hX
   exact Tri.done (B:=[_, _]) ⟨⟨0, 0⟩, rfl, rfl, rfl, rfl⟩ H.tl.x1 L
  | false =>
   rw [h2, if_neg (by decide)] at hX
   have hle:=lng_le ((bts s).drop a)
   rw [List.length_drop, bts_len] at hle
   generalize lng ((bts s).drop a) = G at hX hle nz20 ez20 ⊢
   obtain ⟨G1, G2, G3⟩:=G
   dsimp only at hX hle nz20 ez20 ⊢
   cases G3 with
   | true =>
    rw [if_pos rfl] at hX
    apply nF
    apply nF
    apply gtt
    apply bI
    refine Tri.eql ?_ ?_<;>intro e1
    ·rw [if_pos (show G2 = 0 from Int.ofNat.inj e1)] at hX
     subst hX
     apply bS
     apply pT
     apply nT
     refine Tri.bldS rfl ?_
     refine wl0 1 H rfl rfl rfl L (by first|rfl|assumption) fun h H L => ?_
     exact Tri.done (B:=[_, _]) ⟨⟨0, 0⟩, rfl, rfl, rfl, rfl⟩ H.x1 L
    ·rw [if_neg (show ¬ G2 = 0 from fun c => e1 (congrArg Int.ofNat c))] at hX
     subst hX
     apply bS
     apply pT
     apply nF
     apply nT
     refine Tri.bldS rfl ?_
     refine wl0 1 H rfl rfl rfl L (by first|rfl|assumption) fun h H L => ?_
     exact Tri.done (B:=[_, _]) ⟨z20, nz20, ez20, rfl, rfl⟩ H.x1 L
   | false =>
    rw [if_neg (by decide)] at hX
    apply nF
    apply nF
    apply gft
    apply pF
    apply nF
    apply nF
    refine Tri.qS ?_
    by_cases hq : s.byte a = 34 ∨ s.byte a = 39
    ·rw [if_pos hq] at hX
     rw [decide_eq_true hq]
     have hc:=quo_le ((bts s).drop a) (by rw [bts_drop ha]; exact List.cons_ne_nil _ _)
     rw [List.length_drop, bts_len] at hc
     have ih100:=fun (h : Hp) (l : List Asn) (H : St (Mid.row rb (rc s a ln (sgV sb)) :: l) h) => sp100 hs ha H
     generalize quo ((bts s).drop a) = C at hc hX ih100 ⊢
     apply nT
     refine tbe1 (ih100 _ _ H) L fun h H L => ?_
     refine nal 0 H rfl rfl ?_
     refine nal 0 H rfl rfl ?_
     refine nal 0 H rfl rfl ?_
     refine aD (by omega) ?_
     refine cB (by omega) fun z192 nz192 ez192 => ?_
     have Ho193:=H
     refine Tri.wrote (sp102 (by first|assumption|omega|rfl|(dsimp;omega)) (H.draw _)) L (fun e => e) fun v h2 h B hq193 H2 hn193 hl193 eh193 H L => ?_
     obtain ⟨z193, nz193, ez193, rfl, rfl⟩:=hq193
     refine Tri.ext rfl ?_
     refine Tri.ext rfl ?_
     refine Tri.bldS rfl ?_
     refine wl0 1 H rfl rfl rfl L (by first|rfl|assumption) fun h H L => ?_
     have e192 : bts z192 = ((bts s).drop a).take C:=by rw [ez192, show ((a : Int) + (C : Int)).toNat - ((a : Int)).toNat = C by omega]; rfl
     rw [← e192] at hX
     subst hX
     exact Tri.done (B:=[_, _]) ⟨z193, nz193, ez193, rfl, rfl⟩ H.x1 L
    ·rw [if_neg hq] at hX
     rw [decide_eq_false hq]
     apply nF
     refine nal 0 H rfl rfl ?_
     refine nal 0 H rfl rfl ?_
     refine Tri.cutLo (by omega) (by omega) fun z207 nz207 ez207 => ?_
     refine tbe1 (sp104 (by first|assumption|omega|rfl|(dsimp;omega)) (by first|assumption|omega|rfl|(dsimp;omega)) H) L fun h H L => ?_
     have e207 : bts z207 = (bts s).drop a:=ez207
     rw [e207, show bts ⟨2, 15707⟩ = [91, 61] from rfl]
     cases h3 : [91, 61].isPrefixOf ((bts s).drop a) with
     | true =>
      rw [h3, if_pos rfl] at hX
      subst hX
      apply nT
      refine Tri.bldS rfl ?_
      refine wl0 1 H rfl rfl rfl L (by first|rfl|assumption) fun h H L => ?_
      exact Tri.done (B:=[_, _]) ⟨⟨0, 0⟩, rfl, rfl, rfl, rfl⟩ H.x1 L
     | false =>
      rw [h3, if_neg (by decide)] at hX
      apply nF
      refine nal 0 H rfl rfl ?_
      apply bL
      refine Tri.lenSl ?_
      apply bS
      exact te (sgn_ok hs ha 31 0 h l rfl H X hX) L
def rSg : V → List Asn → Prop:=fun w B => ∃ sb, w = sgV sb ∧ B = [vc false (sgV sb) 9 1 sgA]
theorem row_nil (cs : List V) : ∀ i, i < cs.length → (Tr.nil.setL 0 cs).get i = cs[i]?:=setL_row cs
theorem sp28 (H : St l h) : Tri h true l rSg (M 28 [] h):=by
 have e : M 28 [] h = some (sgV h.n, h.new (.cells (Tr.nil.setL 0 sgA) 31 false 9)):=by
  refine (@lim_F Tryz.prog (orc fnA Inv) labs 14 _ _ _).2 ⟨0, ?_⟩
  rfl
 rw [e]
 have hl : sgA.length = 31:=rfl
 refine Tri.done (B:=[vc false (sgV h.n) 9 1 sgA]) ⟨_, rfl, rfl⟩ (H.new ?_) ⟨Nat.le_succ _, (Lo.refl true h).low⟩
 exact .full _ _ _ _ rfl (up_eq _ _ _) hl (Nat.le_refl _) (row_nil sgA)
theorem sp78 {sb : Nat} (H : St (vc false (sgV sb) 9 1 sgA :: l) h) : Tri h false l (fun w B => w = .tuple [] ∧ B = [SG sb]) (M 78 [sgV sb, .int .i64 31, .func 23 [] []] h):=by
 obtain ⟨f, f1, f2⟩:=H.sat.hd
 have hl : sgA.length = 31:=rfl
 have hl2 : sgB.length = 31:=rfl
 have key : ∃ t, f sb = some (.cells t 31 false 9) ∧ ∀ i, i < sgA.length → t.get i = sgA[i]?:=by
  cases f2 with
  | full b n c t a0 a1 a2 a5 a3 => exact ⟨t, a1, a3⟩
 obtain ⟨t, a1, a3⟩:=key
 have hg : h.t.get sb = some (.cells t 31 false 9):=f1 _ _ a1
 have e1 : t.getL 0 31 = some sgA:=by rw [← hl]; exact getL_of fun i hi => by rw [Nat.zero_add]; exact a3 i hi
 have e2 : vEqO (some sgA) (some sgA) = true:=by kernel_rfl
 have hd : sortF 23 [sgV sb, .int .i64 31, .func 23 [] []] h = some (.tuple [], h.put sb (.cells (Tr.nil.setL 0 sgB) 31 false 9)):=by
  show (bif Nat.beq 23 23 then (match h.t.get sb with
   | some (.cells t 31 false 9) => bif vEqO (t.getL 0 31) (some sgA) then some (V.tuple [], h.put sb (.cells (Tr.nil.setL 0 sgB) 31 false 9)) else none
   | _ => none) else none) = _
  rw [hg]
  simp only [e1, e2]
  rfl
 have e : M 78 [sgV sb, .int .i64 31, .func 23 [] []] h = some (.tuple [], h.put sb (.cells (Tr.nil.setL 0 sgB) 31 false 9)):=by
  refine (@lim_F Tryz.prog (orc fnA Inv) labs 39 _ _ _).2 ⟨0, ?_⟩
  show enterO Tryz.prog _ h 39 _ (sortF 23 [sgV sb, .int .i64 31, .func 23 [] []] h) = _
  rw [hd]
  rfl
 rw [e]
 refine Tri.done (B:=[SG sb]) ⟨rfl, rfl⟩ ?_ ((Lo.refl false h).put sb _ fun e => nomatch e)
 refine H.put (i:=0) (A':=SG sb) rfl fun f hf => ⟨?_, .full _ _ _ _ rfl (up_eq _ _ _) hl2 (Nat.le_refl _) (row_nil sgB)⟩
 cases hf with
 | full b n c t a0 a1 a2 a5 a3 => rw [a1]; exact fun h => nomatch h
theorem sp44 {sb : Nat} (H : St (vc false (sgV sb) 9 1 sgA :: l) h) : Tri h false l (fun w B => w = .tuple [] ∧ B = [SG sb]) (M 44 [sgV sb, .func 23 [] []] h):=by
 refine t2 e44 fun L => ?_
 unfold B44
 apply bL
 refine tbe (sp78 H) L fun h H L => ?_
 skip
 exact Tri.done (B:=[_]) ⟨rfl, rfl⟩ H L
theorem nt_pos {L : List Nat} (h1 : (nt L).1 = true) (h2 : (nt L).2.1 = 0) : 1 ≤ (nt L).2.2:=by
 unfold nt at h1 h2 ⊢
 cases hp : [45, 45].isPrefixOf L with
 | false => rw [hp] at h1; cases h1
 | true =>
  rw [hp] at h2
  rw [if_pos rfl] at h2 ⊢
  split at h2 <;> rename_i hx
  ·split at h2
   ·cases h2
   ·rename_i hy; rw [if_pos hx, if_neg hy]; show 1 ≤ _ + 2; omega
  ·rw [if_neg hx]
   show 1 ≤ cnt _ L
   rw [pfx_take, decide_eq_true_iff] at hp
   cases L with
   | nil => exact absurd hp.1 (by simp)
   | cons b r =>
    have hb : b = 45:=by have:=hp.2; simp at this; exact this.1
    subst hb
    show 1 ≤ wh _ _ _
    rw [wh, if_pos (show (!isEnd 45) = true from rfl)]; omega
theorem sgn_le (L : List Nat) : ∀ Z : List Bs, (∀ z ∈ Z, 1 ≤ z.n) → (sgn L Z).n ≤ L.length ∧ ((sgn L Z).e = 0 → 1 ≤ (sgn L Z).n)
 | [], _ => ⟨Nat.zero_le _, fun h => by unfold sgn at h; dsimp only at h; split at h <;> cases h⟩
 | z :: Z, hz => by
  rw [sgn]
  cases hp : (bts z).isPrefixOf L with
  | true =>
   rw [if_pos rfl]
   rw [pfx_take, decide_eq_true_iff, bts_len] at hp
   exact ⟨hp.1, fun _ => hz z List.mem_cons_self⟩
  | false => rw [if_neg (by decide)]; exact sgn_le L Z fun z h => hz z (List.mem_cons_of_mem _ h)
theorem tk_le (L : List Nat) (hL : L ≠ []) : (tk L).n ≤ L.length:=by
 unfold tk
 split
 ·exact cnt_le _ _
 ·split
  ·exact nml_le _
  ·split
   ·rename_i h
    split
    ·exact Nat.zero_le _
    ·exact lng_le _ h
   ·split
    ·exact quo_le _ hL
    ·split
     ·exact Nat.zero_le _
     ·exact (sgn_le L sgL fun z h => (sg_max z h).1).1
theorem tk_pos {L : List Nat} (hL : L ≠ []) (h : (tk L).e = 0) : 1 ≤ (tk L).n:=by
 obtain ⟨b, r, rfl⟩:=List.exists_cons_of_ne_nil hL
 unfold tk at h ⊢
 rw [List.headD_cons] at h ⊢
 split
 ·rename_i h1
  show 1 ≤ wh _ _ _
  rw [wh, if_pos (show (isLt b || isDg b) = true by rw [h1]; rfl)]; omega
 ·rename_i h1
  rw [if_neg h1] at h
  split
  ·rename_i h2
   show 1 ≤ wh _ _ _
   have : (nstep (pwz (b :: r)) 0 b).1 = true:=by
    unfold dig at h2
    rw [List.headD_cons, Bool.or_eq_true, Bool.and_eq_true, decide_eq_true_iff, beq_iff_eq] at h2
    unfold nstep
    rcases h2 with h2 | h2
    ·have h3 : isDg b = true := cnt_head h2
     rw [h3]; rfl
    ·rw [h2.1]; simp
   rw [wh, if_pos this]; omega
  ·rename_i h2
   rw [if_neg h2] at h
   split
   ·rename_i h3
    rw [if_pos h3] at h
    split
    ·rename_i h4
     rw [if_pos h4] at h; cases h
    ·rename_i h4; show 1 ≤ (lng (b :: r)).2.1; omega
   ·rename_i h3
    rw [if_neg h3] at h
    split
    ·rename_i h4
     rw [if_pos h4] at h
     have:=unq_len h
     rw [List.length_take] at this
     show 1 ≤ quo (b :: r); omega
    ·rename_i h4
     rw [if_neg h4] at h
     split
     ·rename_i h5
      rw [if_pos h5] at h; cases h
     ·rename_i h5
      rw [if_neg h5] at h
      exact (sgn_le _ sgL fun z h => (sg_max z h).1).2 h
theorem nt_none {L : List Nat} (h : (nt L).1 = false) : (nt L).2.2 = 0:=by
 unfold nt at h ⊢
 cases hp : [45, 45].isPrefixOf L with
 | false => rfl
 | true =>
  rw [hp, if_pos rfl] at h
  split at h
  ·split at h <;> cases h
  ·cases h
def lexL : Nat → List Nat → Nat → List (Tk × Nat) → List (Tk × Nat) × Int × Int
 | 0, _, _, _ => ([], 0, 0)
 | f + 1, R, ln, acc =>
  if R.drop (cnt isSp R) = [] then (acc ++ [(⟨6, [], 0, 0, 0⟩, ln + lnc (R.take (cnt isSp R)))], 0, 0)
  else if (nt (R.drop (cnt isSp R))).2.1 = 0 ∧ (nt (R.drop (cnt isSp R))).1 = true then
   lexL f ((R.drop (cnt isSp R)).drop (nt (R.drop (cnt isSp R))).2.2) (ln + lnc (R.take (cnt isSp R)) + lnc ((R.drop (cnt isSp R)).take (nt (R.drop (cnt isSp R))).2.2)) acc
  else if (nt (R.drop (cnt isSp R))).2.1 ≠ 0 then ([], (nt (R.drop (cnt isSp R))).2.1, ((ln + lnc (R.take (cnt isSp R)) + lnc ((R.drop (cnt isSp R)).take (nt (R.drop (cnt isSp R))).2.2) : Nat) : Int))
  else if (tk (R.drop (cnt isSp R))).e ≠ 0 then ([], (tk (R.drop (cnt isSp R))).e, ((ln + lnc (R.take (cnt isSp R)) : Nat) : Int))
  else lexL f ((R.drop (cnt isSp R)).drop (tk (R.drop (cnt isSp R))).n) (ln + lnc (R.take (cnt isSp R)) + lnc ((R.drop (cnt isSp R)).take (tk (R.drop (cnt isSp R))).n)) (acc ++ [(tk (R.drop (cnt isSp R)), ln + lnc (R.take (cnt isSp R)))])
structure Ti where
 z : Bs
 t : Tk
 ln : Nat
def Ti.c (x : Ti) : List V:=[.int .u8 x.t.k, .str x.z, .int .i64 x.t.N, .int .i64 (x.ln : Int)]
def Ti.ok (x : Ti) : Prop:=x.z.n = x.t.z.length ∧ bts x.z = x.t.z
abbrev tcs (O : List Ti) : List V:=O.flatMap Ti.c
theorem tcs_len (O : List Ti) : (tcs O).length = O.length * 4:=by
 induction O with
 | nil => rfl
 | cons x O ih => rw [tcs, List.flatMap_cons, List.length_append, ih, List.length_cons]; show 4 + _ = _; omega
def rTs (X : List (Tk × Nat) × Int × Int) : V → List Asn → Prop:=fun w B => ∃ (ov : V) (O : List Ti), (∀ x ∈ O, x.ok) ∧ O.map (fun x => (x.t, x.ln)) = X.1 ∧ w = .tuple [ov, .agg [.int .i64 X.2.1, .int .i64 X.2.2]] ∧ B = [vc true ov 25 4 (tcs O)]
theorem seg_take (s : Bs) (a n : Nat) : seg s a (a + n) = ((bts s).drop a).take n:=by rw [seg, Nat.add_sub_cancel_left]
theorem toks_ok {s : Bs} {rb sb fb : Nat} (hs : s.n ≤ 65535) : ∀ (f a ln : Nat) (ov : V) (O : List Ti) (h : Hp) (l : List Asn), s.n - a < f → a ≤ s.n → ln ≤ 1 + a → O.length ≤ a → (∀ x ∈ O, x.ok) →
 St (Mid.row rb (rc s a ln (sgV sb)) :: SG sb :: Mid.row fb [.int .i64 0, .int .i64 0] :: vc true ov 25 4 (tcs O) :: l) h →
 ∀ X, lexL f ((bts s).drop a) ln (O.map fun x => (x.t, x.ln)) = X → Tri h false l (rTs X) (M 11 [.ptr fb 0, .ptr rb 0, ov] h):=by
 intro f
 induction f with
 | zero => intro a ln ov O h l hf; omega
 | succ f ih =>
  intro a ln ov O h l hf ha hln hO hok H X hX
  have okc : ∀ (O : List Ti) (x : Ti), (∀ y ∈ O, y.ok) → x.ok → ∀ y ∈ O ++ [x], y.ok:=fun O x h1 h2 y hy => (List.mem_append.1 hy).elim (h1 y) fun h => by rw [List.mem_singleton.1 h]; exact h2
  have e1 : ∀ (O : List Ti) (x : Ti), (O.map fun x => (x.t, x.ln)) ++ [(x.t, x.ln)] = (O ++ [x]).map fun x => (x.t, x.ln):=fun O x => by rw [List.map_append]; rfl
  have e2 : ∀ (O : List Ti) (x : Ti), tcs O ++ x.c = tcs (O ++ [x]):=fun O x => by rw [tcs, tcs, List.flatMap_append, List.flatMap_singleton]
  have ih13e : ∀ (a ln n tb : Nat) (ov : V) (O : List Ti) (T : List V) (e : Int) (h : Hp) (l : List Asn), e ≠ 0 → St (Mid.row tb T :: Mid.row rb (rc s a ln (sgV sb)) :: SG sb :: Mid.row fb [.int .i64 0, .int .i64 0] :: vc true ov 25 4 (tcs O) :: l) h →
   ∀ X, ([], e, (ln : Int)) = X → Tri h false l (rTs X) (M 13 [.ptr fb 0, .ptr rb 0, ov, .ptr tb 0, .int .i64 (n : Int), .int .i64 e] h):=by
   intro a ln n tb ov O T e h l he H X hX
   refine t6 e13 fun L => ?_
   unfold B13
   refine Tri.neq (fun _ => ?_) (fun c => absurd c he)
   subst hX
   apply nT
   refine nal 1 H rfl rfl ?_
   refine Tri.bldS rfl ?_
   refine wl0 3 H rfl rfl rfl L (by first|rfl|assumption) fun h H L => ?_
   exact Tri.done (B:=[_]) ⟨.nilSlice, [], (fun x hx => nomatch hx), rfl, rfl, rfl⟩ (St.vc_new true 25 4 H.tl.tl.tl.tl.tl) L
  have ih13k : ∀ (a ln tb : Nat) (ov : V) (O : List Ti) (x : Ti) (h : Hp) (l : List Asn), x.ok → x.ln = ln → x.t.e = 0 → a + x.t.n ≤ s.n → 1 ≤ x.t.n → s.n - (a + x.t.n) < f → ln ≤ 1 + a → O.length ≤ a → (∀ x ∈ O, x.ok) →
   St (Mid.row tb [.int .u8 x.t.k, .str x.z, .int .i64 x.t.N, .int .i64 0] :: Mid.row rb (rc s a ln (sgV sb)) :: SG sb :: Mid.row fb [.int .i64 0, .int .i64 0] :: vc true ov 25 4 (tcs O) :: l) h →
   ∀ X, lexL f ((bts s).drop (a + x.t.n)) (ln + lnc (seg s a (a + x.t.n))) ((O ++ [x]).map fun x => (x.t, x.ln)) = X → Tri h false l (rTs X) (M 13 [.ptr fb 0, .ptr rb 0, ov, .ptr tb 0, .int .i64 (x.t.n : Int), .int .i64 0] h):=by
   intro a ln tb ov O x h l hx hxl hxe han hpos hf1 hln hO hok H X hX
   have hlw:=lnc_le _ (seg s a (a + x.t.n)) (Nat.le_refl _)
   rw [seg_len (by omega)] at hlw
   refine t6 e13 fun L => ?_
   unfold B13
   refine Tri.neq (fun e => absurd e (by decide)) (fun _ => ?_)
   apply nF
   refine nal 1 H rfl rfl ?_
   apply ad
   refine sto 0 H rfl rfl L (by first|rfl|assumption) fun h H L => ?_
   replace H:=H.u1
   refine tbe (sp48 (by first|assumption|omega|rfl|(dsimp;omega)) (by first|assumption|omega|rfl|(dsimp;omega)) (by first|assumption|omega|rfl|(dsimp;omega)) H) L fun h H L => ?_
   refine ls 1 H rfl rfl ?_
   refine Tri.bld (e:=_) (s:=_) H L rfl rfl fun b22 h hb22 H L => ?_
   refine Tri.app 5 O.length 1 (new:=[.int .u8 x.t.k, .str x.z, .int .i64 x.t.N, .int .i64 (ln : Int)]) H rfl (H.newCells (i:=0) rfl rfl) (by decide) (tcs_len O) rfl (by omega) (by omega) rfl L (Own.off _ _) fun v' h H L hO1 h1 => ?_
   refine te (ih (a + x.t.n) _ v' (O ++ [x]) h l (by omega) (by omega) (by omega) (by rw [List.length_append, List.length_singleton]; omega) (okc O x hok hx) ?_ X hX) L
   rw [← e2]
   subst hxl
   exact H.tl.x1
  have ih50:=fun (h : Hp) (l : List Asn) (H : St (Mid.row rb (rc s a ln (sgV sb)) :: l) h) => f50 (fr:=0) (p:=isSp) (g:=.func 26 [] []) (fun b h l _ H => sp52 H) (show s.n ≤ 70000 by omega) (by omega) (by omega) H
  rw [Nat.add_zero] at ih50
  have hw:=cnt_le isSp ((bts s).drop a)
  rw [List.length_drop, bts_len] at hw
  rw [lexL, List.drop_drop, ← seg_take] at hX
  generalize cnt isSp ((bts s).drop a) = w at hX hw ih50
  have hlw:=lnc_le _ (seg s a (a + w)) (Nat.le_refl _)
  rw [seg_len (by omega)] at hlw
  refine t3 e11 fun L => ?_
  unfold B11
  refine tbe1 (ih50 _ _ H) L fun h H L => ?_
  refine tbe (sp48 (by first|assumption|omega|rfl|(dsimp;omega)) (by first|assumption|omega|rfl|(dsimp;omega)) (by first|assumption|omega|rfl|(dsimp;omega)) H) L fun h H L => ?_
  refine nal 0 H rfl rfl ?_
  refine nal 0 H rfl rfl ?_
  apply lS
  have hln1 : ln + lnc (seg s a (a + w)) ≤ 1 + (a + w):=by omega
  have hf1 : s.n - (a + w) < f + 1:=by omega
  have haw : a + w ≤ s.n:=by omega
  have hO1 : O.length ≤ a + w:=by omega
  clear hlw hw hO hln ha hf
  generalize ln + lnc (seg s a (a + w)) = ln at hX hln1 H
  generalize a + w = a at hX hf1 haw hO1 hln1 H
  refine Tri.eql ?_ ?_<;>intro e
  ·have ea : a = s.n := Int.ofNat.inj e
   rw [if_pos (bts_end (by omega)), e1 O ⟨⟨0, 0⟩, ⟨6, [], 0, 0, 0⟩, ln⟩] at hX
   subst hX
   apply nT
   refine nal 0 H rfl rfl ?_
   refine Tri.bldS rfl ?_
   refine Tri.bld (e:=_) (s:=_) H L rfl rfl fun b25 h hb25 H L => ?_
   refine Tri.app 4 O.length 1 (new:=Ti.c ⟨⟨0, 0⟩, ⟨6, [], 0, 0, 0⟩, ln⟩) H rfl (H.newCells (i:=0) rfl rfl) (by decide) (tcs_len O) rfl (by omega) (by omega) rfl L (Own.off _ _) fun v' h H L hO h1 => ?_
   refine Tri.bldS rfl ?_
   refine wl0 3 H rfl rfl rfl L (by first|rfl|assumption) fun h H L => ?_
   refine Tri.done (B:=[_]) ⟨v', O ++ [⟨⟨0, 0⟩, ⟨6, [], 0, 0, 0⟩, ln⟩], okc O _ hok ⟨rfl, rfl⟩, rfl, rfl, rfl⟩ ?_ L
   rw [← e2]
   exact H.tl.tl.tl.tl
  ·have hlt : a < s.n := by have : a ≠ s.n := fun c => e (congrArg Int.ofNat c); omega
   rw [if_neg (by rw [bts_drop hlt]; exact List.cons_ne_nil _ _)] at hX
   have hle:=nt_le ((bts s).drop a)
   have hpos:=@nt_pos ((bts s).drop a)
   have hno:=@nt_none ((bts s).drop a)
   rw [List.length_drop, bts_len] at hle
   apply nF
   refine tbe (sp54 (by first|assumption|omega|rfl|(dsimp;omega)) (by first|assumption|omega|rfl|(dsimp;omega)) (by first|assumption|omega|rfl|(dsimp;omega)) H) L fun h H L => ?_
   refine Tri.ext rfl ?_
   refine Tri.ext rfl ?_
   generalize nt ((bts s).drop a) = N at hX hle hpos hno H ⊢
   obtain ⟨N1, N2, N3⟩:=N
   dsimp only at hX hle hpos hno H ⊢
   have hlw:=lnc_le _ (seg s a (a + N3)) (Nat.le_refl _)
   rw [seg_len (by omega)] at hlw
   refine Tri.eql ?_ ?_<;>intro e3
   ·subst e3
    cases N1 with
    | true =>
     have:=hpos rfl rfl
     rw [if_pos ⟨rfl, rfl⟩, List.drop_drop, ← seg_take] at hX
     apply gtt
     apply bS
     apply pT
     apply nT
     exact te (ih (a + N3) _ ov O h l (by omega) (by omega) (by omega) (by omega) hok H X hX) L
    | false =>
     obtain rfl:=hno rfl
     rw [if_neg (fun c => nomatch c.2), if_neg (fun c => c rfl)] at hX
     replace H : St (Mid.row rb (rc s a ln (sgV sb)) :: SG sb :: Mid.row fb [.int .i64 0, .int .i64 0] :: vc true ov 25 4 (tcs O) :: l) h:=by
      rw [show seg s a (a + 0) = [] from seg_nil s a] at H; exact H
     apply gtt
     apply bS
     apply pT
     apply nF
     refine Tri.bldS rfl ?_
     refine nw H L fun b105 h hb105 H L => ?_
     refine w0 0 H rfl rfl rfl L (by first|rfl|assumption) fun h H L => ?_
     refine eTi (by decide) ?_
     replace H:=H.d2
     refine Mid.tb (sp56 (show s.n ≤ 70000 by omega) hlt H) L fun v h B hq H L => ?_
     obtain ⟨z, nz, ez, rfl, rfl⟩:=hq
     have htl:=tk_le ((bts s).drop a) (by rw [bts_drop hlt]; exact List.cons_ne_nil _ _)
     have htp:=@tk_pos ((bts s).drop a) (by rw [bts_drop hlt]; exact List.cons_ne_nil _ _)
     rw [List.length_drop, bts_len] at htl
     generalize tk ((bts s).drop a) = t at hX htl htp nz ez ⊢
     refine Tri.ext rfl ?_
     refine Tri.ext rfl ?_
     refine Tri.ext rfl ?_
     refine w0 2 H rfl rfl rfl L (by first|rfl|assumption) fun h H L => ?_
     replace H:=H.u2
     by_cases he : t.e = 0
     ·rw [if_neg (fun c => c he), List.drop_drop, ← seg_take, e1 O ⟨z, t, ln⟩] at hX
      rw [he]
      exact te (ih13k a ln b105 ov O ⟨z, t, ln⟩ h l ⟨nz, ez⟩ rfl he (by dsimp only; omega) (htp he) (by have:=htp he; dsimp only; omega) hln1 hO1 hok H X hX) L
     ·rw [if_pos he] at hX
      exact te (ih13e a ln t.n b105 ov O _ t.e h l he H X hX) L
   ·rw [if_neg (fun c => e3 c.1), if_pos e3, ← seg_take] at hX
    apply gft
    apply pF
    apply nF
    refine Tri.bldS rfl ?_
    refine nw H L fun b144 h hb144 H L => ?_
    refine w0 0 H rfl rfl rfl L (by first|rfl|assumption) fun h H L => ?_
    refine Tri.eql (fun c => absurd c e3) (fun _ => ?_)
    apply nF
    exact te (ih13e (a + N3) _ 0 b144 ov O _ N2 h l e3 H X hX) L
theorem in_ok {b : Nat} {s : Bs} (hs : s.n ≤ 70000) : ∀ (m i : Nat) (h : Hp) (l : List Asn), s.n - i < m → i ≤ s.n → St l h →
 Tri h true l (rNo (.bool (((bts s).drop i).contains b))) (M 63 [.int .u8 (b : Int), .str s, .int .i64 (i : Int)] h):=by
 intro m
 induction m with
 | zero => intro i h l hm; omega
 | succ m ih =>
  intro i h l hm hi H
  refine t3 e63 fun L => ?_
  unfold B63
  apply lS
  refine Tri.lss ?_ ?_<;>intro e
  ·rw [bts_drop (show i < s.n by omega), List.contains_cons]
   apply nT
   refine iS (by omega) ?_
   rw [show ((i : Int)).toNat = i from rfl]
   refine Tri.eql ?_ ?_<;>intro e2
   ·rw [show (b == s.byte i) = true from beq_iff_eq.2 (Int.ofNat.inj e2).symm]
    apply nT
    exact dn H L
   ·rw [show (b == s.byte i) = false from beq_eq_false_iff_ne.2 (fun c => e2 (congrArg Int.ofNat c.symm)), Bool.false_or]
    apply nF
    refine aD (by omega) ?_
    exact te (ih (i + 1) h l (by omega) (by omega) H) L
  ·apply nF
   rw [bts_end (by omega)]
   exact dn H L
theorem sp116 {b : Nat} {s : Bs} (hs : s.n ≤ 70000) (H : St l h) : Tri h true l (rNo (.bool ((bts s).contains b))) (M 116 [.int .u8 (b : Int), .str s] h):=by
 refine t2 e116 fun L => ?_
 unfold B116
 exact te (in_ok hs (s.n + 1) 0 h l (by omega) (by omega) H) L
theorem all256 {p q : Nat → Bool} (h : (List.range 256).all (fun b => p b == q b) = true) {b : Nat} (hb : b < 256) : p b = q b:=by
 have:=List.all_eq_true.1 h b (List.mem_range.2 hb)
 exact beq_iff_eq.1 this
def at0 (L : List Nat) (i : Nat) : Nat:=L.getD i 0
theorem sp126 {s : Bs} {i : Nat} (hs : s.n ≤ 70000) (hi : i ≤ 80000) (H : St l h) : Tri h true l (rNo (.int .u8 (at0 (bts s) i : Nat))) (M 126 [.str s, .int .i64 (i : Int)] h):=by
 refine t2 e126 fun L => ?_
 unfold B126
 refine Tri.lss (fun e => by omega) (fun _ => ?_)
 apply gff
 apply Mid.bB
 apply lS
 apply bI
 refine Tri.geq ?_ ?_<;>intro e
 ·apply bS
  apply pF
  apply nT
  rw [show at0 (bts s) i = 0 by unfold at0; rw [List.getD_eq_getElem?_getD, List.getElem?_eq_none (by rw [bts_len]; omega)]; rfl]
  exact dn H L
 ·apply bS
  apply pF
  apply nF
  refine iS (by omega) ?_
  rw [show at0 (bts s) i = s.byte i by unfold at0; rw [List.getD_eq_getElem?_getD, bts_get (by omega)]; rfl]
  exact dn H L
theorem sp124 {b : Nat} (hb : b < 256) (H : St l h) : Tri h true l (rNo (.bool (isLt b))) (M 124 [.int .u8 (b : Int)] h):=by
 refine t1 e124 fun L => ?_
 unfold B124
 rw [← all256 (p:=fun b => (bts ⟨53, 16136606909498776080527050281782755318366342791217699970627403518266764556169424560444082089293235145664849460896385073166901857⟩).contains b) (q:=isLt) (by kernel_rfl) hb]
 generalize hz : (⟨53, 16136606909498776080527050281782755318366342791217699970627403518266764556169424560444082089293235145664849460896385073166901857⟩ : Bs) = z
 have hn : z.n = 53:=by rw [← hz]
 refine tbe1 (sp116 (by first|assumption|omega|rfl|(dsimp;omega)) H) L fun h H L => ?_
 exact dn H L
theorem sp128 {b : Nat} (hb : b < 256) (H : St l h) : Tri h true l (rNo (.bool (isDg b))) (M 128 [.int .u8 (b : Int)] h):=by
 refine t1 e128 fun L => ?_
 unfold B128
 rw [← all256 (p:=fun b => (bts ⟨10, 270211885617516653982000⟩).contains b) (q:=isDg) (by kernel_rfl) hb]
 refine tbe1 (sp116 (by first|assumption|omega|rfl|(dsimp;omega)) H) L fun h H L => ?_
 exact dn H L
theorem sp64 {b : Nat} (hb : b < 256) (H : St l h) : Tri h true l (rNo (.bool (isSp b))) (M 64 [.int .u8 (b : Int)] h):=by
 refine t1 e64 fun L => ?_
 unfold B64
 rw [← all256 (p:=fun b => (bts ⟨6, 35240408713737⟩).contains b) (q:=isSp) (by kernel_rfl) hb]
 refine tbe1 (sp116 (by first|assumption|omega|rfl|(dsimp;omega)) H) L fun h H L => ?_
 exact dn H L
theorem sp120 {s t : Bs} {i : Nat} (hs : s.n ≤ 70000) (ht : t.n ≤ 70000) (hi : i ≤ s.n) (H : St l h) : Tri h true l (rNo (.bool ((bts t).isPrefixOf ((bts s).drop i)))) (M 120 [.str s, .int .i64 (i : Int), .str t] h):=by
 refine t3 e120 fun L => ?_
 unfold B120
 rw [pfx_take, bts_len, List.length_drop, bts_len]
 apply lS
 refine aD (by omega) ?_
 apply lS
 refine Tri.leq ?_ ?_<;>intro e
 ·apply gtt
  apply Mid.bB
  apply lS
  apply bI
  refine aD (by omega) ?_
  refine Tri.eqv (bind_slStrK _ _ _ _ _) ?_
  refine cB (by omega) fun z28 nz28 ez28 => ?_
  refine Tri.eqv (bind_strS _ _) ?_
  refine Tri.strEqL ?_
  apply bS
  apply pT
  have e28 : bts z28 = ((bts s).drop i).take t.n:=by rw [ez28, show ((i : Int) + (t.n : Int)).toNat - ((i : Int)).toNat = t.n by omega]; rfl
  rw [e28, show decide (t.n ≤ s.n - i ∧ ((bts s).drop i).take t.n = bts t) = decide (((bts s).drop i).take t.n = bts t) from decide_eq_decide.2 ⟨fun c => c.2, fun c => ⟨by omega, c⟩⟩]
  exact dn H L
 ·apply gft
  apply pF
  rw [decide_eq_false (fun c => by omega)]
  exact dn H L
def edg (L : List Nat) : Nat:=if isEnd (at0 L 0) then (if isEnd (at0 L 1) && at0 L 1 != at0 L 0 then 2 else 1) else 0
theorem at0_drop (L : List Nat) (i j : Nat) : at0 (L.drop i) j = at0 L (i + j):=by unfold at0; rw [List.getD_eq_getElem?_getD, List.getD_eq_getElem?_getD, List.getElem?_drop]
theorem at0_head (L : List Nat) (i : Nat) : at0 L i = ((L.drop i).head?).getD 0:=by unfold at0; rw [List.getD_eq_getElem?_getD, List.head?_drop]
theorem at0_lt (s : Bs) (i : Nat) : at0 (bts s) i < 256:=by
 unfold at0
 rw [List.getD_eq_getElem?_getD]
 cases h : (bts s)[i]? with
 | none => decide
 | some b => exact bts_mem (List.mem_of_getElem? h)
theorem isEnd_no {b : Nat} (h1 : b ≠ 10) (h2 : b ≠ 13) : isEnd b = false:=by unfold isEnd; simp [h1, h2]
theorem Tri.neS {s : Bs} {i : Nat} {R : V → Hp → VH} (hs : s.n ≤ 70000) (hi : i ≤ 80000) (H : St l h) (L : Lo ro h0 h) (hk : ∀ h', St l h' → Lo ro h0 h' → Tri h0 ro F Q (R (.bool (!isEnd (at0 (bts s) i))) h')) :
 Tri h0 ro F Q (intS .neq (.int .u8 (at0 (bts s) i : Nat)) (.int .u8 10) fun v2 => guardS v2 true (bindS (M 126 [.str s, .int .i64 (i : Int)] h) fun v3 h4 => intS .neq v3 (.int .u8 13) fun v5 => some (v5, h4)) h fun v6 h7 => optS (pickV v2 v6 (.bool false)) fun v8 => R v8 h7):=by
 refine Tri.neq ?_ ?_<;>intro e
 ·apply gtt
  apply Mid.bB
  refine tbe1 (sp126 (by first|assumption|omega|rfl|(dsimp;omega)) (by first|assumption|omega|rfl|(dsimp;omega)) H) L fun h H L => ?_
  apply bI
  refine Tri.neq ?_ ?_<;>intro e2
  ·rw [isEnd_no (fun c => e (congrArg Int.ofNat c)) (fun c => e2 (congrArg Int.ofNat c))] at hk
   exact hk h H L
  ·rw [isEnd_iff.2 (.inr (Int.ofNat.inj e2))] at hk
   exact hk h H L
 ·rw [isEnd_iff.2 (.inl (Int.ofNat.inj e))] at hk
  exact hk h H L
theorem sp118 {s : Bs} {i : Nat} (hs : s.n ≤ 70000) (hi : i ≤ 70000) (H : St l h) : Tri h true l (rNo (.int .i64 (edg ((bts s).drop i) : Nat))) (M 118 [.str s, .int .i64 (i : Int)] h):=by
 have ih126:=fun (i : Nat) (h : Hp) (l : List Asn) (hi : i ≤ 80000) (H : St l h) => sp126 hs hi H
 generalize hX : edg ((bts s).drop i) = X
 unfold edg at hX
 rw [at0_drop, at0_drop, Nat.add_zero] at hX
 refine t2 e118 fun L => ?_
 unfold B118
 refine tbe1 (ih126 _ _ _ (by first|assumption|omega|rfl|(dsimp;omega)) H) L fun h H L => ?_
 refine Tri.neS hs (by omega) H L fun h H L => ?_
 have hC:=at0_lt s (i + 1)
 cases h1 : isEnd (at0 (bts s) i) with
 | false =>
  rw [h1, if_neg (by decide)] at hX
  subst hX
  apply nT
  exact dn H L
 | true =>
  rw [h1, if_pos rfl] at hX
  apply nF
  refine tbe1 (ih126 _ _ _ (by first|assumption|omega|rfl|(dsimp;omega)) H) L fun h H L => ?_
  refine aD (by omega) ?_
  refine tbe1 (ih126 _ _ _ (by first|assumption|omega|rfl|(dsimp;omega)) H) L fun h H L => ?_
  refine Tri.add ?_
  have hA:=isEnd_iff.1 h1
  generalize at0 (bts s) i = A at hX hA
  have hsum : (A + at0 (bts s) (i + 1)) % 256 = 23 ↔ at0 (bts s) (i + 1) = 23 - A:=by omega
  rw [IntKind.wrap_u8, show (A : Int) + (at0 (bts s) (i + 1) : Int) = ((A + at0 (bts s) (i + 1) : Nat) : Int) from rfl, show ((A + at0 (bts s) (i + 1) : Nat) : Int) % 256 = (((A + at0 (bts s) (i + 1)) % 256 : Nat) : Int) from rfl]
  refine Tri.eql ?_ ?_<;>intro e
  ·have hAC := hsum.1 (Int.ofNat.inj e)
   have hE : isEnd (at0 (bts s) (i + 1)) = true:=isEnd_iff.2 (by omega)
   rw [hE, if_pos (by rw [Bool.true_and, bne_iff_ne]; omega)] at hX
   subst hX
   apply gtt
   apply bI
   refine aD (by omega) ?_
   apply Mid.bB
   refine tbe1 (ih126 _ _ _ (by first|assumption|omega|rfl|(dsimp;omega)) H) L fun h H L => ?_
   apply bI
   refine Tri.eql ?_ ?_<;>intro e2
   ·apply bS
    apply gtf
    apply gtt
    apply bO
    apply pT
    apply bS
    apply pT
    apply nT
    exact dn H L
   ·apply bS
    apply gff
    apply bI
    refine aD (by omega) ?_
    apply Mid.bB
    refine tbe1 (ih126 _ _ _ (by first|assumption|omega|rfl|(dsimp;omega)) H) L fun h H L => ?_
    apply bI
    refine Tri.eql (fun e3 => ?_) (fun e3 => (isEnd_iff.1 hE).elim (fun c => absurd (congrArg Int.ofNat c) e2) (fun c => absurd (congrArg Int.ofNat c) e3))
    apply bS
    apply gtt
    apply bO
    apply pF
    apply bS
    apply pT
    apply nT
    exact dn H L
  ·have hAC : ¬ at0 (bts s) (i + 1) = 23 - A := fun c => e (congrArg Int.ofNat (hsum.2 c))
   rw [if_neg (by
    intro c
    rw [Bool.and_eq_true, bne_iff_ne, isEnd_iff] at c
    omega)] at hX
   subst hX
   apply gft
   apply gu
   apply gft
   apply pF
   apply nF
   exact dn H L
theorem hex_from {b : Nat} (hb : b < 256) : ∀ (m i : Nat) (h : Hp) (l : List Asn), 16 - i < m → i ≤ 16 → (∀ j, j < i → ¬ (Bs.byte ⟨16, 136107713667768957684761770045455085872⟩ j = b ∨ Bs.byte ⟨16, 93405612720827812017303888595717861680⟩ j = b)) → St l h →
 Tri h true l (rNo (.tuple [.int .i64 ((hexv b).1 : Nat), .bool (hexv b).2])) (M 117 [.int .u8 (b : Int), .int .i64 (i : Int)] h):=by
 intro m
 induction m with
 | zero => intro i h l hm; omega
 | succ m ih =>
  intro i h l hm hi hn H
  refine t2 e117 fun L => ?_
  unfold B117
  generalize hP : (⟨16, 136107713667768957684761770045455085872⟩ : Bs) = P at hn ⊢
  generalize hR : (⟨16, 93405612720827812017303888595717861680⟩ : Bs) = R at hn ⊢
  have hPn : P.n = 16:=by rw [← hP]
  have hRn : R.n = 16:=by rw [← hR]
  refine Tri.lss ?_ ?_<;>intro e
  ·have hlt : i < 16 := by omega
   have hv : ∀ P R : Bs, P = ⟨16, 136107713667768957684761770045455085872⟩ → R = ⟨16, 93405612720827812017303888595717861680⟩ → (P.byte i = b ∨ R.byte i = b) → hexv b = (i, true):=by
    rintro P R rfl rfl h
    have h2 : ((List.range 16).all fun i => (hexv (Bs.byte ⟨16, 136107713667768957684761770045455085872⟩ i) == (i, true)) && (hexv (Bs.byte ⟨16, 93405612720827812017303888595717861680⟩ i) == (i, true))) = true:=by kernel_rfl
    have h3:=List.all_eq_true.1 h2 i (List.mem_range.2 hlt)
    rw [Bool.and_eq_true, beq_iff_eq, beq_iff_eq] at h3
    rcases h with h | h
    ·rw [← h]; exact h3.1
    ·rw [← h]; exact h3.2
   have hv:=hv P R hP.symm hR.symm
   have yes : ∀ {h0 h : Hp}, (P.byte i = b ∨ R.byte i = b) → St l h → Lo true h0 h → Tri h0 true l (rNo (.tuple [.int .i64 ((hexv b).1 : Nat), .bool (hexv b).2])) (some (.tuple [.int .i64 (i : Int), .bool true], h)) := fun c H L => by
    rw [hv c]; exact dn H L
   apply nT
   refine iS (by omega) ?_
   rw [show ((i : Int)).toNat = i from rfl]
   refine Tri.eql ?_ ?_<;>intro e1
   ·apply gtf
    apply pT
    apply nT
    exact yes (.inl (Int.ofNat.inj e1)) H L
   ·apply gff
    refine jS (by omega) ?_
    apply bI
    rw [show ((i : Int)).toNat = i from rfl]
    refine Tri.eql ?_ ?_<;>intro e2
    ·apply bS
     apply pF
     apply nT
     exact yes (.inr (Int.ofNat.inj e2)) H L
    ·apply bS
     apply pF
     apply nF
     refine aD (by omega) ?_
     subst hP
     subst hR
     exact Tri.tail (ih (i + 1) h l (by omega) (by omega) (fun j hj => by
      rcases Nat.lt_or_eq_of_le (Nat.lt_succ_iff.1 hj) with h1 | h1
      ·exact hn j h1
      ·subst h1; exact fun c => c.elim (fun c => e1 (congrArg Int.ofNat c)) (fun c => e2 (congrArg Int.ofNat c))) H) L (fun e => e) fun v h B hq H L => ⟨B, hq, H⟩
  ·apply nF
   have hno : hexv b = (0, false):=by
    subst hP
    subst hR
    have h2 : ((List.range 256).all fun b => ((List.range 16).any fun j => Nat.beq (Bs.byte ⟨16, 136107713667768957684761770045455085872⟩ j) b || Nat.beq (Bs.byte ⟨16, 93405612720827812017303888595717861680⟩ j) b) || (hexv b == (0, false))) = true:=by kernel_rfl
    have h3:=List.all_eq_true.1 h2 b (List.mem_range.2 hb)
    rw [Bool.or_eq_true] at h3
    rcases h3 with h3 | h3
    ·obtain ⟨j, hj, h4⟩ := List.any_eq_true.1 h3
     rw [Bool.or_eq_true] at h4
     exact absurd (h4.imp Nat.eq_of_beq_eq_true Nat.eq_of_beq_eq_true) (hn j (by have:=List.mem_range.1 hj; omega))
    ·exact beq_iff_eq.1 h3
   rw [hno]
   exact dn H L
theorem sp264 {b : Nat} (hb : b < 256) (H : St l h) : Tri h true l (rNo (.tuple [.int .i64 ((hexv b).1 : Nat), .bool (hexv b).2])) (M 264 [.int .u8 (b : Int)] h):=by
 refine t1 e264 fun L => ?_
 unfold B264
 exact te (hex_from hb 17 0 h l (by omega) (by omega) (fun j hj => absurd hj (Nat.not_lt_zero _)) H) L
theorem edg_cases (b : Nat) (r : List Nat) : (isEnd b = false ∧ edg (b :: r) = 0) ∨ (isEnd b = true ∧ edg (b :: r) = 1 ∧ ∀ c t, r = c :: t → (isEnd c = false ∨ c = b)) ∨ (isEnd b = true ∧ edg (b :: r) = 2 ∧ ∃ c t, r = c :: t ∧ isEnd c = true ∧ c ≠ b):=by
 unfold edg
 rw [show at0 (b :: r) 0 = b from rfl]
 cases h1 : isEnd b with
 | false => exact .inl ⟨rfl, rfl⟩
 | true =>
  right
  rw [if_pos rfl]
  cases r with
  | nil => exact .inl ⟨rfl, rfl, fun c t h => nomatch h⟩
  | cons c t =>
   rw [show at0 (b :: c :: t) 1 = c from rfl]
   by_cases h2 : (isEnd c && c != b) = true
   ·rw [if_pos h2]
    rw [Bool.and_eq_true, bne_iff_ne] at h2
    exact .inr ⟨rfl, rfl, c, t, rfl, h2⟩
   ·rw [if_neg h2]
    refine .inl ⟨rfl, rfl, fun c' t' h => ?_⟩
    cases h
    rw [Bool.and_eq_true, bne_iff_ne] at h2
    cases hc : isEnd c with
    | false => exact .inl rfl
    | true => exact .inr (Decidable.byContradiction fun h => h2 ⟨hc, h⟩)
theorem lnc_one {b : Nat} {r : List Nat} (h : isEnd b = true) (h2 : ∀ c t, r = c :: t → (isEnd c = false ∨ c = b)) : lnc (b :: r) = lnc r + 1:=by
 cases r with
 | nil => simp [lnc, h]
 | cons c t => exact lnc_end h (h2 c t rfl) t
theorem edg_le (L : List Nat) : edg L ≤ 2:=by unfold edg; split <;> (try split) <;> omega
theorem lines_from {s : Bs} (hs : s.n ≤ 70000) : ∀ (m i n : Nat) (h : Hp) (l : List Asn), s.n - i < m → i ≤ s.n → n ≤ i → St l h →
 Tri h true l (rNo (.int .i64 ((n + lnc ((bts s).drop i) : Nat) : Int))) (M 15 [.str s, .int .i64 (n : Int), .int .i64 (i : Int)] h):=by
 intro m
 induction m with
 | zero => intro i n h l hm; omega
 | succ m ih =>
  intro i n h l hm hi hn H
  have ih17 : ∀ (i n : Nat) (N : Nat) (h : Hp) (l : List Asn), s.n - (i + 1) < m → i + 1 ≤ s.n → n ≤ i + 1 → N = n + lnc ((bts s).drop (i + 1)) → St l h → Tri h true l (rNo (.int .i64 (N : Int))) (M 17 [.str s, .int .i64 (n : Int), .int .i64 (i : Int)] h):=by
   intro i n N h l h1 h2 h3 hN H
   subst hN
   refine t3 e17 fun L => ?_
   unfold B17
   refine aD (by omega) ?_
   exact te (ih (i + 1) n h l h1 h2 h3 H) L
  refine t3 e15 fun L => ?_
  unfold B15
  apply lS
  refine Tri.lss ?_ ?_<;>intro e
  ·have hlt : i < s.n := by omega
   generalize hX : n + lnc ((bts s).drop i) = X
   have hc:=edg_cases (s.byte i) ((bts s).drop (i + 1))
   have hle:=edg_le ((bts s).drop i)
   have hd:=bts_drop hlt
   rw [hd] at hX
   rw [← hd] at hc
   apply nT
   refine tbe1 (sp118 (by first|assumption|omega|rfl|(dsimp;omega)) (by first|assumption|omega|rfl|(dsimp;omega)) H) L fun h H L => ?_
   generalize edg ((bts s).drop i) = E at hc hle ⊢
   refine Tri.gtr ?_ ?_<;>intro e1
   ·apply nT
    refine aD (by omega) ?_
    refine aD (by omega) ?_
    refine Tri.subN (by omega) (by omega) ?_
    rcases hc with ⟨h1, h2⟩ | ⟨h1, h2, h3⟩ | ⟨h1, h2, c, t, h3, h4, h5⟩
    ·omega
    ·subst h2
     rw [lnc_one h1 h3] at hX
     rw [show (i : Int) + ((1 : Nat) : Int) - 1 = (i : Int) by omega]
     exact te (ih17 i (n + 1) X h l (by omega) (by omega) (by omega) (by omega) H) L
    ·subst h2
     rw [h3, lnc_two h1 h4 h5] at hX
     have hi2 : i + 1 < s.n:=by
      have:=congrArg List.length h3
      rw [List.length_drop, bts_len, List.length_cons] at this; omega
     have ht : (bts s).drop (i + 1 + 1) = t:=by
      rw [bts_drop hi2] at h3; exact (List.cons.inj h3).2
     rw [show (i : Int) + ((2 : Nat) : Int) - 1 = ((i + 1 : Nat) : Int) by omega]
     exact te (ih17 (i + 1) (n + 1) X h l (by omega) (by omega) (by omega) (by rw [ht]; omega) H) L
   ·apply nF
    rcases hc with ⟨h1, h2⟩ | ⟨h1, h2, h3⟩ | ⟨h1, h2, c, t, h3, h4, h5⟩
    ·rw [lnc_no h1] at hX
     exact te (ih17 i n X h l (by omega) (by omega) (by omega) hX.symm H) L
    ·omega
    ·omega
  ·apply nF
   rw [bts_end (by omega)]
   exact dn H L
theorem sp66 {s : Bs} (hs : s.n ≤ 70000) (H : St l h) : Tri h true l (rNo (.int .i64 (lnc (bts s) : Nat))) (M 66 [.str s] h):=by
 refine t1 e66 fun L => ?_
 unfold B66
 refine Tri.tail (lines_from hs (s.n + 1) 0 0 h l (by omega) (by omega) (Nat.le_refl _) H) L (fun e => e) fun v h B hq H L => ⟨B, ?_, H⟩
 rw [Nat.zero_add] at hq
 exact hq
theorem pfx_map : ∀ (y x : List Nat), (∀ b ∈ y, b < 256) → (∀ b ∈ x, b < 256) → preB (y.map UInt8.ofNat) (x.map UInt8.ofNat) = y.isPrefixOf x
 | [], x, _, _ => by rw [preB_eq]; cases x <;> rfl
 | a :: y, [], _, _ => rfl
 | a :: y, b :: x, hy, hx => by
  have ih:=pfx_map y x (fun c hc => hy c (List.mem_cons_of_mem _ hc)) (fun c hc => hx c (List.mem_cons_of_mem _ hc))
  have ha:=Bs.ofNat_toNat (hy a List.mem_cons_self)
  have hb:=Bs.ofNat_toNat (hx b List.mem_cons_self)
  rw [List.map_cons, List.map_cons, preB, ha, hb, ih, List.isPrefixOf]
  cases h : Nat.beq a b with
  | true => rw [Nat.eq_of_beq_eq_true h, beq_self_eq_true]; rfl
  | false =>
   rw [show (a == b) = false from beq_eq_false_iff_ne.2 fun c => by subst c; rw [Nat.beq_refl] at h; cases h]; rfl
theorem idxB_up : ∀ (x y : List UInt8) (k : Nat), idxB x y (k + 1) = (idxB x y k).map (· + 1)
 | [], y, k => by unfold idxB; cases preB y [] <;> rfl
 | a :: x, y, k => by
  unfold idxB
  cases preB y (a :: x) with
  | true => rfl
  | false => exact idxB_up x y (k + 1)
theorem ixo_none {y : List Nat} (hy : y ≠ []) : ixo [] y = none:=by
 unfold ixo
 cases y with
 | nil => exact absurd rfl hy
 | cons a y => rfl
theorem ixo_here {x y : List Nat} (h : y.isPrefixOf x = true) (hy : ∀ b ∈ y, b < 256) (hx : ∀ b ∈ x, b < 256) : ixo x y = some 0:=by
 have:=pfx_map y x hy hx
 rw [h] at this
 unfold ixo
 cases x with
 | nil => rw [List.map_nil] at this ⊢; unfold idxB; rw [this]; rfl
 | cons a x => rw [List.map_cons] at this ⊢; unfold idxB; rw [this]; rfl
theorem ixo_step {b : Nat} {x y : List Nat} (h : y.isPrefixOf (b :: x) = false) (hy : ∀ c ∈ y, c < 256) (hx : ∀ c ∈ b :: x, c < 256) : ixo (b :: x) y = (ixo x y).map (· + 1):=by
 have:=pfx_map y (b :: x) hy hx
 rw [h, List.map_cons] at this
 unfold ixo
 rw [List.map_cons]
 conv => lhs; unfold idxB
 rw [this]
 exact idxB_up _ _ 0
def scn (close R acc : List Nat) (first : Bool) : Option (List Nat × Nat) :=
 (ixo R close).map fun j => (acc ++ (if first then trp [10] (lns (R.take j)) else lns (R.take j)), j)
def plus (n : Nat) (o : Option (List Nat × Nat)) : Option (List Nat × Nat):=o.map fun x => (x.1, x.2 + n)
theorem trp_ten (L : List Nat) : trp [10] (10 :: L) = L:=by unfold trp; rw [if_pos (by simp [List.isPrefixOf])]; rfl
theorem trp_no {b : Nat} (h : b ≠ 10) (L : List Nat) : trp [10] (b :: L) = b :: L:=by unfold trp; rw [if_neg (by simp [List.isPrefixOf]; exact fun c => h c.symm)]
theorem scn_here {close R acc : List Nat} {first : Bool} (h : close.isPrefixOf R = true) (hy : ∀ b ∈ close, b < 256) (hx : ∀ b ∈ R, b < 256) : scn close R acc first = some (acc, 0):=by
 unfold scn
 rw [ixo_here h hy hx]
 cases first <;> simp [lns, trp]
theorem scn_none {close acc : List Nat} {first : Bool} (h : close ≠ []) : scn close [] acc first = none:=by unfold scn; rw [ixo_none h]; rfl
theorem scn_byte {close r acc : List Nat} {b : Nat} {first : Bool} (h : close.isPrefixOf (b :: r) = false) (hy : ∀ c ∈ close, c < 256) (hx : ∀ c ∈ b :: r, c < 256) (hb : isEnd b = false) : scn close (b :: r) acc first = plus 1 (scn close r (acc ++ [b]) false):=by
 have hb10 : b ≠ 10:=fun c => by subst c; cases hb
 unfold scn plus
 rw [ixo_step h hy hx, Option.map_map, Option.map_map]
 congr 1
 funext j
 simp only [Function.comp, List.take_succ_cons]
 rw [lns_no hb]
 cases first
 ·simp
 ·simp [trp_no hb10]
theorem scn_end {close r acc : List Nat} {b : Nat} {first : Bool} (h : close.isPrefixOf (b :: r) = false) (hy : ∀ c ∈ close, c < 256) (hx : ∀ c ∈ b :: r, c < 256) (hb : isEnd b = true) (h2 : ∀ c t, r = c :: t → (isEnd c = false ∨ c = b)) :
 scn close (b :: r) acc first = plus 1 (scn close r (if first then acc else acc ++ [10]) false):=by
 unfold scn plus
 rw [ixo_step h hy hx, Option.map_map, Option.map_map]
 congr 1
 funext j
 simp only [Function.comp, List.take_succ_cons]
 have hl : lns (b :: r.take j) = 10 :: lns (r.take j):=by
  cases hr : r.take j with
  | nil => simp [lns, hb]
  | cons c t =>
   cases r with
   | nil => simp at hr
   | cons c' t' =>
    cases j with
    | zero => simp at hr
    | succ j =>
     rw [List.take_succ_cons] at hr
     cases hr
     exact lns_end hb (h2 c t' rfl) _
 rw [hl]
 cases first
 ·simp
 ·simp [trp_ten]
theorem scn_two {close t acc : List Nat} {b c : Nat} {first : Bool} (h : close.isPrefixOf (b :: c :: t) = false) (h' : close.isPrefixOf (c :: t) = false) (hy : ∀ c ∈ close, c < 256) (hx : ∀ d ∈ b :: c :: t, d < 256) (hb : isEnd b = true) (hc : isEnd c = true) (hcb : c ≠ b) :
 scn close (b :: c :: t) acc first = plus 2 (scn close t (if first then acc else acc ++ [10]) false):=by
 unfold scn plus
 rw [ixo_step h hy hx, ixo_step h' hy (fun d hd => hx d (List.mem_cons_of_mem _ hd)), Option.map_map, Option.map_map, Option.map_map]
 congr 1
 funext j
 simp only [Function.comp, List.take_succ_cons]
 rw [lns_two hb hc hcb]
 cases first
 ·simp
 ·simp [trp_ten]
def fin (o : Option (List Nat × Nat)) (D : Nat) : List Nat × Nat × Bool := match o with
 | none => ([], 0, true)
 | some x => (x.1, x.2 + D, true)
theorem fin_plus (n : Nat) (o : Option (List Nat × Nat)) (D : Nat) : fin (plus n o) D = fin o (n + D):=by
 cases o with
 | none => rfl
 | some x => show (x.1, x.2 + n + D, true) = (x.1, x.2 + (n + D), true); rw [Nat.add_assoc]
def rLg (x : List Nat × Nat × Bool) : V → List Asn → Prop:=fun w B => ∃ z : Bs, z.n = x.1.length ∧ bts z = x.1 ∧ w = .tuple [.str z, .int .i64 (x.2.1 : Nat), .bool x.2.2] ∧ B = []
theorem pfx_ne {c : List Nat} {a b : Nat} {r : List Nat} (h : a ≠ b) : (a :: c).isPrefixOf (b :: r) = false:=by simp [List.isPrefixOf, h]
theorem scan_ok {s cz : Bs} {i : Nat} {C : List Nat} (hs : s.n ≤ 70000) (hcz : bts cz = 93 :: C) (hcn : cz.n ≤ 70000) : ∀ (m k D : Nat) (out : Bs) (fst : Bool) (h : Hp) (l : List Asn), s.n - k < m → k ≤ s.n → i ≤ k → out.n ≤ k → D + i = k + cz.n → St l h →
 ∀ X, fin (scn (93 :: C) ((bts s).drop k) (bts out) fst) D = X → Tri h true l (rLg X) (M 53 [.str s, .int .i64 (i : Int), .str cz, .int .i64 (k : Int), .str out, .bool fst] h):=by
 have hy : ∀ b ∈ 93 :: C, b < 256:=by rw [← hcz]; exact fun b hb => bts_mem hb
 have hx : ∀ k, ∀ b ∈ (bts s).drop k, b < 256:=fun k b hb => bts_mem (List.mem_of_mem_drop hb)
 intro m
 induction m with
 | zero => intro k D out fst h l hm; omega
 | succ m ih =>
  intro k D out fst h l hm hk hik ho hD H X hX
  have ih55 : ∀ (k n D : Nat) (out : Bs) (h : Hp) (l : List Asn), s.n - (k + n) < m → k + n ≤ s.n → i ≤ k → out.n ≤ k + n → D + i = k + n + cz.n → St l h →
   ∀ X, fin (scn (93 :: C) ((bts s).drop (k + n)) (bts out) false) D = X → Tri h true l (rLg X) (M 55 [.str s, .int .i64 (i : Int), .str cz, .int .i64 (k : Int), .str out, .int .i64 (n : Int)] h):=by
   intro k n D out h l h1 h2 h3 h4 h5 H X hX
   refine t6 e55 fun L => ?_
   unfold B55
   refine aD (by omega) ?_
   exact te (ih (k + n) D out false h l h1 h2 (by omega) h4 h5 H X hX) L
  refine t6 e53 fun L => ?_
  unfold B53
  apply lS
  refine Tri.lss ?_ ?_<;>intro e
  ·have hlt : k < s.n := by omega
   have hd:=bts_drop hlt
   apply nT
   refine tbe1 (sp120 (by first|assumption|omega|rfl|(dsimp;omega)) (by first|assumption|omega|rfl|(dsimp;omega)) (by first|assumption|omega|rfl|(dsimp;omega)) H) L fun h H L => ?_
   rw [hcz]
   cases hp : (93 :: C).isPrefixOf ((bts s).drop k) with
   | true =>
    rw [scn_here hp hy (hx k)] at hX
    subst hX
    apply nT
    apply lS
    refine aD (by omega) ?_
    refine Tri.subN (by omega) (by omega) ?_
    rw [show (k : Int) + (cz.n : Int) - (i : Int) = ((0 + D : Nat) : Int) by omega]
    exact Tri.done (B:=[]) ⟨out, (bts_len out).symm, rfl, rfl, rfl⟩ H L
   | false =>
    have hc:=edg_cases (s.byte k) ((bts s).drop (k + 1))
    rw [← hd] at hc
    rw [hd] at hX hp
    have hx':=hx k
    rw [hd] at hx'
    apply nF
    refine tbe1 (sp118 (by first|assumption|omega|rfl|(dsimp;omega)) (by first|assumption|omega|rfl|(dsimp;omega)) H) L fun h H L => ?_
    rcases hc with ⟨h1, h2⟩ | ⟨h1, h2, h3⟩ | ⟨h1, h2, c, t, h3, h4, h5⟩
    ·rw [scn_byte hp hy hx' h1, fin_plus] at hX
     rw [h2]
     refine eTi (by decide) ?_
     refine aD (by omega) ?_
     refine cB (by omega) fun z63 nz63 ez63 => ?_
     refine Tri.strCat (by simp only [*]; omega) fun z64 nz64 ez64 => ?_
     have e64 : bts z64 = bts out ++ [s.byte k]:=by
      rw [ez64]
      congr 1
      rw [ez63, show ((k : Int) + 1).toNat - ((k : Int)).toNat = 1 by omega, show ((k : Int)).toNat = k from rfl, hd]; rfl
     have n64 : z64.n = out.n + 1:=by rw [← bts_len, e64, List.length_append, bts_len]; rfl
     rw [← e64] at hX
     exact te (ih55 k 1 (1 + D) z64 h l (by omega) (by omega) (by omega) (by omega) (by omega) H X hX) L
    ·rw [scn_end hp hy hx' h1 h3, fin_plus] at hX
     rw [h2]
     cases fst with
     | true =>
      refine eFi (by decide) ?_
      refine Tri.not ?_
      apply nF
      rw [if_pos rfl] at hX
      exact te (ih55 k 1 (1 + D) out h l (by omega) (by omega) (by omega) (by omega) (by omega) H X hX) L
     | false =>
      refine eFi (by decide) ?_
      refine Tri.not ?_
      apply nT
      refine Tri.strCat (by simp only [*]; omega) fun z104 nz104 ez104 => ?_
      have e104 : bts z104 = bts out ++ [10]:=ez104
      have n104 : z104.n = out.n + 1:=nz104
      rw [if_neg (by decide), ← e104] at hX
      exact te (ih55 k 1 (1 + D) z104 h l (by omega) (by omega) (by omega) (by omega) (by omega) H X hX) L
    ·have hi2 : k + 1 < s.n:=by
      have:=congrArg List.length h3
      rw [List.length_drop, bts_len, List.length_cons] at this; omega
     have ht : (bts s).drop (k + 2) = t:=by
      rw [bts_drop hi2] at h3; exact (List.cons.inj h3).2
     rw [h3] at hX hp hx'
     rw [scn_two hp (pfx_ne (fun c93 => by subst c93; cases h4)) hy hx' h1 h4 h5, fin_plus, ← ht] at hX
     rw [h2]
     cases fst with
     | true =>
      refine eFi (by decide) ?_
      refine Tri.not ?_
      apply nF
      rw [if_pos rfl] at hX
      exact te (ih55 k 2 (2 + D) out h l (by omega) (by omega) (by omega) (by omega) (by omega) H X hX) L
     | false =>
      refine eFi (by decide) ?_
      refine Tri.not ?_
      apply nT
      refine Tri.strCat (by simp only [*]; omega) fun z144 nz144 ez144 => ?_
      have e144 : bts z144 = bts out ++ [10]:=ez144
      have n144 : z144.n = out.n + 1:=nz144
      rw [if_neg (by decide), ← e144] at hX
      exact te (ih55 k 2 (2 + D) z144 h l (by omega) (by omega) (by omega) (by omega) (by omega) H X hX) L
  ·rw [bts_end (by omega), scn_none (List.cons_ne_nil _ _)] at hX
   subst hX
   apply nF
   exact Tri.done (B:=[]) ⟨_, rfl, rfl, rfl, rfl⟩ H L
theorem dw_rep : ∀ (j : Nat) (R : List Nat), R.head? ≠ some 61 → (List.replicate j 61 ++ R).dropWhile (· == 61) = R
 | 0, [], _ => rfl
 | 0, b :: R, h => by
  have hb : (b == 61) = false:=beq_eq_false_iff_ne.2 fun c => h (by rw [c]; rfl)
  show (b :: R).dropWhile _ = _
  rw [List.dropWhile_cons, hb]; rfl
 | j + 1, R, h => by
  rw [List.replicate_succ, List.cons_append, List.dropWhile_cons]
  exact dw_rep j R h
theorem eqn_rep (j : Nat) (R : List Nat) (h : R.head? ≠ some 61) : eqn (List.replicate j 61 ++ R) = j:=by
 unfold eqn
 rw [dw_rep j R h, List.length_append, List.length_replicate]; omega
theorem pfx_one (a : Nat) (L : List Nat) : [a].isPrefixOf L = decide (L.head? = some a):=by
 cases L with
 | nil => rfl
 | cons b r =>
  simp only [List.isPrefixOf, Bool.and_true, List.head?_cons, Option.some.injEq]
  rw [Bool.eq_iff_iff, beq_iff_eq, decide_eq_true_iff]
  exact eq_comm
theorem at0_hd {L : List Nat} {i b : Nat} (hb : b ≠ 0) : at0 L i = b ↔ (L.drop i).head? = some b:=by
 rw [at0_head]
 cases h : (L.drop i).head? with
 | none => simp; exact fun c => hb c.symm
 | some c => simp
theorem long_from {s : Bs} {i : Nat} (hs : s.n ≤ 60000) (h91 : (bts s).drop i = 91 :: (bts s).drop (i + 1)) : ∀ (m j : Nat) (cz : Bs) (h : Hp) (l : List Asn), s.n - (i + 1 + j) < m → i + 1 + j ≤ s.n → bts cz = 93 :: List.replicate j 61 → (bts s).drop (i + 1) = List.replicate j 61 ++ (bts s).drop (i + 1 + j) → St l h →
 Tri h true l (rLg (lng ((bts s).drop i))) (M 51 [.str s, .int .i64 (i : Int), .str cz, .int .i64 ((i + 1 + j : Nat) : Int)] h):=by
 intro m
 induction m with
 | zero => intro j cz h l hm; omega
 | succ m ih =>
  intro j cz h l hm hj hcz hL H
  have hcn : cz.n = j + 1:=by rw [← bts_len, hcz, List.length_cons, List.length_replicate]
  have ih126:=fun (i : Nat) (h : Hp) (l : List Asn) (hi : i ≤ 80000) (H : St l h) => sp126 (s:=s) (by omega) hi H
  generalize hX : lng ((bts s).drop i) = X
  refine t4 e51 fun L => ?_
  unfold B51
  refine tbe1 (ih126 _ _ _ (by first|assumption|omega|rfl|(dsimp;omega)) H) L fun h H L => ?_
  refine Tri.eql ?_ ?_<;>intro e
  ·have e1 := (at0_hd (L := bts s) (i := i + 1 + j) (by decide)).1 (Int.ofNat.inj e)
   have hlt : i + 1 + j < s.n:=by
    rcases Nat.lt_or_ge (i + 1 + j) s.n with h | h
    ·exact h
    ·rw [bts_end h] at e1; cases e1
   apply nT
   refine Tri.strCat (by simp only [*]; omega) fun z21 nz21 ez21 => ?_
   refine aD (by omega) ?_
   subst hX
   have e21 : bts z21 = 93 :: List.replicate (j + 1) 61:=by
    rw [ez21, hcz, List.replicate_succ', List.cons_append]; rfl
   have hd : (bts s).drop (i + 1 + j) = 61 :: (bts s).drop (i + 1 + (j + 1)):=by
    have h2:=bts_drop hlt
    rw [h2, List.head?_cons, Option.some.injEq] at e1
    rw [h2, e1]; rfl
   exact te (ih (j + 1) z21 h l (by omega) (by omega) e21 (by rw [hL, hd, List.replicate_succ', List.append_assoc]; rfl) H) L
  ·have e1 : ((bts s).drop (i + 1 + j)).head? ≠ some 61 := fun c => e (congrArg Int.ofNat ((at0_hd (by decide)).2 c))
   have hE : eqn ((bts s).drop (i + 1)) = j:=by rw [hL]; exact eqn_rep j _ e1
   unfold lng at hX
   rw [if_neg (by rw [h91]; simp [List.isPrefixOf]), show ((bts s).drop i).drop 1 = (bts s).drop (i + 1) by rw [List.drop_drop], hE] at hX
   simp only [List.drop_drop] at hX
   apply nF
   refine tbe1 (ih126 _ _ _ (by first|assumption|omega|rfl|(dsimp;omega)) H) L fun h H L => ?_
   refine Tri.neq ?_ ?_<;>intro e2
   ·have e3 : [91].isPrefixOf ((bts s).drop (i + (1 + j))) = false:=by
     rw [pfx_one, decide_eq_false_iff_not, ← Nat.add_assoc]
     exact fun c => e2 (congrArg Int.ofNat ((at0_hd (by decide)).2 c))
    rw [if_pos e3] at hX
    subst hX
    apply nT
    exact Tri.done (B:=[]) ⟨_, rfl, rfl, rfl, rfl⟩ H L
   ·have e4 := (at0_hd (L := bts s) (i := i + 1 + j) (by decide)).1 (Int.ofNat.inj e2)
    have hlt : i + 1 + j < s.n:=by
     rcases Nat.lt_or_ge (i + 1 + j) s.n with h | h
     ·exact h
     ·rw [bts_end h] at e4; cases e4
    have e3 : ¬ [91].isPrefixOf ((bts s).drop (i + (1 + j))) = false:=by
     rw [pfx_one, decide_eq_false_iff_not, ← Nat.add_assoc]
     exact fun c => c e4
    rw [if_neg e3] at hX
    apply nF
    refine Tri.strCat (by simp only [*]; omega) fun z81 nz81 ez81 => ?_
    refine aD (by omega) ?_
    have e81 : bts z81 = 93 :: (List.replicate j 61 ++ [93]):=by rw [ez81, hcz, List.cons_append]; rfl
    have n81 : z81.n = j + 2:=by rw [← bts_len, e81, List.length_cons, List.length_append, List.length_replicate]; rfl
    have ht : ((bts s).drop (i + 1)).take j = List.replicate j 61:=by
     rw [hL, List.take_append_of_le_length (by rw [List.length_replicate]; exact Nat.le_refl _), List.take_of_length_le (by rw [List.length_replicate]; exact Nat.le_refl _)]
    rw [ht, show i + (j + 2) = i + 1 + j + 1 by omega] at hX
    refine te (scan_ok (show s.n ≤ 70000 by omega) e81 (by omega) (s.n + 1) (i + 1 + j + 1) (2 * (j + 2)) ⟨0, 0⟩ true h l (by omega) (by omega) (by omega) (Nat.zero_le _) (by omega) H X ?_) L
    rw [← hX]
    unfold fin scn
    cases ixo ((bts s).drop (i + 1 + j + 1)) (93 :: (List.replicate j 61 ++ [93])) <;> rfl
theorem sp122 {s : Bs} {i : Nat} (hs : s.n ≤ 60000) (hi : i ≤ s.n) (H : St l h) : Tri h true l (rLg (lng ((bts s).drop i))) (M 122 [.str s, .int .i64 (i : Int)] h):=by
 have ih126:=fun (i : Nat) (h : Hp) (l : List Asn) (hi : i ≤ 80000) (H : St l h) => sp126 (s:=s) (by omega) hi H
 refine t2 e122 fun L => ?_
 unfold B122
 refine tbe1 (ih126 _ _ _ (by first|assumption|omega|rfl|(dsimp;omega)) H) L fun h H L => ?_
 refine Tri.neq ?_ ?_<;>intro e
 ·have e3 : [91].isPrefixOf ((bts s).drop i) = false:=by
   rw [pfx_one, decide_eq_false_iff_not]
   exact fun c => e (congrArg Int.ofNat ((at0_hd (by decide)).2 c))
  unfold lng
  rw [if_pos e3]
  apply nT
  exact Tri.done (B:=[]) ⟨_, rfl, rfl, rfl, rfl⟩ H L
 ·have e1 := (at0_hd (L := bts s) (i := i) (by decide)).1 (Int.ofNat.inj e)
  have hlt : i < s.n:=by
   rcases Nat.lt_or_ge i s.n with h | h
   ·exact h
   ·rw [bts_end h] at e1; cases e1
  have hd : (bts s).drop i = 91 :: (bts s).drop (i + 1):=by
   have h2:=bts_drop hlt
   rw [h2, List.head?_cons, Option.some.injEq] at e1
   rw [h2, e1]
  apply nF
  refine aD (by omega) ?_
  exact te (long_from hs hd (s.n + 1) 0 ⟨1, 93⟩ h l (by omega) (by omega) rfl rfl H) L
theorem edg_zero {b : Nat} {r : List Nat} : edg (b :: r) = 0 ↔ isEnd b = false:=by
 rcases edg_cases b r with ⟨h1, h2⟩ | ⟨h1, h2, _⟩ | ⟨h1, h2, _⟩ <;> rw [h1, h2] <;> simp
theorem cnt_cons (p : Nat → Bool) (b : Nat) (r : List Nat) : cnt p (b :: r) = if p b then cnt p r + 1 else 0:=rfl
theorem line_from {s : Bs} {i : Nat} (hs : s.n ≤ 60000) : ∀ (m k : Nat) (h : Hp) (l : List Asn), s.n - k < m → k ≤ s.n → i ≤ k → St l h →
 Tri h true l (rNo (.tuple [.int .i64 ((k - i + cnt (fun b => !isEnd b) ((bts s).drop k) : Nat) : Int), .bool true])) (M 23 [.str s, .int .i64 (i : Int), .int .i64 (k : Int)] h):=by
 intro m
 induction m with
 | zero => intro k h l hm; omega
 | succ m ih =>
  intro k h l hm hk hik H
  generalize hX : k - i + cnt (fun b => !isEnd b) ((bts s).drop k) = X
  refine t3 e23 fun L => ?_
  unfold B23
  apply lS
  refine Tri.lss ?_ ?_<;>intro e
  ·have hlt : k < s.n := by omega
   have hd:=bts_drop hlt
   have hz:=edg_zero (b:=s.byte k) (r:=(bts s).drop (k + 1))
   rw [← hd] at hz
   rw [hd, cnt_cons] at hX
   apply gtt
   apply Mid.bB
   refine tbe1 (sp118 (by first|assumption|omega|rfl|(dsimp;omega)) (by first|assumption|omega|rfl|(dsimp;omega)) H) L fun h H L => ?_
   apply bI
   refine Tri.eql ?_ ?_<;>intro e2
   ·rw [hz.1 (Int.ofNat.inj e2), if_pos (show (!false) = true from rfl)] at hX
    apply bS
    apply pT
    apply nT
    refine aD (by omega) ?_
    refine Tri.tail (ih (k + 1) h l (by omega) (by omega) (by omega) H) L (fun e => e) fun v h B hq H L => ⟨B, ?_, H⟩
    rw [show k + 1 - i + cnt (fun b => !isEnd b) ((bts s).drop (k + 1)) = X by omega] at hq
    exact hq
   ·rw [if_neg (show ¬ (!isEnd (s.byte k)) = true from fun c => e2 (congrArg Int.ofNat (hz.2 (by simpa using c))))] at hX
    apply bS
    apply pT
    apply nF
    refine Tri.subN (by omega) (by omega) ?_
    rw [show (k : Int) - (i : Int) = (X : Int) by omega]
    exact dn H L
  ·rw [bts_end (by omega)] at hX
   apply gft
   apply pF
   apply nF
   refine Tri.subN (by omega) (by omega) ?_
   rw [show (k : Int) - (i : Int) = (X : Int) by rw [← hX]; show _ = ((k - i + 0 : Nat) : Int); omega]
   exact dn H L
theorem sp68 {s : Bs} {i : Nat} (hs : s.n ≤ 60000) (hi : i ≤ s.n) (H : St l h) : Tri h true l (rNo (.tuple [.int .i64 ((nt ((bts s).drop i)).2.2 : Nat), .bool (nt ((bts s).drop i)).1])) (M 68 [.str s, .int .i64 (i : Int)] h):=by
 have ih23:=fun (h : Hp) (l : List Asn) (H : St l h) => line_from hs (s.n + 1) i h l (by omega) hi (Nat.le_refl _) H
 rw [Nat.sub_self, Nat.zero_add] at ih23
 generalize hX : nt ((bts s).drop i) = X
 unfold nt at hX
 rw [List.drop_drop] at hX
 refine t2 e68 fun L => ?_
 unfold B68
 refine tbe1 (sp120 (by first|assumption|omega|rfl|(dsimp;omega)) (by first|assumption|omega|rfl|(dsimp;omega)) (by first|assumption|omega|rfl|(dsimp;omega)) H) L fun h H L => ?_
 refine Tri.not ?_
 rw [show bts ⟨2, 11565⟩ = [45, 45] from rfl]
 cases hp : [45, 45].isPrefixOf ((bts s).drop i) with
 | false =>
  rw [hp, if_neg (by decide)] at hX
  subst hX
  apply nT
  exact dn H L
 | true =>
  have h2 : i + 2 ≤ s.n:=by rw [pfx_take, decide_eq_true_iff, List.length_drop, bts_len] at hp; have:=hp.1; simp only [List.length_cons, List.length_nil] at this; omega
  rw [hp, if_pos rfl] at hX
  have y2n:=lng_le ((bts s).drop (i + 2))
  rw [List.length_drop, bts_len] at y2n
  apply nF
  refine aD (by omega) ?_
  refine tb1 (sp122 (by first|assumption|omega|rfl|(dsimp;omega)) (by first|assumption|omega|rfl|(dsimp;omega)) H) L fun v h B hq42 H L => ?_
  obtain ⟨z42, nz42, ez42, rfl, rfl⟩:=hq42
  refine Tri.ext rfl ?_
  refine Tri.ext rfl ?_
  refine Tri.ext rfl ?_
  generalize lng ((bts s).drop (i + 2)) = y at hX y2n ⊢
  obtain ⟨y1, y2, y3⟩:=y
  dsimp only at hX y2n ⊢
  cases y3 with
  | true =>
   have:=y2n rfl
   rw [if_pos rfl] at hX
   apply nT
   refine Tri.eql ?_ ?_<;>intro e
   ·rw [if_pos (show y2 = 0 from Int.ofNat.inj e)] at hX
    subst hX
    apply nT
    exact dn H L
   ·rw [if_neg (show ¬ y2 = 0 from fun c => e (congrArg Int.ofNat c))] at hX
    subst hX
    apply nF
    refine aD (by omega) ?_
    exact dn H L
  | false =>
   rw [if_neg (by decide)] at hX
   subst hX
   apply nF
   refine te1 (ih23 _ _ H) L
end
end Go.LT
end
