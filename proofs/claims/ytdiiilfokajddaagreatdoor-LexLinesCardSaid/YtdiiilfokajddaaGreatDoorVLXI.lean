/- A part of the proof. -/
import Derived.Test.YtdiiilfokajddaaGreatDoorVLXG
set_option linter.all false
set_option warn.classDefReducibility false
noncomputable section
section
open Go Go.Mid Go.Proofs
set_option maxRecDepth 100000
namespace Go.LX
section
variable {l F : List Asn} {h h0 : Hp} {ro : Bool} {Q : V → List Asn → Prop} {k : V → VH} {K : V → Hp → VH} {v lV : V} {i j n : Nat}
def WD : Bs:=⟨113, 17114727619812652865831592289240362729846247184396431686340976947246213244203127547449191376236204538493561187876213366597712742219312077217799013184980281018523815296416470444940759774119422513229535319500938016196420794042916494387837719131367459550913945883633037238560⟩
def wrd (L : List Nat) : Bool:=!decide (L = []) && (!hasB (L.map UInt8.ofNat) (Bs.l ⟨1, 32⟩) && hasB WD.l (([32] ++ L ++ [32]).map UInt8.ofNat))
theorem sp24 {s : Bs} (hs : s.n ≤ 70000) (H : St l h) : Tri h true l (rNo (.bool (wrd (bts s)))) (M 24 [.str s] h):=by
 refine t1 e24 fun L => ?_
 unfold B24
 rw [show (⟨113, 17114727619812652865831592289240362729846247184396431686340976947246213244203127547449191376236204538493561187876213366597712742219312077217799013184980281018523815296416470444940759774119422513229535319500938016196420794042916494387837719131367459550913945883633037238560⟩ : Bs) = WD from rfl]
 have hWD : WD.n = 113:=rfl
 have eWD : (bts WD).map UInt8.ofNat = WD.l:=(l_bts WD).symm
 unfold wrd
 generalize WD = W at hWD eWD ⊢
 refine Tri.strNeL ?_
 rw [show bts ⟨0, 0⟩ = [] from rfl]
 cases h1 : decide (bts s = []) with
 | true =>
  refine Tri.eqv (guard_ft _ _ _) ?_
  refine Tri.eqv (pick_f _ _ _) ?_
  refine Tri.eqv (guard_ft _ _ _) ?_
  refine Tri.eqv (pick_f _ _ _) ?_
  exact Tri.done (B:=[]) ⟨rfl, rfl⟩ H L
 | false =>
  refine Tri.eqv (guard_tt _ _ _) ?_
  refine Tri.eqv (bind_bind _ _ _) ?_
  refine Tri.bind (sp58 (by first | rfl | assumption | omega | (dsimp only; omega)) H) L (fun _ => rfl) fun v h B hq42 H L => ?_
  obtain ⟨rfl, rfl⟩:=hq42
  refine Tri.eqv (bind_notS _ _) ?_
  refine Tri.not ?_
  refine Tri.bs ?_
  refine Tri.eqv (pick_t _ _ _) ?_
  cases h2 : hasB ((bts s).map UInt8.ofNat) (Bs.l ⟨1, 32⟩) with
  | true =>
   refine Tri.eqv (guard_ft _ _ _) ?_
   refine Tri.eqv (pick_f _ _ _) ?_
   exact Tri.done (B:=[]) ⟨rfl, rfl⟩ H L
  | false =>
   refine Tri.eqv (guard_tt _ _ _) ?_
   refine Tri.eqv (bind_strS _ _) ?_
   refine Tri.strCat (by simp only [*]; omega) fun z82 nz82 ez82 => ?_
   refine Tri.eqv (bind_strS _ _) ?_
   refine Tri.strCat (by simp only [*]; omega) fun z84 nz84 ez84 => ?_
   refine Tri.eqv (bind_bind _ _ _) ?_
   refine Tri.bind (sp58 (by first | rfl | assumption | omega | (dsimp only; omega)) H) L (fun _ => rfl) fun v h B hq86 H L => ?_
   obtain ⟨rfl, rfl⟩:=hq86
   refine Tri.bs ?_
   refine Tri.eqv (pick_t _ _ _) ?_
   rw [eWD, l_bts z84, ez84, ez82]
   exact Tri.done (B:=[]) ⟨rfl, rfl⟩ H L
structure Tk where
 k : Int
 z : List Nat
 N : Int
 n : Nat
 e : Int
def sgL : List Bs:=sgB.filterMap fun v => match v with | .str z => some z | _ => none
theorem sg_eq : sgB = sgL.map V.str:=rfl
theorem sg_len : sgL.length = 31:=rfl
theorem sg_max : ∀ z ∈ sgL, 1 ≤ z.n ∧ z.n ≤ 3:=by
 have h : sgL.all (fun z => Nat.ble 1 z.n && Nat.ble z.n 3) = true:=by kernel_rfl
 intro z hz
 have:=List.all_eq_true.1 h z hz
 rw [Bool.and_eq_true] at this
 exact ⟨Nat.le_of_ble_eq_true this.1, Nat.le_of_ble_eq_true this.2⟩
def sgn (L : List Nat) : List Bs → Tk
 | [] => ⟨0, [], 0, 0, if L.headD 0 = 47 ∨ L.headD 0 = 94 then 31 else 30⟩
 | z :: r => if (bts z).isPrefixOf L then ⟨3, bts z, 0, z.n, 0⟩ else sgn L r
abbrev SG (sb : Nat) : Asn:=vc false (.slice sb 0 31 31 false) 9 1 sgB
abbrev sgV (sb : Nat) : V:=.slice sb 0 31 31 false
def rTk (rb : Nat) (c : List V) (sb : Nat) (t : Tk) : V → List Asn → Prop:=fun w B => ∃ z : Bs, z.n = t.z.length ∧ bts z = t.z ∧ w = .tuple [tokV t.k z t.N 0, .int .i64 (t.n : Nat), .int .i64 t.e] ∧ B = [Mid.row rb c, SG sb]
theorem sgn_ok {rb b0 sb a ln : Nat} {s : Bs} (hs : s.n ≤ 70000) (ha : a < s.n) : ∀ (m i : Nat) (h : Hp) (l : List Asn), i + m = 31 → St (Mid.row rb (rc s a ln (sgV sb)) :: Mid.row b0 [.int .u8 0, .str ⟨0, 0⟩, .int .i64 0, .int .i64 0] :: SG sb :: l) h →
 ∀ X, sgn ((bts s).drop a) (sgL.drop i) = X → Tri h false l (rTk rb (rc s a ln (sgV sb)) sb X) (M 17 [.ptr rb 0, .ptr b0 0, .int .u8 (s.byte a : Nat), sgV sb, .int .i64 31, .int .i64 (i : Int)] h):=by
 intro m
 induction m with
 | zero =>
  intro i h l hi H X hX
  refine t6 e17 fun L => ?_
  unfold B17
  skip
  refine Tri.lss (fun e => by omega) (fun e => ?_)
  rw [show sgL.drop i = [] from List.drop_eq_nil_of_le (by rw [sg_len]; omega), sgn, bts_drop ha, List.headD_cons] at hX
  refine Tri.iff ?_
  refine Tri.eql (fun e1 => ?_) (fun e1 => ?_)
  ·rw [if_pos (.inl (Int.ofNat.inj e1))] at hX
   subst hX
   refine Tri.eqv (guard_tf _ _ _) ?_
   refine Tri.eqv (pick_t _ _ _) ?_
   refine Tri.ift ?_
   refine Tri.bldS rfl ?_
   refine Tri.stores 1 (by decide) H rfl rfl (Nat.le_of_ble_eq_true rfl) L (fun e => nomatch e) (by first | rfl | assumption) fun h H L => ?_
   refine Tri.loads 1 (by decide) H rfl (Nat.le_of_ble_eq_true rfl) ?_
   exact Tri.done (B:=[_, _]) ⟨⟨0, 0⟩, rfl, rfl, rfl, rfl⟩ H.x1 L
  ·refine Tri.eqv (guard_ff _ _ _) ?_
   refine Tri.eqv (bind_intS _ _) ?_
   refine Tri.eql (fun e2 => ?_) (fun e2 => ?_)
   ·rw [if_pos (.inr (Int.ofNat.inj e2))] at hX
    subst hX
    refine Tri.bs ?_
    refine Tri.eqv (pick_f _ _ _) ?_
    refine Tri.ift ?_
    refine Tri.bldS rfl ?_
    refine Tri.stores 1 (by decide) H rfl rfl (Nat.le_of_ble_eq_true rfl) L (fun e => nomatch e) (by first | rfl | assumption) fun h H L => ?_
    refine Tri.loads 1 (by decide) H rfl (Nat.le_of_ble_eq_true rfl) ?_
    exact Tri.done (B:=[_, _]) ⟨⟨0, 0⟩, rfl, rfl, rfl, rfl⟩ H.x1 L
   ·rw [if_neg (fun c => c.elim (fun c => e1 (congrArg Int.ofNat c)) (fun c => e2 (congrArg Int.ofNat c)))] at hX
    subst hX
    refine Tri.bs ?_
    refine Tri.eqv (pick_f _ _ _) ?_
    refine Tri.iff ?_
    refine Tri.bldS rfl ?_
    refine Tri.stores 1 (by decide) H rfl rfl (Nat.le_of_ble_eq_true rfl) L (fun e => nomatch e) (by first | rfl | assumption) fun h H L => ?_
    refine Tri.loads 1 (by decide) H rfl (Nat.le_of_ble_eq_true rfl) ?_
    exact Tri.done (B:=[_, _]) ⟨⟨0, 0⟩, rfl, rfl, rfl, rfl⟩ H.x1 L
 | succ m ih =>
  intro i h l hi H X hX
  refine t6 e17 fun L => ?_
  unfold B17
  refine Tri.lss (fun e => ?_) (fun e => by omega)
  have hlt : i < sgL.length:=by rw [sg_len]; omega
  rw [List.drop_eq_getElem_cons hlt, sgn] at hX
  have hz:=sg_max _ (List.getElem_mem hlt)
  have hc : sgB[i]? = some (.str sgL[i]):=by rw [sg_eq, List.getElem?_map, List.getElem?_eq_getElem hlt]; rfl
  generalize sgL[i] = z at hX hz hc
  refine Tri.ift (Tri.idx (by omega) (by omega) ?_)
  refine Tri.loadV (i:=2) H rfl (w:=.str z) (by rw [show 0 + ((i : Int)).toNat * 1 = i by rw [Int.toNat_natCast]; omega]; exact hc) ?_
  refine Tri.bind (sp84 (by first | rfl | assumption | omega | (dsimp only; omega)) (by first | rfl | assumption | omega | (dsimp only; omega)) (by first | rfl | assumption | omega | (dsimp only; omega)) H) L (fun _ => rfl) fun v h B hq20 H L => ?_
  obtain ⟨rfl, rfl⟩:=hq20
  cases hp : (bts z).isPrefixOf ((bts s).drop a) with
  | true =>
   rw [hp, if_pos rfl] at hX
   subst hX
   refine Tri.ift ?_
   refine Tri.bldS rfl ?_
   refine Tri.eqv (bind_lenStr _ _) ?_
   refine Tri.lenStr ?_
   refine Tri.bs ?_
   refine Tri.stores 1 (by decide) H rfl rfl (Nat.le_of_ble_eq_true rfl) L (fun e => nomatch e) (by first | rfl | assumption) fun h H L => ?_
   refine Tri.loads 1 (by decide) H rfl (Nat.le_of_ble_eq_true rfl) ?_
   exact Tri.done (B:=[_, _]) ⟨z, (bts_len z).symm, rfl, rfl, rfl⟩ H.x1 L
  | false =>
   rw [hp, if_neg (by decide)] at hX
   refine Tri.iff ?_
   refine Tri.addN (by omega) (by omega) ?_
   exact Tri.tail (ih (i + 1) h l (by omega) H X hX) L (fun e => e) fun v h B hq H L => ⟨B, hq, H⟩
theorem wh_num (pz : Bs) : ∀ (L : List Nat) (s : Nat), ∀ b ∈ L.take (wh (nstep pz) s L), numC b = true
 | [], s, b, hb => by simp at hb
 | c :: L, s, b, hb => by
  rw [wh] at hb
  cases h1 : (nstep pz s c).1 with
  | false => rw [h1, if_neg (by decide), List.take_zero] at hb; exact nomatch hb
  | true =>
   rw [h1, if_pos rfl, List.take_succ_cons, List.mem_cons] at hb
   rcases hb with rfl | hb
   ·unfold nstep at h1
    unfold numC
    dsimp only at h1
    rw [Bool.or_eq_true, Bool.and_eq_true] at h1
    rcases h1 with h1 | ⟨h1, _⟩
    ·rw [h1]; rfl
    ·rw [Bool.or_assoc, h1, Bool.or_true]
   ·exact wh_num pz L _ b hb
def dig (L : List Nat) : Bool:=decide (0 < cnt isDg L) || (L.headD 0 == 46 && decide (0 < cnt isDg (L.drop 1)))
theorem cnt_head {p : Nat → Bool} {b : Nat} {r : List Nat} (h : 0 < cnt p (b :: r)) : p b = true:=by
 unfold cnt at h
 rw [wh] at h
 cases hp : p b with
 | true => rfl
 | false => rw [show ((fun (_ : Unit) b => (p b, ())) () b).1 = p b from rfl, hp, if_neg (by decide)] at h; exact absurd h (by decide)
theorem num_head {L : List Nat} (h : dig L = true) : ∀ b, (L.take (nml L)).head? = some b → b ≠ 43 ∧ b ≠ 45:=by
 intro b hb
 cases L with
 | nil => simp at hb
 | cons c r =>
  have hc : b = c:=by
   cases hn : nml (c :: r) with
   | zero => rw [hn] at hb; simp at hb
   | succ n => rw [hn, List.take_succ_cons, List.head?_cons, Option.some.injEq] at hb; exact hb.symm
  subst hc
  unfold dig at h
  rw [Bool.or_eq_true, Bool.and_eq_true, decide_eq_true_iff, beq_iff_eq] at h
  rcases h with h | h
  ·have h2 : isDg b = true := cnt_head h
   have:=in_of (show isIn 48 b 57 = true from h2); omega
  ·have : b = 46 := h.1; omega
def tk (L : List Nat) : Tk :=
 if isLt (L.headD 0) then ⟨if wrd (L.take (cnt (fun b => isLt b || isDg b) L)) then 2 else 1, L.take (cnt (fun b => isLt b || isDg b) L), 0, cnt (fun b => isLt b || isDg b) L, 0⟩
 else if dig L then ⟨(numb (L.take (nml L))).1, [], (numb (L.take (nml L))).2.1, nml L, (numb (L.take (nml L))).2.2⟩
 else if (lng L).2.2 then (if (lng L).2.1 = 0 then ⟨0, [], 0, 0, 30⟩ else ⟨5, (lng L).1, 0, (lng L).2.1, 0⟩)
 else if L.headD 0 = 34 ∨ L.headD 0 = 39 then ⟨5, (resU (unq (L.take (quo L)))).1, 0, quo L, (resU (unq (L.take (quo L)))).2⟩
 else if [91, 61].isPrefixOf L then ⟨0, [], 0, 0, 30⟩
 else sgn L sgL
theorem storeO4 {b o : Nat} {X : List V} {kk : Hp → VH} (hX : X.length = 4) : storeB (storeO Tryz.prog h 25 b o (.agg X)) (fun ob => kk (h.put b ob)) = storeN 4 (.ptr b o) (.agg X) h kk:=by
 have hsz : sz Tryz.prog 25 = some 4:=by kernel_rfl
 show _ = cellE (h.t.get b) fun c n g e => whenE (Nat.beq (vcells (.agg X)).length 4 && Nat.ble (o + 4) n && allOne (vcells (.agg X))) (kk (h.put b (.cells (c.setL o (vcells (.agg X))) n g e)))
 unfold storeO
 rw [hsz]
 cases hb : h.t.get b with
 | none => rfl
 | some ob =>
  cases ob with
  | cells c n g e =>
   show storeB (bif Nat.beq (vcells (.agg X)).length 4 && Nat.ble (o + 4) n && allOne (vcells (.agg X)) then some (.cells (c.setL o (vcells (.agg X))) n g e) else none) _ = whenE (Nat.beq (vcells (.agg X)).length 4 && Nat.ble (o + 4) n && allOne (vcells (.agg X))) (kk (h.put b (.cells (c.setL o (vcells (.agg X))) n g e)))
   cases (Nat.beq (vcells (.agg X)).length 4 && Nat.ble (o + 4) n && allOne (vcells (.agg X))) <;> rfl
  | map es => rfl
  | ro _ _ => rfl
  | dead => rfl
theorem Tri.digS {rb a ln : Nat} {s : Bs} {sv : V} {R : V → Hp → VH} (hs : s.n ≤ 70000) (ha : a < s.n) (H : St (Mid.row rb (rc s a ln sv) :: l) h) (L : Lo ro h0 h)
 (hk : ∀ h', St (Mid.row rb (rc s a ln sv) :: l) h' → Lo ro h0 h' → Tri h0 ro F Q (R (.bool (dig ((bts s).drop a))) h')) : Tri h0 ro F Q (bindS (M 50 [.ptr rb 0, .int .i64 0, .func 45 [] []] h) fun v9 h10 =>
   intS .gtr v9 (.int .i64 0) fun v11 => guardS v11 false (intS .eql (.int .u8 (s.byte a : Nat)) (.int .u8 46) fun v12 => some (v12, h10)) h10 fun v13 h14 =>
   guardS v13 true (bindS (M 50 [.ptr rb 0, .int .i64 1, .func 45 [] []] h14) fun v15 h16 => intS .gtr v15 (.int .i64 0) fun v17 => some (v17, h16)) h14 fun v18 h19 =>
   guardS v11 false (optS (pickV v13 v18 (.bool false)) fun v20 => some (v20, h19)) h19 fun v21 h22 => optS (pickV v11 (.bool true) v21) fun v23 => R v23 h22):=by
 have hd : ((bts s).drop a).headD 0 = s.byte a:=by rw [bts_drop ha]; rfl
 have hk2 : ∀ h' d, dig ((bts s).drop a) = d → St (Mid.row rb (rc s a ln sv) :: l) h' → Lo ro h0 h' → Tri h0 ro F Q (R (.bool d) h'):=fun h' d e => by subst e; exact hk h'
 unfold dig at hk2
 rw [hd, List.drop_drop] at hk2
 refine Tri.bind (f50 (fr:=0) (p:=isDg) (g:=.func 45 [] []) (fun b h l _ H => sp90 H) hs (by omega) (by omega) H) L (fun _ => rfl) fun v h B hq H L => ?_
 obtain ⟨rfl, rfl⟩:=hq
 refine Tri.gtr (fun e => ?_) (fun e => ?_)
 ·have e' : 0 < cnt isDg ((bts s).drop a) := Int.ofNat_lt.1 e
  have hk3:=hk2 h true (by rw [decide_eq_true e', Bool.true_or]) H L
  exact hk3
 ·rw [decide_eq_false (show ¬ 0 < cnt isDg ((bts s).drop a) from fun c => absurd e (Int.not_le.2 (Int.ofNat_lt.2 c))), Bool.false_or] at hk2
  refine Tri.eqv (guard_ff _ _ _) ?_
  refine Tri.eqv (bind_intS _ _) ?_
  refine Tri.eql (fun e2 => ?_) (fun e2 => ?_)
  ·rw [show (s.byte a == 46) = true from beq_iff_eq.2 (Int.ofNat.inj e2), Bool.true_and] at hk2
   refine Tri.bs ?_
   refine Tri.eqv (guard_tt _ _ _) ?_
   refine Tri.eqv (bind_bind _ _ _) ?_
   refine Tri.bind (f50 (fr:=1) (p:=isDg) (g:=.func 45 [] []) (fun b h l _ H => sp90 H) hs (by omega) (by omega) H) L (fun _ => rfl) fun v h B hq H L => ?_
   obtain ⟨rfl, rfl⟩:=hq
   refine Tri.eqv (bind_intS _ _) (Tri.gtr (fun e3 => ?_) (fun e3 => ?_))
   ·exact hk2 h true (decide_eq_true (Int.ofNat_lt.1 e3)) H L
   ·exact hk2 h false (decide_eq_false (fun c => absurd e3 (Int.not_le.2 (Int.ofNat_lt.2 c)))) H L
  ·rw [show (s.byte a == 46) = false from beq_eq_false_iff_ne.2 (fun c => e2 (congrArg Int.ofNat c)), Bool.false_and] at hk2
   exact hk2 h false rfl H L
theorem Tri.qS {b : Nat} {R : V → Hp → VH} (hk : Tri h0 ro F Q (R (.bool (decide (b = 34 ∨ b = 39))) h)) : Tri h0 ro F Q (intS .eql (.int .u8 (b : Int)) (.int .u8 34) fun v2 =>
 guardS v2 false (intS .eql (.int .u8 (b : Int)) (.int .u8 39) fun v4 => some (v4, h)) h fun v5 h6 => optS (pickV v2 (.bool true) v5) fun v7 => R v7 h6):=by
 refine Tri.eql (fun e => ?_) (fun e => ?_)
 ·rw [decide_eq_true (.inl (Int.ofNat.inj e))] at hk
  exact hk
 ·refine Tri.eqv (guard_ff _ _ _) ?_
  refine Tri.eqv (bind_intS _ _) ?_
  refine Tri.eql (fun e2 => ?_) (fun e2 => ?_)
  ·rw [decide_eq_true (.inr (Int.ofNat.inj e2))] at hk
   exact hk
  ·rw [decide_eq_false (fun c => c.elim (fun c => e (congrArg Int.ofNat c)) (fun c => e2 (congrArg Int.ofNat c)))] at hk
   exact hk
abbrev zeroT : List V:=[.int .u8 0, .str ⟨0, 0⟩, .int .i64 0, .int .i64 0]
theorem sp56 {rb sb a ln : Nat} {s : Bs} (hs : s.n ≤ 70000) (ha : a < s.n) (H : St (Mid.row rb (rc s a ln (sgV sb)) :: SG sb :: l) h) :
 Tri h false l (rTk rb (rc s a ln (sgV sb)) sb (tk ((bts s).drop a))) (M 56 [.ptr rb 0] h):=by
 have ih50a:=fun (p : Nat → Bool) (g : V) (hg : ∀ (b : Nat) (h : Hp) (l : List Asn), b < 256 → St l h → Tri h true l (rNo (.bool (p b))) (dynE M g [.int .u8 (b : Int)] h)) (h : Hp) (l : List Asn) (H : St (Mid.row rb (rc s a ln (sgV sb)) :: l) h) => f50 hg (rb:=rb) (fr:=0) hs (by omega) (by omega) H
 have ih86:=fun (h : Hp) (l : List Asn) (H : St (Mid.row rb (rc s a ln (sgV sb)) :: l) h) => sp86 (fr:=0) hs (by omega) H
 have ih19 : ∀ (b0 b1 : Nat) (k : Int) (z : Bs) (n : Nat) (h : Hp) (l : List Asn), St (Mid.row b1 [.int .u8 k, .str z, .int .i64 0, .int .i64 0] :: Mid.row rb (rc s a ln (sgV sb)) :: Mid.row b0 zeroT :: SG sb :: l) h →
  Tri h false l (rTk rb (rc s a ln (sgV sb)) sb ⟨k, bts z, 0, n, 0⟩) (M 19 [.ptr b0 0, .int .i64 (n : Int), .ptr b1 0] h):=by
  intro b0 b1 k z n h l H
  refine t3 e19 fun L => ?_
  unfold B19
  refine Tri.loads 0 (by decide) H rfl (Nat.le_of_ble_eq_true rfl) ?_
  refine Tri.stores 2 (by decide) H rfl rfl (Nat.le_of_ble_eq_true rfl) L (fun e => nomatch e) (by first | rfl | assumption) fun h H L => ?_
  refine Tri.loads 2 (by decide) H rfl (Nat.le_of_ble_eq_true rfl) ?_
  exact Tri.done (B:=[_, _]) ⟨z, (bts_len z).symm, rfl, rfl, rfl⟩ H.tl.x1 L
 rw [Nat.add_zero] at ih86
 generalize hX : tk ((bts s).drop a) = X
 unfold tk at hX
 rw [show ((bts s).drop a).headD 0 = s.byte a by rw [bts_drop ha]; rfl] at hX
 refine t1 e56 fun L => ?_
 unfold B56
 refine Tri.newS H L fun b0 h hb0 H L => ?_
 replace H:=H.u1
 refine Tri.nil ?_
 refine Tri.addr ?_
 refine Tri.load 0 H rfl rfl ?_
 refine Tri.nil ?_
 refine Tri.addr ?_
 refine Tri.load 0 H rfl rfl ?_
 refine Tri.idxStr (by omega) (by omega) ?_
 rw [show ((a : Int)).toNat = a from rfl]
 refine Tri.digS hs ha H L fun h H L => ?_
 refine Tri.bind (ih86 _ _ H) L (fun e => e) fun v h B hq20 H L => ?_
 obtain ⟨z20, nz20, ez20, rfl, rfl⟩:=hq20
 refine Tri.ext rfl ?_
 refine Tri.ext rfl ?_
 refine Tri.ext rfl ?_
 refine Tri.bind (sp92 H) L (fun _ => rfl) fun v h B hq24 H L => ?_
 obtain ⟨rfl, rfl⟩:=hq24
 cases h1 : isLt (s.byte a) with
 | true =>
  rw [h1, if_pos rfl] at hX
  have hc:=cnt_le (fun b => isLt b || isDg b) ((bts s).drop a)
  rw [List.length_drop, bts_len] at hc
  refine Tri.bind (ih50a (fun b => isLt b || isDg b) (.func 47 [] []) (fun b h l _ H => sp94 H) h _ H) L (fun _ => rfl) fun v h B hq H L => ?_
  obtain ⟨rfl, rfl⟩:=hq
  rw [Nat.add_zero]
  generalize cnt (fun b => isLt b || isDg b) ((bts s).drop a) = C at hc hX ⊢
  refine Tri.newS H L fun b40 h hb40 H L => ?_
  refine Tri.nil ?_
  refine Tri.addr ?_
  refine Tri.load 1 H rfl rfl ?_
  refine Tri.nil ?_
  refine Tri.addr ?_
  refine Tri.load 1 H rfl rfl ?_
  refine Tri.nil ?_
  refine Tri.addr ?_
  refine Tri.load 1 H rfl rfl ?_
  refine Tri.addN (by omega) (by omega) ?_
  refine Tri.cutB (by omega) (by omega) (by omega) fun z51 nz51 ez51 => ?_
  refine Tri.bldS rfl ?_
  refine Tri.stores 0 (by decide) H rfl rfl (Nat.le_of_ble_eq_true rfl) L (fun e => nomatch e) (by first | rfl | assumption) fun h H L => ?_
  refine Tri.addr ?_
  refine Tri.load 0 H rfl rfl ?_
  refine Tri.bind (sp24 (by first | rfl | assumption | omega | (dsimp only; omega)) H) L (fun _ => rfl) fun v h B hq56 H L => ?_
  obtain ⟨rfl, rfl⟩:=hq56
  have e51 : bts z51 = ((bts s).drop a).take C:=by rw [ez51, show ((a : Int) + (C : Int)).toNat - ((a : Int)).toNat = C by omega]; rfl
  rw [← e51] at hX
  cases hw : wrd (bts z51) with
  | true =>
   rw [hw, if_pos rfl] at hX
   subst hX
   refine Tri.ift ?_
   refine Tri.addr ?_
   refine Tri.store 0 H rfl (Nat.le_of_ble_eq_true rfl) L (fun e => nomatch e) (by first | rfl | assumption) fun h H L => ?_
   refine Tri.tail (ih19 _ _ _ _ _ _ _ H) L (fun e => e) fun v h B hq H L => ⟨B, hq, H⟩
  | false =>
   rw [hw, if_neg (by decide)] at hX
   subst hX
   refine Tri.iff ?_
   refine Tri.tail (ih19 _ _ _ _ _ _ _ H) L (fun e => e) fun v h B hq H L => ⟨B, hq, H⟩
 | false =>
  rw [h1, if_neg (by decide)] at hX
  cases h2 : dig ((bts s).drop a) with
  | true =>
   rw [h2, if_pos rfl] at hX
   have hc:=nml_le ((bts s).drop a)
   rw [List.length_drop, bts_len] at hc
   have hnum:=wh_num (pwz ((bts s).drop a)) ((bts s).drop a) 0
   have hhead:=num_head h2
   rw [show wh (nstep (pwz ((bts s).drop a))) 0 ((bts s).drop a) = nml ((bts s).drop a) from rfl] at hnum
   have ih96:=fun (h : Hp) (l : List Asn) (H : St (Mid.row rb (rc s a ln (sgV sb)) :: l) h) => sp96 hs (by omega) H
   generalize nml ((bts s).drop a) = C at hc hX hnum hhead ih96 ⊢
   refine Tri.iff ?_
   refine Tri.ift ?_
   refine Tri.bind (ih96 _ _ H) L (fun e => e) fun v h B hq62 H L => ?_
   obtain ⟨rfl, rfl⟩:=hq62
   refine Tri.newS H L fun b63 h hb63 H L => ?_
   refine Tri.nil ?_
   refine Tri.addr ?_
   refine Tri.load 1 H rfl rfl ?_
   refine Tri.nil ?_
   refine Tri.addr ?_
   refine Tri.load 1 H rfl rfl ?_
   refine Tri.nil ?_
   refine Tri.addr ?_
   refine Tri.load 1 H rfl rfl ?_
   refine Tri.addN (by omega) (by omega) ?_
   refine Tri.cutB (by omega) (by omega) (by omega) fun z74 nz74 ez74 => ?_
   have Ho75:=H
   have e74 : bts z74 = ((bts s).drop a).take C:=by rw [ez74, show ((a : Int) + (C : Int)).toNat - ((a : Int)).toNat = C by omega]; rfl
   rw [← e74] at hX hnum hhead
   refine Tri.wroteC (sp98 (by omega) hnum hhead (H.draw _)) L (fun v h2 e => by rw [e]; rfl) fun v h2 h B hq H2 hn hl eh H L => ?_
   obtain ⟨rfl, rfl⟩:=hq
   refine Tri.ext rfl (Tri.ext rfl ?_)
   have key:=storeO4 (h:=h) (b:=b63) (o:=0) (X:=[.int .u8 (numb (bts z74)).1, .str ⟨0, 0⟩, .int .i64 (numb (bts z74)).2.1, .int .i64 0]) (kk:=fun h' => loadN 4 (.ptr b63 0) h' fun v78 => storeN 4 (.ptr b0 0) v78 h' fun h79 => loadN 4 (.ptr b0 0) h79 fun v80 => some (.tuple [v80, .int .i64 (C : Nat), .int .i64 (numb (bts z74)).2.2], h79)) rfl
   refine Tri.eqv key ?_
   refine Tri.stores 0 (by decide) H rfl rfl (Nat.le_of_ble_eq_true rfl) L (fun e => nomatch e) (by first | rfl | assumption) fun h H L => ?_
   refine Tri.loads 0 (by decide) H rfl (Nat.le_of_ble_eq_true rfl) ?_
   refine Tri.stores 2 (by decide) H rfl rfl (Nat.le_of_ble_eq_true rfl) L (fun e => nomatch e) (by first | rfl | assumption) fun h H L => ?_
   refine Tri.loads 2 (by decide) H rfl (Nat.le_of_ble_eq_true rfl) ?_
   subst hX
   exact Tri.done (B:=[_, _]) ⟨⟨0, 0⟩, rfl, rfl, rfl, rfl⟩ H.tl.x1 L
  | false =>
   rw [h2, if_neg (by decide)] at hX
   have hle:=lng_le ((bts s).drop a)
   rw [List.length_drop, bts_len] at hle
   generalize lng ((bts s).drop a) = G at hX hle nz20 ez20 ⊢
   obtain ⟨G1, G2, G3⟩:=G
   dsimp only at hX hle nz20 ez20 ⊢
   cases G3 with
   | true =>
    rw [if_pos rfl] at hX
    refine Tri.iff ?_
    refine Tri.iff ?_
    refine Tri.eqv (guard_tt _ _ _) ?_
    refine Tri.eqv (bind_intS _ _) ?_
    refine Tri.eql (fun e1 => ?_) (fun e1 => ?_)
    ·rw [if_pos (show G2 = 0 from Int.ofNat.inj e1)] at hX
     subst hX
     refine Tri.bs ?_
     refine Tri.eqv (pick_t _ _ _) ?_
     refine Tri.ift ?_
     refine Tri.bldS rfl ?_
     refine Tri.stores 1 (by decide) H rfl rfl (Nat.le_of_ble_eq_true rfl) L (fun e => nomatch e) (by first | rfl | assumption) fun h H L => ?_
     refine Tri.loads 1 (by decide) H rfl (Nat.le_of_ble_eq_true rfl) ?_
     exact Tri.done (B:=[_, _]) ⟨⟨0, 0⟩, rfl, rfl, rfl, rfl⟩ H.x1 L
    ·rw [if_neg (show ¬ G2 = 0 from fun c => e1 (congrArg Int.ofNat c))] at hX
     subst hX
     refine Tri.bs ?_
     refine Tri.eqv (pick_t _ _ _) ?_
     refine Tri.iff ?_
     refine Tri.ift ?_
     refine Tri.bldS rfl ?_
     refine Tri.stores 1 (by decide) H rfl rfl (Nat.le_of_ble_eq_true rfl) L (fun e => nomatch e) (by first | rfl | assumption) fun h H L => ?_
     refine Tri.loads 1 (by decide) H rfl (Nat.le_of_ble_eq_true rfl) ?_
     exact Tri.done (B:=[_, _]) ⟨z20, nz20, ez20, rfl, rfl⟩ H.x1 L
   | false =>
    rw [if_neg (by decide)] at hX
    refine Tri.iff ?_
    refine Tri.iff ?_
    refine Tri.eqv (guard_ft _ _ _) ?_
    refine Tri.eqv (pick_f _ _ _) ?_
    refine Tri.iff ?_
    refine Tri.iff ?_
    refine Tri.qS ?_
    by_cases hq : s.byte a = 34 ∨ s.byte a = 39
    ·rw [if_pos hq] at hX
     rw [decide_eq_true hq]
     have hc:=quo_le ((bts s).drop a) (by rw [bts_drop ha]; exact List.cons_ne_nil _ _)
     rw [List.length_drop, bts_len] at hc
     have ih100:=fun (h : Hp) (l : List Asn) (H : St (Mid.row rb (rc s a ln (sgV sb)) :: l) h) => sp100 hs ha H
     generalize quo ((bts s).drop a) = C at hc hX ih100 ⊢
     refine Tri.ift ?_
     refine Tri.bind (ih100 _ _ H) L (fun _ => rfl) fun v h B hq181 H L => ?_
     obtain ⟨rfl, rfl⟩:=hq181
     refine Tri.nil ?_
     refine Tri.addr ?_
     refine Tri.load 0 H rfl rfl ?_
     refine Tri.nil ?_
     refine Tri.addr ?_
     refine Tri.load 0 H rfl rfl ?_
     refine Tri.nil ?_
     refine Tri.addr ?_
     refine Tri.load 0 H rfl rfl ?_
     refine Tri.addN (by omega) (by omega) ?_
     refine Tri.cutB (by omega) (by omega) (by omega) fun z192 nz192 ez192 => ?_
     have Ho193:=H
     refine Tri.wrote (sp102 (by first | rfl | assumption | omega | (dsimp only; omega)) (H.draw _)) L (fun e => e) fun v h2 h B hq193 H2 hn193 hl193 eh193 H L => ?_
     obtain ⟨z193, nz193, ez193, rfl, rfl⟩:=hq193
     refine Tri.ext rfl ?_
     refine Tri.ext rfl ?_
     refine Tri.bldS rfl ?_
     refine Tri.stores 1 (by decide) H rfl rfl (Nat.le_of_ble_eq_true rfl) L (fun e => nomatch e) (by first | rfl | assumption) fun h H L => ?_
     refine Tri.loads 1 (by decide) H rfl (Nat.le_of_ble_eq_true rfl) ?_
     have e192 : bts z192 = ((bts s).drop a).take C:=by rw [ez192, show ((a : Int) + (C : Int)).toNat - ((a : Int)).toNat = C by omega]; rfl
     rw [← e192] at hX
     subst hX
     exact Tri.done (B:=[_, _]) ⟨z193, nz193, ez193, rfl, rfl⟩ H.x1 L
    ·rw [if_neg hq] at hX
     rw [decide_eq_false hq]
     refine Tri.iff ?_
     refine Tri.nil ?_
     refine Tri.addr ?_
     refine Tri.load 0 H rfl rfl ?_
     refine Tri.nil ?_
     refine Tri.addr ?_
     refine Tri.load 0 H rfl rfl ?_
     refine Tri.cutLo (by omega) (by omega) fun z207 nz207 ez207 => ?_
     refine Tri.bind (sp104 (by first | rfl | assumption | omega | (dsimp only; omega)) (by first | rfl | assumption | omega | (dsimp only; omega)) H) L (fun _ => rfl) fun v h B hq208 H L => ?_
     obtain ⟨rfl, rfl⟩:=hq208
     have e207 : bts z207 = (bts s).drop a:=ez207
     rw [e207, show bts ⟨2, 15707⟩ = [91, 61] from rfl]
     cases h3 : [91, 61].isPrefixOf ((bts s).drop a) with
     | true =>
      rw [h3, if_pos rfl] at hX
      subst hX
      refine Tri.ift ?_
      refine Tri.bldS rfl ?_
      refine Tri.stores 1 (by decide) H rfl rfl (Nat.le_of_ble_eq_true rfl) L (fun e => nomatch e) (by first | rfl | assumption) fun h H L => ?_
      refine Tri.loads 1 (by decide) H rfl (Nat.le_of_ble_eq_true rfl) ?_
      exact Tri.done (B:=[_, _]) ⟨⟨0, 0⟩, rfl, rfl, rfl, rfl⟩ H.x1 L
     | false =>
      rw [h3, if_neg (by decide)] at hX
      refine Tri.iff ?_
      refine Tri.nil ?_
      refine Tri.addr ?_
      refine Tri.load 0 H rfl rfl ?_
      refine Tri.eqv (bind_lenSl _ _) ?_
      refine Tri.lenSl ?_
      refine Tri.bs ?_
      exact Tri.tail (sgn_ok hs ha 31 0 h l rfl H X hX) L (fun e => e) fun v h B hq H L => ⟨B, hq, H⟩
end
end Go.LX
end
