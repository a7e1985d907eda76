/- A part of the proof. -/
import Derived.Test.YteeahoagedfehaaGreatDoorUHVe
set_option linter.all false
set_option warn.classDefReducibility false
noncomputable section
section
open Go Go.Mid Go.Proofs
set_option maxRecDepth 100000
namespace Go.MS.P
section
variable {l F : List Asn} {h h0 : Hp} {ro : Bool} {Q : V → List Asn → Prop} {k : V → VH} {K : V → Hp → VH} {v lV : V} {X X' : HI} {Y Y' : DI} {Z Z' : BI} {x y : IO} {i j n : Nat}
theorem pure_of {a b : Hp} (e : a.n ≤ b.low) : pureB a b = true:=Nat.ble_eq_true_of_le e
theorem bind_fldN (off s : Nat) (cs : List V) (k : V → VH) (K : V → Hp → VH) : bindS (fldN off s (.agg cs) k) K = bindS (k (.agg ((cs.drop off).take s))) K:=rfl
theorem Tri.bfld {off : Nat} {cs : List V} {w : V} (hw : nth off cs = some w) (hk : Tri h0 ro F Q (bindS (k w) K)) : Tri h0 ro F Q (bindS (fld1 off (.agg cs) k) K):=by
 have e : fld1 off (.agg cs) k = k w:=by show optS (nth off cs) k = k w; rw [hw]; rfl
 rw [e]; exact hk
theorem Tri.neV0 {a b : Vl} (e : a = b) (hK : Tri h0 ro F Q (K (.bool false) h)) : Tri h0 ro F Q (bindS (vh h (eqOp .neq (cmpV [(0, .int .u8), (1, .int .i64)] (vlV a) (vlV b)))) K):=by
 refine Tri.neVl ?_
 rw [decide_eq_true e]; exact hK
theorem Tri.eqV0 {a b : Vl} (e : a ≠ b) (hK : Tri h0 ro F Q (K (.bool false) h)) : Tri h0 ro F Q (bindS (vh h (eqOp .eql (cmpV [(0, .int .u8), (1, .int .i64)] (vlV a) (vlV b)))) K):=by
 refine Tri.eqVl ?_
 rw [decide_eq_false e]; exact hK
theorem eqR_sym (op : Int) (a b : Vl) : eqR op a b = eqR op b a:=by
 unfold eqR
 rw [show decide (a = b) = decide (b = a) from by rw [Bool.eq_iff_iff, decide_eq_true_iff, decide_eq_true_iff]; exact eq_comm]
theorem eqR_ne (a b : Vl) : eqR 12 a b ≠ eqR 13 a b:=by
 unfold eqR
 cases decide (a = b) <;> decide
def valF (op : Int) (a b : Vl) : Vl:=if op = 12 ∨ op = 13 then eqR op a b else if op ≤ 3 then (3, arF op a.2 b.2) else tru (cmpB op a.2 b.2)
theorem bin_any {op c d c' d' : Int} (ho : op = 12 ∨ op = 13 ∨ (c = 3 ∧ c' = 3 ∧ (op = 1 ∨ op = 2 ∨ op = 3 ∨ op = 14 ∨ op = 15 ∨ op = 16 ∨ op = 17))) (P : PW X) (H : St (HK X :: l) h) :
 Tri h true l (rHK X (outV 1 (valF op (c, d) (c', d')) (0, 0) .nilSlice 0)) (M 26 [.ptr X.hb 0, .int .u8 op, .agg [.int .u8 c, .int .i64 d], .agg [.int .u8 c', .int .i64 d']] h):=by
 by_cases h1 : op = 12 ∨ op = 13
 ·have e : valF op (c, d) (c', d') = eqR op (c, d) (c', d') := if_pos h1
  rw [e]
  exact bin_eq (a:=(c, d)) (b:=(c', d')) h1 P H
 ·obtain ⟨rfl, rfl, h2⟩ : c = 3 ∧ c' = 3 ∧ (op = 1 ∨ op = 2 ∨ op = 3 ∨ op = 14 ∨ op = 15 ∨ op = 16 ∨ op = 17) := by omega
  by_cases h3 : op ≤ 3
  ·have e : valF op (3, d) (3, d') = (3, arF op d d') := by unfold valF; rw [if_neg h1, if_pos h3]
   rw [e]
   exact bin_ar (by omega) H
  ·have e : valF op (3, d) (3, d') = tru (cmpB op d d') := by unfold valF; rw [if_neg h1, if_neg h3]
   rw [e]
   exact bin_or (by omega) H
theorem idx_at {c0 c1 c2 d : Bool} {i : Int} (hi : 0 ≤ i ∧ i < 3) (hd : [c0, c1, c2][i.toNat]? = some d) (k : V → VH) : idxA1 1 3 (.agg [.bool c0, .bool c1, .bool c2]) (.int .i64 i) k = k (.bool d):=by
 obtain rfl | rfl | rfl : i = 0 ∨ i = 1 ∨ i = 2:=by omega
 all_goals
  cases hd
  rfl
theorem step95 {a9 a14 a15 a16 a17 : V} {c0 c1 c2 d : Bool} {c i : Int} {h : Hp} (hi : 0 ≤ i ∧ i < 3) (hd : [c0, c1, c2][i.toNat]? = some d) (hc : 0 ≤ c ∧ c ≤ 10)
 (hk : Tri h0 ro F Q (M 95 [a9, a14, a15, a16, a17, .int .i64 (c + if d then 1 else 0), .agg [.bool c0, .bool c1, .bool c2], .int .i64 (i + 1)] h)) :
 Tri h0 ro F Q (M 95 [a9, a14, a15, a16, a17, .int .i64 c, .agg [.bool c0, .bool c1, .bool c2], .int .i64 i] h):=by
 refine Tri.call (x:=B95 M a9 a14 a15 a16 a17 (.int .i64 c) (.agg [.bool c0, .bool c1, .bool c2]) (.int .i64 i) h) (fun p => e95 _ _ _ _ _ _ _ _ h p) ?_
 unfold B95
 refine Tri.lss (fun _ => ?_) (fun e => by omega)
 apply nT
 refine Tri.call (x:=B97 M a9 a14 a15 a16 a17 (.int .i64 c) (.agg [.bool c0, .bool c1, .bool c2]) (.int .i64 i) h) (fun p => e97 _ _ _ _ _ _ _ _ h p) ?_
 unfold B97
 rw [idx_at hi hd]
 have last : ∀ {c : Int}, Tri h0 ro F Q (M 95 [a9, a14, a15, a16, a17, .int .i64 c, .agg [.bool c0, .bool c1, .bool c2], .int .i64 (i + 1)] h) → Tri h0 ro F Q (M 99 [a9, a14, a15, a16, a17, .int .i64 c, .agg [.bool c0, .bool c1, .bool c2], .int .i64 i] h) := fun {c} hk => by
  refine Tri.call (x:=B99 M a9 a14 a15 a16 a17 (.int .i64 c) (.agg [.bool c0, .bool c1, .bool c2]) (.int .i64 i) h) (fun p => e99 _ _ _ _ _ _ _ _ h p) ?_
  unfold B99
  refine Tri.addN (by omega) (by omega) ?_
  exact hk
 cases d with
 | true =>
  apply nT
  refine Tri.addN (by omega) (by omega) ?_
  exact last hk
 | false =>
  apply nF
  rw [if_neg (by decide), Int.add_zero] at hk
  exact last hk
theorem sp22 (H : St l h) : Tri h true l (rNo (.bool true)) (M 22 [] h):=by
 have e : M 22 [] h = some (.bool true, h):=by
  refine (@lim_F Tryz.prog (orc fnA Inv) labs 11 _ _ _).2 ⟨0, ?_⟩
  rfl
 rw [e]
 exact Tri.done (B:=[]) ⟨rfl, rfl⟩ H (Lo.refl _ _)
theorem end95 {bb b14 b15 : Nat} {k m : Int} {lt gt eq : Bool} {dV lV : V} {X : HI} {h : Hp} (W : PW X) (h3 : (lt = true ∧ gt = false ∧ eq = false) ∨ (lt = false ∧ gt = true ∧ eq = false) ∨ (lt = false ∧ gt = false ∧ eq = true)) (q15 : truB (tru (cmpB 15 k m)) = !gt) (q17 : truB (tru (cmpB 17 k m)) = !lt)
 (L : Lo false h0 h) (H : St (HK X :: Mid.row b15 [.int .u8 3, .int .i64 m] :: Mid.row b14 [.int .u8 3, .int .i64 k] :: Mid.row bb [.ptr X.hb 0, dV, lV] :: l) h) :
 Tri h0 false l (rNo (.bool true)) (M 95 [.ptr bb 0, .ptr b14 0, .ptr b15 0, .bool lt, .bool gt, .int .i64 0, .agg [.bool lt, .bool gt, .bool eq], .int .i64 0] h):=by
 refine step95 ⟨by decide, by decide⟩ rfl ⟨by decide, by decide⟩ ?_
 refine step95 ⟨by decide, by decide⟩ rfl ⟨by split <;> decide, by split <;> decide⟩ ?_
 refine step95 ⟨by decide, by decide⟩ rfl ⟨by cases lt <;> cases gt <;> decide, by cases lt <;> cases gt <;> decide⟩ ?_
 rw [show (.int .i64 (0 + (if lt = true then 1 else 0) + (if gt = true then 1 else 0) + if eq = true then 1 else 0) : V) = .int .i64 1 from by
  rcases h3 with ⟨rfl, rfl, rfl⟩ | ⟨rfl, rfl, rfl⟩ | ⟨rfl, rfl, rfl⟩ <;> rfl]
 refine Tri.call (x:=B95 M (.ptr bb 0) (.ptr b14 0) (.ptr b15 0) (.bool lt) (.bool gt) (.int .i64 1) (.agg [.bool lt, .bool gt, .bool eq]) (.int .i64 (0 + 1 + 1 + 1)) h) (fun p => e95 _ _ _ _ _ _ _ _ h p) ?_
 unfold B95
 refine Tri.lss (fun e => absurd e (by decide)) (fun _ => ?_)
 have ih26 : ∀ {op d d' : Int} {h : Hp} {l : List Asn}, (op = 14 ∨ op = 15 ∨ op = 16 ∨ op = 17) → St (HK X :: l) h → Tri h true l (rHK X (outV 1 (tru (cmpB op d d')) (0, 0) .nilSlice 0)) (M 26 [.ptr X.hb 0, .int .u8 op, nV d, nV d'] h):=fun ho H => bin_or ho H
 apply nF
 refine eT (by decide) ?_
 apply gtt
 apply bS
 apply gtt
 refine Tri.eqv (bind_nilS _ _) ?_
 apply nl
 apply bS
 apply gtt
 apply ba
 apply bS
 apply gtt
 refine bl 3 H rfl rfl ?_
 apply bS
 apply gtt
 refine bn 2 H rfl rfl ?_
 apply bS
 apply gtt
 refine bn 1 H rfl rfl ?_
 apply bS
 refine Tri.eqv (guardB_tt _ _) ?_
 have Ho35:=H
 refine Tri.wrote (ih26 (by first|rfl|assumption|omega|(dsimp only;omega)) (H.draw _)) L (fun _ => rfl) fun v h2 h B hq35 H2 hn35 hl35 eh35 H L => ?_
 obtain ⟨rfl, rfl⟩:=hq35
 apply gtt
 refine Tri.eqv (bind_fldN _ _ _ _ _) ?_
 apply bS
 refine Tri.eqv (guardB_tt _ _) ?_
 have Ho40:=H
 refine Tri.wrote (sp30 (H.draw _)) L (fun _ => rfl) fun v h2 h B hq40 H2 hn40 hl40 eh40 H L => ?_
 obtain ⟨rfl, rfl⟩:=hq40
 apply gtt
 apply bS
 apply gtt
 refine Tri.eqv (bind_notS _ _) ?_
 refine Tri.not ?_
 apply bS
 apply gtt
 refine Tri.eqv (bind_eqS _ _) ?_
 refine Tri.eqBool fun s49 es49 => ?_
 apply bS
 apply pT
 obtain rfl : s49 = true:=by rw [es49, q15]; exact beq_self_eq_true _
 apply gtt
 apply bS
 apply gtt
 refine Tri.eqv (bind_nilS _ _) ?_
 apply nl
 apply bS
 apply gtt
 apply ba
 apply bS
 apply gtt
 refine bl 3 H rfl rfl ?_
 apply bS
 apply gtt
 refine bn 2 H rfl rfl ?_
 apply bS
 apply gtt
 refine bn 1 H rfl rfl ?_
 apply bS
 refine Tri.eqv (guardB_tt _ _) ?_
 have Ho223:=H
 refine Tri.wrote (ih26 (by first|rfl|assumption|omega|(dsimp only;omega)) (H.draw _)) L (fun _ => rfl) fun v h2 h B hq223 H2 hn223 hl223 eh223 H L => ?_
 obtain ⟨rfl, rfl⟩:=hq223
 apply gtt
 refine Tri.eqv (bind_fldN _ _ _ _ _) ?_
 apply bS
 refine Tri.eqv (guardB_tt _ _) ?_
 have Ho228:=H
 refine Tri.wrote (sp30 (H.draw _)) L (fun _ => rfl) fun v h2 h B hq228 H2 hn228 hl228 eh228 H L => ?_
 obtain ⟨rfl, rfl⟩:=hq228
 apply gtt
 apply bS
 apply gtt
 refine Tri.eqv (bind_notS _ _) ?_
 refine Tri.not ?_
 apply bS
 apply gtt
 refine Tri.eqv (bind_eqS _ _) ?_
 refine Tri.eqBool fun s237 es237 => ?_
 apply bS
 apply pT
 obtain rfl : s237 = true:=by rw [es237, q17]; exact beq_self_eq_true _
 apply gtt
 apply Mid.bB
 refine tbe1 (sp22 H) L fun h H L => ?_
 apply bS
 apply pT
 exact Tri.done (B:=[]) ⟨rfl, rfl⟩ H.tl.tl.tl.tl L
theorem end79 {hb bb bA bB : Nat} {a b : Vl} {k m : Int} {dV lV : V} {X : HI} {h : Hp} (W : PW X) (e : X.hb = hb) (H : St (HK X :: Mid.row bb [.ptr hb 0, dV, lV] :: Mid.row bB (vlC b) :: Mid.row bA (vlC a) :: l) h) :
 Tri h false l (rNo (.bool true)) (M 79 [.int .i64 k, .int .i64 m, .ptr bb 0, .ptr bA 0, .ptr bB 0] h):=by
 subst e
 have ih26 : ∀ {op c d c' d' : Int} {h : Hp} {l : List Asn}, (op = 12 ∨ op = 13 ∨ (c = 3 ∧ c' = 3 ∧ (op = 1 ∨ op = 2 ∨ op = 3 ∨ op = 14 ∨ op = 15 ∨ op = 16 ∨ op = 17))) → St (HK X :: l) h → Tri h true l (rHK X (outV 1 (valF op (c, d) (c', d')) (0, 0) .nilSlice 0)) (M 26 [.ptr X.hb 0, .int .u8 op, .agg [.int .u8 c, .int .i64 d], .agg [.int .u8 c', .int .i64 d']] h):=fun ho H => bin_any ho W H
 refine t5 e79 fun L => ?_
 unfold B79
 refine nal 1 H rfl rfl ?_
 refine ls 3 H rfl rfl ?_
 refine ls 2 H rfl rfl ?_
 have Ho5:=H
 refine Tri.wrote (ih26 (by first|rfl|assumption|omega|(dsimp only;omega)) (H.draw _)) L (fun _ => rfl) fun v h2 h B hq5 H2 hn5 hl5 eh5 H L => ?_
 obtain ⟨rfl, rfl⟩:=hq5
 refine Tri.eqv (fldN_at _ _ _ _) ?_
 refine nal 1 Ho5 rfl rfl ?_
 refine Tri.cd (by rw [show pureB _ _ = true from Nat.ble_eq_true_of_le (hl5 rfl)]; rfl) ?_
 refine ls 2 Ho5 rfl rfl ?_
 refine Tri.cd (by rw [show pureB _ _ = true from Nat.ble_eq_true_of_le (hl5 rfl)]; rfl) ?_
 refine ls 3 Ho5 rfl rfl ?_
 refine Tri.cd (by rw [show pureB _ _ = true from Nat.ble_eq_true_of_le (hl5 rfl)]; rfl) ?_
 have Ho15:=H
 refine Tri.wrote (ih26 (by first|rfl|assumption|omega|(dsimp only;omega)) (H.draw _)) L (fun _ => rfl) fun v h2 h B hq15 H2 hn15 hl15 eh15 H L => ?_
 obtain ⟨rfl, rfl⟩:=hq15
 refine Tri.eqv (fldN_at _ _ _ _) ?_
 refine Tri.neV0 (a:=valF 12 (a.1, a.2) (b.1, b.2)) (b:=valF 12 (b.1, b.2) (a.1, a.2)) (eqR_sym 12 _ _) ?_
 apply gff
 apply bS
 apply gff
 refine Tri.eqv (bind_nilS _ _) ?_
 apply nl
 apply bS
 apply gff
 apply ba
 apply bS
 apply gff
 refine bl 1 H rfl rfl ?_
 apply bS
 apply gff
 refine bn 3 H rfl rfl ?_
 apply bS
 apply gff
 refine bn 2 H rfl rfl ?_
 apply bS
 refine Tri.eqv (guardB_ff _ _) ?_
 have Ho123:=H
 refine Tri.wrote (ih26 (by first|rfl|assumption|omega|(dsimp only;omega)) (H.draw _)) L (fun _ => rfl) fun v h2 h B hq123 H2 hn123 hl123 eh123 H L => ?_
 obtain ⟨rfl, rfl⟩:=hq123
 apply gff
 refine Tri.eqv (bind_fldN _ _ _ _ _) ?_
 apply bS
 apply gff
 apply bS
 apply gff
 refine Tri.eqv (bind_nilS _ _) ?_
 apply nl
 apply bS
 apply gff
 apply ba
 apply bS
 refine Tri.eqv (guardB_ff _ _) ?_
 refine lo 1 Ho123 rfl rfl ?_
 refine Tri.cd (by rw [show pureB _ _ = true from Nat.ble_eq_true_of_le (hl123 rfl)]; rfl) ?_
 refine Tri.eqv (guardB_ff _ _) ?_
 refine ls 3 Ho123 rfl rfl ?_
 refine Tri.cd (by rw [show pureB _ _ = true from Nat.ble_eq_true_of_le (hl123 rfl)]; rfl) ?_
 refine Tri.eqv (guardB_ff _ _) ?_
 refine ls 2 Ho123 rfl rfl ?_
 refine Tri.cd (by rw [show pureB _ _ = true from Nat.ble_eq_true_of_le (hl123 rfl)]; rfl) ?_
 refine Tri.eqv (guardB_ff _ _) ?_
 have Ho147:=H
 refine Tri.wrote (ih26 (by first|rfl|assumption|omega|(dsimp only;omega)) (H.draw _)) L (fun _ => rfl) fun v h2 h B hq147 H2 hn147 hl147 eh147 H L => ?_
 obtain ⟨rfl, rfl⟩:=hq147
 apply gff
 refine Tri.eqv (bind_fldN _ _ _ _ _) ?_
 apply bS
 apply gff
 apply Mid.bB
 refine Tri.eqV0 (a:=valF 12 (a.1, a.2) (b.1, b.2)) (b:=valF 13 (a.1, a.2) (b.1, b.2)) (eqR_ne _ _) ?_
 apply bS
 apply pF
 apply nF
 refine Tri.call (x:=B83 M (.int .i64 k) (.int .i64 m) (.ptr bb 0) h) (fun p => e83 _ _ _ h p) ?_
 unfold B83
 refine Tri.bldS rfl ?_
 refine Tri.bldS rfl ?_
 refine nw1 H L fun b302 h hb302 H L => ?_
 refine nw1 H L fun b303 h hb303 H L => ?_
 refine w0 2 H rfl rfl rfl L (by first|rfl|assumption) fun h H L => ?_
 refine w0 1 H rfl rfl rfl L (by first|rfl|assumption) fun h H L => ?_
 refine nal 3 H rfl rfl ?_
 refine ls 2 H rfl rfl ?_
 refine ls 1 H rfl rfl ?_
 have Ho311:=H
 refine Tri.wrote (ih26 (by first|rfl|assumption|omega|(dsimp only;omega)) (H.draw _)) L (fun _ => rfl) fun v h2 h B hq311 H2 hn311 hl311 eh311 H L => ?_
 obtain ⟨rfl, rfl⟩:=hq311
 refine Tri.eqv (fldN_at _ _ _ _) ?_
 refine Tri.fld rfl ?_
 refine Tri.add ?_
 refine Tri.neq (fun c => absurd rfl c) (fun _ => ?_)
 apply gff
 apply bS
 apply gff
 refine Tri.eqv (bind_nilS _ _) ?_
 apply nl
 apply bS
 apply gff
 apply ba
 apply bS
 apply gff
 refine bl 3 H rfl rfl ?_
 apply bS
 apply gff
 refine bn 2 H rfl rfl ?_
 apply bS
 apply gff
 refine bn 1 H rfl rfl ?_
 apply bS
 refine Tri.eqv (guardB_ff _ _) ?_
 have Ho423:=H
 refine Tri.wrote (ih26 (by first|rfl|assumption|omega|(dsimp only;omega)) (H.draw _)) L (fun _ => rfl) fun v h2 h B hq423 H2 hn423 hl423 eh423 H L => ?_
 obtain ⟨rfl, rfl⟩:=hq423
 apply gff
 refine Tri.eqv (bind_fldN _ _ _ _ _) ?_
 apply bS
 apply gff
 refine Tri.bfld rfl ?_
 apply bS
 apply gff
 apply bS
 apply gff
 apply bS
 apply gff
 apply bI
 refine Tri.sub ?_
 apply bS
 apply gff
 apply bI
 refine Tri.neq (fun c => absurd rfl c) (fun _ => ?_)
 apply bS
 apply pF
 apply gff
 apply bS
 apply gff
 refine Tri.eqv (bind_nilS _ _) ?_
 apply nl
 apply bS
 apply gff
 apply ba
 apply bS
 apply gff
 refine bl 3 H rfl rfl ?_
 apply bS
 apply gff
 refine bn 2 H rfl rfl ?_
 apply bS
 apply gff
 refine bn 1 H rfl rfl ?_
 apply bS
 refine Tri.eqv (guardB_ff _ _) ?_
 have Ho525:=H
 refine Tri.wrote (ih26 (by first|rfl|assumption|omega|(dsimp only;omega)) (H.draw _)) L (fun _ => rfl) fun v h2 h B hq525 H2 hn525 hl525 eh525 H L => ?_
 obtain ⟨rfl, rfl⟩:=hq525
 apply gff
 refine Tri.eqv (bind_fldN _ _ _ _ _) ?_
 apply bS
 apply gff
 refine Tri.bfld rfl ?_
 apply bS
 apply gff
 apply bS
 apply gff
 apply bS
 apply gff
 apply bI
 refine Tri.mulI ?_
 apply bS
 apply gff
 apply bI
 refine Tri.neq (fun c => absurd rfl c) (fun _ => ?_)
 apply bS
 apply pF
 apply nF
 refine Tri.call (x:=B91 M (.ptr bb 0) (.ptr b302 0) (.ptr b303 0) h) (fun p => e91 _ _ _ h p) ?_
 unfold B91
 refine nal 3 H rfl rfl ?_
 refine ls 2 H rfl rfl ?_
 refine ls 1 H rfl rfl ?_
 have Ho805:=H
 refine Tri.wrote (ih26 (by first|rfl|assumption|omega|(dsimp only;omega)) (H.draw _)) L (fun _ => rfl) fun v h2 h B hq805 H2 hn805 hl805 eh805 H L => ?_
 obtain ⟨rfl, rfl⟩:=hq805
 refine Tri.eqv (fldN_at _ _ _ _) ?_
 have Ho807:=H
 refine Tri.wrote (sp30 (H.draw _)) L (fun _ => rfl) fun v h2 h B hq807 H2 hn807 hl807 eh807 H L => ?_
 obtain ⟨rfl, rfl⟩:=hq807
 refine nal 3 Ho805 rfl rfl ?_
 refine Tri.cd (by simp only [pure_of (hl807 rfl), pure_of (hl805 rfl)]; rfl) ?_
 refine ls 2 Ho805 rfl rfl ?_
 refine Tri.cd (by simp only [pure_of (hl807 rfl), pure_of (hl805 rfl)]; rfl) ?_
 refine ls 1 Ho805 rfl rfl ?_
 refine Tri.cd (by simp only [pure_of (hl807 rfl), pure_of (hl805 rfl)]; rfl) ?_
 have Ho816:=H
 refine Tri.wrote (ih26 (by first|rfl|assumption|omega|(dsimp only;omega)) (H.draw _)) L (fun _ => rfl) fun v h2 h B hq816 H2 hn816 hl816 eh816 H L => ?_
 obtain ⟨rfl, rfl⟩:=hq816
 refine Tri.eqv (fldN_at _ _ _ _) ?_
 have Ho818:=H
 refine Tri.wrote (sp30 (H.draw _)) L (fun _ => rfl) fun v h2 h B hq818 H2 hn818 hl818 eh818 H L => ?_
 obtain ⟨rfl, rfl⟩:=hq818
 refine nal 3 Ho805 rfl rfl ?_
 refine Tri.cd (by simp only [pure_of (hl818 rfl), pure_of (hl816 rfl), pure_of (hl807 rfl), pure_of (hl805 rfl)]; rfl) ?_
 refine ls 2 Ho805 rfl rfl ?_
 refine Tri.cd (by simp only [pure_of (hl818 rfl), pure_of (hl816 rfl), pure_of (hl807 rfl), pure_of (hl805 rfl)]; rfl) ?_
 refine ls 1 Ho805 rfl rfl ?_
 refine Tri.cd (by simp only [pure_of (hl818 rfl), pure_of (hl816 rfl), pure_of (hl807 rfl), pure_of (hl805 rfl)]; rfl) ?_
 refine tbe1 (ih26 (by first|rfl|assumption|omega|(dsimp only;omega)) H) L fun h H L => ?_
 refine Tri.eqv (fldN_at _ _ _ _) ?_
 refine tbe1 (sp30 H) L fun h H L => ?_
 refine Tri.bldS rfl ?_
 have e14 : valF 14 (3, k) (3, m) = tru (decide (k < m)):=rfl
 have e16 : valF 16 (3, k) (3, m) = tru (decide (m < k)):=rfl
 have e12 : valF 12 (3, k) (3, m) = tru (decide ((3, k) = ((3, m) : Vl)) == true):=rfl
 have ek : decide ((3, k) = ((3, m) : Vl)) = decide (k = m):=by rw [Bool.eq_iff_iff, decide_eq_true_iff, decide_eq_true_iff]; exact ⟨fun e => congrArg Prod.snd e, fun e => by rw [e]⟩
 have tr : ∀ c : Bool, truB (tru c) = c:=fun c => by cases c <;> rfl
 rw [e14, e16, e12, ek, tr, tr, tr]
 have d15 : truB (tru (cmpB 15 k m)) = !decide (m < k):=by
  rw [tr, show cmpB 15 k m = decide (k ≤ m) from rfl, ← decide_not]; exact decide_eq_decide.2 (by omega)
 have d17 : truB (tru (cmpB 17 k m)) = !decide (k < m):=by
  rw [tr, show cmpB 17 k m = decide (m ≤ k) from rfl, ← decide_not]; exact decide_eq_decide.2 (by omega)
 refine end95 W ?_ d15 d17 L ((H.out 4).tl.out 4).tl
 rcases Int.lt_trichotomy k m with c | c | c
 ·exact .inl ⟨decide_eq_true c, decide_eq_false (by omega), by rw [decide_eq_false (by omega)]; rfl⟩
 ·exact .inr (.inr ⟨decide_eq_false (by omega), decide_eq_false (by omega), by rw [decide_eq_true c]; rfl⟩)
 ·exact .inr (.inl ⟨decide_eq_false (by omega), decide_eq_true c, by rw [decide_eq_false (by omega)]; rfl⟩)
theorem vals_of {v : Vl} (h : v ∈ valsL 28) : Ok v:=by
 refine ⟨vals_ok (Nat.le_refl _) h, ?_⟩
 rcases vals_mem (Nat.le_refl _) h with h | ⟨j, s, hj, hs, rfl⟩
 ·simp only [baseV, List.mem_cons, List.not_mem_nil, or_false] at h
  rcases h with rfl | rfl | rfl | rfl | rfl | rfl | rfl <;> exact ⟨by decide, by decide⟩
 ·exact ⟨by show _ ≤ ((j + 1 : Nat) : Int); omega, by show ((j + 1 : Nat) : Int) ≤ _; omega⟩
theorem plain_ok {S : Mem} {ss : List T3} {sV : V} {i1 i2 k m : Int} (hs : FSl 3 (SetAt S) sV ss) (H : St (frz S :: l) h) :
 Tri h false l (rNo (.bool true)) (M 8 [sV, .agg [.int .i64 i1, .int .i64 i2], .agg [.int .i64 k, .int .i64 m]] h):=by
 refine t3 e8 fun L => ?_
 unfold B8
 refine nw H L fun c0 h hc0 H L => ?_
 refine nw H L fun c1 h hc1 H L => ?_
 refine Tri.idxP (by decide) (by decide) ?_
 refine lo 0 H rfl rfl ?_
 refine Tri.idxP (by decide) (by decide) ?_
 refine lo 0 H rfl rfl ?_
 have eb : ∀ h : Hp, bldStruct h [(1, sV)] (.agg [.nilSlice, .nilSlice, .int .i64 0]) (some [(0, 1), (1, 1), (2, 1)]) = some (.agg [.nilSlice, sV, .int .i64 0], h) := fun h => by
  rcases hs with ⟨rfl, _⟩ | ⟨b, o, c, rfl, _⟩ <;> rfl
 refine Tri.bldS (eb h) ?_
 refine Mid.tb (f10 (nm:=true) (ms:=[]) (r:=0) (fun _ => rfl) (.inl ⟨rfl, rfl⟩) hs (H.out 2)) L fun w h B hq H L => ?_
 obtain ⟨X, Y, Z, m0, hm, J, rfl, rfl⟩:=hq
 refine Tri.eqP ?_
 apply nF
 refine Tri.call (x:=B75 M (.ptr c0 0) (.int .i64 k) (.int .i64 m) (.ptr Z.bb 0) h) (fun p => e75 _ _ _ _ h p) ?_
 unfold B75
 refine nw3 H L fun b20 h hb20 H L => ?_
 refine nw3 H L fun b21 h hb21 H L => ?_
 refine Tri.idxP (by decide) (by decide) ?_
 refine lo 6 H rfl rfl ?_
 have hlz : Z.ls.length = 35:=by rw [J.ls]; exact vals_len (Nat.le_refl _)
 have Ho:=H
 refine Tri.wroteC (sp14 (Z:=Z) (by rw [hlz]; decide) ((H.out 2).draw _)) L (fun v h2 e => by rw [e]; rfl) fun v h3 h B hq H3 hn2 hl2 eh2 H L => ?_
 obtain ⟨a, hav, rfl, rfl⟩:=hq
 refine Tri.idxP (by decide) (by decide) ?_
 refine lo 6 Ho rfl rfl ?_
 refine Tri.cd (by rw [show pureB _ h3 = true from Nat.ble_eq_true_of_le (hl2 rfl)]; rfl) ?_
 refine Tri.wroteC (sp14 (Z:=Z) (by rw [hlz]; decide) (H.draw _)) L (fun v h2 e => by rw [e]; rfl) fun v h4 h B hq H4 hn3 hl3 eh3 H L => ?_
 obtain ⟨b, hbv, rfl, rfl⟩:=hq
 have ham : a ∈ valsL 28:=by rw [← J.ls]; exact List.mem_of_getElem? hav
 have hbm : b ∈ valsL 28:=by rw [← J.ls]; exact List.mem_of_getElem? hbv
 refine w0 4 H rfl rfl rfl L (by first|rfl|assumption) fun h H L => ?_
 refine w0 3 H rfl rfl rfl L (by first|rfl|assumption) fun h H L => ?_
 have p : Lp X 0 Z.hb a b:=⟨J.ph hm, J.zh.symm, vals_of ham, vals_of hbm, keep_vals J.gx (Nat.le_refl _) ham, keep_vals J.gx (Nat.le_refl _) hbm⟩
 have H1:=((openZ H).out 3).x2.x2.x2
 refine Tri.tail (loop77 (fun p hn H => loop81 (fun p hn H => end81 (fun W e H => end79 W e H) p hn H) 4 p (by decide) (by decide) (by decide) (by omega) H) 17 p (by decide) (by decide) (by decide) (by decide) H1) L (fun e => e) fun v h B hq H L => ?_
 obtain ⟨rfl, rfl⟩:=hq
 exact ⟨[], ⟨rfl, rfl⟩, H.tl.tl⟩
end
end Go.MS.P
end
