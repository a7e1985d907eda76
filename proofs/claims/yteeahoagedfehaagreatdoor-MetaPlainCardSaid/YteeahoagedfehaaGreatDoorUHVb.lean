/- A part of the proof. -/
import Derived.Test.YteeahoagedfehaaGreatDoorUHV8
set_option linter.all false
set_option warn.classDefReducibility false
noncomputable section
section
open Go Go.Mid Go.Proofs
set_option maxRecDepth 100000
namespace Go.MS.P
section
variable {l F : List Asn} {h h0 : Hp} {ro : Bool} {Q : V → List Asn → Prop} {k : V → VH} {K : V → Hp → VH} {v lV : V} {X X' : HI} {x y : IO} {i j n : Nat}
theorem cmpVl (a b : Vl) : cmpV [(0, .int .u8), (1, .int .i64)] (vlV a) (vlV b) = some (decide (a = b)):=by
 obtain ⟨a1, a2⟩:=a
 obtain ⟨b1, b2⟩:=b
 have q : decide ((a1, a2) = (b1, b2)) = ((a1 == b1) && (a2 == b2)):=by rw [Bool.eq_iff_iff]; simp
 rw [q]
 simp only [vlV, cmpV, cmpL, getN, eqLeaf, kEq_self, iEq_eq, cond_true]
 cases (a1 == b1) <;> cases (a2 == b2) <;> rfl
theorem Tri.eqVl {a b : Vl} (hK : Tri h0 ro F Q (K (.bool (decide (a = b))) h)) : Tri h0 ro F Q (bindS (vh h (eqOp .eql (cmpV [(0, .int .u8), (1, .int .i64)] (vlV a) (vlV b)))) K):=by
 rw [cmpVl]; exact hK
theorem Tri.neVl {a b : Vl} (hK : Tri h0 ro F Q (K (.bool (!decide (a = b))) h)) : Tri h0 ro F Q (bindS (vh h (eqOp .neq (cmpV [(0, .int .u8), (1, .int .i64)] (vlV a) (vlV b)))) K):=by
 rw [cmpVl]; exact hK
def eqR (op : Int) (a b : Vl) : Vl:=tru (decide (a = b) == decide (op = 12))
theorem k107 {a b : Vl} {op : Int} {b6 b7 b8 : Nat} (hb8 : h0.n ≤ b8) (L : Lo true h0 h) (H : St (HK X :: Mid.row b8 (vcells (outV 0 (0, 0) (0, 0) .nilSlice 0)) :: Mid.row b7 (vlC b) :: Mid.row b6 (vlC a) :: l) h) :
 Tri h0 true l (rHK X (outV 1 (eqR op a b) (0, 0) .nilSlice 0)) (M 107 [.int .u8 op, .ptr b6 0, .ptr b7 0, .ptr b8 0] h):=by
 refine Tri.call (x:=B107 M (.int .u8 op) (.ptr b6 0) (.ptr b7 0) (.ptr b8 0) h) (fun p => e107 _ _ _ _ h p) ?_
 unfold B107
 refine ls 3 H rfl rfl ?_
 refine ls 2 H rfl rfl ?_
 refine Tri.eqVl ?_
 refine Tri.eql (fun e => ?_) (fun e => ?_)
 ·refine Tri.eqBool fun s20 es20 => ?_
  refine tbe1 (sp88 H) L fun h H L => ?_
  refine tbe1 (sp82 H) L fun h H L => ?_
  refine wl1 1 H rfl rfl rfl L ‹_› (by first|rfl|assumption) fun h H L => ?_
  have q : eqR op a b = tru s20:=by unfold eqR; rw [es20, decide_eq_true e]
  rw [q]
  exact dHK H.x1.x1.x1 L
 ·refine Tri.eqBool fun s50 es50 => ?_
  refine tbe1 (sp88 H) L fun h H L => ?_
  refine tbe1 (sp82 H) L fun h H L => ?_
  refine wl1 1 H rfl rfl rfl L ‹_› (by first|rfl|assumption) fun h H L => ?_
  have q : eqR op a b = tru s50:=by unfold eqR; rw [es50, decide_eq_false e]
  rw [q]
  exact dHK H.x1.x1.x1 L
theorem k105 {a b : Vl} {op z : Int} {b6 b7 b8 : Nat} (P : PW X) (hb8 : h0.n ≤ b8) (L : Lo true h0 h) (H : St (HK X :: Mid.row b8 (vcells (outV 0 (0, 0) (0, 0) .nilSlice 0)) :: Mid.row b7 (vlC b) :: Mid.row b6 (vlC a) :: l) h) :
 Tri h0 true l (rHK X (outV 1 (eqR op a b) (0, 0) .nilSlice 0)) (M 105 [.ptr X.hb 0, .int .u8 op, .ptr b6 0, .ptr b7 0, .ptr b8 0, .int .u8 z] h):=by
 refine Tri.call (x:=B105 M (.ptr X.hb 0) (.int .u8 op) (.ptr b6 0) (.ptr b7 0) (.ptr b8 0) (.int .u8 z) h) (fun p => e105 _ _ _ _ _ _ h p) ?_
 unfold B105
 have ih86 : ∀ {s : Bs} {a b : Vl} {h : Hp} {l : List Asn}, St (HK X :: l) h → Tri h true l (rHK X (vlV (0, 0))) (M 86 [.ptr X.hb 0, .str s, vlV a, vlV b] h):=fun H => f86 P H
 refine ls 3 H rfl rfl ?_
 refine ls 2 H rfl rfl ?_
 refine Tri.neVl ?_
 cases decide (a = b) with
 | true =>
  apply gft
  apply pF
  apply gft
  apply pF
  apply nF
  exact k107 hb8 L H
 | false =>
  apply gtt
  apply ba
  refine bl 3 H rfl rfl ?_
  apply bI
  refine Tri.eql (fun e1 => ?_) (fun e1 => ?_)
  ·apply bS
   apply pT
   apply gtt
   apply ba
   refine bl 2 H rfl rfl ?_
   apply bI
   refine Tri.eql (fun e2 => ?_) (fun e2 => ?_)
   ·apply bS
    apply pT
    apply nT
    refine ls 3 H rfl rfl ?_
    refine ls 2 H rfl rfl ?_
    refine tbe1 (ih86 H) L fun h H L => ?_
    refine nw1 H L fun b76 h hb76 H L => ?_
    refine w1 1 H rfl rfl rfl L ‹_› (by first|rfl|assumption) fun h H L => ?_
    refine al 1 H rfl rfl ?_
    refine Tri.neq (fun e => absurd e (by decide)) (fun _ => ?_)
    apply nF
    exact k107 hb8 L H.x1
   ·apply bS
    apply pT
    apply nF
    exact k107 hb8 L H
  ·apply bS
   apply pT
   apply gft
   apply pF
   apply nF
   exact k107 hb8 L H
theorem bin_eq {a b : Vl} {op : Int} (ho : op = 12 ∨ op = 13) (P : PW X) (H : St (HK X :: l) h) : Tri h true l (rHK X (outV 1 (eqR op a b) (0, 0) .nilSlice 0)) (M 26 [.ptr X.hb 0, .int .u8 op, vlV a, vlV b] h):=by
 refine t4 e26 fun L => ?_
 unfold B26
 rcases ho with rfl | rfl
 ·refine nw1 H L fun b0 h hb0 H L => ?_
  refine nw1 H L fun b1 h hb1 H L => ?_
  refine nw1 H L fun b2 h hb2 H L => ?_
  refine eFi (by decide) ?_
  refine eFi (by decide) ?_
  refine eTi (by decide) ?_
  exact k105 P hb2 L H
 ·refine nw1 H L fun b0 h hb0 H L => ?_
  refine nw1 H L fun b1 h hb1 H L => ?_
  refine nw1 H L fun b2 h hb2 H L => ?_
  refine eFi (by decide) ?_
  refine eTi (by decide) ?_
  exact k105 P hb2 L H
def arF (op x y : Int) : Int:=IntKind.i64.wrap (if op = 1 then x + y else if op = 2 then x - y else x * y)
theorem x94 {op x y : Int} (ho : op = 1 ∨ op = 2 ∨ op = 3) (H : St l h) : Tri h true l (rNo (.tuple [.int .i64 (arF op x y), .int .i64 0])) (M 94 [.int .u8 op, .int .i64 x, .int .i64 y] h):=by
 rcases ho with rfl | rfl | rfl
 ·exact add94 H
 ·exact sub94 H
 ·exact mul94 H
abbrev nV (x : Int) : V:=.agg [.int .u8 3, .int .i64 x]
theorem x92 {op x y : Int} (ho : op = 1 ∨ op = 2 ∨ op = 3) (H : St (HK X :: l) h) : Tri h true l (rHK X (outV 1 (3, arF op x y) (0, 0) .nilSlice 0)) (M 92 [.ptr X.hb 0, .int .u8 op, nV x, nV y] h):=by
 have ih94 : ∀ {h : Hp} {l : List Asn}, St l h → Tri h true l (rNo (.tuple [.int .i64 (arF op x y), .int .i64 0])) (M 94 [.int .u8 op, .int .i64 x, .int .i64 y] h):=fun H => x94 ho H
 refine t4 e92 fun L => ?_
 unfold B92
 refine nw1 H L fun b0 h hb0 H L => ?_
 refine nw1 H L fun b1 h hb1 H L => ?_
 refine nw1 H L fun b2 h hb2 H L => ?_
 refine al 3 H rfl rfl ?_
 refine eT (by decide) ?_
 apply gtt
 apply ba
 refine bl 2 H rfl rfl ?_
 apply bI
 refine eT (by decide) ?_
 apply bS
 apply pT
 apply nT
 refine al 3 H rfl rfl ?_
 refine al 2 H rfl rfl ?_
 refine tbe1 (ih94 H) L fun h H L => ?_
 refine Tri.ext rfl ?_
 refine Tri.ext rfl ?_
 refine eTi (by decide) ?_
 refine Tri.bldS rfl ?_
 refine tbe1 (sp82 H) L fun h H L => ?_
 refine wl1 1 H rfl rfl rfl L ‹_› (by first|rfl|assumption) fun h H L => ?_
 exact dHK H.x1.x1.x1 L
theorem bin_ar {op x y : Int} (ho : op = 1 ∨ op = 2 ∨ op = 3) (H : St (HK X :: l) h) : Tri h true l (rHK X (outV 1 (3, arF op x y) (0, 0) .nilSlice 0)) (M 26 [.ptr X.hb 0, .int .u8 op, nV x, nV y] h):=by
 have ih92 : ∀ {h : Hp} {l : List Asn}, St (HK X :: l) h → Tri h true l (rHK X (outV 1 (3, arF op x y) (0, 0) .nilSlice 0)) (M 92 [.ptr X.hb 0, .int .u8 op, nV x, nV y] h):=fun H => x92 ho H
 refine t4 e26 fun L => ?_
 unfold B26
 rcases ho with rfl | rfl | rfl
 ·refine nw1 H L fun b0 h hb0 H L => ?_
  refine nw1 H L fun b1 h hb1 H L => ?_
  refine nw1 H L fun b2 h hb2 H L => ?_
  refine eFi (by decide) ?_
  refine eFi (by decide) ?_
  refine eFi (by decide) ?_
  refine eFi (by decide) ?_
  refine eFi (by decide) ?_
  refine eFi (by decide) ?_
  refine eFi (by decide) ?_
  refine Tri.geq (fun _ => ?_) (fun e => absurd e (by decide))
  apply gtt
  apply bI
  refine Tri.leq (fun _ => ?_) (fun e => absurd e (by decide))
  apply bS
  apply pT
  apply nT
  refine ls 3 H rfl rfl ?_
  refine ls 2 H rfl rfl ?_
  refine tbe1 (ih92 H) L fun h H L => ?_
  refine wl1 1 H rfl rfl rfl L ‹_› (by first|rfl|assumption) fun h H L => ?_
  exact dHK H.x1.x1.x1 L
 ·refine nw1 H L fun b0 h hb0 H L => ?_
  refine nw1 H L fun b1 h hb1 H L => ?_
  refine nw1 H L fun b2 h hb2 H L => ?_
  refine eFi (by decide) ?_
  refine eFi (by decide) ?_
  refine eFi (by decide) ?_
  refine eFi (by decide) ?_
  refine eFi (by decide) ?_
  refine eFi (by decide) ?_
  refine eFi (by decide) ?_
  refine Tri.geq (fun _ => ?_) (fun e => absurd e (by decide))
  apply gtt
  apply bI
  refine Tri.leq (fun _ => ?_) (fun e => absurd e (by decide))
  apply bS
  apply pT
  apply nT
  refine ls 3 H rfl rfl ?_
  refine ls 2 H rfl rfl ?_
  refine tbe1 (ih92 H) L fun h H L => ?_
  refine wl1 1 H rfl rfl rfl L ‹_› (by first|rfl|assumption) fun h H L => ?_
  exact dHK H.x1.x1.x1 L
 ·refine nw1 H L fun b0 h hb0 H L => ?_
  refine nw1 H L fun b1 h hb1 H L => ?_
  refine nw1 H L fun b2 h hb2 H L => ?_
  refine eFi (by decide) ?_
  refine eFi (by decide) ?_
  refine eFi (by decide) ?_
  refine eFi (by decide) ?_
  refine eFi (by decide) ?_
  refine eFi (by decide) ?_
  refine eFi (by decide) ?_
  refine Tri.geq (fun _ => ?_) (fun e => absurd e (by decide))
  apply gtt
  apply bI
  refine Tri.leq (fun _ => ?_) (fun e => absurd e (by decide))
  apply bS
  apply pT
  apply nT
  refine ls 3 H rfl rfl ?_
  refine ls 2 H rfl rfl ?_
  refine tbe1 (ih92 H) L fun h H L => ?_
  refine wl1 1 H rfl rfl rfl L ‹_› (by first|rfl|assumption) fun h H L => ?_
  exact dHK H.x1.x1.x1 L
theorem x90 {op x y : Int} {s : Bs} (H : St (HK X :: l) h) : Tri h true l (rHK X (outV 1 (tru (cmpB op x y)) (0, 0) .nilSlice 0)) (M 90 [.ptr X.hb 0, .int .u8 op, .str s, nV x, nV y] h):=by
 refine t5 e90 fun L => ?_
 unfold B90
 refine nw1 H L fun b0 h hb0 H L => ?_
 refine nw1 H L fun b1 h hb1 H L => ?_
 refine nw1 H L fun b2 h hb2 H L => ?_
 refine al 3 H rfl rfl ?_
 refine eT (by decide) ?_
 apply gtt
 apply ba
 refine bl 2 H rfl rfl ?_
 apply bI
 refine eT (by decide) ?_
 apply bS
 apply pT
 apply nT
 refine al 3 H rfl rfl ?_
 refine al 2 H rfl rfl ?_
 refine tb1 (sp156 H) L fun v h B hq20 H L => ?_
 obtain ⟨e, rfl, rfl⟩:=hq20
 refine Tri.ext rfl ?_
 refine Tri.ext rfl ?_
 refine tbe1 (sp88 H) L fun h H L => ?_
 refine tbe1 (sp82 H) L fun h H L => ?_
 refine wl1 1 H rfl rfl rfl L ‹_› (by first|rfl|assumption) fun h H L => ?_
 exact dHK H.x1.x1.x1 L
theorem bin_or {op x y : Int} (ho : op = 14 ∨ op = 15 ∨ op = 16 ∨ op = 17) (H : St (HK X :: l) h) : Tri h true l (rHK X (outV 1 (tru (cmpB op x y)) (0, 0) .nilSlice 0)) (M 26 [.ptr X.hb 0, .int .u8 op, nV x, nV y] h):=by
 have ih90 : ∀ {h : Hp} {l : List Asn} {op x y : Int} {s : Bs}, St (HK X :: l) h → Tri h true l (rHK X (outV 1 (tru (cmpB op x y)) (0, 0) .nilSlice 0)) (M 90 [.ptr X.hb 0, .int .u8 op, .str s, nV x, nV y] h):=fun H => x90 H
 refine t4 e26 fun L => ?_
 unfold B26
 rcases ho with rfl | rfl | rfl | rfl
 ·refine nw1 H L fun b10 h hb10 H L => ?_
  refine nw1 H L fun b11 h hb11 H L => ?_
  refine nw1 H L fun b12 h hb12 H L => ?_
  refine eFi (by decide) ?_
  refine eFi (by decide) ?_
  refine eFi (by decide) ?_
  refine eFi (by decide) ?_
  refine eTi (by decide) ?_
  refine Tri.call (x:=B103 M (.ptr X.hb 0) (.ptr b10 0) (.ptr b11 0) (.ptr b12 0) h) (fun p => e103 _ _ _ _ h p) ?_
  unfold B103
  refine ls 3 H rfl rfl ?_
  refine ls 2 H rfl rfl ?_
  refine tbe1 (ih90 H) L fun h H L => ?_
  refine wl1 1 H rfl rfl rfl L ‹_› (by first|rfl|assumption) fun h H L => ?_
  exact dHK H.x1.x1.x1 L
 ·refine nw1 H L fun b30 h hb30 H L => ?_
  refine nw1 H L fun b31 h hb31 H L => ?_
  refine nw1 H L fun b32 h hb32 H L => ?_
  refine eFi (by decide) ?_
  refine eFi (by decide) ?_
  refine eFi (by decide) ?_
  refine eFi (by decide) ?_
  refine eFi (by decide) ?_
  refine eFi (by decide) ?_
  refine eTi (by decide) ?_
  refine Tri.call (x:=B101 M (.ptr X.hb 0) (.ptr b30 0) (.ptr b31 0) (.ptr b32 0) h) (fun p => e101 _ _ _ _ h p) ?_
  unfold B101
  refine ls 3 H rfl rfl ?_
  refine ls 2 H rfl rfl ?_
  refine tbe1 (ih90 H) L fun h H L => ?_
  refine wl1 1 H rfl rfl rfl L ‹_› (by first|rfl|assumption) fun h H L => ?_
  exact dHK H.x1.x1.x1 L
 ·refine nw1 H L fun b50 h hb50 H L => ?_
  refine nw1 H L fun b51 h hb51 H L => ?_
  refine nw1 H L fun b52 h hb52 H L => ?_
  refine eFi (by decide) ?_
  refine eFi (by decide) ?_
  refine eFi (by decide) ?_
  refine eTi (by decide) ?_
  refine ls 2 H rfl rfl ?_
  refine ls 3 H rfl rfl ?_
  refine w1 3 H rfl rfl rfl L ‹_› (by first|rfl|assumption) fun h H L => ?_
  refine w1 2 H rfl rfl rfl L ‹_› (by first|rfl|assumption) fun h H L => ?_
  refine Tri.call (x:=B103 M (.ptr X.hb 0) (.ptr b50 0) (.ptr b51 0) (.ptr b52 0) h) (fun p => e103 _ _ _ _ h p) ?_
  unfold B103
  refine ls 3 H rfl rfl ?_
  refine ls 2 H rfl rfl ?_
  refine tbe1 (ih90 H) L fun h H L => ?_
  refine wl1 1 H rfl rfl rfl L ‹_› (by first|rfl|assumption) fun h H L => ?_
  rw [show cmpB 16 x y = cmpB 14 y x from rfl]
  exact dHK H.x1.x1.x1 L
 ·refine nw1 H L fun b70 h hb70 H L => ?_
  refine nw1 H L fun b71 h hb71 H L => ?_
  refine nw1 H L fun b72 h hb72 H L => ?_
  refine eFi (by decide) ?_
  refine eFi (by decide) ?_
  refine eFi (by decide) ?_
  refine eFi (by decide) ?_
  refine eFi (by decide) ?_
  refine eTi (by decide) ?_
  refine ls 2 H rfl rfl ?_
  refine ls 3 H rfl rfl ?_
  refine w1 3 H rfl rfl rfl L ‹_› (by first|rfl|assumption) fun h H L => ?_
  refine w1 2 H rfl rfl rfl L ‹_› (by first|rfl|assumption) fun h H L => ?_
  refine Tri.call (x:=B101 M (.ptr X.hb 0) (.ptr b70 0) (.ptr b71 0) (.ptr b72 0) h) (fun p => e101 _ _ _ _ h p) ?_
  unfold B101
  refine ls 3 H rfl rfl ?_
  refine ls 2 H rfl rfl ?_
  refine tbe1 (ih90 H) L fun h H L => ?_
  refine wl1 1 H rfl rfl rfl L ‹_› (by first|rfl|assumption) fun h H L => ?_
  rw [show cmpB 17 x y = cmpB 15 y x from rfl]
  exact dHK H.x1.x1.x1 L
theorem dO {X0 : HI} {kd : Int} {v : Vl} (hk : kd ≠ 2) (x : Xt X0 X) (P : PH X (n + 1)) (H : St (HK X :: l) h) (L : Lo ro h0 h) : Tri h0 ro l (rOut X0 n) (some (outV kd v (0, 0) .nilSlice 0, h)) :=
 Tri.done (B:=[HK X]) ⟨X, kd, _, x, P, hk, rfl, rfl⟩ H L
theorem k103 {a b : Vl} {b6 b7 b8 : Nat} (A : Ok a) (A' : Ok b) (P : PH X n) (hn : n ≤ 100) (L : Lo false h0 h) (H : St (HK X :: Mid.row b8 (vcells (outV 0 (0, 0) (0, 0) .nilSlice 0)) :: Mid.row b7 (vlC b) :: Mid.row b6 (vlC a) :: l) h) :
 Tri h0 false l (rOut X n) (M 103 [.ptr X.hb 0, .ptr b6 0, .ptr b7 0, .ptr b8 0] h):=by
 refine Tri.call (x:=B103 M (.ptr X.hb 0) (.ptr b6 0) (.ptr b7 0) (.ptr b8 0) h) (fun p => e103 _ _ _ _ h p) ?_
 unfold B103
 refine ls 3 H rfl rfl ?_
 refine ls 2 H rfl rfl ?_
 refine Mid.tb (sp90 (by first|rfl|assumption|omega|(dsimp only;omega)) (by first|rfl|assumption|omega|(dsimp only;omega)) (by first|rfl|assumption|omega|(dsimp only;omega)) (by first|rfl|assumption|omega|(dsimp only;omega)) H) L fun v h B hq22 H L => ?_
 obtain ⟨X', kd, v, xt, ph, hk, rfl, rfl⟩:=hq22
 refine wl0 1 H rfl rfl rfl L (by first|rfl|assumption) fun h H L => ?_
 exact dO hk xt ph H.x1.x1.x1 L
theorem k101 {a b : Vl} {b6 b7 b8 : Nat} (A : Ok a) (A' : Ok b) (P : PH X n) (hn : n ≤ 100) (L : Lo false h0 h) (H : St (HK X :: Mid.row b8 (vcells (outV 0 (0, 0) (0, 0) .nilSlice 0)) :: Mid.row b7 (vlC b) :: Mid.row b6 (vlC a) :: l) h) :
 Tri h0 false l (rOut X n) (M 101 [.ptr X.hb 0, .ptr b6 0, .ptr b7 0, .ptr b8 0] h):=by
 refine Tri.call (x:=B101 M (.ptr X.hb 0) (.ptr b6 0) (.ptr b7 0) (.ptr b8 0) h) (fun p => e101 _ _ _ _ h p) ?_
 unfold B101
 refine ls 3 H rfl rfl ?_
 refine ls 2 H rfl rfl ?_
 refine Mid.tb (sp90 (by first|rfl|assumption|omega|(dsimp only;omega)) (by first|rfl|assumption|omega|(dsimp only;omega)) (by first|rfl|assumption|omega|(dsimp only;omega)) (by first|rfl|assumption|omega|(dsimp only;omega)) H) L fun v h B hq22 H L => ?_
 obtain ⟨X', kd, v, xt, ph, hk, rfl, rfl⟩:=hq22
 refine wl0 1 H rfl rfl rfl L (by first|rfl|assumption) fun h H L => ?_
 exact dO hk xt ph H.x1.x1.x1 L
theorem sp26 {a b : Vl} {op : Int} (ho : 1 ≤ op ∧ op ≤ 17) (A : Ok a) (A' : Ok b) (P : PH X n) (hn : n ≤ 100) (H : St (HK X :: l) h) : Tri h false l (rOut X n) (M 26 [.ptr X.hb 0, .int .u8 op, vlV a, vlV b] h):=by
 by_cases ho2 : op = 12 ∨ op = 13
 ·refine Tri.tail (bin_eq ho2 P.w H) (Lo.refl _ _) (fun _ => rfl) fun v h B hq H L => ?_
  obtain ⟨rfl, rfl⟩:=hq
  exact ⟨[HK X], ⟨X, 1, _, Xt.refl X, P.up, by decide, rfl, rfl⟩, H⟩
 refine t4 e26 fun L => ?_
 unfold B26
 refine nw1 H L fun b0 h hb0 H L => ?_
 refine nw1 H L fun b1 h hb1 H L => ?_
 refine nw1 H L fun b2 h hb2 H L => ?_
 refine Tri.eql (fun e1 => ?_) (fun e1 => ?_)
 ·apply nT
  refine ls 3 H rfl rfl ?_
  refine ls 2 H rfl rfl ?_
  refine Mid.tb (sp84 (by first|rfl|assumption|omega|(dsimp only;omega)) (by first|rfl|assumption|omega|(dsimp only;omega)) (by first|rfl|assumption|omega|(dsimp only;omega)) (by first|rfl|assumption|omega|(dsimp only;omega)) H) L fun v h B hq13 H L => ?_
  obtain ⟨X', kd, v, xt, ph, hk, rfl, rfl⟩:=hq13
  refine wl0 1 H rfl rfl rfl L (by first|rfl|assumption) fun h H L => ?_
  exact dO hk xt ph H.x1.x1.x1 L
 apply nF
 refine Tri.eql (fun e => absurd (.inr e) ho2) (fun _ => ?_)
 apply nF
 refine Tri.eql (fun e => absurd (.inl e) ho2) (fun _ => ?_)
 apply nF
 refine Tri.eql (fun e4 => ?_) (fun e4 => ?_)
 ·apply nT
  refine ls 2 H rfl rfl ?_
  refine ls 3 H rfl rfl ?_
  refine w0 3 H rfl rfl rfl L (by first|rfl|assumption) fun h H L => ?_
  refine w0 2 H rfl rfl rfl L (by first|rfl|assumption) fun h H L => ?_
  exact k103 A' A P hn L H
 apply nF
 refine Tri.eql (fun e5 => ?_) (fun e5 => ?_)
 ·apply nT
  exact k103 A A' P hn L H
 apply nF
 refine Tri.eql (fun e6 => ?_) (fun e6 => ?_)
 ·apply nT
  refine ls 2 H rfl rfl ?_
  refine ls 3 H rfl rfl ?_
  refine w0 3 H rfl rfl rfl L (by first|rfl|assumption) fun h H L => ?_
  refine w0 2 H rfl rfl rfl L (by first|rfl|assumption) fun h H L => ?_
  exact k101 A' A P hn L H
 apply nF
 refine Tri.eql (fun e7 => ?_) (fun e7 => ?_)
 ·apply nT
  exact k101 A A' P hn L H
 apply nF
 refine Tri.geq (fun e8 => ?_) (fun e8 => by omega)
 apply gtt
 apply bI
 refine Tri.leq (fun e9 => ?_) (fun e9 => by omega)
 apply bS
 apply pT
 apply nT
 refine ls 3 H rfl rfl ?_
 refine ls 2 H rfl rfl ?_
 refine Mid.tb (sp92 (by first|rfl|assumption|omega|(dsimp only;omega)) (by first|rfl|assumption|omega|(dsimp only;omega)) (by first|rfl|assumption|omega|(dsimp only;omega)) (by first|rfl|assumption|omega|(dsimp only;omega)) (by first|rfl|assumption|omega|(dsimp only;omega)) H) L fun v h B hq165 H L => ?_
 obtain ⟨X', kd, v, xt, ph, hk, rfl, rfl⟩:=hq165
 refine wl0 1 H rfl rfl rfl L (by first|rfl|assumption) fun h H L => ?_
 exact dO hk xt ph H.x1.x1.x1 L
theorem k109 {a : Vl} {op : Int} {s : Bs} {b5 b6 : Nat} (A : Ok a) (P : PH X n) (hn : n ≤ 100) (L : Lo false h0 h) (H : St (HK X :: Mid.row b6 (vcells (outV 0 (0, 0) (0, 0) .nilSlice 0)) :: Mid.row b5 (vlC a) :: l) h) :
 Tri h0 false l (rOut X n) (M 109 [.ptr X.hb 0, .int .u8 op, .ptr b5 0, .ptr b6 0, .str s] h):=by
 have hP:=P.w.pl
 refine Tri.call (x:=B109 M (.ptr X.hb 0) (.int .u8 op) (.ptr b5 0) (.ptr b6 0) (.str s) h) (fun p => e109 _ _ _ _ _ h p) ?_
 unfold B109
 refine al 2 H rfl rfl ?_
 refine Tri.eql (fun e => ?_) (fun e => ?_)
 ·apply nT
  refine al 2 H rfl rfl ?_
  refine tb1 (sp94 H) L fun v h B hq13 H L => ?_
  obtain ⟨r, e, rfl, rfl⟩:=hq13
  refine Tri.ext rfl ?_
  refine Tri.ext rfl ?_
  refine Tri.bldS rfl ?_
  refine tbe1 (sp82 H) L fun h H L => ?_
  refine wl0 1 H rfl rfl rfl L (by first|rfl|assumption) fun h H L => ?_
  exact dOut (v:=(3, r)) P H.x1.x1 L
 ·apply nF
  refine nw1 H L fun b41 h hb41 H L => ?_
  have Ho42:=H
  refine Tri.wroteC (sp64 (H.draw _)) L (fun v h2 e => by rw [e]; rfl) fun v h2 h B hq42 H2 hn42 hl42 eh42 H L => ?_
  obtain ⟨c0, c1, c2, rfl, rfl⟩:=hq42
  refine ls 3 Ho42 rfl rfl ?_
  refine Tri.cd (by rw [show pureB _ _ = true from Nat.ble_eq_true_of_le (hl42 rfl)]; rfl) ?_
  refine Tri.eqv (congrArg (fun x => bindS x _) (dyn_at _ _ _ _ _ _)) ?_
  have Ho46:=H
  refine Tri.wroteC (sp148 (by first|rfl|assumption|omega|(dsimp only;omega)) (H.draw _)) L (fun v h2 e => by rw [e]; rfl) fun v h2 h B hq46 H2 hn46 hl46 eh46 H L => ?_
  obtain ⟨rfl, rfl⟩:=hq46
  refine w0 2 H rfl rfl rfl L (by first|rfl|assumption) fun h H L => ?_
  refine al 2 H rfl rfl ?_
  rw [P.fnd]
  refine Tri.neq (fun e => absurd e (by decide)) (fun _ => ?_)
  apply nF
  refine ls 4 H rfl rfl ?_
  refine Mid.tb (sp96 (by first|rfl|assumption|omega|(dsimp only;omega)) (by first|rfl|assumption|omega|(dsimp only;omega)) (by first|rfl|assumption|omega|(dsimp only;omega)) H) L fun v h B hq73 H L => ?_
  obtain ⟨X', xt, ph, k, rfl, rfl⟩:=hq73
  refine wl0 3 H rfl rfl rfl L (by first|rfl|assumption) fun h H L => ?_
  exact dTx (by decide) xt ph H.x1.x1.x1.x1 L
theorem sp28 {a : Vl} {op : Int} (ho : 18 ≤ op ∧ op ≤ 21) (A : Ok a) (P : PH X n) (hn : n ≤ 100) (H : St (HK X :: l) h) : Tri h false l (rOut X n) (M 28 [.ptr X.hb 0, .int .u8 op, vlV a] h):=by
 refine t3 e28 fun L => ?_
 unfold B28
 refine nw1 H L fun b0 h hb0 H L => ?_
 refine nw1 H L fun b1 h hb1 H L => ?_
 refine Tri.eql (fun e1 => ?_) (fun e1 => ?_)
 ·apply nT
  exact k109 A P hn L H
 apply nF
 refine Tri.eql (fun e2 => ?_) (fun e2 => ?_)
 ·apply nT
  exact k109 A P hn L H
 apply nF
 refine Tri.eql (fun e3 => ?_) (fun e3 => ?_)
 ·apply nT
  refine ls 2 H rfl rfl ?_
  refine tbe1 (sp30 H) L fun h H L => ?_
  refine Tri.not ?_
  refine tbe1 (sp88 H) L fun h H L => ?_
  refine tbe1 (sp82 H) L fun h H L => ?_
  refine wl0 1 H rfl rfl rfl L (by first|rfl|assumption) fun h H L => ?_
  exact dOut P H.x1.x1 L
 apply nF
 refine Tri.eql (fun e4 => ?_) (fun e4 => by omega)
 apply nT
 refine ls 2 H rfl rfl ?_
 refine Mid.tb (sp98 (by first|rfl|assumption|omega|(dsimp only;omega)) (by first|rfl|assumption|omega|(dsimp only;omega)) (by first|rfl|assumption|omega|(dsimp only;omega)) H) L fun v h B hq72 H L => ?_
 obtain ⟨X', kd, v, xt, ph, hk, rfl, rfl⟩:=hq72
 refine wl0 1 H rfl rfl rfl L (by first|rfl|assumption) fun h H L => ?_
 exact dO hk xt ph H.x1.x1 L
end
end Go.MS.P
end
