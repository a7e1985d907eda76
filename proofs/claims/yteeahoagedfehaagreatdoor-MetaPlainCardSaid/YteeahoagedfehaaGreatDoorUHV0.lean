/- A part of the proof. -/
import Derived.Test.YteeahoagedfehaaGreatDoorUHU5
import Derived.Lib.ItoaLen
set_option linter.all false
set_option warn.classDefReducibility false
noncomputable section
section
open Go Go.Mid Go.Proofs
set_option maxRecDepth 100000
namespace Go.MS
section
variable {l F : List Asn} {h h0 : Hp} {ro : Bool} {Q : V → List Asn → Prop} {k : V → VH} {K : V → Hp → VH} {v lV : V} {X X' : HI} {Y Y' : DI} {Z Z' : BI} {i j n : Nat} {nm : Bool}
structure PH (X : HI) (n : Nat) : Prop where
 len : X.os.length ≤ 28 + n
 us : used X.as ≤ 5656 + 4200 * (n : Int)
 mx : X.max = 1048576
 md : 0 ≤ X.made ∧ X.made ≤ 28
 pl : ∀ x ∈ X.os, x.a.pl.length ≤ 100
 nd : ∀ x ∈ X.os, (x.a.pl.map (·.1)).Nodup
 vs : ValsOk X
 me : ∀ x ∈ X.os, x.a.me = (0, 0)
 tx : ∀ x ∈ X.os, x.a.tx.n ≤ 65535
 ky : ∀ x ∈ X.os, ∀ p ∈ x.a.pl, p.1.1 = 4
theorem PH.room (P : PH X n) (hn : n ≤ 100) : Room X :=
 ⟨by have:=P.us; have:=P.mx; omega, used_pos _, by have:=P.mx; omega, by have:=P.len; omega, ⟨P.md.1, by have:=P.md.2; omega⟩, fun x h => by have:=P.pl x h; omega, P.nd⟩
def Xt (X X' : HI) : Prop:=X'.hb = X.hb ∧ ∃ ys, X'.os = X.os ++ ys
theorem Xt.refl (X : HI) : Xt X X:=⟨rfl, [], by rw [List.append_nil]⟩
theorem Xt.find {v : Vl} {x : IO} (h : Xt X X') (hf : findI X.os v = some x) : findI X'.os v = some x:=by
 obtain ⟨_, ys, e⟩:=h
 obtain ⟨h1, h2, h3, h4⟩:=findI_at hf
 unfold findI
 rw [if_pos ⟨h3, h4⟩, e, List.getElem?_append_left (List.getElem?_eq_some_iff.1 h1).1, h1]
 simp only []
 rw [if_pos h2]
theorem Xt.keep {v : Vl} (h : Xt X X') (hk : keepI X.os v = true) : keepI X'.os v = true:=by
 unfold keepI at hk ⊢
 split
 ·rename_i c; rw [if_pos c] at hk; cases hk
 ·rename_i c
  rw [if_neg c] at hk
  split
  ·rename_i c2
   rw [if_pos c2] at hk
   obtain ⟨x, hx⟩:=Option.isSome_iff_exists.1 hk
   rw [h.find hx]; rfl
  ·rfl
def rStrP (X : HI) (n : Nat) : V → List Asn → Prop:=fun w B => ∃ X', Xt X X' ∧ PH X' (n + 1) ∧ ∃ k, w = .tuple [vlV (4, k), .int .i64 0] ∧ B = [HK X']
theorem PH.up (P : PH X n) : PH X (n + 1):=⟨by have:=P.len; omega, by have:=P.us; omega, P.mx, P.md, P.pl, P.nd, P.vs, P.me, P.tx, P.ky⟩
theorem str_ph {s : Bs} (hs : s.n ≤ 65535) (P : PH X n) (hn : n ≤ 100) (H : St (HK X :: l) h) : Tri h false l (rStrP X n) (M 44 [.ptr X.hb 0, .str s] h):=by
 have R:=P.room hn
 have rr:=R.r
 cases ht : tget s X.as 0 with
 | none =>
  refine Tri.mono (str_new hs ht (by omega) R.u R.mx (by have:=R.len; omega) R.md H) fun v B hq => ?_
  obtain ⟨szV, ob, rfl, rfl⟩:=hq
  have ea : HI.as { X with szV:=szV, os:=X.os ++ [newX s ob] } = X.as ++ [(newX s ob).a]:=by unfold HI.as; rw [List.map_append]; rfl
  have hh : ∀ {p : IO → Prop}, (∀ x ∈ X.os, p x) → p (newX s ob) → ∀ x ∈ X.os ++ [newX s ob], p x := fun h1 h2 x hx => by
   rcases List.mem_append.1 hx with h | h
   ·exact h1 x h
   ·rw [List.mem_singleton] at h; subst h; exact h2
  refine ⟨{ X with szV:=szV, os:=X.os ++ [newX s ob] }, ⟨rfl, [newX s ob], rfl⟩, ⟨?_, ?_, P.mx, P.md, hh P.pl (Nat.zero_le _), hh P.nd List.nodup_nil, hh P.vs (fun p h => nomatch h), hh P.me rfl, hh P.tx hs, hh P.ky (fun p h => nomatch h)⟩, _, rfl, rfl⟩
  ·show (X.os ++ [newX s ob]).length ≤ _
   rw [List.length_append, List.length_singleton]; have:=P.len; omega
  ·rw [ea]
   have e2 : used (X.as ++ [(newX s ob).a]) = used X.as + ((1 + s.n / 16 : Nat) : Int):=by
    unfold used; rw [szs_snoc, List.sum_append]
    show _ + (((newX s ob).a.sz : Int) + 0) = _
    rw [Int.add_zero]; rfl
   have:=P.us
   rw [e2]; omega
 | some m =>
  refine t2 e44 fun L => ?_
  unfold B44
  refine nw1 H L fun b0 h hb0 H L => ?_
  refine tbe1 (sp102 H) L fun h H L => ?_
  refine Tri.not ?_
  apply nF
  refine Tri.eqv (bind_lenStr _ _) ?_
  refine Tri.lenStr ?_
  apply bS
  refine Tri.gtr (fun e => by omega) (fun _ => ?_)
  replace H:=openH H
  apply nF
  refine nal 0 H rfl rfl ?_
  have hg : mapGet (.str s) (txL X.as) = some (some (.int .i64 m)):=by
   have:=mapGet_tx s X.as 0; rw [ht] at this; exact this
  refine Tri.lookT 4 H rfl rfl hg ?_
  replace H:=closeH H
  refine Tri.ext rfl ?_
  refine Tri.ext rfl ?_
  apply nT
  refine tbe1 (sp110 H) L fun h H L => ?_
  refine Tri.bldS rfl ?_
  refine wl0 1 H rfl rfl rfl L (by first|rfl|assumption) fun h H L => ?_
  exact Tri.done (B:=[HK X]) ⟨X, Xt.refl X, P.up, m, rfl, rfl⟩ H.x1 L
structure PW (X : HI) : Prop where
 me : ∀ x ∈ X.os, x.a.me = (0, 0)
 pl : ∀ x ∈ X.os, x.a.pl.length ≤ 100000
theorem PW.fnd (P : PW X) (kn : Vl) (ok : Bool) (a : Vl) : fndI X.os kn ok a = (0, 0):=by
 have e : metaI X.os a = (0, 0):=by
  unfold metaI
  cases hx : ofI X.os a 5 with
  | none => rfl
  | some x => exact P.me x (mem_ofI hx)
 unfold fndI
 rw [e, if_neg (fun c => absurd c.2 (by decide))]
theorem PH.w (P : PH X n) : PW X:=⟨P.me, fun x h => by have:=P.pl x h; omega⟩
theorem PH.fnd (P : PH X n) (kn : Vl) (ok : Bool) (a : Vl) : fndI X.os kn ok a = (0, 0):=P.w.fnd kn ok a
theorem JI.ph {m : Nat} (J : JI true X Y Z 28 m) (hm : m ≤ 60) : PH X 0:=by
 have ha : ∀ x ∈ X.os, x.a ∈ X.as:=fun x h => List.mem_map_of_mem h
 refine ⟨by rw [J.lx (Nat.le_refl _)]; exact Nat.le_refl _, by have:=J.gx.used (Nat.le_refl _) (by omega); omega, J.mx, J.hx, fun x h => by have:=J.gx.pl _ (ha x h); omega, fun x h => J.gx.nd _ (ha x h), J.gx.vals, fun x h => J.me rfl _ (ha x h), fun x h => by have:=J.gx.tx (ha x h); omega, fun x h => J.gx.ky _ (ha x h)⟩
end
section
variable {l F : List Asn} {h h0 : Hp} {ro : Bool} {Q : V → List Asn → Prop} {k : V → VH} {K : V → Hp → VH} {v lV : V} {X X' : HI} {i j n : Nat}
theorem g64 {s : Bs} (H : St (HK X :: l) h) : Tri h true l (rFnd X s) (M 64 [.ptr X.hb 0, .str s] h):=by
 refine t2 e64 fun L => ?_
 unfold B64
 refine nw1 H L fun b0 h hb0 H L => ?_
 refine lo 1 H rfl rfl ?_
 refine tbe1 (sp146 H) L fun h H L => ?_
 refine Tri.ext rfl ?_
 refine Tri.ext rfl ?_
 refine nw1 H L fun b5 h hb5 H L => ?_
 refine nw1 H L fun b6 h hb6 H L => ?_
 refine w1 2 H rfl rfl rfl L ‹_› (by first|rfl|assumption) fun h H L => ?_
 refine Tri.store 1 H rfl (Nat.le_of_ble_eq_true rfl) L (fun _ => by assumption) (by first|rfl|assumption) fun h H L => ?_
 have H1:=closeF (H.d3.u2)
 exact Tri.done (B:=[HK X, FD X.hb _ _ _ _ _]) ⟨_, _, _, rfl, rfl⟩ H1.u1 L
def truB (a : Vl) : Bool:=decide (a.1 ≠ 0 ∧ a.1 ≠ 1)
theorem sp30 {a : Vl} (H : St l h) : Tri h true l (rNo (.bool (truB a))) (M 30 [vlV a] h):=by
 refine t1 e30 fun L => ?_
 unfold B30
 unfold truB
 refine nw H L fun b0 h hb0 H L => ?_
 refine al 0 H rfl rfl ?_
 refine Tri.neq (fun e => ?_) (fun e => ?_)
 ·apply gtt
  apply ba
  refine bl 0 H rfl rfl ?_
  apply bI
  refine Tri.neq (fun e2 => ?_) (fun e2 => ?_)
  ·apply bS
   apply pT
   rw [decide_eq_true ⟨e, e2⟩]
   exact Tri.done (B:=[]) ⟨rfl, rfl⟩ H.tl L
  ·apply bS
   apply pT
   rw [decide_eq_false (fun c => c.2 e2)]
   exact Tri.done (B:=[]) ⟨rfl, rfl⟩ H.tl L
 ·apply gft
  apply pF
  rw [decide_eq_false (fun c => c.1 e)]
  exact Tri.done (B:=[]) ⟨rfl, rfl⟩ H.tl L
def tru (b : Bool) : Vl:=if b then (2, 0) else (1, 0)
theorem sp88 {b : Bool} (H : St l h) : Tri h true l (rNo (vlV (tru b))) (M 88 [.bool b] h):=by
 refine t1 e88 fun L => ?_
 unfold B88
 cases b with
 | true =>
  refine nw H L fun b0 h hb0 H L => ?_
  apply nT
  refine Tri.bldS rfl ?_
  refine wl1 0 H rfl rfl rfl L ‹_› (by first|rfl|assumption) fun h H L => ?_
  exact Tri.done (B:=[]) ⟨rfl, rfl⟩ H.tl L
 | false =>
  refine nw H L fun b20 h hb20 H L => ?_
  apply nF
  refine Tri.bldS rfl ?_
  refine wl1 0 H rfl rfl rfl L ‹_› (by first|rfl|assumption) fun h H L => ?_
  exact Tri.done (B:=[]) ⟨rfl, rfl⟩ H.tl L
theorem f86 {s : Bs} {a b : Vl} (P : PW X) (H : St (HK X :: l) h) : Tri h true l (rHK X (vlV (0, 0))) (M 86 [.ptr X.hb 0, .str s, vlV a, vlV b] h):=by
 refine t4 e86 fun L => ?_
 unfold B86
 have hP:=P.pl
 refine nw1 H L fun b0 h hb0 H L => ?_
 refine nw1 H L fun b1 h hb1 H L => ?_
 refine nw1 H L fun b2 h hb2 H L => ?_
 refine tb1 (g64 H) L fun v h B hq H L => ?_
 obtain ⟨c0, c1, c2, rfl, rfl⟩:=hq
 refine ls 4 H rfl rfl ?_
 refine Tri.eqv (congrArg (fun x => bindS x _) (dyn_at _ _ _ _ _ _)) ?_
 refine tbe1 (sp148 (by first|rfl|assumption|omega|(dsimp only;omega)) H) L fun h H L => ?_
 refine nw2 H L fun b23 h hb23 H L => ?_
 refine w1 2 H rfl rfl rfl L ‹_› (by first|rfl|assumption) fun h H L => ?_
 refine al 2 H rfl rfl ?_
 rw [P.fnd]
 refine Tri.neq (fun e => absurd rfl e) (fun _ => ?_)
 apply nF
 refine ls 4 H rfl rfl ?_
 refine Tri.eqv (congrArg (fun x => bindS x _) (dyn_at _ _ _ _ _ _)) ?_
 refine tbe1 (sp148 (by first|rfl|assumption|omega|(dsimp only;omega)) H) L fun h H L => ?_
 refine wl1 3 H rfl rfl rfl L ‹_› (by first|rfl|assumption) fun h H L => ?_
 rw [P.fnd]
 skip
 exact dHK H.x1.x1.x1.x1.x1 L
theorem Tri.andI {d : IntKind} {m n : Int} (hk : ∀ r, Tri h0 ro F Q (k (.int d r))) : Tri h0 ro F Q (intS .and (.int d m) (.int d n) k):=by rw [intS_at]; exact hk _
theorem Tri.orI {d : IntKind} {m n : Int} (hk : ∀ r, Tri h0 ro F Q (k (.int d r))) : Tri h0 ro F Q (intS .or (.int d m) (.int d n) k):=by rw [intS_at]; exact hk _
theorem Tri.xorI {d : IntKind} {m n : Int} (hk : ∀ r, Tri h0 ro F Q (k (.int d r))) : Tri h0 ro F Q (intS .xor (.int d m) (.int d n) k):=by rw [intS_at]; exact hk _
theorem Tri.quoI {d : IntKind} {m n : Int} (hn : n ≠ 0) (hk : ∀ r, Tri h0 ro F Q (k (.int d r))) : Tri h0 ro F Q (intS .quo (.int d m) (.int d n) k):=by rw [intS_at, int_quo _ _ _ hn]; exact hk _
theorem Tri.addI {d : IntKind} {m n : Int} (hk : Tri h0 ro F Q (k (.int d (d.wrap (m + n))))) : Tri h0 ro F Q (intS .add (.int d m) (.int d n) k):=by rw [intS_at, int_add]; exact hk
theorem Tri.subI {d : IntKind} {m n : Int} (hk : Tri h0 ro F Q (k (.int d (d.wrap (m - n))))) : Tri h0 ro F Q (intS .sub (.int d m) (.int d n) k):=by rw [intS_at, int_sub]; exact hk
theorem Tri.mulI {d : IntKind} {m n : Int} (hk : Tri h0 ro F Q (k (.int d (d.wrap (m * n))))) : Tri h0 ro F Q (intS .mul (.int d m) (.int d n) k):=by rw [intS_at, int_mul]; exact hk
theorem Tri.negI {d : IntKind} {m : Int} (hk : Tri h0 ro F Q (k (.int d (d.wrap (0 - m))))) : Tri h0 ro F Q (negS (.int d m) k):=by
 show Tri h0 ro F Q (k (.int d (fwrap d (0 - m)))); rw [fwrap_eq]; exact hk
theorem Tri.shI {op : BinOp} {d d' : IntKind} {m n : Int} (ho : op = .shl ∨ op = .shr) (hn : 0 ≤ n) (hk : ∀ r, Tri h0 ro F Q (k (.int d r))) : Tri h0 ro F Q (shS op (.int d m) (.int d' n) k):=by
 show Tri h0 ro F Q (optS (shOp op d m n) k)
 unfold shOp
 rw [iLt_eq, decide_eq_false (by omega)]
 rcases ho with rfl | rfl <;> exact hk _
def rNum : V → List Asn → Prop:=fun w B => ∃ r e : Int, w = .tuple [.int .i64 r, .int .i64 e] ∧ B = []
def rInt : V → List Asn → Prop:=fun w B => ∃ r : Int, w = .int .i64 r ∧ B = []
theorem sp162 {a b : Int} (H : St l h) : Tri h true l rInt (M 162 [.int .i64 a, .int .i64 b] h):=by
 refine t2 e162 fun L => ?_
 unfold B162
 refine Tri.leq (fun e => ?_) (fun e => ?_)
 ·apply gtf
  apply pT
  apply nT
  exact Tri.done (B:=[]) ⟨_, rfl, rfl⟩ H L
 ·apply gff
  apply bI
  refine Tri.geq (fun e2 => ?_) (fun e2 => ?_)
  ·apply bS
   apply pF
   apply nT
   exact Tri.done (B:=[]) ⟨_, rfl, rfl⟩ H L
  ·apply bS
   apply pF
   apply nF
   refine Tri.lss (fun e3 => ?_) (fun e3 => ?_)
   ·apply nT
    refine Tri.conv ?_
    refine Tri.negI ?_
    rw [i64_of (by omega) (by omega)]
    refine Tri.shI (.inr rfl) (by omega) fun r => ?_
    refine Tri.conv ?_
    exact Tri.done (B:=[]) ⟨_, rfl, rfl⟩ H L
   ·apply nF
    refine Tri.shI (.inl rfl) (by omega) fun r => ?_
    exact Tri.done (B:=[]) ⟨_, rfl, rfl⟩ H L
theorem sp160 {a b : Int} (hb : b ≠ 0) (H : St l h) : Tri h true l rNum (M 160 [.int .i64 a, .int .i64 b] h):=by
 have fin : ∀ {x y : Int} {h : Hp}, St l h → Tri h true l rNum (M 119 [.int .i64 x, .int .i64 y] h) := fun {x y h} H => by
  refine t2 e119 fun L => ?_
  unfold B119
  exact Tri.done (B:=[]) ⟨_, _, rfl, rfl⟩ H L
 have main : ∀ {h' : Hp}, St l h' → Lo true h h' → Tri h true l rNum (intS .quo (.int .i64 a) (.int .i64 b) fun v5 => intS .rem (.int .i64 a) (.int .i64 b) fun v6 => intS .neq v6 (.int .i64 0) fun v7 =>
  guardS v7 true (intS .xor v6 (.int .i64 b) fun v8 => intS .lss v8 (.int .i64 0) fun v9 => some (v9, h')) h' fun v10 h11 => optS (pickV v7 v10 (.bool false)) fun v12 =>
  ifS v12 (intS .sub v5 (.int .i64 1) fun v13 => intS .add v6 (.int .i64 b) fun v14 => M 119 [v13, v14] h11) (M 119 [v5, v6] h11)):=by
  intro h' H L
  refine Tri.quoI hb fun q => ?_
  refine Tri.rem hb ?_
  refine Tri.neq (fun e => ?_) (fun e => ?_)
  ·apply gtt
   apply bI
   refine Tri.xorI fun r => ?_
   apply bI
   refine Tri.lss (fun e => ?_) (fun e => ?_)
   ·apply bS
    apply pT
    apply nT
    refine Tri.sub ?_
    refine Tri.add ?_
    exact te (fin H) L
   ·apply bS
    apply pT
    apply nF
    exact te (fin H) L
  ·apply gft
   apply pF
   apply nF
   exact te (fin H) L
 refine t2 e160 fun L => ?_
 unfold B160
 refine Tri.eql (fun e => ?_) (fun e => ?_)
 ·apply gtt
  apply bI
  refine Tri.eql (fun e2 => ?_) (fun e2 => ?_)
  ·apply bS
   apply pT
   apply nT
   exact Tri.done (B:=[]) ⟨_, _, rfl, rfl⟩ H L
  ·apply bS
   apply pT
   apply nF
   exact main H L
 ·apply gft
  apply pF
  apply nF
  exact main H L
theorem k117 {op a b : Int} {y : Bool} (H : St l h) : Tri h true l rNum (M 117 [.int .u8 op, .int .i64 a, .int .i64 b, .int .u8 op, .bool y] h):=by
 refine t5 e117 fun L => ?_
 unfold B117
 cases y with
 | true =>
  apply nT
  refine Tri.eql (fun e => ?_) (fun e => ?_)
  ·apply nT
   exact Tri.done (B:=[]) ⟨_, _, rfl, rfl⟩ H L
  ·apply nF
   refine tb1 (sp160 (by first|rfl|assumption|omega|(dsimp only;omega)) H) L fun v h B hq21 H L => ?_
   obtain ⟨r, e, rfl, rfl⟩:=hq21
   refine Tri.ext rfl ?_
   refine Tri.ext rfl ?_
   refine Tri.eql (fun e2 => ?_) (fun e2 => ?_)
   ·apply nT
    exact Tri.done (B:=[]) ⟨_, _, rfl, rfl⟩ H L
   ·apply nF
    exact Tri.done (B:=[]) ⟨_, _, rfl, rfl⟩ H L
 | false =>
  apply nF
  refine Tri.eql (fun e => ?_) (fun e => ?_)
  ·apply nT
   refine Tri.andI fun r => ?_
   exact Tri.done (B:=[]) ⟨_, _, rfl, rfl⟩ H L
  apply nF
  refine Tri.eql (fun e => ?_) (fun e => ?_)
  ·apply nT
   refine Tri.orI fun r => ?_
   exact Tri.done (B:=[]) ⟨_, _, rfl, rfl⟩ H L
  apply nF
  refine Tri.eql (fun e => ?_) (fun e => ?_)
  ·apply nT
   refine Tri.xorI fun r => ?_
   exact Tri.done (B:=[]) ⟨_, _, rfl, rfl⟩ H L
  apply nF
  refine Tri.eql (fun e => ?_) (fun e => ?_)
  ·apply nT
   refine tb1 (sp162 H) L fun v h B hq121 H L => ?_
   obtain ⟨r, rfl, rfl⟩:=hq121
   exact Tri.done (B:=[]) ⟨_, _, rfl, rfl⟩ H L
  apply nF
  refine Tri.eql (fun e => ?_) (fun e => ?_)
  ·apply nT
   refine Tri.eql (fun e => ?_) (fun e => ?_)
   ·apply nT
    exact Tri.done (B:=[]) ⟨_, _, rfl, rfl⟩ H L
   ·apply nF
    refine Tri.negI ?_
    refine tb1 (sp162 H) L fun v h B hq170 H L => ?_
    obtain ⟨r, rfl, rfl⟩:=hq170
    exact Tri.done (B:=[]) ⟨_, _, rfl, rfl⟩ H L
  apply nF
  refine Tri.eql (fun e => ?_) (fun e => ?_)
  ·apply nT
   refine Tri.negI ?_
   exact Tri.done (B:=[]) ⟨_, _, rfl, rfl⟩ H L
  apply nF
  refine Tri.eql (fun e => ?_) (fun e => ?_)
  ·apply nT
   exact Tri.done (B:=[]) ⟨_, _, rfl, rfl⟩ H L
  ·apply nF
   exact Tri.done (B:=[]) ⟨_, _, rfl, rfl⟩ H L
theorem sp94 {op a b : Int} (H : St l h) : Tri h true l rNum (M 94 [.int .u8 op, .int .i64 a, .int .i64 b] h):=by
 refine t3 e94 fun L => ?_
 unfold B94
 refine Tri.eql (fun e => ?_) (fun e => ?_)
 ·apply nT
  refine Tri.addI ?_
  exact Tri.done (B:=[]) ⟨_, _, rfl, rfl⟩ H L
 apply nF
 refine Tri.eql (fun e => ?_) (fun e => ?_)
 ·apply nT
  refine Tri.subI ?_
  exact Tri.done (B:=[]) ⟨_, _, rfl, rfl⟩ H L
 apply nF
 refine Tri.eql (fun e => ?_) (fun e => ?_)
 ·apply nT
  refine Tri.mulI ?_
  exact Tri.done (B:=[]) ⟨_, _, rfl, rfl⟩ H L
 apply nF
 refine Tri.eql (fun e => ?_) (fun e => ?_)
 ·apply nT
  exact te (k117 H) L
 apply nF
 refine Tri.eql (fun e => ?_) (fun e => ?_)
 ·exact te (k117 H) L
 ·exact te (k117 H) L
theorem add94 {a b : Int} (H : St l h) : Tri h true l (rNo (.tuple [.int .i64 (IntKind.i64.wrap (a + b)), .int .i64 0])) (M 94 [.int .u8 1, .int .i64 a, .int .i64 b] h):=by
 refine t3 e94 fun L => ?_
 unfold B94
 refine eTi (by decide) ?_
 refine Tri.add ?_
 exact Tri.done (B:=[]) ⟨rfl, rfl⟩ H L
theorem sub94 {a b : Int} (H : St l h) : Tri h true l (rNo (.tuple [.int .i64 (IntKind.i64.wrap (a - b)), .int .i64 0])) (M 94 [.int .u8 2, .int .i64 a, .int .i64 b] h):=by
 refine t3 e94 fun L => ?_
 unfold B94
 refine eFi (by decide) ?_
 refine eTi (by decide) ?_
 refine Tri.sub ?_
 exact Tri.done (B:=[]) ⟨rfl, rfl⟩ H L
theorem mul94 {a b : Int} (H : St l h) : Tri h true l (rNo (.tuple [.int .i64 (IntKind.i64.wrap (a * b)), .int .i64 0])) (M 94 [.int .u8 3, .int .i64 a, .int .i64 b] h):=by
 refine t3 e94 fun L => ?_
 unfold B94
 refine eFi (by decide) ?_
 refine eFi (by decide) ?_
 refine eTi (by decide) ?_
 refine Tri.mulI ?_
 exact Tri.done (B:=[]) ⟨rfl, rfl⟩ H L
def cmpB (op a b : Int) : Bool:=if op = 12 then decide (a = b) else if op = 13 then decide (a ≠ b) else if op = 14 then decide (a < b) else if op = 15 then decide (a ≤ b) else if op = 16 then decide (b < a) else if op = 17 then decide (b ≤ a) else false
def rCmp (op a b : Int) : V → List Asn → Prop:=fun w B => ∃ e : Int, w = .tuple [.bool (cmpB op a b), .int .i64 e] ∧ B = []
theorem sp156 {op a b : Int} (H : St l h) : Tri h true l (rCmp op a b) (M 156 [.int .u8 op, .int .i64 a, .int .i64 b] h):=by
 refine t3 e156 fun L => ?_
 unfold B156
 have fin : ∀ {c : Bool} {e : Int} {h' : Hp}, c = cmpB op a b → St l h' → Lo true h h' → Tri h true l (rCmp op a b) (some (.tuple [.bool c, .int .i64 e], h')) := fun {c e h'} hc H L => by
  subst hc; exact Tri.done (B:=[]) ⟨e, rfl, rfl⟩ H L
 unfold cmpB at fin
 refine Tri.eql (fun e => ?_) (fun e1 => ?_)
 ·apply nT
  refine Tri.eql (fun e2 => fin (by rw [if_pos e, decide_eq_true e2]) H L) (fun e2 => fin (by rw [if_pos e, decide_eq_false e2]) H L)
 apply nF
 rw [if_neg e1] at fin
 refine Tri.eql (fun e => ?_) (fun e1 => ?_)
 ·apply nT
  refine Tri.neq (fun e2 => fin (by rw [if_pos e, decide_eq_true e2]) H L) (fun e2 => fin (by rw [if_pos e, decide_eq_false (fun c => c e2)]) H L)
 apply nF
 rw [if_neg e1] at fin
 refine Tri.eql (fun e => ?_) (fun e1 => ?_)
 ·apply nT
  refine Tri.lss (fun e2 => fin (by rw [if_pos e, decide_eq_true e2]) H L) (fun e2 => fin (by rw [if_pos e, decide_eq_false (by omega)]) H L)
 apply nF
 rw [if_neg e1] at fin
 refine Tri.eql (fun e => ?_) (fun e1 => ?_)
 ·apply nT
  refine Tri.leq (fun e2 => fin (by rw [if_pos e, decide_eq_true e2]) H L) (fun e2 => fin (by rw [if_pos e, decide_eq_false (by omega)]) H L)
 apply nF
 rw [if_neg e1] at fin
 refine Tri.eql (fun e => ?_) (fun e1 => ?_)
 ·apply nT
  refine Tri.gtr (fun e2 => fin (by rw [if_pos e, decide_eq_true (by omega)]) H L) (fun e2 => fin (by rw [if_pos e, decide_eq_false (by omega)]) H L)
 apply nF
 rw [if_neg e1] at fin
 refine Tri.eql (fun e => ?_) (fun e1 => ?_)
 ·apply nT
  refine Tri.geq (fun e2 => fin (by rw [if_pos e, decide_eq_true (by omega)]) H L) (fun e2 => fin (by rw [if_pos e, decide_eq_false (by omega)]) H L)
 apply nF
 rw [if_neg e1] at fin
 exact fin rfl H L
def rTxt (X : HI) : V → List Asn → Prop:=fun w B => ∃ (z : Bs) (b : Bool), z.n ≤ 65535 ∧ w = .tuple [.str z, .bool b] ∧ B = [HK X]
theorem sp78 {a : Vl} (P : PH X n) (H : St (HK X :: l) h) : Tri h true l (rTxt X) (M 78 [.ptr X.hb 0, vlV a] h):=by
 refine t2 e78 fun L => ?_
 unfold B78
 refine nw1 H L fun b0 h hb0 H L => ?_
 refine ls 1 H rfl rfl ?_
 refine tbe1 (sp60 H) L fun h H L => ?_
 cases hx : ofI X.os a 4 with
 | none =>
  skip
  exact Tri.done (B:=[HK X]) ⟨_, _, by decide, rfl, rfl⟩ H.x1 L
 | some x =>
  obtain ⟨h1, h2, h3⟩:=ofI_at hx
  refine Tri.neP ?_
  apply nT
  apply nl
  apply ad
  refine Tri.loadC (w:=.str x.a.tx) ?_ ?_
  ·exact obj_cell H (i := 0) (o := 2) rfl h1 rfl
  skip
  exact Tri.done (B:=[HK X]) ⟨_, _, P.tx x (List.mem_of_getElem? h1), rfl, rfl⟩ H.x1 L
theorem sp158 {a b : Bs} (H : St l h) : Tri h true l rInt (M 158 [.str a, .str b] h):=by
 refine t2 e158 fun L => ?_
 unfold B158
 have e : M 196 [.str a, .str b] h = some (.int .i64 (Lib.compareBytes a.l b.l), h):=by
  refine (@lim_F Tryz.prog (orc fnA Inv) labs 98 _ _ _).2 ⟨0, ?_⟩
  rfl
 rw [e]
 exact Tri.done (B:=[]) ⟨_, rfl, rfl⟩ H L
theorem sp206 {n : Int} (hn : -9223372036854775808 ≤ n ∧ n ≤ 9223372036854775807) (H : St l h) : Tri h true l (rStr 65535) (M 206 [.int .i64 n, .int .i64 10] h):=by
 refine t2 e206 fun L => ?_
 unfold B206
 have e : M 212 [.int .i64 n, .int .i64 10] h = some (.str (pack (Lib.itoa n)), h):=by
  refine (@lim_F Tryz.prog (orc fnA Inv) labs 106 _ _ _).2 ⟨0, ?_⟩
  have hd : digF [.int .i64 n, .int .i64 10] h = some (.str (pack (Lib.itoa n)), h):=if_pos hn
  show enterO Tryz.prog _ h 106 _ (digF [.int .i64 n, .int .i64 10] h) = _
  rw [hd]
  rfl
 rw [e]
 have:=Lib.itoa_length_le n hn.1 hn.2
 exact Tri.done (B:=[]) ⟨_, by rw [pack_n]; omega, rfl, rfl⟩ H L
theorem sp194 {n : Int} (hn : -9223372036854775808 ≤ n ∧ n ≤ 9223372036854775807) (H : St l h) : Tri h true l (rStr 65535) (M 194 [.int .i64 n] h):=by
 refine t1 e194 fun L => ?_
 unfold B194
 refine tb1 (sp206 (by first|rfl|assumption|omega|(dsimp only;omega)) H) L fun v h B hq0 H L => ?_
 obtain ⟨z, hz, rfl, rfl⟩:=hq0
 exact Tri.done (B:=[]) ⟨z, hz, rfl, rfl⟩ H L
theorem sp154 {a : Vl} (ha : -9223372036854775808 ≤ a.2 ∧ a.2 ≤ 9223372036854775807) (P : PH X n) (H : St (HK X :: l) h) : Tri h true l (rTxt X) (M 154 [.ptr X.hb 0, vlV a] h):=by
 refine t2 e154 fun L => ?_
 unfold B154
 refine nw1 H L fun b0 h hb0 H L => ?_
 refine al 1 H rfl rfl ?_
 refine Tri.eql (fun e => ?_) (fun e => ?_)
 ·apply nT
  refine al 1 H rfl rfl ?_
  refine tb1 (sp194 (by first|rfl|assumption|omega|(dsimp only;omega)) H) L fun v h B hq23 H L => ?_
  obtain ⟨z, hz, rfl, rfl⟩:=hq23
  exact Tri.done (B:=[HK X]) ⟨_, _, hz, rfl, rfl⟩ H.x1 L
 ·apply nF
  refine ls 1 H rfl rfl ?_
  refine tb1 (sp78 (by first|rfl|assumption|omega|(dsimp only;omega)) H) L fun v h B hq42 H L => ?_
  obtain ⟨z42, t42, hz42, rfl, rfl⟩:=hq42
  refine Tri.ext rfl ?_
  refine Tri.ext rfl ?_
  refine al 1 H rfl rfl ?_
  exact Tri.done (B:=[HK X]) ⟨_, _, by assumption, rfl, rfl⟩ H.x1 L
end
end Go.MS
end
