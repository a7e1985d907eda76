/- A part of the proof. -/
import Derived.Test.YteeahoagedfehaaGreatDoorUHV0
set_option linter.all false
set_option warn.classDefReducibility false
noncomputable section
section
open Go Go.Mid Go.Proofs
set_option maxRecDepth 100000
namespace Go.MS.P
section
variable {l F : List Asn} {h h0 : Hp} {ro : Bool} {Q : V → List Asn → Prop} {k : V → VH} {K : V → Hp → VH} {v lV : V} {X X' : HI} {i j n : Nat}
def rFn1 (X : HI) (s : Bs) : V → List Asn → Prop:=rFnd X s
theorem sp64 {s : Bs} (H : St (HK X :: l) h) : Tri h true l (rFn1 X s) (M 64 [.ptr X.hb 0, .str s] h):=g64 H
theorem sp86 {s : Bs} {a b : Vl} (P : PH X n) (H : St (HK X :: l) h) : Tri h true l (rHK X (vlV (0, 0))) (M 86 [.ptr X.hb 0, .str s, vlV a, vlV b] h):=f86 P.w H
theorem sp44 {s : Bs} (hs : s.n ≤ 65535) (P : PH X n) (hn : n ≤ 100) (H : St (HK X :: l) h) : Tri h false l (rStrP X n) (M 44 [.ptr X.hb 0, .str s] h):=str_ph hs P hn H
def rTx (X : HI) (n : Nat) (kd : Int) : V → List Asn → Prop:=fun w B => ∃ X', Xt X X' ∧ PH X' (n + 1) ∧ ∃ k, w = outV kd (4, k) (0, 0) .nilSlice 0 ∧ B = [HK X']
def rOut (X : HI) (n : Nat) : V → List Asn → Prop:=fun w B => ∃ X' kd v, Xt X X' ∧ PH X' (n + 1) ∧ kd ≠ 2 ∧ w = outV kd v (0, 0) .nilSlice 0 ∧ B = [HK X']
theorem dTx {X0 : HI} {kd : Int} {k : Int} (hk : kd ≠ 2) (x : Xt X0 X) (P : PH X (n + 1)) (H : St (HK X :: l) h) (L : Lo ro h0 h) : Tri h0 ro l (rOut X0 n) (some (outV kd (4, k) (0, 0) .nilSlice 0, h)) :=
 Tri.done (B:=[HK X]) ⟨X, kd, _, x, P, hk, rfl, rfl⟩ H L
theorem dOut {v : Vl} (P : PH X n) (H : St (HK X :: l) h) (L : Lo ro h0 h) : Tri h0 ro l (rOut X n) (some (outV 1 v (0, 0) .nilSlice 0, h)) :=
 Tri.done (B:=[HK X]) ⟨X, 1, v, Xt.refl X, P.up, by decide, rfl, rfl⟩ H L
theorem sp152 {s : Bs} {kd : Int} (hs : s.n ≤ 65535) (P : PH X n) (hn : n ≤ 100) (H : St (HK X :: l) h) : Tri h false l (rTx X n kd) (M 152 [.ptr X.hb 0, .int .u8 kd, .str s] h):=by
 refine t3 e152 fun L => ?_
 unfold B152
 refine nw1 H L fun b0 h hb0 H L => ?_
 refine Mid.tb (sp44 (by first|rfl|assumption|omega|(dsimp only;omega)) (by first|rfl|assumption|omega|(dsimp only;omega)) (by first|rfl|assumption|omega|(dsimp only;omega)) H) L fun v h B hq1 H L => ?_
 obtain ⟨X', xt, ph, k, rfl, rfl⟩:=hq1
 refine Tri.ext rfl ?_
 refine Tri.ext rfl ?_
 refine nw1 H L fun b4 h hb4 H L => ?_
 refine w0 1 H rfl rfl rfl L (by first|rfl|assumption) fun h H L => ?_
 refine Tri.neq (fun e => absurd e (by decide)) (fun _ => ?_)
 apply nF
 refine ls 1 H rfl rfl ?_
 refine Tri.bldS rfl ?_
 refine wl0 2 H rfl rfl rfl L (by first|rfl|assumption) fun h H L => ?_
 exact Tri.done (B:=[HK X']) ⟨X', xt, ph, k, rfl, rfl⟩ H.x1.x1 L
theorem sp70 {s : Bs} (hs : s.n ≤ 65535) (P : PH X n) (hn : n ≤ 100) (H : St (HK X :: l) h) : Tri h false l (rTx X n 3) (M 70 [.ptr X.hb 0, .str s] h):=by
 refine t2 e70 fun L => ?_
 unfold B70
 refine nw1 H L fun b0 h hb0 H L => ?_
 refine Mid.tb (sp152 (by first|rfl|assumption|omega|(dsimp only;omega)) (by first|rfl|assumption|omega|(dsimp only;omega)) (by first|rfl|assumption|omega|(dsimp only;omega)) H) L fun v h B hq1 H L => ?_
 obtain ⟨X', xt, ph, k, rfl, rfl⟩:=hq1
 refine wl0 1 H rfl rfl rfl L (by first|rfl|assumption) fun h H L => ?_
 exact Tri.done (B:=[HK X']) ⟨X', xt, ph, k, rfl, rfl⟩ H.x1 L
structure Ok (a : Vl) : Prop where
 o : okV a
 r : -9223372036854775808 ≤ a.2 ∧ a.2 ≤ 9223372036854775807
theorem sp72 {a : Vl} (A : Ok a) (H : St l h) : Tri h true l (rStr 8) (M 72 [vlV a] h):=by
 have:=A.o.1; have:=A.o.2.1
 exact MS.sp72 (by omega) (by omega) H
theorem sp154 {a : Vl} (A : Ok a) (P : PH X n) (H : St (HK X :: l) h) : Tri h true l (rTxt X) (M 154 [.ptr X.hb 0, vlV a] h):=MS.sp154 A.r P H
theorem sp96 {a : Vl} {op : Int} (A : Ok a) (P : PH X n) (hn : n ≤ 100) (H : St (HK X :: l) h) : Tri h false l (rTx X n 3) (M 96 [.ptr X.hb 0, .int .u8 op, vlV a] h):=by
 have ih115 : ∀ {b5 b6 : Nat} {s : Bs} {h : Hp}, s.n ≤ 65000 → St (HK X :: Mid.row b6 (vcells (outV 0 (0, 0) (0, 0) .nilSlice 0)) :: Mid.row b5 (vlC a) :: l) h → Tri h false l (rTx X n 3) (M 115 [.ptr X.hb 0, .ptr b5 0, .ptr b6 0, .str s] h):=by
  intro b5 b6 s h hs H
  refine t4 e115 fun L => ?_
  unfold B115
  refine Tri.strAdd (by simp only [*]; omega) fun z10 ez10 => ?_
  refine Tri.strAdd (by simp only [*]; omega) fun z11 ez11 => ?_
  refine ls 2 H rfl rfl ?_
  refine tb1 (sp72 (by first|rfl|assumption|omega|(dsimp only;omega)) H) L fun v h B hq13 H L => ?_
  obtain ⟨z, hz, rfl, rfl⟩:=hq13
  refine Tri.strAdd (by simp only [*]; omega) fun z14 ez14 => ?_
  refine Tri.strAdd (by simp only [*]; omega) fun z15 ez15 => ?_
  refine Mid.tb (sp70 (by dsimp only at *; omega) P hn H) L fun v h B hq H L => ?_
  obtain ⟨X', xt, ph, k, rfl, rfl⟩:=hq
  refine wl0 1 H rfl rfl rfl L (by first|rfl|assumption) fun h H L => ?_
  exact Tri.done (B:=[HK X']) ⟨X', xt, ph, k, rfl, rfl⟩ H.x1.x1 L
 refine t3 e96 fun L => ?_
 unfold B96
 refine nw1 H L fun b0 h hb0 H L => ?_
 refine nw1 H L fun b1 h hb1 H L => ?_
 refine Tri.geq (fun e => ?_) (fun e => ?_)
 ·apply gtt
  apply bI
  refine Tri.leq (fun e => ?_) (fun e => ?_)
  ·apply bS
   apply pT
   apply gtf
   apply pT
   apply nT
   refine te (ih115 (by first|rfl|assumption|omega|(dsimp only;omega)) H) L
  ·apply bS
   apply pT
   apply gff
   apply bI
   refine Tri.eql (fun e => ?_) (fun e => ?_)
   ·apply bS
    apply pF
    apply nT
    refine te (ih115 (by first|rfl|assumption|omega|(dsimp only;omega)) H) L
   ·apply bS
    apply pF
    apply nF
    refine te (ih115 (by first|rfl|assumption|omega|(dsimp only;omega)) H) L
 ·apply gft
  apply pF
  apply gff
  apply bI
  refine Tri.eql (fun e => ?_) (fun e => ?_)
  ·apply bS
   apply pF
   apply nT
   refine te (ih115 (by first|rfl|assumption|omega|(dsimp only;omega)) H) L
  ·apply bS
   apply pF
   apply nF
   refine te (ih115 (by first|rfl|assumption|omega|(dsimp only;omega)) H) L
def isS : V → Bool
 | .str _ => true
 | _ => false
theorem strs_at : ∀ {cs : List V} {o : Nat}, cs.all isS = true → o < cs.length → ∃ z, cs[o]? = some (.str z)
 | [], _, _, h => absurd h (Nat.not_lt_zero _)
 | .str z :: _, 0, _, _ => ⟨z, rfl⟩
 | c :: cs, o + 1, h, h2 => strs_at (cs:=cs) (by rw [List.all_cons, Bool.and_eq_true] at h; exact h.2) (by simpa using h2)
theorem Tri.loadS {cs : List V} {b o : Nat} (i : Nat) (H : St l h) (hl : l[i]? = some (Mid.row b cs)) (ha : cs.all isS = true) (ho : o < cs.length) (hk : ∀ z, Tri h0 ro F Q (k (.str z))) : Tri h0 ro F Q (load1 (.ptr b o) h k):=by
 obtain ⟨z, hz⟩:=strs_at ha ho
 exact Tri.load i (v:=.str z) H hl hz (hk z)
theorem sp92 {a b : Vl} {op : Int} (ho : 1 ≤ op ∧ op ≤ 10) (A : Ok a) (A' : Ok b) (P : PH X n) (hn : n ≤ 100) (H : St (HK X :: l) h) : Tri h false l (rOut X n) (M 92 [.ptr X.hb 0, .int .u8 op, vlV a, vlV b] h):=by
 have ih111 : ∀ {c : Vl} {b5 b6 : Nat} {h : Hp} {l : List Asn}, Ok c → St (HK X :: Mid.row b6 (vcells (outV 0 (0, 0) (0, 0) .nilSlice 0)) :: Mid.row b5 (vlC c) :: l) h → Tri h false l (rOut X n) (M 111 [.ptr X.hb 0, .int .u8 op, .ptr b5 0, .ptr b6 0] h):=by
  intro c b5 b6 h l A H
  refine t4 e111 fun L => ?_
  unfold B111
  refine ls 2 H rfl rfl ?_
  refine Mid.tb (sp96 (by first|rfl|assumption|omega|(dsimp only;omega)) (by first|rfl|assumption|omega|(dsimp only;omega)) (by first|rfl|assumption|omega|(dsimp only;omega)) H) L fun v h B hq1 H L => ?_
  obtain ⟨X', xt, ph, k, rfl, rfl⟩:=hq1
  refine wl0 1 H rfl rfl rfl L (by first|rfl|assumption) fun h H L => ?_
  exact dTx (by decide) xt ph H.x1.x1 L
 refine t4 e92 fun L => ?_
 unfold B92
 refine nw1 H L fun b0 h hb0 H L => ?_
 refine nw1 H L fun b1 h hb1 H L => ?_
 refine nw1 H L fun b2 h hb2 H L => ?_
 refine al 3 H rfl rfl ?_
 refine Tri.eql (fun e1 => ?_) (fun e1 => ?_)
 ·apply gtt
  apply ba
  refine bl 2 H rfl rfl ?_
  apply bI
  refine Tri.eql (fun e2 => ?_) (fun e2 => ?_)
  ·apply bS
   apply pT
   apply nT
   refine al 3 H rfl rfl ?_
   refine al 2 H rfl rfl ?_
   refine tb1 (sp94 H) L fun v h B hq27 H L => ?_
   obtain ⟨r, e, rfl, rfl⟩:=hq27
   refine Tri.ext rfl ?_
   refine Tri.ext rfl ?_
   refine Tri.eql (fun e3 => ?_) (fun e3 => ?_)
   ·apply nT
    refine Tri.bldS rfl ?_
    refine tbe1 (MS.sp82 (a:=(3, r)) H) L fun h H L => ?_
    refine wl0 1 H rfl rfl rfl L (by first|rfl|assumption) fun h H L => ?_
    exact dOut (v:=(3, r)) P H.x1.x1.x1 L
   ·apply nF
    refine Tri.eql (fun e4 => ?_) (fun e4 => ?_)
    ·apply nT
     refine Mid.tb (sp70 (by first|rfl|assumption|omega|(dsimp only;omega)) (by first|rfl|assumption|omega|(dsimp only;omega)) (by first|rfl|assumption|omega|(dsimp only;omega)) H) L fun v h B hq51 H L => ?_
     obtain ⟨X', xt, ph, k, rfl, rfl⟩:=hq51
     refine wl0 1 H rfl rfl rfl L (by first|rfl|assumption) fun h H L => ?_
     exact dTx (by decide) xt ph H.x1.x1.x1 L
    ·apply nF
     refine Mid.tb (sp70 (by first|rfl|assumption|omega|(dsimp only;omega)) (by first|rfl|assumption|omega|(dsimp only;omega)) (by first|rfl|assumption|omega|(dsimp only;omega)) H) L fun v h B hq61 H L => ?_
     obtain ⟨X', xt, ph, k, rfl, rfl⟩:=hq61
     refine wl0 1 H rfl rfl rfl L (by first|rfl|assumption) fun h H L => ?_
     exact dTx (by decide) xt ph H.x1.x1.x1 L
  ·apply bS
   apply pT
   apply nF
   refine Tri.bldS rfl ?_
   refine nw1 H L fun b44 h hb44 H L => ?_
   refine w0 1 H rfl rfl rfl L (by first|rfl|assumption) fun h H L => ?_
   refine nw1 H L fun b46 h hb46 H L => ?_
   refine Tri.idxP (by omega) (by omega) ?_
   rw [Nat.mul_one, Nat.zero_add]
   refine Tri.loadS 2 H rfl rfl (by show op.toNat < 11; omega) fun z => ?_
   refine ls 5 H rfl rfl ?_
   refine ls 4 H rfl rfl ?_
   have Ho52:=H
   refine Tri.wroteC (sp86 (by first|rfl|assumption|omega|(dsimp only;omega)) (H.draw _)) L (fun v h2 e => by rw [e]; rfl) fun v h2 h B hq52 H2 hn52 hl52 eh52 H L => ?_
   obtain ⟨rfl, rfl⟩:=hq52
   refine w0 1 H rfl rfl rfl L (by first|rfl|assumption) fun h H L => ?_
   refine al 1 H rfl rfl ?_
   refine Tri.neq (fun e => absurd e (by decide)) (fun _ => ?_)
   apply nF
   refine al 5 H rfl rfl ?_
   refine Tri.eql (fun _ => ?_) (fun e => absurd e1 e)
   apply nT
   refine ls 4 H rfl rfl ?_
   refine w0 5 H rfl rfl rfl L (by first|rfl|assumption) fun h H L => ?_
   exact te (ih111 A' H.x1.x1.x2) L
 ·apply gft
  apply pF
  apply nF
  refine Tri.bldS rfl ?_
  refine nw1 H L fun b54 h hb54 H L => ?_
  refine w0 1 H rfl rfl rfl L (by first|rfl|assumption) fun h H L => ?_
  refine nw1 H L fun b56 h hb56 H L => ?_
  refine Tri.idxP (by omega) (by omega) ?_
  rw [Nat.mul_one, Nat.zero_add]
  refine Tri.loadS 2 H rfl rfl (by show op.toNat < 11; omega) fun z => ?_
  refine ls 5 H rfl rfl ?_
  refine ls 4 H rfl rfl ?_
  have Ho62:=H
  refine Tri.wroteC (sp86 (by first|rfl|assumption|omega|(dsimp only;omega)) (H.draw _)) L (fun v h2 e => by rw [e]; rfl) fun v h2 h B hq62 H2 hn62 hl62 eh62 H L => ?_
  obtain ⟨rfl, rfl⟩:=hq62
  refine w0 1 H rfl rfl rfl L (by first|rfl|assumption) fun h H L => ?_
  refine al 1 H rfl rfl ?_
  refine Tri.neq (fun e => absurd e (by decide)) (fun _ => ?_)
  apply nF
  refine al 5 H rfl rfl ?_
  refine Tri.eql (fun e => absurd e e1) (fun _ => ?_)
  apply nF
  exact te (ih111 A H.x1.x1.x2) L
theorem sp84 {a b : Vl} (A : Ok a) (A' : Ok b) (P : PH X n) (hn : n ≤ 100) (H : St (HK X :: l) h) : Tri h false l (rOut X n) (M 84 [.ptr X.hb 0, vlV a, vlV b] h):=by
 have ih113 : ∀ {c : Vl} {b5 b6 : Nat} {h : Hp} {l : List Asn}, Ok c → St (HK X :: Mid.row b6 (vcells (outV 0 (0, 0) (0, 0) .nilSlice 0)) :: Mid.row b5 (vlC c) :: l) h → Tri h false l (rOut X n) (M 113 [.ptr X.hb 0, .ptr b5 0, .ptr b6 0] h):=by
  intro c b5 b6 h l A H
  refine t3 e113 fun L => ?_
  unfold B113
  refine ls 2 H rfl rfl ?_
  refine tb1 (sp72 (by first|rfl|assumption|omega|(dsimp only;omega)) H) L fun v h B hq1 H L => ?_
  obtain ⟨z, hz, rfl, rfl⟩:=hq1
  refine Tri.strAdd (by simp only [*]; omega) fun z2 ez2 => ?_
  refine Tri.strAdd (by simp only [*]; omega) fun z3 ez3 => ?_
  refine Mid.tb (sp70 (by dsimp only at *; omega) P hn H) L fun v h B hq H L => ?_
  obtain ⟨X', xt, ph, k, rfl, rfl⟩:=hq
  refine wl0 1 H rfl rfl rfl L (by first|rfl|assumption) fun h H L => ?_
  exact dTx (by decide) xt ph H.x1.x1 L
 refine t3 e84 fun L => ?_
 unfold B84
 refine nw1 H L fun b0 h hb0 H L => ?_
 refine nw1 H L fun b1 h hb1 H L => ?_
 refine nw1 H L fun b2 h hb2 H L => ?_
 refine ls 3 H rfl rfl ?_
 refine tb1 (sp154 (by first|rfl|assumption|omega|(dsimp only;omega)) (by first|rfl|assumption|omega|(dsimp only;omega)) H) L fun v h B hq4 H L => ?_
 obtain ⟨z4, t4, hz4, rfl, rfl⟩:=hq4
 refine Tri.ext rfl ?_
 refine Tri.ext rfl ?_
 refine ls 2 H rfl rfl ?_
 refine tb1 (sp154 (by first|rfl|assumption|omega|(dsimp only;omega)) (by first|rfl|assumption|omega|(dsimp only;omega)) H) L fun v h B hq8 H L => ?_
 obtain ⟨z8, t8, hz8, rfl, rfl⟩:=hq8
 refine Tri.ext rfl ?_
 refine Tri.ext rfl ?_
 cases t8 with
 | true =>
  cases t4 with
  | true =>
   apply gtt
   apply bS
   apply pT
   apply nT
   refine Tri.eqv (bind_lenStr _ _) ?_
   refine Tri.lenStr ?_
   apply bS
   refine Tri.eqv (bind_lenStr _ _) ?_
   refine Tri.lenStr ?_
   apply bS
   refine Tri.addN (by omega) (by omega) ?_
   refine Tri.gtr (fun e => ?_) (fun e => ?_)
   ·apply nT
    refine Mid.tb (sp70 (by first|rfl|assumption|omega|(dsimp only;omega)) (by first|rfl|assumption|omega|(dsimp only;omega)) (by first|rfl|assumption|omega|(dsimp only;omega)) H) L fun v h B hq31 H L => ?_
    obtain ⟨X', xt, ph, k, rfl, rfl⟩:=hq31
    refine wl0 1 H rfl rfl rfl L (by first|rfl|assumption) fun h H L => ?_
    exact dTx (by decide) xt ph H.x1.x1.x1 L
   ·apply nF
    refine Tri.strAdd (by omega) fun z ez => ?_
    refine Mid.tb (sp152 (by omega) P hn H) L fun v h B hq H L => ?_
    obtain ⟨X', xt, ph, k, rfl, rfl⟩:=hq
    refine wl0 1 H rfl rfl rfl L (by first|rfl|assumption) fun h H L => ?_
    exact dTx (by decide) xt ph H.x1.x1.x1 L
  | false =>
   apply gft
   apply pF
   apply nF
   refine ls 3 H rfl rfl ?_
   refine ls 2 H rfl rfl ?_
   refine tbe1 (sp86 (by first|rfl|assumption|omega|(dsimp only;omega)) H) L fun h H L => ?_
   refine nw1 H L fun b56 h hb56 H L => ?_
   refine w0 1 H rfl rfl rfl L (by first|rfl|assumption) fun h H L => ?_
   refine al 1 H rfl rfl ?_
   refine Tri.neq (fun e => absurd e (by decide)) (fun _ => ?_)
   apply nF
   apply nF
   exact te (ih113 A H.x1.x2) L
 | false =>
  cases t4 with
  | true =>
   apply gtt
   apply bS
   apply pT
   apply nF
   refine ls 3 H rfl rfl ?_
   refine ls 2 H rfl rfl ?_
   refine tbe1 (sp86 (by first|rfl|assumption|omega|(dsimp only;omega)) H) L fun h H L => ?_
   refine nw1 H L fun b67 h hb67 H L => ?_
   refine w0 1 H rfl rfl rfl L (by first|rfl|assumption) fun h H L => ?_
   refine al 1 H rfl rfl ?_
   refine Tri.neq (fun e => absurd e (by decide)) (fun _ => ?_)
   apply nF
   apply nT
   refine ls 3 H rfl rfl ?_
   refine w0 4 H rfl rfl rfl L (by first|rfl|assumption) fun h H L => ?_
   exact te (ih113 A' H.x1.x2) L
  | false =>
   apply gft
   apply pF
   apply nF
   refine ls 3 H rfl rfl ?_
   refine ls 2 H rfl rfl ?_
   refine tbe1 (sp86 (by first|rfl|assumption|omega|(dsimp only;omega)) H) L fun h H L => ?_
   refine nw1 H L fun b76 h hb76 H L => ?_
   refine w0 1 H rfl rfl rfl L (by first|rfl|assumption) fun h H L => ?_
   refine al 1 H rfl rfl ?_
   refine Tri.neq (fun e => absurd e (by decide)) (fun _ => ?_)
   apply nF
   apply nF
   exact te (ih113 A H.x1.x2) L
end
end Go.MS.P
end
