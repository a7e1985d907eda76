/- A part of the proof. -/
import Derived.Test.YteeahoagedfehaaGreatDoorUHV4
set_option linter.all false
set_option warn.classDefReducibility false
noncomputable section
section
open Go Go.Mid Go.Proofs
set_option maxRecDepth 100000
namespace Go.MS.P
section
variable {l F : List Asn} {h h0 : Hp} {ro : Bool} {Q : V → List Asn → Prop} {k : V → VH} {K : V → Hp → VH} {v lV : V} {X X' : HI} {i j n : Nat}
theorem sp90 {a b : Vl} {op : Int} {s : Bs} (A : Ok a) (A' : Ok b) (P : PH X n) (hn : n ≤ 100) (H : St (HK X :: l) h) : Tri h false l (rOut X n) (M 90 [.ptr X.hb 0, .int .u8 op, .str s, vlV a, vlV b] h):=by
 refine t5 e90 fun L => ?_
 unfold B90
 refine nw1 H L fun b0 h hb0 H L => ?_
 refine nw1 H L fun b1 h hb1 H L => ?_
 refine nw1 H L fun b2 h hb2 H L => ?_
 refine al 3 H rfl rfl ?_
 refine Tri.eql (fun e1 => ?_) (fun e1 => ?_)
 ·apply gtt
  apply ba
  refine bl 2 H rfl rfl ?_
  apply bI
  refine Tri.eql (fun e2 => ?_) (fun e2 => ?_)
  ·apply bS
   apply pT
   apply nT
   refine al 3 H rfl rfl ?_
   refine al 2 H rfl rfl ?_
   refine tb1 (sp156 H) L fun v h B hq27 H L => ?_
   obtain ⟨e, rfl, rfl⟩:=hq27
   refine Tri.ext rfl ?_
   refine Tri.ext rfl ?_
   refine tbe1 (sp88 H) L fun h H L => ?_
   refine tbe1 (sp82 H) L fun h H L => ?_
   refine wl0 1 H rfl rfl rfl L (by first|rfl|assumption) fun h H L => ?_
   exact dOut P H.x1.x1.x1 L
  ·apply bS
   apply pT
   apply nF
   refine al 3 H rfl rfl ?_
   refine Tri.eql (fun e => by omega) (fun _ => ?_)
   apply gft
   apply pF
   apply nF
   refine ls 3 H rfl rfl ?_
   refine ls 2 H rfl rfl ?_
   refine tbe1 (sp86 (by first|rfl|assumption|omega|(dsimp only;omega)) H) L fun h H L => ?_
   refine nw1 H L fun b46 h hb46 H L => ?_
   refine w0 1 H rfl rfl rfl L (by first|rfl|assumption) fun h H L => ?_
   refine al 1 H rfl rfl ?_
   refine Tri.neq (fun e => absurd e (by decide)) (fun _ => ?_)
   apply nF
   refine ls 4 H rfl rfl ?_
   have Ho53:=H
   refine Tri.wrote (sp72 (by first|rfl|assumption|omega|(dsimp only;omega)) (H.draw _)) L (fun _ => rfl) fun v h2 h B hq53 H2 hn53 hl53 eh53 H L => ?_
   obtain ⟨z, hz, rfl, rfl⟩:=hq53
   refine ls 3 Ho53 rfl rfl ?_
   refine Tri.cd (by rw [show pureB _ _ = true from Nat.ble_eq_true_of_le (hl53 rfl)]; rfl) ?_
   refine tb1 (sp72 (by first|rfl|assumption|omega|(dsimp only;omega)) H) L fun v h B hq56 H L => ?_
   obtain ⟨z, hz, rfl, rfl⟩:=hq56
   refine Tri.strEq fun s57 es57 => ?_
   cases s57 with
   | true =>
    apply nT
    refine ls 4 H rfl rfl ?_
    refine tb1 (sp72 (by first|rfl|assumption|omega|(dsimp only;omega)) H) L fun v h B hq102 H L => ?_
    obtain ⟨z, hz, rfl, rfl⟩:=hq102
    refine Tri.strAdd (by simp only [*]; omega) fun z103 ez103 => ?_
    refine Tri.strAdd (by simp only [*]; omega) fun z104 ez104 => ?_
    refine Mid.tb (sp70 (by dsimp only at *; omega) P hn H) L fun v h B hq H L => ?_
    obtain ⟨X', xt, ph, k, rfl, rfl⟩:=hq
    refine wl0 2 H rfl rfl rfl L (by first|rfl|assumption) fun h H L => ?_
    exact dTx (by decide) xt ph H.x1.x1.x1.x1 L
   | false =>
    apply nF
    refine ls 4 H rfl rfl ?_
    have Ho122:=H
    refine Tri.wrote (sp72 (by first|rfl|assumption|omega|(dsimp only;omega)) (H.draw _)) L (fun _ => rfl) fun v h2 h B hq122 H2 hn122 hl122 eh122 H L => ?_
    obtain ⟨z, hz, rfl, rfl⟩:=hq122
    refine Tri.strAdd (by simp only [*]; omega) fun z123 ez123 => ?_
    refine Tri.strAdd (by simp only [*]; omega) fun z124 ez124 => ?_
    refine ls 3 Ho122 rfl rfl ?_
    refine Tri.cd (by rw [show pureB _ _ = true from Nat.ble_eq_true_of_le (hl122 rfl)]; rfl) ?_
    have Ho127:=H
    refine Tri.wrote (sp72 (by first|rfl|assumption|omega|(dsimp only;omega)) (H.draw _)) L (fun _ => rfl) fun v h2 h B hq127 H2 hn127 hl127 eh127 H L => ?_
    obtain ⟨z, hz, rfl, rfl⟩:=hq127
    refine Tri.strAdd (by simp only [*]; omega) fun z128 ez128 => ?_
    refine Mid.tb (sp70 (by dsimp only at *; omega) P hn H) L fun v h B hq H L => ?_
    obtain ⟨X', xt, ph, k, rfl, rfl⟩:=hq
    refine wl0 2 H rfl rfl rfl L (by first|rfl|assumption) fun h H L => ?_
    exact dTx (by decide) xt ph H.x1.x1.x1.x1 L
 ·apply gft
  apply pF
  apply nF
  refine al 3 H rfl rfl ?_
  refine Tri.eql (fun e3 => ?_) (fun e3 => ?_)
  ·apply gtt
   apply ba
   refine bl 2 H rfl rfl ?_
   apply bI
   refine Tri.eql (fun e4 => ?_) (fun e4 => ?_)
   ·apply bS
    apply pT
    apply nT
    refine ls 3 H rfl rfl ?_
    refine tb1 (sp78 (by first|rfl|assumption|omega|(dsimp only;omega)) H) L fun v h B hq74 H L => ?_
    obtain ⟨z74, t74, hz74, rfl, rfl⟩:=hq74
    refine Tri.ext rfl ?_
    refine Tri.ext rfl ?_
    refine ls 2 H rfl rfl ?_
    refine tb1 (sp78 (by first|rfl|assumption|omega|(dsimp only;omega)) H) L fun v h B hq78 H L => ?_
    obtain ⟨z78, t78, hz78, rfl, rfl⟩:=hq78
    refine Tri.ext rfl ?_
    refine Tri.ext rfl ?_
    refine tb1 (sp158 H) L fun v h B hq81 H L => ?_
    obtain ⟨r, rfl, rfl⟩:=hq81
    refine Tri.lss (fun e5 => ?_) (fun e5 => ?_)
    ·apply gtf
     refine Tri.eqv (guard_u _ _ _ _) ?_
     apply gtf
     apply pT
     refine tbe1 (sp88 H) L fun h H L => ?_
     refine tbe1 (sp82 H) L fun h H L => ?_
     refine wl0 1 H rfl rfl rfl L (by first|rfl|assumption) fun h H L => ?_
     exact dOut P H.x1.x1.x1 L
    ·apply gff
     apply bI
     refine Tri.eql (fun e6 => ?_) (fun e6 => ?_)
     ·apply bS
      apply gtt
      apply bI
      refine Tri.eql (fun e7 => ?_) (fun e7 => ?_)
      ·apply bS
       apply gff
       apply bO
       apply pT
       apply bS
       apply pF
       refine tbe1 (sp88 H) L fun h H L => ?_
       refine tbe1 (sp82 H) L fun h H L => ?_
       refine wl0 1 H rfl rfl rfl L (by first|rfl|assumption) fun h H L => ?_
       exact dOut P H.x1.x1.x1 L
      ·apply bS
       apply gff
       apply bO
       apply pT
       apply bS
       apply pF
       refine tbe1 (sp88 H) L fun h H L => ?_
       refine tbe1 (sp82 H) L fun h H L => ?_
       refine wl0 1 H rfl rfl rfl L (by first|rfl|assumption) fun h H L => ?_
       exact dOut P H.x1.x1.x1 L
     ·apply bS
      apply gft
      apply gff
      apply bO
      apply pF
      apply bS
      apply pF
      refine tbe1 (sp88 H) L fun h H L => ?_
      refine tbe1 (sp82 H) L fun h H L => ?_
      refine wl0 1 H rfl rfl rfl L (by first|rfl|assumption) fun h H L => ?_
      exact dOut P H.x1.x1.x1 L
   ·apply bS
    apply pT
    apply nF
    refine ls 3 H rfl rfl ?_
    refine ls 2 H rfl rfl ?_
    refine tbe1 (sp86 (by first|rfl|assumption|omega|(dsimp only;omega)) H) L fun h H L => ?_
    refine nw1 H L fun b86 h hb86 H L => ?_
    refine w0 1 H rfl rfl rfl L (by first|rfl|assumption) fun h H L => ?_
    refine al 1 H rfl rfl ?_
    refine Tri.neq (fun e => absurd e (by decide)) (fun _ => ?_)
    apply nF
    refine ls 4 H rfl rfl ?_
    have Ho93:=H
    refine Tri.wrote (sp72 (by first|rfl|assumption|omega|(dsimp only;omega)) (H.draw _)) L (fun _ => rfl) fun v h2 h B hq93 H2 hn93 hl93 eh93 H L => ?_
    obtain ⟨z, hz, rfl, rfl⟩:=hq93
    refine ls 3 Ho93 rfl rfl ?_
    refine Tri.cd (by rw [show pureB _ _ = true from Nat.ble_eq_true_of_le (hl93 rfl)]; rfl) ?_
    refine tb1 (sp72 (by first|rfl|assumption|omega|(dsimp only;omega)) H) L fun v h B hq96 H L => ?_
    obtain ⟨z, hz, rfl, rfl⟩:=hq96
    refine Tri.strEq fun s97 es97 => ?_
    cases s97 with
    | true =>
     apply nT
     refine ls 4 H rfl rfl ?_
     refine tb1 (sp72 (by first|rfl|assumption|omega|(dsimp only;omega)) H) L fun v h B hq202 H L => ?_
     obtain ⟨z, hz, rfl, rfl⟩:=hq202
     refine Tri.strAdd (by simp only [*]; omega) fun z203 ez203 => ?_
     refine Tri.strAdd (by simp only [*]; omega) fun z204 ez204 => ?_
     refine Mid.tb (sp70 (by dsimp only at *; omega) P hn H) L fun v h B hq H L => ?_
     obtain ⟨X', xt, ph, k, rfl, rfl⟩:=hq
     refine wl0 2 H rfl rfl rfl L (by first|rfl|assumption) fun h H L => ?_
     exact dTx (by decide) xt ph H.x1.x1.x1.x1 L
    | false =>
     apply nF
     refine ls 4 H rfl rfl ?_
     have Ho222:=H
     refine Tri.wrote (sp72 (by first|rfl|assumption|omega|(dsimp only;omega)) (H.draw _)) L (fun _ => rfl) fun v h2 h B hq222 H2 hn222 hl222 eh222 H L => ?_
     obtain ⟨z, hz, rfl, rfl⟩:=hq222
     refine Tri.strAdd (by simp only [*]; omega) fun z223 ez223 => ?_
     refine Tri.strAdd (by simp only [*]; omega) fun z224 ez224 => ?_
     refine ls 3 Ho222 rfl rfl ?_
     refine Tri.cd (by rw [show pureB _ _ = true from Nat.ble_eq_true_of_le (hl222 rfl)]; rfl) ?_
     have Ho227:=H
     refine Tri.wrote (sp72 (by first|rfl|assumption|omega|(dsimp only;omega)) (H.draw _)) L (fun _ => rfl) fun v h2 h B hq227 H2 hn227 hl227 eh227 H L => ?_
     obtain ⟨z, hz, rfl, rfl⟩:=hq227
     refine Tri.strAdd (by simp only [*]; omega) fun z228 ez228 => ?_
     refine Mid.tb (sp70 (by dsimp only at *; omega) P hn H) L fun v h B hq H L => ?_
     obtain ⟨X', xt, ph, k, rfl, rfl⟩:=hq
     refine wl0 2 H rfl rfl rfl L (by first|rfl|assumption) fun h H L => ?_
     exact dTx (by decide) xt ph H.x1.x1.x1.x1 L
  ·apply gft
   apply pF
   apply nF
   refine ls 3 H rfl rfl ?_
   refine ls 2 H rfl rfl ?_
   refine tbe1 (sp86 (by first|rfl|assumption|omega|(dsimp only;omega)) H) L fun h H L => ?_
   refine nw1 H L fun b96 h hb96 H L => ?_
   refine w0 1 H rfl rfl rfl L (by first|rfl|assumption) fun h H L => ?_
   refine al 1 H rfl rfl ?_
   refine Tri.neq (fun e => absurd e (by decide)) (fun _ => ?_)
   apply nF
   refine ls 4 H rfl rfl ?_
   have Ho103:=H
   refine Tri.wrote (sp72 (by first|rfl|assumption|omega|(dsimp only;omega)) (H.draw _)) L (fun _ => rfl) fun v h2 h B hq103 H2 hn103 hl103 eh103 H L => ?_
   obtain ⟨z, hz, rfl, rfl⟩:=hq103
   refine ls 3 Ho103 rfl rfl ?_
   refine Tri.cd (by rw [show pureB _ _ = true from Nat.ble_eq_true_of_le (hl103 rfl)]; rfl) ?_
   refine tb1 (sp72 (by first|rfl|assumption|omega|(dsimp only;omega)) H) L fun v h B hq106 H L => ?_
   obtain ⟨z, hz, rfl, rfl⟩:=hq106
   refine Tri.strEq fun s107 es107 => ?_
   cases s107 with
   | true =>
    apply nT
    refine ls 4 H rfl rfl ?_
    refine tb1 (sp72 (by first|rfl|assumption|omega|(dsimp only;omega)) H) L fun v h B hq302 H L => ?_
    obtain ⟨z, hz, rfl, rfl⟩:=hq302
    refine Tri.strAdd (by simp only [*]; omega) fun z303 ez303 => ?_
    refine Tri.strAdd (by simp only [*]; omega) fun z304 ez304 => ?_
    refine Mid.tb (sp70 (by dsimp only at *; omega) P hn H) L fun v h B hq H L => ?_
    obtain ⟨X', xt, ph, k, rfl, rfl⟩:=hq
    refine wl0 2 H rfl rfl rfl L (by first|rfl|assumption) fun h H L => ?_
    exact dTx (by decide) xt ph H.x1.x1.x1.x1 L
   | false =>
    apply nF
    refine ls 4 H rfl rfl ?_
    have Ho322:=H
    refine Tri.wrote (sp72 (by first|rfl|assumption|omega|(dsimp only;omega)) (H.draw _)) L (fun _ => rfl) fun v h2 h B hq322 H2 hn322 hl322 eh322 H L => ?_
    obtain ⟨z, hz, rfl, rfl⟩:=hq322
    refine Tri.strAdd (by simp only [*]; omega) fun z323 ez323 => ?_
    refine Tri.strAdd (by simp only [*]; omega) fun z324 ez324 => ?_
    refine ls 3 Ho322 rfl rfl ?_
    refine Tri.cd (by rw [show pureB _ _ = true from Nat.ble_eq_true_of_le (hl322 rfl)]; rfl) ?_
    have Ho327:=H
    refine Tri.wrote (sp72 (by first|rfl|assumption|omega|(dsimp only;omega)) (H.draw _)) L (fun _ => rfl) fun v h2 h B hq327 H2 hn327 hl327 eh327 H L => ?_
    obtain ⟨z, hz, rfl, rfl⟩:=hq327
    refine Tri.strAdd (by simp only [*]; omega) fun z328 ez328 => ?_
    refine Mid.tb (sp70 (by dsimp only at *; omega) P hn H) L fun v h B hq H L => ?_
    obtain ⟨X', xt, ph, k, rfl, rfl⟩:=hq
    refine wl0 2 H rfl rfl rfl L (by first|rfl|assumption) fun h H L => ?_
    exact dTx (by decide) xt ph H.x1.x1.x1.x1 L
end
section
variable {l F : List Asn} {h h0 : Hp} {ro : Bool} {Q : V → List Asn → Prop} {k : V → VH} {K : V → Hp → VH} {v lV : V} {X X' : HI} {x y : IO} {i j n : Nat}
theorem getP_ky : ∀ {pl : List Pl} {m : Int}, (∀ p ∈ pl, p.1.1 = 4) → getP pl (3, m) = (0, 0)
 | [], _, _ => rfl
 | p :: pl, m, h => by
  unfold getP
  rw [if_neg (fun e => by have:=h p List.mem_cons_self; rw [e] at this; exact absurd (show (3 : Int) = 4 from this) (by decide))]
  exact getP_ky fun q hq => h q (List.mem_cons_of_mem _ hq)
theorem sp198 (hk : ∀ p ∈ x.a.pl, p.1.1 = 4) (hf : x.a.pl.length ≤ 100000) (H : St (TK x :: l) h) : Tri h true l (rTK x (.int .i64 0)) (M 198 [.ptr x.tb 0] h):=by
 have ih121 : ∀ {h : Hp}, St (TK x :: l) h → Tri h true l (rTK x (.int .i64 0)) (M 121 [.ptr x.tb 0, .int .i64 0] h):=by
  intro h H
  refine t2 e121 fun L => ?_
  unfold B121
  refine Tri.addN (by omega) (by omega) ?_
  refine Tri.bldS rfl ?_
  refine tbe1 (sp62 (key:=(3, 0 + 1)) hf H) L fun h H L => ?_
  rw [getP_ky hk]
  refine Tri.fld rfl ?_
  refine Tri.neq (fun e => absurd e (by decide)) (fun _ => ?_)
  apply nF
  exact Tri.done (B:=[TK x]) ⟨rfl, rfl⟩ H L
 refine t1 e198 fun L => ?_
 unfold B198
 refine te1 (ih121 H) L
theorem sp164 {a : Vl} (P : PH X n) (H : St (HK X :: l) h) : Tri h true l (rHK X (.int .i64 0)) (M 164 [.ptr X.hb 0, vlV a] h):=by
 refine t2 e164 fun L => ?_
 unfold B164
 refine nw1 H L fun b0 h hb0 H L => ?_
 refine ls 1 H rfl rfl ?_
 refine tbe1 (sp60 H) L fun h H L => ?_
 cases hx : ofI X.os a 5 with
 | none =>
  refine Tri.neZ ?_
  apply nF
  exact dHK H.x1 L
 | some x =>
  obtain ⟨h1, h2, h3⟩:=ofI_at hx
  refine Tri.neP ?_
  apply nT
  apply nl
  apply ad
  refine Tri.loadC (w:=.ptr x.tb 0) ?_ ?_
  ·rw [obj_cell H (i := 0) (o := 3) rfl h1 rfl, if_pos h2]
  skip
  replace H:=openO H h1 h2
  refine tbe (sp198 (P.ky x (List.mem_of_getElem? h1)) (by have:=P.pl x (List.mem_of_getElem? h1); omega) H) L fun h H L => ?_
  replace H:=closeO0 h1 h2 H
  skip
  exact dHK H.x1 L
theorem sp82 {c d : Int} (H : St l h) : Tri h true l (rNo (outV 1 (c, d) (0, 0) .nilSlice 0)) (M 82 [.agg [.int .u8 c, .int .i64 d]] h):=MS.sp82 (a:=(c, d)) H
theorem sp98 {a : Vl} (A : Ok a) (P : PH X n) (hn : n ≤ 100) (H : St (HK X :: l) h) : Tri h false l (rOut X n) (M 98 [.ptr X.hb 0, vlV a] h):=by
 refine t2 e98 fun L => ?_
 unfold B98
 have hP : ∀ x ∈ X.os, x.a.pl.length ≤ 100000:=fun x hx => by have:=P.pl x hx; omega
 refine nw1 H L fun b0 h hb0 H L => ?_
 refine nw1 H L fun b1 h hb1 H L => ?_
 refine al 2 H rfl rfl ?_
 refine Tri.eql (fun e1 => ?_) (fun e1 => ?_)
 ·apply nT
  refine ls 2 H rfl rfl ?_
  refine tb1 (sp78 (by first|rfl|assumption|omega|(dsimp only;omega)) H) L fun v h B hq12 H L => ?_
  obtain ⟨z12, t12, hz12, rfl, rfl⟩:=hq12
  refine Tri.ext rfl ?_
  refine Tri.ext rfl ?_
  refine Tri.eqv (bind_lenStr _ _) ?_
  refine Tri.lenStr ?_
  apply bS
  refine Tri.bldS rfl ?_
  refine tbe1 (sp82 H) L fun h H L => ?_
  refine wl0 1 H rfl rfl rfl L (by first|rfl|assumption) fun h H L => ?_
  exact dOut (v:=(3, _)) P H.x1.x1 L
 ·apply nF
  refine nw1 H L fun b31 h hb31 H L => ?_
  have Ho32:=H
  refine Tri.wroteC (sp64 (H.draw _)) L (fun v h2 e => by rw [e]; rfl) fun v h2 h B hq32 H2 hn32 hl32 eh32 H L => ?_
  obtain ⟨c0, c1, c2, rfl, rfl⟩:=hq32
  refine ls 3 Ho32 rfl rfl ?_
  refine Tri.cd (by rw [show pureB _ _ = true from Nat.ble_eq_true_of_le (hl32 rfl)]; rfl) ?_
  refine Tri.eqv (congrArg (fun x => bindS x _) (dyn_at _ _ _ _ _ _)) ?_
  have Ho36:=H
  refine Tri.wroteC (sp148 (by first|rfl|assumption|omega|(dsimp only;omega)) (H.draw _)) L (fun v h2 e => by rw [e]; rfl) fun v h2 h B hq36 H2 hn36 hl36 eh36 H L => ?_
  obtain ⟨rfl, rfl⟩:=hq36
  refine w0 2 H rfl rfl rfl L (by first|rfl|assumption) fun h H L => ?_
  refine al 2 H rfl rfl ?_
  rw [P.fnd]
  refine Tri.neq (fun e => absurd e (by decide)) (fun _ => ?_)
  apply nF
  refine ls 4 H rfl rfl ?_
  refine tbe1 (sp66 H) L fun h H L => ?_
  cases (ofI X.os a 5).isSome with
  | true =>
   apply nT
   refine ls 4 H rfl rfl ?_
   refine tbe1 (sp164 (by first|rfl|assumption|omega|(dsimp only;omega)) H) L fun h H L => ?_
   refine Tri.bldS rfl ?_
   refine tbe1 (sp82 H) L fun h H L => ?_
   refine wl0 3 H rfl rfl rfl L (by first|rfl|assumption) fun h H L => ?_
   exact dOut (v:=(3, _)) P H.x1.x1.x1.x1 L
  | false =>
   apply nF
   refine ls 4 H rfl rfl ?_
   refine tb1 (sp72 (by first|rfl|assumption|omega|(dsimp only;omega)) H) L fun v h B hq92 H L => ?_
   obtain ⟨z, hz, rfl, rfl⟩:=hq92
   refine Tri.strAdd (by simp only [*]; omega) fun z93 ez93 => ?_
   refine Tri.strAdd (by simp only [*]; omega) fun z94 ez94 => ?_
   refine Mid.tb (sp70 (by dsimp only at *; omega) P hn H) L fun v h B hq H L => ?_
   obtain ⟨X', xt, ph, k, rfl, rfl⟩:=hq
   refine wl0 3 H rfl rfl rfl L (by first|rfl|assumption) fun h H L => ?_
   exact dTx (by decide) xt ph H.x1.x1.x1.x1 L
end
end Go.MS.P
end
