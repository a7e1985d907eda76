/- A part of the proof. -/
import Derived.Test.YteeahoagedfehaaGreatDoorUHVb
set_option linter.all false
set_option warn.classDefReducibility false
noncomputable section
section
open Go Go.Mid Go.Proofs
set_option maxRecDepth 100000
namespace Go.MS.P
section
variable {l F : List Asn} {h h0 : Hp} {ro : Bool} {Q : V → List Asn → Prop} {k : V → VH} {K : V → Hp → VH} {v lV : V} {X X' : HI} {x y : IO} {i j n : Nat}
theorem sp24 {t key : Vl} (A : Ok t) (P : PH X n) (hn : n ≤ 100) (H : St (HK X :: l) h) : Tri h false l (rOut X n) (M 24 [.ptr X.hb 0, vlV t, vlV key] h):=by
 have hP:=P.w.pl
 refine t3 e24 fun L => ?_
 unfold B24
 refine nw1 H L fun b0 h hb0 H L => ?_
 refine nw1 H L fun b1 h hb1 H L => ?_
 refine nw1 H L fun b2 h hb2 H L => ?_
 refine tb1 (sp64 H) L fun v h B hq3 H L => ?_
 obtain ⟨c0, c1, c2, rfl, rfl⟩:=hq3
 refine Tri.call (x:=B1 M (.ptr X.hb 0) (.ptr b0 0) (.ptr b1 0) (.ptr b2 0) (.func 74 [] [.ptr c0 0, .ptr c1 0, .ptr c2 0]) (.int .i64 0) h) (fun p => e1 _ _ _ _ _ _ h p) ?_
 unfold B1
 refine Tri.lss (fun _ => ?_) (fun e => absurd e (by decide))
 apply nT
 refine ls 4 H rfl rfl ?_
 refine Tri.eqv (congrArg (fun x => bindS x _) (dyn_at _ _ _ _ _ _)) ?_
 refine tbe1 (sp148 (by first|rfl|assumption|omega|(dsimp only;omega)) H) L fun h H L => ?_
 refine nw2 H L fun b24 h hb24 H L => ?_
 refine w0 2 H rfl rfl rfl L (by first|rfl|assumption) fun h H L => ?_
 refine ls 5 H rfl rfl ?_
 refine tbe1 (sp66 H) L fun h H L => ?_
 rw [P.fnd] at H
 skip
 cases (ofI X.os t 5).isSome with
 | true =>
  apply nT
  refine ls 5 H rfl rfl ?_
  refine ls 4 H rfl rfl ?_
  refine tbe1 (sp18 (by first|rfl|assumption|omega|(dsimp only;omega)) H) L fun h H L => ?_
  refine nw2 H L fun b44 h hb44 H L => ?_
  refine w0 2 H rfl rfl rfl L (by first|rfl|assumption) fun h H L => ?_
  refine al 2 H rfl rfl ?_
  refine Tri.neq (fun _ => ?_) (fun e => ?_)
  ·apply gtf
   apply pT
   apply nT
   refine ls 2 H rfl rfl ?_
   refine tbe1 (sp82 H) L fun h H L => ?_
   refine wl0 4 H rfl rfl rfl L (by first|rfl|assumption) fun h H L => ?_
   exact dOut P H.x1.x1.x1.x1.x1.x1 L
  ·apply gff
   apply ba
   refine bl 3 H rfl rfl ?_
   apply bI
   refine eT (by decide) ?_
   apply bS
   apply pF
   apply nT
   refine ls 2 H rfl rfl ?_
   refine tbe1 (sp82 H) L fun h H L => ?_
   refine wl0 4 H rfl rfl rfl L (by first|rfl|assumption) fun h H L => ?_
   exact dOut P H.x1.x1.x1.x1.x1.x1 L
 | false =>
  apply nF
  refine al 2 H rfl rfl ?_
  refine eTi (by decide) ?_
  refine ls 5 H rfl rfl ?_
  refine tb1 (sp72 (by first|rfl|assumption|omega|(dsimp only;omega)) H) L fun v h B hq106 H L => ?_
  obtain ⟨z, hz, rfl, rfl⟩:=hq106
  refine Tri.strAdd (by simp only [*]; omega) fun z107 ez107 => ?_
  refine Tri.strAdd (by simp only [*]; omega) fun z108 ez108 => ?_
  refine Mid.tb (sp70 (by dsimp only at *; omega) P hn H) L fun v h B hq H L => ?_
  obtain ⟨X', xt, ph, k, rfl, rfl⟩:=hq
  refine wl0 3 H rfl rfl rfl L (by first|rfl|assumption) fun h H L => ?_
  exact dTx (by decide) xt ph H.x1.x1.x1.x1.x1 L
def rSet (X : HI) : V → List Asn → Prop:=fun w B => ∃ X' kd v, PW X' ∧ X'.hb = X.hb ∧ kd ≠ 2 ∧ w = outV kd v (0, 0) .nilSlice 0 ∧ B = [HK X']
theorem dS {X0 : HI} {kd : Int} {v : Vl} (W : PW X) (hb : X.hb = X0.hb) (hk : kd ≠ 2) (H : St (HK X :: l) h) (L : Lo ro h0 h) : Tri h0 ro l (rSet X0) (some (outV kd v (0, 0) .nilSlice 0, h)) :=
 Tri.done (B:=[HK X]) ⟨X, kd, _, W, hb, hk, rfl, rfl⟩ H L
theorem setP_len (pl : List Pl) (key w : Vl) : (setP pl key w).length ≤ pl.length + 1:=by
 unfold setP
 split
 ·rw [List.length_set]; omega
 ·split
  ·omega
  ·rw [List.length_append, List.length_singleton]
   have : (alive pl).length ≤ pl.length:=List.length_filter_le _ _
   omega
theorem upd_w {i : Nat} {lV : V} {pl : List Pl} (P : PH X n) (hx : x ∈ X.os) (hp : pl.length ≤ 101) : PW (X.upd i (x.wi lV pl)):=by
 have hh : ∀ {p : IO → Prop}, (∀ y ∈ X.os, p y) → p (x.wi lV pl) → ∀ y ∈ (X.upd i (x.wi lV pl)).os, p y := fun h1 h2 y hy => by
  rcases List.mem_or_eq_of_mem_set hy with h | h
  ·exact h1 y h
  ·rw [h]; exact h2
 exact ⟨hh P.me (P.me x hx), hh P.w.pl (by show pl.length ≤ 100000; omega)⟩
theorem sp68 {t key w : Vl} (h0 : 0 ≤ key.1) (P : PH X n) (hn : n ≤ 100) (hx : (ofI X.os t 5).isSome = true) (h2 : keepI X.os key = true) (h3 : keepI X.os w = true) (H : St (HK X :: l) h) : Tri h false l (rSet X) (M 68 [.ptr X.hb 0, vlV t, vlV key, vlV w] h):=by
 refine t4 e68 fun L => ?_
 unfold B68
 refine nw1 H L fun b0 h hb0 H L => ?_
 refine nw1 H L fun b1 h hb1 H L => ?_
 refine nw1 H L fun b2 h hb2 H L => ?_
 refine nw1 H L fun b3 h hb3 H L => ?_
 refine al 3 H rfl rfl ?_
 obtain ⟨x, hx⟩:=Option.isSome_iff_exists.1 hx
 have R:=P.room hn
 have rr:=R.r
 refine Tri.eql (fun e => ?_) (fun e => ?_)
 ·apply nT
  refine Mid.tb (sp70 (by first|rfl|assumption|omega|(dsimp only;omega)) (by first|rfl|assumption|omega|(dsimp only;omega)) (by first|rfl|assumption|omega|(dsimp only;omega)) H) L fun v h B hq21 H L => ?_
  obtain ⟨X', xt, ph, k, rfl, rfl⟩:=hq21
  refine wl0 1 H rfl rfl rfl L (by first|rfl|assumption) fun h H L => ?_
  exact dS ph.w xt.1 (by decide) H.x1.x1.x1.x1 L
 ·apply nF
  refine ls 4 H rfl rfl ?_
  refine ls 3 H rfl rfl ?_
  refine ls 2 H rfl rfl ?_
  refine Mid.tb (sp56 hx (by omega) h2 h3 (by omega) R.u R.mx (R.pl x (mem_ofI hx)) (R.nd x (mem_ofI hx)) (by have:=R.len; omega) H) L fun v h B hq H L => ?_
  obtain ⟨lV, rfl, rfl⟩:=hq
  refine eTi (by decide) ?_
  refine Tri.bldS rfl ?_
  refine tbe1 (sp82 H) L fun h H L => ?_
  refine wl0 1 H rfl rfl rfl L (by first|rfl|assumption) fun h H L => ?_
  exact dS (v:=(0, 0)) (upd_w P (mem_ofI hx) (by have:=setP_len x.a.pl key w; have:=P.pl x (mem_ofI hx); omega)) rfl (by decide) H.x1.x1.x1.x1 L
theorem sp20 {t key w : Vl} (A : Ok t) (B' : Ok key) (P : PH X n) (hn : n ≤ 100) (h2 : keepI X.os key = true) (h3 : keepI X.os w = true) (H : St (HK X :: l) h) : Tri h false l (rSet X) (M 20 [.ptr X.hb 0, vlV t, vlV key, vlV w] h):=by
 have hP:=P.w.pl
 have h0:=B'.o.1
 refine t4 e20 fun L => ?_
 unfold B20
 refine nw1 H L fun b0 h hb0 H L => ?_
 refine nw1 H L fun b1 h hb1 H L => ?_
 refine nw1 H L fun b2 h hb2 H L => ?_
 refine nw1 H L fun b3 h hb3 H L => ?_
 refine tb1 (sp64 H) L fun v h B hq4 H L => ?_
 obtain ⟨c0, c1, c2, rfl, rfl⟩:=hq4
 refine Tri.call (x:=B5 M (.ptr X.hb 0) (.ptr b0 0) (.ptr b1 0) (.ptr b2 0) (.ptr b3 0) (.func 74 [] [.ptr c0 0, .ptr c1 0, .ptr c2 0]) (.int .i64 0) h) (fun p => e5 _ _ _ _ _ _ _ h p) ?_
 unfold B5
 refine Tri.lss (fun _ => ?_) (fun e => absurd e (by decide))
 apply nT
 refine ls 5 H rfl rfl ?_
 refine Tri.eqv (congrArg (fun x => bindS x _) (dyn_at _ _ _ _ _ _)) ?_
 refine tbe1 (sp148 (by first|rfl|assumption|omega|(dsimp only;omega)) H) L fun h H L => ?_
 refine nw2 H L fun b24 h hb24 H L => ?_
 refine w0 2 H rfl rfl rfl L (by first|rfl|assumption) fun h H L => ?_
 refine ls 6 H rfl rfl ?_
 refine tbe1 (sp66 H) L fun h H L => ?_
 rw [P.fnd] at H
 skip
 cases hs : (ofI X.os t 5).isSome with
 | true =>
  apply gtt
  apply ba
  refine bl 2 H rfl rfl ?_
  apply bI
  refine eT (by decide) ?_
  apply bS
  apply gtf
  apply gtt
  apply bO
  apply pT
  apply bS
  apply pT
  apply nT
  refine ls 6 H rfl rfl ?_
  refine ls 5 H rfl rfl ?_
  refine ls 4 H rfl rfl ?_
  refine Mid.tb (sp68 (by first|rfl|assumption|omega|(dsimp only;omega)) (by first|rfl|assumption|omega|(dsimp only;omega)) (by first|rfl|assumption|omega|(dsimp only;omega)) (by first|rfl|assumption|omega|(dsimp only;omega)) (by first|rfl|assumption|omega|(dsimp only;omega)) (by first|rfl|assumption|omega|(dsimp only;omega)) H) L fun v h B hq58 H L => ?_
  obtain ⟨X', kd, v, W, hb, hk, rfl, rfl⟩:=hq58
  refine wl0 3 H rfl rfl rfl L (by first|rfl|assumption) fun h H L => ?_
  exact dS W hb hk H.x1.x1.x1.x1.x1.x1 L
 | false =>
  apply gft
  refine Tri.eqv (guard_u _ _ _ _) ?_
  apply gft
  apply pF
  apply nF
  refine al 2 H rfl rfl ?_
  refine eTi (by decide) ?_
  refine ls 6 H rfl rfl ?_
  refine tb1 (sp72 (by first|rfl|assumption|omega|(dsimp only;omega)) H) L fun v h B hq110 H L => ?_
  obtain ⟨z, hz, rfl, rfl⟩:=hq110
  refine Tri.strAdd (by simp only [*]; omega) fun z111 ez111 => ?_
  refine Tri.strAdd (by simp only [*]; omega) fun z112 ez112 => ?_
  refine Mid.tb (sp70 (by dsimp only at *; omega) P hn H) L fun v h B hq H L => ?_
  obtain ⟨X', xt, ph, k, rfl, rfl⟩:=hq
  refine wl0 3 H rfl rfl rfl L (by first|rfl|assumption) fun h H L => ?_
  exact dS ph.w xt.1 (by decide) H.x1.x1.x1.x1.x1.x1 L
end
section
variable {l F : List Asn} {h h0 : Hp} {ro : Bool} {Q : V → List Asn → Prop} {k : V → VH} {K : V → Hp → VH} {v lV : V} {X X' : HI} {Y Y' : DI} {Z Z' : BI} {x y : IO} {i j n : Nat}
theorem Tri.addU {m : Int} (h1 : 0 ≤ m + 1) (h2 : m + 1 ≤ 255) (hk : Tri h0 ro F Q (k (.int .u8 (m + 1)))) : Tri h0 ro F Q (intS .add (.int .u8 m) (.int .u8 1) k) := Tri.add (by
 rw [show IntKind.u8.wrap (m + 1) = m + 1 from IntWalk.u8_in _ ⟨h1, h2⟩]; exact hk)
structure Lp (X : HI) (n : Nat) (hb : Nat) (a b : Vl) : Prop where
 P : PH X n
 e : X.hb = hb
 A : Ok a
 B : Ok b
 ka : keepI X.os a = true
 kb : keepI X.os b = true
theorem Lp.go {hb : Nat} {a b : Vl} (p : Lp X n hb a b) (x : Xt X X') (ph : PH X' (n + 1)) : Lp X' (n + 1) hb a b:=⟨ph, by rw [x.1, p.e], p.A, p.B, x.keep p.ka, x.keep p.kb⟩
theorem loop81 {hb bb bA bB : Nat} {a b : Vl} {kV mV dV lV : V} {Q : V → List Asn → Prop}
 (hend : ∀ {X : HI} {n : Nat} {h : Hp}, Lp X n hb a b → n ≤ 60 → St (HK X :: Mid.row bb [.ptr hb 0, dV, lV] :: Mid.row bB (vlC b) :: Mid.row bA (vlC a) :: l) h → Tri h false l Q (M 81 [kV, mV, .ptr bb 0, .ptr bA 0, .ptr bB 0, .int .u8 22] h)) (r : Nat) :
 ∀ {j : Int} {n : Nat} {X : HI} {h : Hp}, Lp X n hb a b → 18 ≤ j → j ≤ 22 → 22 - j ≤ r → n + r ≤ 60 → St (HK X :: Mid.row bb [.ptr hb 0, dV, lV] :: Mid.row bB (vlC b) :: Mid.row bA (vlC a) :: l) h →
  Tri h false l Q (M 81 [kV, mV, .ptr bb 0, .ptr bA 0, .ptr bB 0, .int .u8 j] h):=by
 induction r with
 | zero =>
  intro j n X h p h1 h2 h3 h4 H
  obtain rfl : j = 22:=by omega
  exact hend p (by omega) H
 | succ r ih =>
  intro j n X h p h1 h2 h3 h4 H
  by_cases hj : j = 22
  ·subst hj; exact hend p (by omega) H
  refine t6 e81 fun L => ?_
  unfold B81
  refine Tri.leq (fun _ => ?_) (fun c => by omega)
  apply nT
  refine Tri.call (x:=B89 M kV mV (.ptr bb 0) (.ptr bA 0) (.ptr bB 0) (.int .u8 j) h) (fun p => e89 _ _ _ _ _ _ h p) ?_
  unfold B89
  have e:=p.e
  subst e
  have A:=p.A
  have P:=p.P
  refine nal 1 H rfl rfl ?_
  refine ls 3 H rfl rfl ?_
  refine Mid.tb (sp28 (by first|rfl|assumption|omega|(dsimp only;omega)) (by first|rfl|assumption|omega|(dsimp only;omega)) (by first|rfl|assumption|omega|(dsimp only;omega)) (by first|rfl|assumption|omega|(dsimp only;omega)) H) L fun v h B hq14 H L => ?_
  obtain ⟨X', kd, v, xt, ph, hk, rfl, rfl⟩:=hq14
  refine Tri.fld rfl ?_
  refine Tri.eql (fun e => absurd e hk) (fun _ => ?_)
  apply nF
  refine Tri.call (x:=B93 M kV mV (.ptr bb 0) (.ptr bA 0) (.ptr bB 0) (.int .u8 j) h) (fun p => e93 _ _ _ _ _ _ h p) ?_
  unfold B93
  refine Tri.addU (by omega) (by omega) ?_
  exact te (ih (p.go xt ph) (by omega) (by omega) (by omega) (by omega) H) L
theorem loop77 {hb bb bA bB : Nat} {a b : Vl} {kV mV dV lV : V} {Q : V → List Asn → Prop}
 (hend : ∀ {X : HI} {n : Nat} {h : Hp}, Lp X n hb a b → n ≤ 40 → St (HK X :: Mid.row bb [.ptr hb 0, dV, lV] :: Mid.row bB (vlC b) :: Mid.row bA (vlC a) :: l) h → Tri h false l Q (M 81 [kV, mV, .ptr bb 0, .ptr bA 0, .ptr bB 0, .int .u8 18] h)) (r : Nat) :
 ∀ {j : Int} {n : Nat} {X : HI} {h : Hp}, Lp X n hb a b → 1 ≤ j → j ≤ 18 → 18 - j ≤ r → n + r ≤ 40 → St (HK X :: Mid.row bb [.ptr hb 0, dV, lV] :: Mid.row bB (vlC b) :: Mid.row bA (vlC a) :: l) h →
  Tri h false l Q (M 77 [kV, mV, .ptr bb 0, .ptr bA 0, .ptr bB 0, .int .u8 j] h):=by
 have last : ∀ {X : HI} {n : Nat} {h : Hp}, Lp X n hb a b → n ≤ 40 → St (HK X :: Mid.row bb [.ptr hb 0, dV, lV] :: Mid.row bB (vlC b) :: Mid.row bA (vlC a) :: l) h → Tri h false l Q (M 77 [kV, mV, .ptr bb 0, .ptr bA 0, .ptr bB 0, .int .u8 18] h):=by
  intro X n h p hn H
  refine t6 e77 fun L => ?_
  unfold B77
  refine Tri.leq (fun c => absurd c (by decide)) (fun _ => ?_)
  apply nF
  exact te (hend p hn H) L
 induction r with
 | zero =>
  intro j n X h p h1 h2 h3 h4 H
  obtain rfl : j = 18:=by omega
  exact last p (by omega) H
 | succ r ih =>
  intro j n X h p h1 h2 h3 h4 H
  by_cases hj : j = 18
  ·subst hj; exact last p (by omega) H
  refine t6 e77 fun L => ?_
  unfold B77
  refine Tri.leq (fun _ => ?_) (fun c => by omega)
  apply nT
  refine Tri.call (x:=B85 M kV mV (.ptr bb 0) (.ptr bA 0) (.ptr bB 0) (.int .u8 j) h) (fun p => e85 _ _ _ _ _ _ h p) ?_
  unfold B85
  have e:=p.e
  subst e
  have A:=p.A
  have A':=p.B
  have P:=p.P
  refine nal 1 H rfl rfl ?_
  refine ls 3 H rfl rfl ?_
  refine ls 2 H rfl rfl ?_
  refine Mid.tb (sp26 (by first|rfl|assumption|omega|(dsimp only;omega)) (by first|rfl|assumption|omega|(dsimp only;omega)) (by first|rfl|assumption|omega|(dsimp only;omega)) (by first|rfl|assumption|omega|(dsimp only;omega)) (by first|rfl|assumption|omega|(dsimp only;omega)) H) L fun v h B hq15 H L => ?_
  obtain ⟨X', kd, v, xt, ph, hk, rfl, rfl⟩:=hq15
  refine Tri.fld rfl ?_
  refine Tri.eql (fun e => absurd e hk) (fun _ => ?_)
  apply nF
  refine Tri.call (x:=B87 M kV mV (.ptr bb 0) (.ptr bA 0) (.ptr bB 0) (.int .u8 j) h) (fun p => e87 _ _ _ _ _ _ h p) ?_
  unfold B87
  refine Tri.addU (by omega) (by omega) ?_
  exact te (ih (p.go xt ph) (by omega) (by omega) (by omega) (by omega) H) L
theorem bind_fldO (kd po : Int) (v fn : Vl) (ag : V) (k : V → VH) (K : V → Hp → VH) : bindS (fld1 0 (outV kd v fn ag po) k) K = bindS (k (.int .u8 kd)) K:=rfl
theorem end81 {hb bb bA bB : Nat} {a b : Vl} {kV mV dV lV : V} {Q : V → List Asn → Prop}
 (hend : ∀ {X : HI} {h : Hp}, PW X → X.hb = hb → St (HK X :: Mid.row bb [.ptr hb 0, dV, lV] :: Mid.row bB (vlC b) :: Mid.row bA (vlC a) :: l) h → Tri h false l Q (M 79 [kV, mV, .ptr bb 0, .ptr bA 0, .ptr bB 0] h)) :
 ∀ {X : HI} {n : Nat} {h : Hp}, Lp X n hb a b → n ≤ 60 → St (HK X :: Mid.row bb [.ptr hb 0, dV, lV] :: Mid.row bB (vlC b) :: Mid.row bA (vlC a) :: l) h → Tri h false l Q (M 81 [kV, mV, .ptr bb 0, .ptr bA 0, .ptr bB 0, .int .u8 22] h):=by
 intro X n h p hn H
 refine t6 e81 fun L => ?_
 unfold B81
 refine Tri.leq (fun c => absurd c (by decide)) (fun _ => ?_)
 have e:=p.e
 subst e
 have A:=p.A
 have A':=p.B
 have P:=p.P
 apply nF
 refine nal 1 H rfl rfl ?_
 refine ls 3 H rfl rfl ?_
 refine ls 2 H rfl rfl ?_
 have Ho16:=H
 refine Tri.wrote (sp24 (by first|rfl|assumption|omega|(dsimp only;omega)) (by first|rfl|assumption|omega|(dsimp only;omega)) (by first|rfl|assumption|omega|(dsimp only;omega)) (H.draw _)) L (fun e => e) fun v h2 h B hq16 H2 hn16 hl16 eh16 H L => ?_
 obtain ⟨X', kd, v, xt, ph, hk, rfl, rfl⟩:=hq16
 refine Tri.fld rfl ?_
 have kb:=xt.keep p.kb
 have P2:=ph
 have e:=xt.1
 refine Tri.eql (fun e => absurd e hk) (fun _ => ?_)
 have ka:=xt.keep p.ka
 apply gff
 apply bS
 apply gff
 refine Tri.eqv (bind_nilS _ _) ?_
 apply nl
 apply bS
 apply gff
 apply ba
 apply bS
 apply gff
 refine bl 1 H rfl rfl ?_
 apply bS
 apply gff
 refine bn 3 H rfl rfl ?_
 apply bS
 apply gff
 refine bn 2 H rfl rfl ?_
 apply bS
 apply gff
 refine bn 3 H rfl rfl ?_
 apply bS
 apply gff
 apply Mid.bB
 rw [← e]
 refine Mid.tb (sp20 (by first|rfl|assumption|omega|(dsimp only;omega)) (by first|rfl|assumption|omega|(dsimp only;omega)) (by first|rfl|assumption|omega|(dsimp only;omega)) (by first|rfl|assumption|omega|(dsimp only;omega)) (by first|rfl|assumption|omega|(dsimp only;omega)) (by first|rfl|assumption|omega|(dsimp only;omega)) H) L fun v h B hq60 H L => ?_
 obtain ⟨X', kd, v, W, hb, hk, rfl, rfl⟩:=hq60
 refine Tri.eqv (bind_fldO _ _ _ _ _ _ _) ?_
 apply bI
 refine Tri.eql (fun e => absurd e hk) (fun _ => ?_)
 apply bS
 apply pF
 apply nF
 exact te (hend W (by rw [hb, e]) H) L
end
end Go.MS.P
end
