/- A part of the proof. -/
import Derived.Test.YthbcbfgpfpogkaaGreatPFL29
set_option linter.all false
set_option warn.classDefReducibility false
noncomputable section
section
open Go Go.Mid Go.Proofs
set_option maxRecDepth 100000
namespace Go.FP
section
variable {S S' S'' : Mem} {l F : List Asn} {h h0 : Hp} {ro : Bool} {Q : V → List Asn → Prop} {k : V → VH} {K : V → Hp → VH} {nds : List Nd} {n : Nd} {v nv : V} {X X' X'' : MS} {f f' : Fn} {i : Nat} {w : Nat → Nat} {b b' : Bk} {c c' : Cl} {wi : Wi}
abbrev PG (S : Mem) (X : MS) : V → List Asn → Prop := fun v B => v = .tuple [] ∧ ∃ X', B = [frz S, MK X'] ∧ Inv1 S X' ∧ Ext1 S X S X' ∧ X'.u = X.u ∧ X'.go = X.go ∧ X'.goV = X.goV
abbrev lbr (lb : Nat) (x : Bs × Int × Int) : Asn := row lb [.str x.1, .int .i64 x.2.1, .int .i64 x.2.2]
abbrev wir (wb : Nat) (wi : Wi) : Asn := row wb [.ptr wi.f.2 0, .str wi.nm, .int .i64 wi.st, .int .i64 wi.ln, .int .i64 wi.va, wi.inV]
theorem k31 (I : Inv1 S X) {X0 : MS} (E : Ext1 S X0 S X) (hu : X.u = X0.u ∧ X.go = X0.go ∧ X.goV = X0.goV) (H : St (frz S :: MK X :: l) h) : Tri h false l (PG S X0) (M 31 [] h) := by
 refine t0 e31 fun L => ?_
 unfold B31
 exact Tri.done (B := [frz S, MK X]) ⟨rfl, X, rfl, I, E, hu⟩ H L
theorem Inv1.nx (I : Inv1 S X) (hi : X.fns[i]? = some f) {j : Nat} (hj : j < f.ss.length) {x : Int} (h1 : -1 ≤ x) (h2 : x < f.ss.length) :
 Inv1 S { X with fns := X.fns.set i { f with ss := f.ss.set j { f.ss[j] with nx := x } }, u := X.u } ∧ Ext1 S X S { X with fns := X.fns.set i { f with ss := f.ss.set j { f.ss[j] with nx := x } }, u := X.u } := by
 have hs : f.ss[j]? = some f.ss[j] := List.getElem?_eq_getElem hj
 have hm := I.fns f (List.mem_of_getElem? hi)
 have hsm := hm.ss _ (List.getElem_mem hj)
 exact upd_sm (s' := { f.ss[j] with nx := x }) I hi hs ⟨hsm.ln, h1, hsm.el, hsm.vs, hsm.vt, hsm.ve, hsm.is, hsm.it, hsm.ie⟩ (fun hn => ⟨h2, ((I.fin i f hi hn).1.ss _ (List.getElem_mem hj)).2⟩)
theorem k29 {wb lb : Nat} {x : Bs × Int × Int} {X0 : MS} (I : Inv1 S X) (E : Ext1 S X0 S X) (hu : X.u = X0.u ∧ X.go = X0.go ∧ X.goV = X0.goV) (hw : WiIn S X wi) (hx : 0 ≤ x.2.1) (H : St (frz S :: MK X :: lbr lb x :: wir wb wi :: l) h) :
 Tri h false l (PG S X0) (M 29 [.ptr wb 0, .ptr wi.f.2 0, .ptr lb 0] h) := by
 obtain ⟨f, hf, hfb, hst0, hst1⟩ := hw.f
 obtain ⟨j, hj⟩ : ∃ j : Nat, wi.st = (j : Int) := ⟨wi.st.toNat, by omega⟩
 have hjl : j < f.ss.length := by omega
 unfold lbr wir at H
 refine t3 e29 fun L => ?_
 unfold B29
 rw [← hfb]
 apply Tri.nil
 apply Tri.addr
 apply Tri.addr
 refine Tri.loadC (fn_cell H (i := 1) (o := 5) rfl hf rfl) ?_
 apply Tri.addr
 refine Tri.load 3 H rfl rfl ?_
 apply Tri.addr
 refine Tri.load 2 H rfl rfl ?_
 rcases ss_view H (i := 1) rfl hf with ⟨_, h2⟩ | ⟨bb, cc, g, hv, _⟩
 ·rw [h2] at hjl; exact absurd hjl (Nat.not_lt_zero _)
 rw [hv]
 refine Tri.idx hst0 (by omega) ?_
 rw [show wi.st.toNat = j by omega]
 apply Tri.addr
 have hsj : f.ss[j]? = some f.ss[j] := List.getElem?_eq_getElem hjl
 by_cases hlt : x.2.1 < (f.ss.length : Int)
 ·obtain ⟨I2, E2⟩ := I.nx hf hjl (x := x.2.1) (by omega) hlt
  replace H := openF H hf
  rw [hv] at H
  refine Tri.storeV 3 H rfl (by rw [ss_len]; omega) L (fun e => nomatch e) rfl fun h H L => ?_
  rw [← hv] at H
  replace H : St (_ :: _ :: _ :: vc true f.stV 50 7 ((f.ss.flatMap Sm.cs).set (0 + j * 7 + 4) (.int .i64 x.2.1)) :: _) _ := H
  rw [ss_set4 x.2.1 _ _ _ hsj] at H
  replace H := closeF (f' := { f with ss := f.ss.set j { f.ss[j] with nx := x.2.1 } }) hf rfl H X.u
  have hat2 : (X.fns.set wi.f.1 { f with ss := f.ss.set j { f.ss[j] with nx := x.2.1 } })[wi.f.1]? = some { f with ss := f.ss.set j { f.ss[j] with nx := x.2.1 } } := List.getElem?_set_self (List.getElem?_eq_some_iff.1 hf).1
  obtain ⟨X2, hX2⟩ : ∃ X2 : MS, X2 = { X with fns := X.fns.set wi.f.1 { f with ss := f.ss.set j { f.ss[j] with nx := x.2.1 } }, u := X.u } := ⟨_, rfl⟩
  obtain ⟨f2, hf2⟩ : ∃ f2 : Fn, f2 = { f with ss := f.ss.set j { f.ss[j] with nx := x.2.1 } } := ⟨_, rfl⟩
  have hat3 : X2.fns[wi.f.1]? = some f2 := by rw [hX2, hf2]; exact hat2
  have hl2 : f2.ss.length = f.ss.length := by rw [hf2]; simp
  have hfb2 : f2.fb = f.fb := by rw [hf2]
  have hu2 : X2.u = X0.u ∧ X2.go = X0.go ∧ X2.goV = X0.goV := by rw [hX2]; exact hu
  rw [← hX2] at H I2 E2
  apply Tri.addr
  refine Tri.load 2 H rfl rfl ?_
  apply Tri.nil
  apply Tri.addr
  apply Tri.addr
  rw [← hfb2]
  skip
  refine Tri.loadC (fn_cell H (i := 1) (o := 5) rfl hat3 rfl) ?_
  apply bL
  refine lenSS H (i := 1) rfl hat3 ?_
  apply Tri.bs
  refine Tri.geq (fun e => by omega) (fun e => ?_)
  apply Tri.iff
  exact Tri.tail (k31 I2 (E.trans E2) hu2 H) L (fun e => e) fun v h B hq H L => by
   obtain ⟨rfl, X', rfl, r⟩ := hq
   exact ⟨_, ⟨rfl, X', rfl, r⟩, H.x2.x2⟩
 ·obtain ⟨I2, E2⟩ := I.nx hf hjl (x := -1) (by omega) (by omega)
  replace H := openF H hf
  rw [hv] at H
  refine Tri.storeV 3 H rfl (by rw [ss_len]; omega) L (fun e => nomatch e) rfl fun h H L => ?_
  replace H : St (_ :: _ :: _ :: vc true (.slice bb 0 f.ss.length cc g) 50 7 ((f.ss.flatMap Sm.cs).set (0 + j * 7 + 4) (.int .i64 x.2.1)) :: _) _ := H
  rw [← hv] at H
  apply Tri.addr
  refine Tri.load 17 H rfl rfl ?_
  apply Tri.nil
  apply Tri.addr
  apply Tri.addr
  refine Tri.load 0 H rfl rfl ?_
  apply bL
  refine Tri.lenV 3 f.ss.length H rfl (by decide) (by rw [List.length_set, ss_len]) ?_
  apply Tri.bs
  refine Tri.geq (fun e => ?_) (fun e => by omega)
  apply Tri.ift
  apply Tri.nil
  apply Tri.addr
  apply Tri.addr
  refine Tri.load 0 H rfl rfl ?_
  apply Tri.addr
  refine Tri.load 18 H rfl rfl ?_
  rw [hv]
  refine Tri.idx hst0 (by omega) ?_
  rw [show wi.st.toNat = j by omega]
  apply Tri.addr
  rw [hv] at H
  refine Tri.storeV 3 H rfl (by rw [List.length_set, ss_len]; omega) L (fun e => nomatch e) rfl fun h H L => ?_
  rw [← hv] at H
  replace H : St (_ :: _ :: _ :: vc true f.stV 50 7 (((f.ss.flatMap Sm.cs).set (0 + j * 7 + 4) (.int .i64 x.2.1)).set (0 + j * 7 + 4) (.int .i64 (-1))) :: _) _ := H
  rw [List.set_set, ss_set4 (-1) _ _ _ hsj] at H
  replace H := closeF (f' := { f with ss := f.ss.set j { f.ss[j] with nx := -1 } }) hf rfl H X.u
  refine Tri.tail (k31 I2 (E.trans E2) hu H) L (fun e => e) fun v h B hq H L => by
   obtain ⟨rfl, X', rfl, r⟩ := hq
   exact ⟨_, ⟨rfl, X', rfl, r⟩, H.x2.x2⟩
theorem k27 {wb lb : Nat} {va : Int} {x : Bs × Int × Int} (I : Inv1 S X) (hw : WiIn S X wi) (hx : 0 ≤ x.2.1) (H : St (frz S :: MK X :: lbr lb x :: wir wb wi :: l) h) :
 Tri h false l (PG S X) (M 27 [.ptr X.mb 0, .ptr wb 0, .ptr wi.f.2 0, .ptr lb 0, .int .i64 va] h) := by
 have fin : ∀ {b : Bool} {h1 : Hp} {H0 : Hp}, True := fun {_ _ _} => trivial
 have no : ∀ {h : Hp}, St (frz S :: MK X :: lbr lb x :: wir wb wi :: l) h → Tri h false l (PG S X) (M 29 [.ptr wb 0, .ptr wi.f.2 0, .ptr lb 0] h) := fun {h} H => k29 I (Ext1.refl S X) ⟨rfl, rfl, rfl⟩ hw hx H
 have yes : ∀ {fe fl : Int} {h : Hp}, fe ≠ 0 → St (frz S :: MK { X with fe := fe, fl := fl } :: lbr lb x :: wir wb wi :: l) h → Tri h false l (PG S X) (M 29 [.ptr wb 0, .ptr wi.f.2 0, .ptr lb 0] h) := fun {fe fl h} hfe H => by
  obtain ⟨I2, E2⟩ := I.flt (fl := fl) hfe
  exact k29 I2 E2 ⟨rfl, rfl, rfl⟩ (hw.ext E2) hx H
 unfold lbr wir at *
 refine t5 e27 fun L => ?_
 unfold B27
 apply Tri.addr
 refine Tri.load 2 H rfl rfl ?_
 apply Tri.addr
 refine Tri.load 3 H rfl rfl ?_
 refine Tri.gtr (fun e => ?_) (fun e => ?_)
 ·apply gtt
  apply bA
  apply Tri.addr
  apply bW
  refine Tri.load 2 H rfl rfl ?_
  apply bI
  refine Tri.gtr (fun e2 => ?_) (fun e2 => ?_)
  ·apply Tri.bs
   apply pT
   apply Tri.ift
   apply Tri.addr
   refine Tri.load 3 H rfl rfl ?_
   refine tb (sp54 H (by decide) I.fault) L fun v h B hq H L => ?_
   obtain ⟨rfl, fe, fl, rfl, hfe⟩ := hq
   exact te (yes hfe H) L
  ·apply Tri.bs
   apply pT
   apply Tri.iff
   exact te (no H) L
 ·apply gft
  apply pF
  apply Tri.iff
  exact te (no H) L
theorem lenLB {i j : Nat} (H : St l h) (hi : l[i]? = some (MK X)) (hb : X.bks[j]? = some b) (hk : Tri h0 ro F Q (k (.int .i64 (b.lbs.length : Nat)))) : Tri h0 ro F Q (Mid.lenSl b.lbV k) := by
 rcases lb_view H hi hb with ⟨h1, h2⟩ | ⟨b0, c, g, h2, _⟩
 ·rw [h1]; rw [h2] at hk; exact hk
 ·rw [h2]; exact hk
theorem k25 {wb bi : Nat} {d : Int} (I : Inv1 S X) (hw : WiIn S X wi) (hb : X.bks[bi]? = some b) (hd0 : 0 ≤ d) (hd1 : d < (wi.inn.length : Int))
 (next : ∀ {h : Hp}, St (frz S :: MK X :: wir wb wi :: l) h → Tri h false l (PG S X) (M 23 [.ptr X.mb 0, .ptr wb 0, .ptr wi.f.2 0, .int .i64 (d - 1)] h)) (m : Nat) :
 ∀ {q : Int} {h : Hp} (h0 : 0 ≤ q) (hm : (b.lbs.length : Int) - q ≤ (m : Int)) (H : St (frz S :: MK X :: wir wb wi :: l) h), Tri h false l (PG S X) (M 25 [.ptr X.mb 0, .ptr wb 0, .ptr wi.f.2 0, .int .i64 d, b.lbV, .int .i64 (b.lbs.length : Nat), .int .i64 q] h) := by
 have hbl := I.ub b (List.mem_of_getElem? hb)
 have htop := I.top
 have hinn := hw.inn.2
 induction m with
 | zero =>
  intro q h h0 hm H
  refine t7 e25 fun L => ?_
  unfold B25
  refine Tri.lss (fun e => by omega) (fun e => ?_)
  apply Tri.iff
  refine Tri.subN (by omega) (by omega) ?_
  exact te (next H) L
 | succ m ih =>
  intro q h h0 hm H
  by_cases hlt : q < (b.lbs.length : Int)
  ·have hx : 0 ≤ (b.lbs[q.toNat]'(by omega)).2.1 := I.lbs b (List.mem_of_getElem? hb) _ (List.getElem_mem _)
   have ih' : ∀ {h : Hp}, St (frz S :: MK X :: wir wb wi :: l) h → Tri h false l (PG S X) (M 25 [.ptr X.mb 0, .ptr wb 0, .ptr wi.f.2 0, .int .i64 d, b.lbV, .int .i64 (b.lbs.length : Nat), .int .i64 (q + 1)] h) := fun {h} H => ih (by omega) (by omega) H
   have k27' : ∀ {x : Bs × Int × Int} {lb : Nat} {va : Int} {h : Hp}, 0 ≤ x.2.1 → St (frz S :: MK X :: lbr lb x :: wir wb wi :: l) h → Tri h false l (PG S X) (M 27 [.ptr X.mb 0, .ptr wb 0, .ptr wi.f.2 0, .ptr lb 0, .int .i64 va] h) := fun {x lb va h} hx H => k27 I hw hx H
   unfold lbr wir at *
   refine t7 e25 fun L => ?_
   unfold B25
   refine Tri.lss (fun e => ?_) (fun e => by omega)
   apply Tri.ift
   rcases lb_view H (i := 1) rfl hb with ⟨_, h2⟩ | ⟨b0, c, g, h2, h3⟩
   ·rw [h2] at hlt; simp at hlt; omega
   rw [h2]
   refine Tri.idx h0 (by omega) ?_
   refine Tri.loadsC (X := lbc (b.lbs[q.toNat]'(by omega))) (by decide) rfl (fun x hx => by rw [Nat.zero_add]; exact h3 _ (by omega) x hx) ?_
   rw [← h2]
   generalize b.lbs[q.toNat]'(by omega) = x at hx
   obtain ⟨s1, s2, s3⟩ := x
   unfold lbc
   refine Tri.newS H L fun b10 h hb10 H L => ?_
   replace H := H.d2
   refine Tri.stores 2 (by decide) H rfl rfl (Nat.le_of_ble_eq_true rfl) L (fun e => nomatch e) (by first | rfl | assumption) fun h H L => ?_
   apply Tri.addr
   refine Tri.load 2 H rfl rfl ?_
   apply Tri.addr
   refine Tri.load 3 H rfl rfl ?_
   refine Tri.strNe fun s16 es16 => ?_
   cases s16
   ·apply Tri.iff
    apply Tri.addr
    refine Tri.load 3 H rfl rfl ?_
    refine Tri.addN (by omega) (by omega) ?_
    apply Tri.addr
    refine Tri.load 3 H rfl rfl ?_
    apply bL
    have hv := hw.v
    rcases hv with ⟨h4, h5⟩ | ⟨vb, vc, vg, h4, h5⟩
    ·rw [h5] at hd1; simp at hd1; omega
    rw [h4]
    refine Tri.lenSl ?_
    apply Tri.bs
    refine Tri.lss (fun e2 => ?_) (fun e2 => ?_)
    ·apply Tri.ift
     apply Tri.addr
     refine Tri.load 3 H rfl rfl ?_
     refine Tri.addN (by omega) (by omega) ?_
     rw [h4]
     refine Tri.idx (by omega) (by omega) ?_
     obtain ⟨b2, hb2, hbb2⟩ := hw.inn.1 (wi.inn[(d + 1).toNat]'(by omega)) (List.getElem_mem _)
     refine Tri.loadF 0 H rfl (v := .ptr b2.bb 0) (by rw [Nat.zero_add, Nat.mul_one, h5 _ (by omega)]; unfold ptrs; rw [List.getElem?_map, List.getElem?_eq_getElem (by omega), hbb2]; rfl) ?_
     apply Tri.nil
     apply Tri.addr
     refine Tri.loadC (bkc H (i := 1) (o := 1) rfl hb2 rfl) ?_
     exact te (k27' (x := (s1, s2, s3)) hx (H.out 2 |> fun H => H.ins 2)) L
    ·apply Tri.iff
     exact te (k27' (x := (s1, s2, s3)) hx (H.out 2 |> fun H => H.ins 2)) L
   ·apply Tri.ift
    refine Tri.addN (by omega) (by omega) ?_
    exact te (ih' (H.out 2 |> fun H => H.tl)) L
  ·exact ih h0 (by omega) H
theorem k23 {wb : Nat} (I : Inv1 S X) (hw : WiIn S X wi) (m : Nat) : ∀ {h : Hp} (hm : m ≤ wi.inn.length) (H : St (frz S :: MK X :: wir wb wi :: l) h), Tri h false l (PG S X) (M 23 [.ptr X.mb 0, .ptr wb 0, .ptr wi.f.2 0, .int .i64 ((m : Int) - 1)] h) := by
 have hinn := hw.inn.2
 induction m with
 | zero =>
  intro h hm H
  unfold wir at *
  refine t4 e23 fun L => ?_
  unfold B23
  refine Tri.geq (fun e => by omega) (fun e => ?_)
  apply Tri.iff
  apply Tri.addr
  refine Tri.load 2 H rfl rfl ?_
  refine tb (sp54 H (by decide) I.fault) L fun v h B hq H L => ?_
  obtain ⟨rfl, fe, fl, rfl, hfe⟩ := hq
  obtain ⟨I2, E2⟩ := I.flt (fl := fl) hfe
  exact Tri.done (B := [frz S, MK _]) ⟨rfl, _, rfl, I2, E2, rfl, rfl, rfl⟩ H.x2 L
 | succ m ih =>
  intro h hm H
  obtain ⟨b, hb, hbb⟩ := hw.inn.1 (wi.inn[m]'(by omega)) (List.getElem_mem _)
  have next : ∀ {h : Hp}, St (frz S :: MK X :: wir wb wi :: l) h → Tri h false l (PG S X) (M 23 [.ptr X.mb 0, .ptr wb 0, .ptr wi.f.2 0, .int .i64 ((m : Int) - 1)] h) := fun {h} H => ih (by omega) H
  have k25' : ∀ {h : Hp}, St (frz S :: MK X :: wir wb wi :: l) h → Tri h false l (PG S X) (M 25 [.ptr X.mb 0, .ptr wb 0, .ptr wi.f.2 0, .int .i64 (m : Nat), b.lbV, .int .i64 (b.lbs.length : Nat), .int .i64 0] h) := fun {h} H => k25 I hw hb (by omega) (by omega) next b.lbs.length (by omega) (by omega) H
  unfold wir at *
  rw [show (((m + 1 : Nat) : Int) - 1) = (m : Nat) by omega]
  refine t4 e23 fun L => ?_
  unfold B23
  refine Tri.geq (fun e => ?_) (fun e => by omega)
  apply Tri.ift
  apply Tri.addr
  refine Tri.load 2 H rfl rfl ?_
  rcases hw.v with ⟨h4, h5⟩ | ⟨vb, vc, vg, h4, h5⟩
  ·rw [h5] at hm; simp at hm
  rw [h4]
  refine Tri.idx (by omega) (by omega) ?_
  refine Tri.loadF 0 H rfl (v := .ptr b.bb 0) (by rw [Nat.zero_add, Nat.mul_one, h5 _ (by omega)]; unfold ptrs; rw [List.getElem?_map, show (((m : Nat) : Int)).toNat = m by omega, List.getElem?_eq_getElem (by omega), hbb]; rfl) ?_
  apply Tri.nil
  apply Tri.addr
  refine Tri.loadC (bkc H (i := 1) (o := 0) rfl hb rfl) ?_
  apply bL
  refine lenLB H (i := 1) rfl hb ?_
  apply Tri.bs
  exact te (k25' H) L
theorem wi_one (hw : WiIn S X wi) : allOne wi.cs = true := by
 unfold Wi.cs
 rcases hw.v with ⟨h4, h5⟩ | ⟨vb, vc, vg, h4, h5⟩ <;> rw [h4] <;> rfl
theorem goes_ok (I : Inv1 S X) (hw : WiIn S X wi) (H : St (frz S :: MK X :: l) h) : Tri h false l (PG S X) (M 32 [.ptr X.mb 0, .agg wi.cs] h) := by
 have hone := wi_one hw
 have hinn := hw.inn.2
 have k23' : ∀ {wb : Nat} {h : Hp}, St (frz S :: MK X :: wir wb wi :: l) h → Tri h false l (PG S X) (M 23 [.ptr X.mb 0, .ptr wb 0, .ptr wi.f.2 0, .int .i64 ((wi.inn.length : Int) - 1)] h) := fun {wb h} H => k23 I hw wi.inn.length (Nat.le_refl _) H
 unfold wir Wi.cs at *
 refine t2 e32 fun L => ?_
 unfold B32
 refine Tri.newS H L fun b10 h hb10 H L => ?_
 replace H := H.d2
 apply Tri.addr
 refine Tri.load 2 H rfl rfl ?_
 apply Tri.addr
 refine Tri.load 2 H rfl rfl ?_
 apply bL
 have hlen : ∀ {h0 : Hp} {K : V → VH}, Tri h0 false l (PG S X) (K (.int .i64 (wi.inn.length : Nat))) → Tri h0 false l (PG S X) (Mid.lenSl wi.inV K) := fun {h0 K} hk => by
  rcases hw.v with ⟨h4, h5⟩ | ⟨vb, vc, vg, h4, h5⟩
  ·rw [h4]; rw [h5] at hk; exact hk
  ·rw [h4]; exact hk
 refine hlen ?_
 apply Tri.bs
 refine Tri.subN (by omega) (by omega) ?_
 exact te (k23' H) L
def CellsIn (S : Mem) (v : V) (s : Nat) (cs : List V) : Prop := (v = .nilSlice ∧ cs = []) ∨ ∃ b n c g, v = .slice b 0 n c g ∧ cs.length = n * s ∧ ∀ o : Nat, o < cs.length → S b o = cs[o]?
theorem CellsIn.le {s : Nat} {cs : List V} (h : CellsIn S v s cs) (hS : Le S S') : CellsIn S' v s cs := by
 rcases h with h | ⟨b, n, c, g, h1, h2, h3⟩
 ·exact .inl h
 ·refine .inr ⟨b, n, c, g, h1, h2, fun o ho => ?_⟩
  have h4 := h3 o ho
  rw [List.getElem?_eq_getElem ho] at h4 ⊢
  exact hS _ _ _ h4
theorem CellsIn.one {s : Nat} {cs : List V} (h : CellsIn S v s cs) : oneCell v = true := by
 rcases h with ⟨rfl, _⟩ | ⟨b, n, c, g, rfl, _⟩ <;> rfl
structure FnFz (S : Mem) (f : Fn) : Prop where
 row : ∀ o : Nat, o < 10 → S f.fb o = f.row[o]?
 bo : CellsIn S f.boV 1 (f.bo.map V.bool)
 up : CellsIn S f.upV 2 (f.up.flatMap upc)
 st : CellsIn S f.stV 7 (f.ss.flatMap Sm.cs)
 ex : CellsIn S f.exV 3 (f.es.flatMap Ex.cs)
theorem FnFz.le (h : FnFz S f) (hS : Le S S') : FnFz S' f := ⟨fun o ho => by
 have h4 := h.row o ho
 rw [List.getElem?_eq_getElem (show o < f.row.length from ho)] at h4 ⊢
 exact hS _ _ _ h4, h.bo.le hS, h.up.le hS, h.st.le hS, h.ex.le hS⟩
theorem freezeC {e s : Nat} {cs : List V} (H : St (vc true v e s cs :: frz S :: l) h) : ∃ S', Le S S' ∧ CellsIn S' v s cs ∧ St (frz S' :: l) h := by
 obtain ⟨S', h1, h2, h3⟩ := freezeV H
 exact ⟨S', h1, h3, h2⟩
theorem freezeFn (H : St (f.A :: frz S :: l) h) : ∃ S', Le S S' ∧ FnFz S' f ∧ St (frz S' :: l) h := by
 have H1 : St (ands (FnL f) :: frz S :: l) h := H
 have H2 : St (Mid.row f.fb f.row :: vc true f.boV 4 1 (f.bo.map V.bool) :: vc true f.upV 75 2 (f.up.flatMap upc) :: vc true f.stV 50 7 (f.ss.flatMap Sm.cs) :: vc true f.exV 53 3 (f.es.flatMap Ex.cs) :: vc true f.vaV 136 1 (f.va.map V.str) :: vc true f.blV 101 1 (ptrs f.bl) :: frz S :: l) h := H1.app
 have H3 : St (Mid.row f.fb f.row :: frz S :: vc true f.boV 4 1 (f.bo.map V.bool) :: vc true f.upV 75 2 (f.up.flatMap upc) :: vc true f.stV 50 7 (f.ss.flatMap Sm.cs) :: vc true f.exV 53 3 (f.es.flatMap Ex.cs) :: vc true f.vaV 136 1 (f.va.map V.str) :: vc true f.blV 101 1 (ptrs f.bl) :: l) h := (H2.out 7).ins 1
 obtain ⟨S1, g1, r1, H4⟩ := H3.freeze'
 obtain ⟨S2, g2, r2, H5⟩ := freezeC H4.u1
 obtain ⟨S3, g3, r3, H6⟩ := freezeC H5.u1
 obtain ⟨S4, g4, r4, H7⟩ := freezeC H6.u1
 obtain ⟨S5, g5, r5, H8⟩ := freezeC H7.u1
 refine ⟨S5, g1.trans (g2.trans (g3.trans (g4.trans g5))), ⟨fun o ho => ?_, r2.le (g3.trans (g4.trans g5)), r3.le (g4.trans g5), r4.le g5, r5⟩, H8.x2.x1⟩
 have h4 := r1 o
 rw [List.getElem?_eq_getElem (show o < f.row.length from ho)] at h4 ⊢
 exact (g2.trans (g3.trans (g4.trans g5))) _ _ _ h4
theorem freezeFns : ∀ (fs : List Fn) {S : Mem} (H : St (ands (fs.map Fn.A) :: frz S :: l) h), ∃ S', Le S S' ∧ (∀ f ∈ fs, FnFz S' f) ∧ St (frz S' :: l) h
 | [], S, H => ⟨S, Le.refl S, fun f hf => (nomatch hf), H.tl⟩
 | f :: fs, S, H => by
  have H1 : St (f.A :: (fs.map Fn.A ++ frz S :: l)) h := H.app
  have H2 : St (f.A :: ands (fs.map Fn.A) :: frz S :: l) h := H1.cons fun _ hk => hk.pack
  obtain ⟨S1, g1, r1, H3⟩ := freezeFn ((H2.u2).u1)
  obtain ⟨S2, g2, r2, H4⟩ := freezeFns fs H3.u1
  exact ⟨S2, g1.trans g2, fun g hg => by
   rcases List.mem_cons.1 hg with h | h
   ·subst h; exact r1.le g2
   ·exact r2 g h, H4⟩
theorem storeO2 {b : Nat} {cs : List V} {kk : Ob → VH} (i : Nat) (H : St l h) (hi : l[i]? = some (row b cs)) (hc : cs.length = 2) (L : Lo false h0 h)
 (hk : ∀ ob, St (l.set i (row b [.nilSlice, .nilSlice])) (h.put b ob) → Lo false h0 (h.put b ob) → Tri h0 false F Q (kk ob)) : Tri h0 false F Q (storeB (storeO Tryz.prog h 29 b 0 (.agg [.nilSlice, .nilSlice])) kk) := by
 have H2 := H.row_over (L := [.nilSlice, .nilSlice]) (o := 0) hi (by rw [hc]; exact Nat.le_refl 2) (by omega)
 have L2 := L.wrL b 0 [.nilSlice, .nilSlice] (fun e => nomatch e)
 have e : over cs 0 [.nilSlice, .nilSlice] = [.nilSlice, .nilSlice] := by unfold over; rw [List.take_zero, List.drop_of_length_le (by simp; omega)]; rfl
 rw [e] at H2
 obtain ⟨f, h1, t, g, e', h2, h3⟩ := H.sat.get hi
 have hg := h1 b _ h2
 unfold hf at hg
 rw [hc] at hg
 rw [wrL_of hg] at H2 L2
 have e2 : storeO Tryz.prog h 29 b 0 (.agg [.nilSlice, .nilSlice]) = some (.cells (t.setL 0 [.nilSlice, .nilSlice]) 2 g e') := by
  unfold storeO; rw [hg]; rfl
 rw [e2]
 exact hk _ H2 L2
theorem _root_.Go.Mid.Tri.cmp2n {d : IntKind} {a b a' b' : Int} (hK : ∀ c : Bool, (c = false ↔ a = a' ∧ b = b') → Tri h0 ro F Q (K (.bool c) h)) : Tri h0 ro F Q (bindS (vh h (eqOp .neq (cmpV [(0, .int d), (1, .int d)] (.agg [.int d a, .int d b]) (.agg [.int d a', .int d b'])))) K) := by
 have e : cmpV [(0, .int d), (1, .int d)] (.agg [.int d a, .int d b]) (.agg [.int d a', .int d b']) = some (decide (a = a') && decide (b = b')) := by
  simp only [cmpV, cmpL, getN, eqLeaf, kEq_self, iEq_eq, cond_true]
  by_cases h1 : a = a'
  ·by_cases h2 : b = b'
   ·simp [h1, h2]
   ·rw [show (a == a') = true by simp [h1], show (b == b') = false from beq_false_of_ne h2, decide_eq_true h1, decide_eq_false h2]; rfl
  ·rw [show (a == a') = false from beq_false_of_ne h1, decide_eq_false h1]; rfl
 rw [e]
 exact hK _ (by simp)
structure Ready (S : Mem) (sV pV : V) (X : MS) : Prop where
 st : CellsIn S sV 1 (X.strs.map V.str)
 pr : CellsIn S pV 8 (X.fns.flatMap fun f => f.row.take 8)
 fz : ∀ f ∈ X.fns, FnFz S f
 ok : ∀ f ∈ X.fns, FnIn S X.strs.length X.fns.length f ∧ FnDone f ∧ f.pa ≤ f.sl ∧ f.ss.length ≤ 100000 ∧ f.es.length ≤ 100000
 pos : 1 ≤ X.fns.length
 top : X.fns.length ≤ 100000 ∧ X.strs.length ≤ 100000
abbrev PRes : V → List Asn → Prop := fun v B => ∃ S sV pV fe fl, v = .tuple [.agg [sV, pV], .agg [.int .i64 fe, .int .i64 fl]] ∧ B = [frz S] ∧ ((fe ≠ 0 ∧ sV = .nilSlice ∧ pV = .nilSlice) ∨ (fe = 0 ∧ fl = 0 ∧ ∃ X, Ready S sV pV X))
def prc (fs : List Fn) : List V := fs.flatMap fun f => f.row.take 8
theorem prc_len (fs : List Fn) : (prc fs).length = fs.length * 8 := by
 unfold prc
 induction fs with
 | nil => rfl
 | cons a l ih => rw [List.flatMap_cons, List.length_append, ih, List.length_cons]; simp [Fn.row]; omega
def MS.rowP (X : MS) (pv : V) : List V := [X.nv, .int .i64 X.root, X.strsV, pv, .map X.mapb, X.fuV, X.dnV, X.goV, .int .i64 X.fe, .int .i64 X.fl]
theorem k19 {a2 a3 : Nat} {z1 z2 z3 z4 : V} (I : Inv1 S X) (hfu : X.fu = []) (hfz : ∀ f ∈ X.fns, FnFz S f) (hfe : X.fe = 0) (hpos : 1 ≤ X.fns.length) (m : Nat) : ∀ {j : Nat} {pv : V} {h : Hp} (hj : j ≤ X.fns.length) (hm : X.fns.length - j ≤ m)
 (H : St (frz S :: Mid.row X.mb (X.rowP pv) :: vc true X.strsV 9 1 (X.strs.map V.str) :: vc true X.dnV 65 1 (X.fns.map fun f => .ptr f.fb 0) :: vc true pv 41 8 (prc (X.fns.take j)) :: row a2 [z1, z2] :: row a3 [z3, z4] :: l) h),
 Tri h false l PRes (M 19 [.ptr a2 0, .ptr a3 0, .ptr X.mb 0, X.dnV, .int .i64 (X.fns.length : Nat), .int .i64 (j : Nat)] h) := by
 have hu := I.u
 have htop := I.top
 induction m with
 | zero =>
  intro j pv h hj hm H
  obtain rfl : j = X.fns.length := by omega
  rw [List.take_length] at H
  unfold MS.rowP at H
  have o1 := H.vc_one (i := 2) rfl
  have o2 := H.vc_one (i := 4) rfl
  have o3 : allOne [X.strsV, pv] = true := by show (oneCell _ && (oneCell _ && true)) = true; rw [o1, o2]; rfl
  refine t6 e19 fun L => ?_
  unfold B19
  refine Tri.lss (fun e => by omega) (fun e => ?_)
  apply Tri.iff
  apply Tri.nil
  apply Tri.addr
  refine ls 1 H rfl rfl ?_
  refine Tri.bldS rfl ?_
  refine Tri.stores 5 (by decide) H rfl rfl (Nat.le_of_ble_eq_true rfl) L (fun e => nomatch e) (by first | rfl | assumption) fun h H L => ?_
  refine Tri.stores 6 (by decide) H rfl rfl (Nat.le_of_ble_eq_true rfl) L (fun e => nomatch e) (by first | rfl | assumption) fun h H L => ?_
  refine ls 5 H rfl rfl ?_
  refine ls 6 H rfl rfl ?_
  obtain ⟨S1, g1, r1, H⟩ := freezeC H.u2
  obtain ⟨S2, g2, r2, H⟩ := freezeC H.u3
  have g := g1.trans g2
  refine Tri.done (B := [frz S2]) ⟨S2, X.strsV, pv, 0, 0, rfl, rfl, .inr ⟨rfl, rfl, X, ?_⟩⟩ H.x1.x1.x1.x1 L
  refine ⟨r1.le g2, r2, fun f hf => (hfz f hf).le g, fun f hf => ?_, hpos, by omega, by omega⟩
  obtain ⟨q, hq⟩ := List.mem_iff_getElem?.1 hf
  have h1 := I.fin q f hq (fun p hp => by rw [hfu] at hp; cases hp)
  have h2 := I.us f hf
  exact ⟨(I.fns f hf).mono g (Nat.le_refl _) (Nat.le_refl _), h1.1, h1.2 hfe, by omega, by omega⟩
 | succ m ih =>
  intro j pv h hj hm H
  by_cases hlt : j < X.fns.length
  ·unfold MS.rowP at H
   have o2 := H.vc_one (i := 4) rfl
   refine t6 e19 fun L => ?_
   unfold B19
   refine Tri.lss (fun e => ?_) (fun e => by omega)
   apply Tri.ift
   refine Tri.idxV 3 H rfl (by omega) (by simp; omega) (by decide) fun b nn cc g hv _ => ?_
   refine Tri.loadV 3 (hv ▸ H) rfl (w := .ptr (X.fns[j]).fb 0) (by rw [Nat.zero_add, Int.toNat_natCast, Nat.mul_one, List.getElem?_map, List.getElem?_eq_getElem hlt]; rfl) ?_
   have hmem := List.getElem_mem (l := X.fns) hlt
   have hf := hfz _ hmem
   apply Tri.nil
   apply Tri.addr
   apply Tri.addr
   refine Tri.load 1 H rfl rfl ?_
   apply Tri.nil
   apply Tri.addr
   refine Tri.loadsF 0 (s := 8) (L := (X.fns[j]).row.take 8) (by decide) H rfl rfl (fun x hx => ?_) ?_
   ·rw [Nat.zero_add, hf.row x (by omega), List.getElem?_take, if_pos hx]
   refine Tri.drawBld H L (fun _ => rfl) rfl fun b30 h hb30 H L => ?_
   replace H := H.d1
   have h1 := hf.bo.one
   have h2 := hf.up.one
   have h3 := hf.st.one
   have h4 := hf.ex.one
   refine Tri.drawApp 5 j 1 H rfl (H.newCells (i := 1) rfl rfl) (by decide) (by rw [prc_len, List.length_take, Nat.min_eq_left (by omega)]) rfl (by omega) (by omega) (by show (true && (true && (true && (oneCell _ && (oneCell _ && (oneCell _ && (oneCell _ && (true && true)))))))) = true; rw [h1, h2, h3, h4]; rfl) L (Own.off _ _) fun v' h H L O o1 => ?_
   have e1 : prc (X.fns.take j) ++ (V.int .i64 (X.fns[j]).pa :: V.bool (X.fns[j]).more :: V.int .i64 (X.fns[j]).sl :: (X.fns[j]).boV :: (X.fns[j]).upV :: (X.fns[j]).stV :: (X.fns[j]).exV :: V.int .i64 (X.fns[j]).st :: [].append []) = prc (X.fns.take (j + 1)) := by
    rw [List.take_succ, List.getElem?_eq_getElem hlt]
    unfold prc
    rw [List.flatMap_append]; rfl
   replace H := H.x1
   replace H : St (_ :: _ :: _ :: _ :: vc true v' 41 8 (prc (X.fns.take j) ++ (V.int .i64 (X.fns[j]).pa :: V.bool (X.fns[j]).more :: V.int .i64 (X.fns[j]).sl :: (X.fns[j]).boV :: (X.fns[j]).upV :: (X.fns[j]).stV :: (X.fns[j]).exV :: V.int .i64 (X.fns[j]).st :: [].append [])) :: _) _ := H
   rw [e1] at H
   apply Tri.nil
   apply Tri.addr
   apply Tri.addr
   refine sto 1 H rfl rfl L (by first | rfl | assumption) fun h H L => ?_
   refine Tri.addN (by omega) (by omega) ?_
   exact te (ih (j := j + 1) (by omega) (by omega) H) L
  ·obtain rfl : j = X.fns.length := by omega
   exact ih hj (by omega) H
theorem go_at (l : List Wi) (j : Nat) (hj : j < l.length) (o : Nat) (ho : o < 6) : (l.flatMap Wi.cs)[j * 6 + o]? = (Wi.cs l[j])[o]? := by
 induction l generalizing j with
 | nil => simp at hj
 | cons a l ih =>
  cases j with
  | zero => rw [List.flatMap_cons, List.getElem?_append_left (by simp [Wi.cs]; omega)]; simp
  | succ j =>
   rw [List.flatMap_cons, List.getElem?_append_right (by simp [Wi.cs]; omega), show (j + 1) * 6 + o - (Wi.cs a).length = j * 6 + o by simp [Wi.cs]; omega]
   exact ih j (by simpa using hj)
theorem go_view (H : St l h) (hi : l[i]? = some (MK X)) : (X.goV = .nilSlice ∧ X.go = []) ∨ ∃ b0 c g, X.goV = .slice b0 0 X.go.length c g ∧ ∀ (k : Nat) (hk : k < X.go.length) (o : Nat), o < 6 → h.cell b0 (k * 6 + o) = (Wi.cs X.go[k])[o]? := by
 obtain ⟨g, a1, a2⟩ := mk_get H hi (j := 5) rfl
 rcases vc_view a1 a2 with ⟨h1, h2⟩ | ⟨b0, n, c, gg, h1, h2, h3⟩
 ·refine .inl ⟨h1, ?_⟩
  have := go_len X.go
  rw [h2] at this
  exact List.eq_nil_of_length_eq_zero (by simp at this; omega)
 ·rw [go_len] at h2
  have : n = X.go.length := by omega
  subst this
  refine .inr ⟨b0, c, gg, h1, fun k hk o ho => ?_⟩
  rw [h3 _ (by rw [go_len]; omega)]
  exact go_at _ _ hk o ho
theorem k15 {a2 a3 : Nat} {z1 z2 z3 z4 : V} (I : Inv1 S X) (hfu : X.fu = []) (hpos : 1 ≤ X.fns.length) (H : St (frz S :: MK X :: row a2 [z1, z2] :: row a3 [z3, z4] :: l) h) : Tri h false l PRes (M 15 [.ptr a2 0, .ptr a3 0, .ptr X.mb 0] h) := by
 replace H := openM H
 refine t3 e15 fun L => ?_
 unfold B15
 apply Tri.nil
 apply Tri.addr
 refine ls 1 H rfl rfl ?_
 refine Tri.bldS rfl ?_
 refine Tri.cmp2n fun c hc => ?_
 cases c
 ·have hfe := (hc.1 rfl).1
  apply Tri.iff
  apply Tri.nil
  apply Tri.addr
  refine Tri.load 1 H rfl rfl ?_
  apply bL
  obtain ⟨S1, g1, r1, H1⟩ := freezeFns X.fns H.u7
  have H2 := (((((H1.out 3).tl.out 3).tl.out 4).tl.out 4).tl.out 4).tl
  have H3 := (H2.vc_new true 41 8).ins 4
  refine Tri.lenV 3 X.fns.length H3 rfl (by decide) (by simp) ?_
  apply Tri.bs
  exact te (k19 (j := 0) (pv := .nilSlice) (I.leS g1) hfu r1 hfe hpos X.fns.length (Nat.zero_le _) (by omega) H3) L
 ·have hfe : X.fe ≠ 0 := fun e => by
   have := hc.2 ⟨e, I.fault.resolve_left fun h => h e⟩
   cases this
  apply Tri.ift
  refine Tri.bldS rfl ?_
  apply Tri.nil
  apply Tri.addr
  refine ls 1 H rfl rfl ?_
  have hne : a2 ≠ X.mb := ne_of (A := row a2 [z1, z2]) (B := row X.mb [X.nv, .int .i64 X.root, X.strsV, .nilSlice, .map X.mapb, X.fuV, X.dnV, X.goV, .int .i64 X.fe, .int .i64 X.fl]) ((H.out 1).out 10) row_own row_own
  refine storeO2 10 H rfl rfl L fun ob H L => ?_
  refine Tri.cd ?_ ?_
  ·show (!(Nat.beq X.mb a2) && true) = true
   have : Nat.beq X.mb a2 = false := by
    cases hb : Nat.beq X.mb a2 with
    | false => rfl
    | true => exact (hne (Nat.eq_of_beq_eq_true hb).symm).elim
   rw [this]; rfl
  refine Tri.stores 11 (by decide) H rfl rfl (Nat.le_of_ble_eq_true rfl) L (fun e => nomatch e) (by first | rfl | assumption) fun h H L => ?_
  refine ls 10 H rfl rfl ?_
  refine ls 11 H rfl rfl ?_
  exact Tri.done (B := [frz S]) ⟨S, .nilSlice, .nilSlice, X.fe, X.fl, rfl, rfl, .inl ⟨hfe, rfl, rfl⟩⟩ H.x1.x1.x1.x1.x1.x1.x1.x1.x1.x1.x1 L
theorem k17 {a2 a3 : Nat} {z1 z2 z3 z4 : V} {go : List Wi} {goV : V} (m : Nat) : ∀ {X : MS} {h : Hp} {j : Nat} (I : Inv1 S X) (hfu : X.fu = []) (hpos : 1 ≤ X.fns.length) (hgo : X.go = go ∧ X.goV = goV) (hj : j ≤ go.length) (hm : go.length - j ≤ m) (H : St (frz S :: MK X :: row a2 [z1, z2] :: row a3 [z3, z4] :: l) h),
 Tri h false l PRes (M 17 [.ptr a2 0, .ptr a3 0, .ptr X.mb 0, goV, .int .i64 (go.length : Nat), .int .i64 (j : Nat)] h) := by
 induction m with
 | zero =>
  intro X h j I hfu hpos hgo hj hm H
  refine t6 e17 fun L => ?_
  unfold B17
  refine Tri.lss (fun e => by omega) (fun e => ?_)
  apply Tri.iff
  exact te (k15 I hfu hpos H) L
 | succ m ih =>
  intro X h j I hfu hpos hgo hj hm H
  by_cases hlt : j < go.length
  ·have hu := I.u
   have htop := I.top
   refine t6 e17 fun L => ?_
   unfold B17
   refine Tri.lss (fun e => ?_) (fun e => by omega)
   apply Tri.ift
   obtain ⟨hg1, hg2⟩ := hgo
   rw [hg1] at hu
   rcases go_view H (i := 1) rfl with ⟨h1, h2⟩ | ⟨b0, cc, g, h1, h2⟩
   ·rw [hg1] at h2; rw [h2] at hlt; simp at hlt
   rw [← hg2, h1]
   refine Tri.idx (by omega) (by rw [hg1]; omega) ?_
   refine Tri.loadsC (X := Wi.cs (X.go[j]'(by rw [hg1]; exact hlt))) (by decide) rfl (fun x hx => by rw [Int.toNat_natCast, Nat.zero_add]; exact h2 _ (by rw [hg1]; exact hlt) x hx) ?_
   have hw := I.go _ (List.getElem_mem (l := X.go) (n := j) (by rw [hg1]; exact hlt))
   generalize X.go[j]'(by rw [hg1]; exact hlt) = wi at hw
   have hone := wi_one hw
   unfold Wi.cs at *
   rw [← h1]
   refine Tri.newS H L fun b10 h hb10 H L => ?_
   replace H := H.d2
   refine Tri.stores 2 (by decide) H rfl rfl (Nat.le_of_ble_eq_true rfl) L (fun e => nomatch e) (by first | rfl | assumption) fun h H L => ?_
   refine ls 2 H rfl rfl ?_
   refine tb (goes_ok I hw H) L fun v h B hq H L => ?_
   obtain ⟨rfl, X2, rfl, I2, E2, u2, go2, goV2⟩ := hq
   refine Tri.addN (by omega) (by omega) ?_
   rw [← E2.mb, hg2]
   refine te (ih (j := j + 1) I2 (by rw [E2.fu]; exact hfu) (by have := E2.nfn; omega) ⟨by rw [go2, hg1], by rw [goV2, hg2]⟩ (by omega) (by omega) H.x2) L
  ·obtain rfl : j = go.length := by omega
   exact ih I hfu hpos hgo hj (by omega) H
theorem rRd {a : Asn} {v : V} {B : List Asn} (hq : PRes v B) (H : St (B ++ a :: l) h) : ∃ B', PRes v B' ∧ St (B' ++ l) h := by
 obtain ⟨S, sV, pV, fe, fl, rfl, rfl, r⟩ := hq
 exact ⟨_, ⟨S, sV, pV, fe, fl, rfl, rfl, r⟩, H.x1⟩
def ms0 (mb mapb : Nat) (nv : V) (root : Int) : MS := ⟨mb, nv, root, .nilSlice, mapb, .nilSlice, .nilSlice, .nilSlice, 0, 0, [], [], [], [], [], [], [], 0⟩
theorem Inv1.start (S : Mem) (mb mapb : Nat) (nv : V) (root : Int) : Inv1 S (ms0 mb mapb nv root) :=
 ⟨fun f hf => (nomatch hf), fun p hp => (nomatch hp), fun p hp => (nomatch hp), fun j f hf => (nomatch hf), fun w hw => (nomatch hw), fun b hb => (nomatch hb), fun c hc => (nomatch hc), ⟨fun p hp => (nomatch hp)⟩, .inr rfl, Nat.zero_le _, fun f hf => (nomatch hf), fun b hb => (nomatch hb), fun c hc => (nomatch hc), Nat.zero_le _, Nat.zero_le _⟩
theorem newMk {mb mapb : Nat} {root : Int} (H : St (row mb (ms0 mb mapb nv root).row :: dict mapb [] :: frz S :: l) h) : St (frz S :: MK (ms0 mb mapb nv root) :: l) h := by
 have e : ∀ {l : List Asn} {h : Hp}, St l h → St (ands [] :: l) h := fun H => St.pack (l := []) H
 have H1 : St (frz S :: row mb (ms0 mb mapb nv root).row :: vc true .nilSlice 9 1 [] :: dict mapb [] :: l) h := (H.u2.vc_new true 9 1).ins 2
 have H3 : St (frz S :: row mb (ms0 mb mapb nv root).row :: vc true .nilSlice 9 1 [] :: dict mapb [] :: vc true .nilSlice 65 1 [] :: vc true .nilSlice 65 1 [] :: l) h := (((H1.vc_new true 65 1).vc_new true 65 1).ins 5).ins 4
 have H4 : St (frz S :: row mb (ms0 mb mapb nv root).row :: vc true .nilSlice 9 1 [] :: dict mapb [] :: vc true .nilSlice 65 1 [] :: vc true .nilSlice 65 1 [] :: vc true .nilSlice 68 6 [] :: l) h := (H3.vc_new true 68 6).ins 6
 have H5 : St (frz S :: row mb (ms0 mb mapb nv root).row :: vc true .nilSlice 9 1 [] :: dict mapb [] :: vc true .nilSlice 65 1 [] :: vc true .nilSlice 65 1 [] :: vc true .nilSlice 68 6 [] :: ands [] :: ands [] :: ands [] :: l) h := (e ((e ((e H4).ins 7)).ins 8)).ins 9
 exact closeM (X := ms0 mb mapb nv root) H5
theorem resolve_ok {root : Int} (hn : NdsIn S nv nds) (H : St (frz S :: l) h) : Tri h false l PRes (M 12 [.agg [nv, .int .i64 root]] h) := by
 have hone := hn.one
 have hnv : allOne [nv, .int .i64 root] = true := by simp only [allOne, hn.one]; rfl
 refine t1 e12 fun L => ?_
 unfold B12
 refine Tri.newS H L fun b10 h hb10 H L => ?_
 replace H := H.d1
 refine Tri.newS H L fun b11 h hb11 H L => ?_
 replace H := H.d1
 refine Tri.newS H L fun b12 h hb12 H L => ?_
 replace H := H.d1
 refine ls 3 H rfl rfl ?_
 refine tb (sp28 H (by first|omega|assumption|rfl|decide)) L fun v h B hq14 H L => ?_
 obtain ⟨⟨r14, rfl, hp14⟩, rfl⟩ := hq14
 apply Tri.not
 cases r14
 ·apply Tri.ift
  refine Tri.bldS rfl ?_
  refine Tri.bldS rfl ?_
  refine Tri.stores 2 (by decide) H rfl rfl (Nat.le_of_ble_eq_true rfl) L (fun e => nomatch e) (by first | rfl | assumption) fun h H L => ?_
  refine Tri.stores 1 (by decide) H rfl rfl (Nat.le_of_ble_eq_true rfl) L (fun e => nomatch e) (by first | rfl | assumption) fun h H L => ?_
  refine ls 2 H rfl rfl ?_
  refine ls 1 H rfl rfl ?_
  exact Tri.done (B := [frz S]) ⟨S, .nilSlice, .nilSlice, 50, 0, rfl, rfl, .inl ⟨by decide, rfl, rfl⟩⟩ H.x1.x1.x1 L
 ·have R := hp14 rfl
  have hr0 := R.r0
  have hr1 := R.r1
  obtain ⟨w, n, hnd, hF, hw⟩ := root_ok R
  apply Tri.iff
  refine ls 3 H rfl rfl ?_
  refine Tri.bldS rfl ?_
  have H2 := H.new (A := dict h.n []) (o := .map []) (up_eq _ _ _)
  have L2 : Lo false _ (h.new (.map [])) := ⟨Nat.le_trans L.n (Nat.le_succ _), fun e => nomatch e⟩
  generalize h.n = mapb at *
  generalize h.new (.map []) = h2 at *
  refine Tri.newS H2 L2 fun mb h hmb H L => ?_
  replace H := newMk (nv := nv) (root := root) (mb := mb) (mapb := mapb) H
  have hX0 : ∃ X0 : MS, X0 = ms0 mb mapb nv root := ⟨_, rfl⟩
  obtain ⟨X0, hX0⟩ := hX0
  have I0 : Inv1 S X0 := by rw [hX0]; exact Inv1.start S mb mapb nv root
  have emb : X0.mb = mb := by rw [hX0]; rfl
  have env : X0.nv = nv := by rw [hX0]; rfl
  have efu : X0.fu = [] := by rw [hX0]; rfl
  have eu : X0.u = 0 := by rw [hX0]; rfl
  rw [← hX0] at H
  rw [← emb]
  apply Tri.addr
  refine Tri.load 4 H rfl rfl ?_
  apply Tri.addr
  refine Tri.load 4 H rfl rfl ?_
  refine FSl.idx (by assumption) (by omega) (by omega) fun b44 o44 hb44 => ?_
  have hc44 := hb44
  obtain ⟨c44_0, c44_1, c44_2, c44_3, c44_4, c44_5, c44_6⟩ := hc44
  obtain ⟨c44_7, c44_8, c44_9⟩ := NdIn.three c44_6
  refine Tri.loadsF 0 (by decide) H rfl rfl (NdAt.cells (by assumption)) ?_
  have hlt : root.toNat < nds.length := by omega
  have hnd' : nds[root.toNat]'hlt = n := (List.getElem?_eq_some_iff.1 hnd).2
  have hx : NdIn S n := by rw [← hnd']; assumption
  rw [hnd']
  refine tb (hF I0 (by rw [env]; exact hn) hx (by omega) H) L fun v h B hq H L => ?_
  obtain ⟨S1, X1, rfl, I1, E1, u1, kf, rfl, kf0, kf1⟩ := hq
  have efu1 : X1.fu = [] := by rw [E1.fu]; exact efu
  have hpos : 1 ≤ X1.fns.length := by omega
  have htop := I1.top
  have hu := I1.u
  rw [← E1.mb]
  clear hX0
  replace H := openM H
  apply Tri.nil
  apply Tri.addr
  refine ls 1 H rfl rfl ?_
  refine Tri.bldS rfl ?_
  refine Tri.cmp2 fun c hc => ?_
  cases c
  ·apply Tri.iff
   have H5 := closeM (X := X1) H
   exact Tri.tail (k15 I1 efu1 hpos ((H5.out 3).ins 2)) L (fun e => e) fun v h B hq H L => rRd hq H
  ·apply Tri.ift
   apply Tri.nil
   apply Tri.addr
   refine Tri.load 1 H rfl rfl ?_
   apply bL
   refine Tri.lenV 6 X1.go.length H rfl (by decide) (go_len _) ?_
   apply Tri.bs
   have H5 := closeM (X := X1) H
   exact Tri.tail (k17 X1.go.length (j := 0) I1 efu1 hpos ⟨rfl, rfl⟩ (Nat.zero_le _) (by omega) ((H5.out 3).ins 2)) L (fun e => e) fun v h B hq H L => rRd hq H
end
end Go.FP
end
