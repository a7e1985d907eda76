/- A part of the proof. -/
import Derived.Test.YthbcbfgpfpogkaaGreatPFL34
set_option linter.all false
set_option warn.classDefReducibility false
noncomputable section
section
open Go Go.Mid Go.Proofs
set_option maxRecDepth 100000
namespace Go.FP
section
variable {S S' S'' : Mem} {l F : List Asn} {h h0 : Hp} {ro : Bool} {Q : V → List Asn → Prop} {k : V → VH} {K : V → Hp → VH} {nds : List Nd} {n : Nd} {v nv : V} {X X' X'' : MS} {f f' : Fn} {i : Nat} {w : Nat → Nat} {b b' : Bk} {c c' : Cl} {wi : Wi}
abbrev PYes (S : Mem) : V → List Asn → Prop := fun v B => v = .bool true ∧ B = [frz S]
theorem Ints.lenI {ks : List Int} (hv : Ints S v ks) (hk : Tri h0 ro F Q (k (.int .i64 (ks.length : Nat)))) : Tri h0 ro F Q (Mid.lenSl v k) := by
 rcases hv with ⟨rfl, rfl⟩ | ⟨b, c, g, rfl, _⟩ <;> exact hk
theorem Ints.idxI {ks : List Int} {d : IntKind} {j : Nat} (hv : Ints S v ks) (hj : j < ks.length) (hk : ∀ b o, S b o = some (.int .i64 ks[j]) → Tri h0 ro F Q (k (.ptr b o))) : Tri h0 ro F Q (idxS 1 v (.int d (j : Nat)) k) := by
 rcases hv with ⟨rfl, rfl⟩ | ⟨b, c, g, rfl, _, hP⟩
 ·exact absurd hj (Nat.not_lt_zero _)
 ·refine Tri.idx (by omega) (by omega) (hk b _ ?_)
  rw [Int.toNat_natCast, Nat.zero_add, Nat.mul_one, hP j hj, List.getElem?_map, List.getElem?_eq_getElem hj]; rfl
theorem Ints.sm {ks : List Int} (hv : Ints S v ks) : ks.length ≤ 1000000 := by
 rcases hv with ⟨rfl, rfl⟩ | ⟨b, c, g, rfl, h, _⟩
 ·simp
 ·exact h
theorem k21 {ks : List Int} {m : Int} (hv : Ints S v ks) (hin : In m ks) (r : Nat) : ∀ {j : Nat} {h : Hp} (hj : j ≤ ks.length) (hr : ks.length - j ≤ r) (H : St (frz S :: l) h), Tri h false l (PYes S) (M 21 [v, .int .i64 m, .int .i64 (j : Nat)] h) := by
 have hsm := hv.sm
 induction r with
 | zero =>
  intro j h hj hr H
  refine t3 e21 fun L => ?_
  unfold B21
  refine Tri.eqv (bind_lenSl _ _) (hv.lenI ?_)
  apply Tri.bs
  refine Tri.lss (fun e => by omega) (fun e => ?_)
  apply Tri.iff
  exact Tri.done (B := [frz S]) ⟨rfl, rfl⟩ H L
 | succ r ih =>
  intro j h hj hr H
  by_cases hlt : j < ks.length
  ·have h1 := hin _ (List.getElem_mem hlt)
   refine t3 e21 fun L => ?_
   unfold B21
   refine Tri.eqv (bind_lenSl _ _) (hv.lenI ?_)
   apply Tri.bs
   refine Tri.lss (fun e => ?_) (fun e => by omega)
   apply Tri.ift
   refine hv.idxI hlt fun b o hb => ?_
   refine Tri.loadF 0 H rfl hb ?_
   refine Tri.lss (fun e => by omega) (fun e => ?_)
   apply gff
   refine Tri.eqv (bind_idxS _ _) ?_
   refine hv.idxI hlt fun b o hb => ?_
   apply bW
   refine Tri.loadF 0 H rfl (by assumption) ?_
   apply bI
   refine Tri.geq (fun e => by omega) (fun e => ?_)
   apply Tri.bs
   apply pF
   apply Tri.iff
   refine Tri.addN (by omega) (by omega) ?_
   refine te (ih (j := j + 1) (by omega) (by omega) H) L
  ·exact ih hj (by omega) H
theorem within_ok {ks : List Int} {m : Int} (hv : Ints S v ks) (hin : In m ks) (H : St (frz S :: l) h) : Tri h false l (PYes S) (M 34 [v, .int .i64 m] h) := by
 refine t2 e34 fun L => ?_
 unfold B34
 exact te (k21 hv hin ks.length (j := 0) (Nat.zero_le _) (by omega) H) L
theorem CellsIn.len {s m : Nat} {cs : List V} (hv : CellsIn S v s cs) (hs : 0 < s) (hn : cs.length = m * s) (hk : Tri h0 ro F Q (k (.int .i64 (m : Nat)))) : Tri h0 ro F Q (Mid.lenSl v k) := by
 rcases hv with ⟨rfl, rfl⟩ | ⟨b, n, c, g, rfl, hm, _⟩
 ·have : m = 0 := by rcases Nat.eq_zero_or_pos m with h | h; exact h; have := Nat.mul_pos h hs; rw [← hn] at this; cases this
  subst this; exact hk
 ·have : n = m := Nat.eq_of_mul_eq_mul_right hs (by rw [← hm, hn])
  subst this; exact hk
theorem CellsIn.idx {s m j : Nat} {d : IntKind} {cs : List V} (hv : CellsIn S v s cs) (hs : 0 < s) (hn : cs.length = m * s) (hj : j < m) (hk : ∀ b, (∀ o : Nat, o < cs.length → S b o = cs[o]?) → Tri h0 ro F Q (k (.ptr b (j * s)))) : Tri h0 ro F Q (idxS s v (.int d (j : Nat)) k) := by
 rcases hv with ⟨rfl, rfl⟩ | ⟨b, n, c, g, rfl, hm, hS⟩
 ·have := Nat.mul_pos (Nat.lt_of_le_of_lt (Nat.zero_le _) hj) hs
  rw [← hn] at this; cases this
 ·have : n = m := Nat.eq_of_mul_eq_mul_right hs (by rw [← hm, hn])
  subst this
  refine Tri.idx (by omega) (by omega) ?_
  rw [Int.toNat_natCast, Nat.zero_add]; exact hk b hS
theorem es_at (l : List Ex) (j : Nat) (hj : j < l.length) (o : Nat) (ho : o < 3) : (l.flatMap Ex.cs)[j * 3 + o]? = (Ex.cs l[j])[o]? := by
 induction l generalizing j with
 | nil => simp at hj
 | cons a l ih =>
  cases j with
  | zero => rw [List.flatMap_cons, List.getElem?_append_left (by simp [Ex.cs]; omega)]; simp
  | succ j =>
   rw [List.flatMap_cons, List.getElem?_append_right (by simp [Ex.cs]; omega), show (j + 1) * 3 + o - (Ex.cs a).length = j * 3 + o by simp [Ex.cs]; omega]
   exact ih j (by simpa using hj)
abbrev prr (fb : Nat) (f : Fn) : Asn := row fb [.int .i64 f.pa, .bool f.more, .int .i64 f.sl, f.boV, f.upV, f.stV, f.exV, .int .i64 f.st]
abbrev pgr (pb : Nat) (sV pV : V) : Asn := row pb [sV, pV]
structure FnR (S : Mem) (nst nfn : Nat) (f : Fn) : Prop where
 fz : FnFz S f
 inn : FnIn S nst nfn f
 dn : FnDone f
 pa : f.pa ≤ f.sl
 ss : f.ss.length ≤ 100000
 es : f.es.length ≤ 100000
theorem k7 {fb : Nat} {nst nfn : Nat} (R : FnR S nst nfn f) (r : Nat) : ∀ {j : Nat} {h : Hp} {l : List Asn} (hj : j ≤ f.es.length) (hr : f.es.length - j ≤ r) (H : St (frz S :: prr fb f :: l) h), Tri h false l (PYes S) (M 7 [.ptr fb 0, .int .i64 (j : Nat)] h) := by
 have hes := R.es
 induction r with
 | zero =>
  intro j h l hj hr H
  unfold prr at H
  refine t2 e7 fun L => ?_
  unfold B7
  apply Tri.addr
  refine Tri.load 1 H rfl rfl ?_
  apply bL
  refine R.fz.ex.len (by decide) (es_len _) ?_
  apply Tri.bs
  refine Tri.lss (fun e => by omega) (fun e => ?_)
  apply Tri.iff
  exact Tri.done (B := [frz S]) ⟨rfl, rfl⟩ H.x1 L
 | succ r ih =>
  intro j h l hj hr H
  by_cases hlt : j < f.es.length
  ·have hE := R.inn.es j _ (List.getElem?_eq_getElem hlt)
   unfold prr at H
   refine t2 e7 fun L => ?_
   unfold B7
   apply Tri.addr
   refine Tri.load 1 H rfl rfl ?_
   apply bL
   refine R.fz.ex.len (by decide) (es_len _) ?_
   apply Tri.bs
   refine Tri.lss (fun e => ?_) (fun e => by omega)
   apply Tri.ift
   apply Tri.addr
   refine Tri.load 1 H rfl rfl ?_
   refine R.fz.ex.idx (by decide) (es_len _) hlt fun b hb => ?_
   apply Tri.addr
   refine Tri.loadF 0 H rfl (v := (f.es[j]).ksV) (by rw [hb _ (by rw [es_len]; omega), es_at _ _ hlt 2 (by decide)]; rfl) ?_
   refine tb (within_ok hE.1 hE.2.1 H) L fun v h B hq H L => ?_
   obtain ⟨rfl, rfl⟩ := hq
   apply Tri.not
   apply Tri.iff
   refine Tri.addN (by omega) (by omega) ?_
   refine te (ih (j := j + 1) (by omega) (by omega) H) L
  ·exact ih hj (by omega) H
abbrev exr (eb : Nat) (e : Ex) : Asn := row eb [.int .u8 e.kd, .int .i64 e.n, e.ksV]
theorem k5 {fb pb nst nfn : Nat} {sV pV : V} {cs1 cs2 : List V} (R : FnR S nst nfn f) (hs : CellsIn S sV 1 cs1) (hs1 : cs1.length = nst * 1) (hp : CellsIn S pV 8 cs2) (hp1 : cs2.length = nfn * 8) (r : Nat) : ∀ {j : Nat} {h : Hp} {l : List Asn} (hj : j ≤ f.es.length) (hr : f.es.length - j ≤ r) (H : St (frz S :: pgr pb sV pV :: prr fb f :: l) h), Tri h false l (PYes S) (M 5 [.ptr pb 0, .ptr fb 0, .int .i64 (j : Nat)] h) := by
 have hes := R.es
 have stop : ∀ {j : Nat} {h : Hp} {l : List Asn} (hj : f.es.length ≤ j) (H : St (frz S :: pgr pb sV pV :: prr fb f :: l) h), Tri h false l (PYes S) (M 5 [.ptr pb 0, .ptr fb 0, .int .i64 (j : Nat)] h) := by
  intro j h l hj H
  have k7' : Tri h false l (PYes S) (M 7 [.ptr fb 0, .int .i64 (0 : Nat)] h) := k7 R f.es.length (Nat.zero_le _) (by omega) H.x1
  unfold pgr prr at *
  refine t3 e5 fun L => ?_
  unfold B5
  apply Tri.addr
  refine Tri.load 2 H rfl rfl ?_
  apply bL
  refine R.fz.ex.len (by decide) (es_len _) ?_
  apply Tri.bs
  refine Tri.lss (fun e => by omega) (fun e => ?_)
  apply Tri.iff
  exact Tri.tail k7' L (fun e => e) fun v h B hq H L => ⟨B, hq, H⟩
 induction r with
 | zero =>
  intro j h l hj hr H
  exact stop (by omega) H
 | succ r ih =>
  intro j h l hj hr H
  by_cases hlt : j < f.es.length
  ·have hE := R.inn.es j _ (List.getElem?_eq_getElem hlt)
   obtain ⟨e, he⟩ : ∃ e, e = f.es[j] := ⟨_, rfl⟩
   have hN := hE.2.2
   have hone : oneCell e.ksV = true := by rw [he]; rcases hE.1 with ⟨h, _⟩ | ⟨b, c, g, h, _⟩ <;> rw [h] <;> rfl
   rw [← he] at hN
   have k9 : ∀ {h : Hp} {eb : Nat}, St (frz S :: pgr pb sV pV :: prr fb f :: exr eb e :: l) h → Tri h false l (PYes S) (M 9 [.ptr pb 0, .ptr fb 0, .int .i64 (j : Nat)] h) := by
    intro h eb H
    have := ih (j := j + 1) (l := l) (by omega) (by omega) H.x3
    refine t3 e9 fun L => ?_
    unfold B9
    refine Tri.addN (by omega) (by omega) ?_
    exact this
   have k11 : ∀ {h : Hp} {eb : Nat} {m : Int}, 0 ≤ e.n → e.n < m → St (frz S :: pgr pb sV pV :: prr fb f :: exr eb e :: l) h → Tri h false l (PYes S) (M 11 [.ptr pb 0, .ptr fb 0, .int .i64 (j : Nat), .ptr eb 0, .int .i64 m] h) := by
    intro h eb m h1 h2 H
    have := k9 H
    unfold pgr prr exr at *
    refine t5 e11 fun L => ?_
    unfold B11
    apply Tri.addr
    refine Tri.load 3 H rfl rfl ?_
    refine Tri.lss (fun e => by omega) (fun e => ?_)
    apply gff
    apply bA
    apply Tri.addr
    apply bW
    refine Tri.load 3 H rfl rfl ?_
    apply bI
    refine Tri.geq (fun e => by omega) (fun e => ?_)
    apply Tri.bs
    apply pF
    apply Tri.iff
    exact Tri.tail this L (fun e => e) fun v h B hq H L => ⟨B, hq, H⟩
   have k13 : ∀ {h : Hp} {eb : Nat} {b : Bool}, (b = true → e.kd = 5 ∨ e.kd = 10 ∨ e.kd = 13) → St (frz S :: pgr pb sV pV :: prr fb f :: exr eb e :: l) h → Tri h false l (PYes S) (M 13 [.ptr pb 0, .ptr fb 0, .int .i64 (j : Nat), .ptr eb 0, .int .u8 e.kd, .bool b] h) := by
    intro h eb b hb H
    have k9' := k9 H
    have k11' : ∀ {m : Int}, 0 ≤ e.n → e.n < m → _ := fun {m} h1 h2 => k11 (m := m) h1 h2 H
    unfold pgr prr exr at *
    refine t6 e13 fun L => ?_
    unfold B13
    cases b
    ·apply Tri.iff
     refine Tri.eql (fun k7 => ?_) (fun k7 => ?_)
     ·apply Tri.ift
      apply Tri.addr
      refine Tri.load 1 H rfl rfl ?_
      apply bL
      refine hp.len (by decide) hp1 ?_
      apply Tri.bs
      have := hN.2.1 k7
      exact te (k11' this.1 this.2) L
     apply Tri.iff
     refine Tri.eql (fun k8 => ?_) (fun k8 => ?_)
     ·apply Tri.ift
      apply Tri.addr
      refine Tri.load 2 H rfl rfl ?_
      have := hN.2.2.1 k8
      exact te (k11' this.1 this.2) L
     apply Tri.iff
     refine Tri.eql (fun k9 => ?_) (fun k9 => ?_)
     ·apply Tri.ift
      apply Tri.addr
      refine Tri.load 2 H rfl rfl ?_
      apply bL
      refine R.fz.up.len (by decide) (up_len _) ?_
      apply Tri.bs
      have := hN.2.2.2 k9
      exact te (k11' this.1 this.2) L
     apply Tri.iff
     exact Tri.tail k9' L (fun e => e) fun v h B hq H L => ⟨B, hq, H⟩
    ·apply Tri.ift
     apply Tri.addr
     refine Tri.load 1 H rfl rfl ?_
     apply bL
     refine hs.len (by decide) hs1 ?_
     apply Tri.bs
     have := hN.1 (hb rfl)
     exact te (k11' this.1 this.2) L
   unfold pgr prr exr at *
   refine t3 e5 fun L => ?_
   unfold B5
   apply Tri.addr
   refine Tri.load 2 H rfl rfl ?_
   apply bL
   refine R.fz.ex.len (by decide) (es_len _) ?_
   apply Tri.bs
   refine Tri.lss (fun ez => ?_) (fun ez => by omega)
   apply Tri.ift
   apply Tri.addr
   refine Tri.load 2 H rfl rfl ?_
   refine R.fz.ex.idx (by decide) (es_len _) hlt fun b hb => ?_
   refine Tri.loadsF 0 (s := 3) (L := [.int .u8 e.kd, .int .i64 e.n, e.ksV]) (by decide) H rfl rfl (fun x hx => ?_) ?_
   ·rw [hb _ (by rw [es_len]; omega), es_at _ _ hlt x hx, ← he]; rfl
   have hall : allOne [.int .u8 e.kd, .int .i64 e.n, e.ksV] = true := by show (true && (true && (oneCell _ && true))) = true; rw [hone]; rfl
   refine Tri.newS H L fun b40 h hb40 H L => ?_
   replace H := H.d1
   refine Tri.stores 1 (by decide) H rfl rfl (Nat.le_of_ble_eq_true rfl) L (fun e => nomatch e) (by first | rfl | assumption) fun h H L => ?_
   apply Tri.addr
   refine Tri.load 1 H rfl rfl ?_
   have k13' : ∀ {h : Hp} {eb : Nat} {b : Bool}, (b = true → e.kd = 5 ∨ e.kd = 10 ∨ e.kd = 13) → St (frz S :: exr eb e :: pgr pb sV pV :: prr fb f :: l) h → Tri h false l (PYes S) (M 13 [.ptr pb 0, .ptr fb 0, .int .i64 (j : Nat), .ptr eb 0, .int .u8 e.kd, .bool b] h) := fun {h eb b} hb H => k13 hb ((H.out 1).ins 3)
   unfold pgr prr exr at k13'
   refine Tri.eql (fun k5 => ?_) (fun k5 => ?_)
   ·apply Tri.ift
    exact te (k13' (fun _ => .inl k5) H) L
   apply Tri.iff
   refine Tri.eql (fun k10 => ?_) (fun k10 => ?_)
   ·apply Tri.ift
    exact te (k13' (fun _ => .inr (.inl k10)) H) L
   apply Tri.iff
   refine Tri.eql (fun k13 => ?_) (fun k13 => ?_)
   ·exact te (k13' (fun _ => .inr (.inr k13)) H) L
   ·exact te (k13' (fun e => nomatch e) H) L
  ·exact stop (by omega) H
theorem k3 {fb pb nst nfn : Nat} {sV pV : V} {cs1 cs2 : List V} (R : FnR S nst nfn f) (hs : CellsIn S sV 1 cs1) (hs1 : cs1.length = nst * 1) (hp : CellsIn S pV 8 cs2) (hp1 : cs2.length = nfn * 8) (r : Nat) : ∀ {j : Nat} {h : Hp} {l : List Asn} (hj : j ≤ f.ss.length) (hr : f.ss.length - j ≤ r) (H : St (frz S :: pgr pb sV pV :: prr fb f :: l) h), Tri h false l (PYes S) (M 3 [.ptr pb 0, .ptr fb 0, .int .i64 (f.ss.length : Nat), .int .i64 (j : Nat)] h) := by
 have hss := R.ss
 have hes := R.es
 induction r with
 | zero =>
  intro j h l hj hr H
  have k5' : Tri h false l (PYes S) (M 5 [.ptr pb 0, .ptr fb 0, .int .i64 (0 : Nat)] h) := k5 R hs hs1 hp hp1 f.es.length (Nat.zero_le _) (by omega) H
  unfold pgr prr at *
  refine t4 e3 fun L => ?_
  unfold B3
  refine Tri.lss (fun e => by omega) (fun e => ?_)
  apply Tri.iff
  exact Tri.tail k5' L (fun e => e) fun v h B hq H L => ⟨B, hq, H⟩
 | succ r ih =>
  intro j h l hj hr H
  by_cases hlt : j < f.ss.length
  ·have hM := List.getElem_mem hlt
   have hS := R.inn.ss _ hM
   have hD := R.dn.ss _ hM
   obtain ⟨s, he⟩ : ∃ s, s = f.ss[j] := ⟨_, rfl⟩
   have next : ∀ {h : Hp} {l : List Asn}, St (frz S :: pgr pb sV pV :: prr fb f :: l) h → Tri h false l (PYes S) (M 3 [.ptr pb 0, .ptr fb 0, .int .i64 (f.ss.length : Nat), .int .i64 ((j : Int) + 1)] h) := fun {h l} H => ih (j := j + 1) (by omega) (by omega) H
   rw [← he] at hS hD
   have hone : ∀ {v : V} {l : List Int}, Ints S v l → oneCell v = true := fun {v l} h => by rcases h with ⟨rfl, _⟩ | ⟨b, c, g, rfl, _⟩ <;> rfl
   have o1 := hone hS.vs
   have o2 := hone hS.vt
   have o3 := hone hS.ve
   have hln := hS.ln
   have hnx := hS.nx
   have hel := hS.el
   have hall : allOne [.int .u8 s.kd, s.slV, s.tgV, s.exV, .int .i64 s.nx, .int .i64 s.el, .int .i64 s.ln] = true := by show (true && (oneCell _ && (oneCell _ && (oneCell _ && (true && (true && (true && true))))))) = true; rw [o1, o2, o3]; rfl
   unfold pgr prr at *
   refine t4 e3 fun L => ?_
   unfold B3
   refine Tri.lss (fun e => ?_) (fun e => by omega)
   apply Tri.ift
   apply Tri.addr
   refine Tri.load 2 H rfl rfl ?_
   refine R.fz.st.idx (by decide) (ss_len _) hlt fun b hb => ?_
   refine Tri.loadsF 0 (s := 7) (L := [.int .u8 s.kd, s.slV, s.tgV, s.exV, .int .i64 s.nx, .int .i64 s.el, .int .i64 s.ln]) (by decide) H rfl rfl (fun x hx => ?_) ?_
   ·rw [hb _ (by rw [ss_len]; omega), ss_at _ _ hlt x hx, ← he]; rfl
   refine Tri.newS H L fun b20 h hb20 H L => ?_
   replace H := H.d1
   refine Tri.stores 1 (by decide) H rfl rfl (Nat.le_of_ble_eq_true rfl) L (fun e => nomatch e) (by first | rfl | assumption) fun h H L => ?_
   apply Tri.addr
   refine Tri.load 1 H rfl rfl ?_
   refine Tri.lss (fun e => by omega) (fun e => ?_)
   apply gff
   apply bA
   apply Tri.addr
   apply bW
   refine Tri.load 1 H rfl rfl ?_
   apply bI
   refine Tri.geq (fun e => by omega) (fun e => ?_)
   apply Tri.bs
   apply pF
   apply gff
   apply bA
   apply Tri.addr
   apply bW
   refine Tri.load 1 H rfl rfl ?_
   apply bI
   refine Tri.lss (fun e => by omega) (fun e => ?_)
   apply Tri.bs
   apply pF
   apply gff
   apply bA
   apply Tri.addr
   apply bW
   refine Tri.load 1 H rfl rfl ?_
   apply bI
   refine Tri.geq (fun e => by omega) (fun e => ?_)
   apply Tri.bs
   apply pF
   apply gff
   apply bA
   apply Tri.addr
   apply bW
   refine Tri.load 1 H rfl rfl ?_
   apply bA
   apply Tri.addr
   apply bW
   refine Tri.load 3 H rfl rfl ?_
   apply bB
   refine tb (within_ok hS.vs hS.is H) L fun v h B hq H L => ?_
   obtain ⟨rfl, rfl⟩ := hq
   refine Tri.eqv (bind_notS _ _) ?_
   apply Tri.not
   apply Tri.bs
   apply pF
   apply gff
   apply bA
   apply Tri.addr
   apply bW
   refine Tri.load 1 H rfl rfl ?_
   apply bA
   apply Tri.addr
   apply bW
   refine Tri.load 3 H rfl rfl ?_
   apply bB
   apply bL
   refine R.fz.ex.len (by decide) (es_len _) ?_
   apply Tri.bs
   apply bB
   refine tb (within_ok hS.ve hS.ie H) L fun v h B hq H L => ?_
   obtain ⟨rfl, rfl⟩ := hq
   refine Tri.eqv (bind_notS _ _) ?_
   apply Tri.not
   apply Tri.bs
   apply pF
   apply gff
   apply bA
   apply Tri.addr
   apply bW
   refine Tri.load 1 H rfl rfl ?_
   apply bA
   apply Tri.addr
   apply bW
   refine Tri.load 3 H rfl rfl ?_
   apply bB
   apply bL
   refine R.fz.ex.len (by decide) (es_len _) ?_
   apply Tri.bs
   apply bB
   refine tb (within_ok hS.vt hS.it H) L fun v h B hq H L => ?_
   obtain ⟨rfl, rfl⟩ := hq
   refine Tri.eqv (bind_notS _ _) ?_
   apply Tri.not
   apply Tri.bs
   apply pF
   apply gff
   apply bA
   apply Tri.addr
   apply bW
   refine Tri.load 1 H rfl rfl ?_
   apply bI
   refine Tri.lss (fun e => by omega) (fun e => ?_)
   apply Tri.bs
   apply pF
   apply Tri.iff
   refine Tri.addN (by omega) (by omega) ?_
   exact te (next H.x1) L
  ·obtain rfl : j = f.ss.length := by omega
   exact ih hj (by omega) H
theorem placed_ok {nst nfn : Nat} {sV pV : V} {cs1 cs2 : List V} (R : FnR S nst nfn f) (hs : CellsIn S sV 1 cs1) (hs1 : cs1.length = nst * 1) (hp : CellsIn S pV 8 cs2) (hp1 : cs2.length = nfn * 8) (H : St (frz S :: l) h) :
 Tri h false l (PYes S) (M 14 [.agg [sV, pV], .agg [.int .i64 f.pa, .bool f.more, .int .i64 f.sl, f.boV, f.upV, f.stV, f.exV, .int .i64 f.st]] h) := by
 have hbo := R.inn.bo
 have hpa := R.pa
 have hss := R.ss
 have next : ∀ {pb fb : Nat} {h : Hp}, St (frz S :: prr fb f :: pgr pb sV pV :: l) h → Tri h false l (PYes S) (M 3 [.ptr pb 0, .ptr fb 0, .int .i64 (f.ss.length : Nat), .int .i64 0] h) := fun {pb fb h} H => k3 R hs hs1 hp hp1 f.ss.length (j := 0) (Nat.zero_le _) (by omega) ((H.out 1).ins 2)
 unfold pgr prr at next
 refine t2 e14 fun L => ?_
 unfold B14
 refine Tri.newS H L fun b10 h hb10 H L => ?_
 replace H := H.d1
 refine Tri.newS H L fun b11 h hb11 H L => ?_
 replace H := H.d1
 apply Tri.addr
 refine Tri.load 1 H rfl rfl ?_
 apply bL
 refine R.fz.st.len (by decide) (ss_len _) ?_
 apply Tri.bs
 apply Tri.addr
 refine Tri.load 1 H rfl rfl ?_
 apply bL
 refine R.fz.bo.len (m := f.bo.length) (by decide) (by simp) ?_
 apply Tri.bs
 apply Tri.addr
 refine Tri.load 1 H rfl rfl ?_
 refine Tri.neq (fun e => absurd hbo e) (fun e => ?_)
 apply gff
 apply bA
 apply Tri.addr
 apply bW
 refine Tri.load 1 H rfl rfl ?_
 apply bA
 apply Tri.addr
 apply bW
 refine Tri.load 1 H rfl rfl ?_
 apply bI
 refine Tri.gtr (fun e => by omega) (fun e => ?_)
 apply Tri.bs
 apply pF
 apply gff
 apply bA
 apply Tri.addr
 apply bW
 refine Tri.load 1 H rfl rfl ?_
 apply bI
 refine Tri.neq (fun e => ?_) (fun e => ?_)
 ·have h1 : f.st = -1 ∧ f.ss = [] := R.dn.st.resolve_left fun h => e h
  apply Tri.bs
  apply gtt
  apply bA
  apply Tri.addr
  apply bW
  refine Tri.load 1 H rfl rfl ?_
  apply bI
  refine Tri.neq (fun e => absurd h1.1 e) (fun e => ?_)
  apply Tri.bs
  apply gff
  apply bI
  refine Tri.neq (fun e => absurd (by rw [h1.2]; rfl) e) (fun e => ?_)
  apply Tri.bs
  apply gtt
  apply bO
  apply pF
  apply Tri.bs
  apply gff
  apply bO
  apply pT
  apply Tri.bs
  apply pF
  apply Tri.iff
  exact te (next H) L
 ·apply Tri.bs
  apply gft
  refine Tri.eqv (guard_u _ _ _ _) ?_
  apply gft
  apply gff
  apply bO
  apply pF
  apply Tri.bs
  apply pF
  apply Tri.iff
  exact te (next H) L
theorem awake_ok (h : Hp) : M 10 [] h = some (.bool true, h) := by
 refine (@lim_F Tryz.prog (orc fnA Inv) labs 5 _ _ _).2 ⟨0, ?_⟩
 rfl
abbrev PT : V → List Asn → Prop := fun v B => v = .bool true ∧ ∃ S, B = [frz S]
theorem pr_at (fs : List Fn) (j : Nat) (hj : j < fs.length) (o : Nat) (ho : o < 8) : (prc fs)[j * 8 + o]? = (fs[j].row.take 8)[o]? := by
 unfold prc
 induction fs generalizing j with
 | nil => simp at hj
 | cons a l ih =>
  have hl : (a.row.take 8).length = 8 := rfl
  cases j with
  | zero => rw [List.flatMap_cons, List.getElem?_append_left (by rw [hl]; omega)]; simp
  | succ j =>
   rw [List.flatMap_cons, List.getElem?_append_right (by rw [hl]; omega), show (j + 1) * 8 + o - (a.row.take 8).length = j * 8 + o by rw [hl]; omega]
   exact ih j (by simpa using hj)
theorem k1 {pb : Nat} {sV pV : V} (R : Ready S sV pV X) (r : Nat) : ∀ {j : Nat} {h : Hp} {l : List Asn} (hj : j ≤ X.fns.length) (hr : X.fns.length - j ≤ r) (H : St (frz S :: pgr pb sV pV :: l) h), Tri h false l PT (M 1 [.ptr pb 0, .int .i64 (j : Nat)] h) := by
 have htop := R.top
 have hpr : CellsIn S pV 8 (prc X.fns) := R.pr
 have o1 := R.st.one
 have o2 := R.pr.one
 have hall : allOne [sV, pV] = true := by show (oneCell _ && (oneCell _ && true)) = true; rw [o1, o2]; rfl
 induction r with
 | zero =>
  intro j h l hj hr H
  unfold pgr at H
  refine t2 e1 fun L => ?_
  unfold B1
  apply Tri.addr
  refine Tri.load 1 H rfl rfl ?_
  apply bL
  refine hpr.len (by decide) (prc_len _) ?_
  apply Tri.bs
  refine Tri.lss (fun e => by omega) (fun e => ?_)
  apply Tri.iff
  rw [awake_ok]
  exact Tri.done (B := [frz S]) ⟨rfl, S, rfl⟩ H.x1 L
 | succ r ih =>
  intro j h l hj hr H
  by_cases hlt : j < X.fns.length
  ·have hM := List.getElem_mem hlt
   have hok := R.ok _ hM
   have RF : FnR S X.strs.length X.fns.length X.fns[j] := ⟨R.fz _ hM, hok.1, hok.2.1, hok.2.2.1, hok.2.2.2.1, hok.2.2.2.2⟩
   have next : ∀ {h : Hp}, St (frz S :: pgr pb sV pV :: l) h → Tri h false l PT (M 1 [.ptr pb 0, .int .i64 ((j : Int) + 1)] h) := fun {h} H => ih (j := j + 1) (by omega) (by omega) H
   unfold pgr at H next
   refine t2 e1 fun L => ?_
   unfold B1
   apply Tri.addr
   refine Tri.load 1 H rfl rfl ?_
   apply bL
   refine hpr.len (by decide) (prc_len _) ?_
   apply Tri.bs
   refine Tri.lss (fun e => ?_) (fun e => by omega)
   apply Tri.ift
   refine ls 1 H rfl rfl ?_
   apply Tri.addr
   refine Tri.load 1 H rfl rfl ?_
   refine hpr.idx (by decide) (prc_len _) hlt fun b hb => ?_
   refine Tri.loadsF 0 (s := 8) (L := (X.fns[j]).row.take 8) (by decide) H rfl rfl (fun x hx => ?_) ?_
   ·rw [hb _ (by rw [prc_len]; omega), pr_at _ _ hlt x hx]
   refine tb (placed_ok RF R.st (by simp) hpr (prc_len _) H) L fun v h B hq H L => ?_
   obtain ⟨rfl, rfl⟩ := hq
   apply Tri.not
   apply Tri.iff
   refine Tri.addN (by omega) (by omega) ?_
   exact te (next H) L
  ·obtain rfl : j = X.fns.length := by omega
   exact ih hj (by omega) H
theorem law_ok {root : Int} (hn : NdsIn S nv nds) (H : St (frz S :: l) h) : Tri h false l (fun v _ => v = .bool true) (M 6 [.agg [nv, .int .i64 root]] h) := by
 have hone := hn.one
 refine t1 e6 fun L => ?_
 unfold B6
 refine Tri.newS H L fun b10 h hb10 H L => ?_
 replace H := H.d1
 apply Tri.addr
 refine Tri.load 1 H rfl rfl ?_
 apply bL
 refine FSl.len (by assumption) ?_
 apply Tri.bs
 refine Tri.gtr (fun e => ?_) (fun e => ?_)
 ·apply Tri.ift
  rw [awake_ok]
  exact Tri.done (B := [frz S]) rfl H.x1 L
 apply Tri.iff
 refine ls 1 H rfl rfl ?_
 refine tb (resolve_ok hn H) L fun v h B hq H L => ?_
 obtain ⟨S1, sV, pV, fe, fl, rfl, rfl, hq⟩ := hq
 rcases hq with ⟨hfe, rfl, rfl⟩ | ⟨rfl, rfl, X, R⟩
 ·refine Tri.ext rfl ?_
  refine Tri.ext rfl ?_
  refine Tri.newS H L fun b32 h hb32 H L => ?_
  replace H := H.d1
  refine Tri.newS H L fun b33 h hb33 H L => ?_
  replace H := H.d1
  refine Tri.stores 2 (by decide) H rfl rfl (Nat.le_of_ble_eq_true rfl) L (fun e => nomatch e) (by first | rfl | assumption) fun h H L => ?_
  refine Tri.stores 1 (by decide) H rfl rfl (Nat.le_of_ble_eq_true rfl) L (fun e => nomatch e) (by first | rfl | assumption) fun h H L => ?_
  refine ls 1 H rfl rfl ?_
  refine Tri.bldS rfl ?_
  refine Tri.cmp2n fun c hc => ?_
  cases c
  ·exact (hfe (hc.1 rfl).1).elim
  apply Tri.ift
  apply Tri.addr
  refine Tri.load 2 H rfl rfl ?_
  apply bL
  refine Tri.lenNil ?_
  apply Tri.bs
  refine Tri.eql (fun _ => ?_) (fun e => absurd e (by decide))
  apply gtt
  apply bA
  apply Tri.addr
  apply bW
  refine Tri.load 2 H rfl rfl ?_
  apply bB
  apply bL
  refine Tri.lenNil ?_
  apply Tri.bs
  apply bI
  refine Tri.eql (fun _ => ?_) (fun e => absurd e (by decide))
  apply Tri.bs
  apply pT
  apply gtt
  apply bA
  apply Tri.addr
  apply bW
  refine Tri.load 1 H rfl rfl ?_
  apply bI
  refine Tri.neq (fun _ => ?_) (fun e => absurd e hfe)
  apply Tri.bs
  apply pT
  apply gtt
  apply bB
  rw [awake_ok]
  exact Tri.done (B := [frz S1]) rfl H.x1.x1.x1 L
 ·have o1 := R.st.one
  have o2 := R.pr.one
  have hpos := R.pos
  have hall : allOne [sV, pV] = true := by show (oneCell _ && (oneCell _ && true)) = true; rw [o1, o2]; rfl
  refine Tri.ext rfl ?_
  refine Tri.ext rfl ?_
  refine Tri.newS H L fun b32 h hb32 H L => ?_
  replace H := H.d1
  refine Tri.newS H L fun b33 h hb33 H L => ?_
  replace H := H.d1
  refine Tri.stores 2 (by decide) H rfl rfl (Nat.le_of_ble_eq_true rfl) L (fun e => nomatch e) (by first | rfl | assumption) fun h H L => ?_
  refine Tri.stores 1 (by decide) H rfl rfl (Nat.le_of_ble_eq_true rfl) L (fun e => nomatch e) (by first | rfl | assumption) fun h H L => ?_
  refine ls 1 H rfl rfl ?_
  refine Tri.bldS rfl ?_
  refine Tri.cmp2n fun c hc => ?_
  cases c
  ·apply Tri.iff
   apply Tri.addr
   refine Tri.load 2 H rfl rfl ?_
   apply bL
   refine R.pr.len (m := X.fns.length) (by decide) (prc_len _) ?_
   apply Tri.bs
   refine Tri.eql (fun e => by omega) (fun e => ?_)
   apply Tri.iff
   exact Tri.tail (k1 R X.fns.length (j := 0) (Nat.zero_le _) (by omega) (H.out 2 |> fun H => H.ins 1)) L (fun e => e) fun v h B hq H L => by
    obtain ⟨rfl, S2, rfl⟩ := hq
    exact ⟨[frz S2], rfl, H.x1.x1⟩
  ·exact absurd (hc.2 ⟨rfl, rfl⟩) (by decide)
end
end Go.FP
end
