/- A part of the proof. -/
import Derived.Test.YthbcbfgpfpogkaaGreatPFL6
set_option linter.all false
set_option warn.classDefReducibility false
noncomputable section
section
open Go Go.Mid Go.Proofs
set_option maxRecDepth 100000
namespace Go.FP
section
variable {S S' S'' : Mem} {l F : List Asn} {h h0 : Hp} {ro : Bool} {Q : V → List Asn → Prop} {k : V → VH} {K : V → Hp → VH} {nds : List Nd} {n : Nd} {v nv : V} {X X' X'' : MS} {f f' : Fn} {i : Nat} {w : Nat → Nat} {b b' : Bk} {c c' : Cl} {wi : Wi}
theorem freezeP {A : Asn} {b : Nat} {P : Nat → Option V} (H : St (A :: frz S :: l) h) (hA : ∀ g, A g → ∃ ob t, g b = some ob ∧ cellsT (some ob) = some t ∧ ∀ o v, P o = some v → t.get o = some v) : ∃ S', Le S S' ∧ (∀ o v, P o = some v → S' b o = some v) ∧ St (frz S' :: l) h := by
 obtain ⟨f, k, a1, a2, a3, a4, f2, k2, b1, b2, b3, b4, b5⟩ := H.sat
 obtain ⟨ob, t, h2, ht, h3⟩ := hA f a4
 have hS : ∀ o v, S b o = some v → False := fun o v hS => by
  obtain ⟨t', h4, h5⟩ := b4 b o v hS
  cases hb : f2 b with
  | none => rw [hb] at h4; cases h4
  | some ob => exact (a1 b).elim (by rw [h2]; exact fun h => nomatch h) (by rw [b2 b _ hb]; exact fun h => nomatch h)
 refine ⟨fun b' o => if b' = b then P o else S b' o, fun b' o v hv => ?_, fun o v hv => (if_pos rfl).trans hv, H.wf, un f f2, k2, fun x => ?_, fun x y hx => ?_, b3.trans a3, fun b' o v hv => ?_, b5⟩
 ·show (if b' = b then P o else S b' o) = some v
  by_cases e : b' = b
  ·subst e; exact (hS o v hv).elim
  ·rw [if_neg e]; exact hv
 ·cases h1 : k2 x with
  | none => exact .inr rfl
  | some y =>
   left
   have e1 : f2 x = none := (b1 x).resolve_right (by rw [h1]; exact fun h => nomatch h)
   have e2 : f x = none := (a1 x).resolve_right (by rw [b3 x y h1]; exact fun h => nomatch h)
   unfold un; rw [e2]; exact e1
 ·unfold un at hx
  split at hx
  ·rename_i o' ho; cases hx; exact a2 x _ ho
  ·exact a3 x y (b2 x y hx)
 ·simp only at hv
  by_cases e : b' = b
  ·subst e
   rw [if_pos rfl] at hv
   exact ⟨t, by unfold un; rw [h2]; exact ht, h3 o v hv⟩
  ·rw [if_neg e] at hv
   obtain ⟨t', h4, h5⟩ := b4 b' o v hv
   refine ⟨t', ?_, h5⟩
   cases hb : f2 b' with
   | none => rw [hb] at h4; cases h4
   | some ob =>
    have : f b' = none := (a1 b').resolve_right (by rw [b2 b' _ hb]; exact fun h => nomatch h)
    unfold un; rw [this, ← h4]
theorem freezeV {gr : Bool} {v : V} {e s : Nat} {cs : List V} (H : St (vc gr v e s cs :: frz S :: l) h) : ∃ S', Le S S' ∧ St (frz S' :: l) h ∧ ((v = .nilSlice ∧ cs = []) ∨ ∃ b n c g, v = .slice b 0 n c g ∧ cs.length = n * s ∧ ∀ o : Nat, o < cs.length → S' b o = cs[o]?) := by
 rcases H.vc_shape (i := 0) rfl with ⟨rfl, rfl⟩ | ⟨b, n, c, g, rfl, hn, _⟩
 ·exact ⟨S, Le.refl S, H.tl, .inl ⟨rfl, rfl⟩⟩
 ·obtain ⟨S', h1, h2, h3⟩ := freezeP (b := b) (P := fun o => cs[o]?) H fun g hg => by
   cases hg with
   | grown b n m t a1 a2 a3 a4 => exact ⟨_, t, a1, rfl, fun o v hv => by rw [a4 o (List.getElem?_eq_some_iff.1 hv).1]; exact hv⟩
   | full b n c t a0 a1 a2 a5 a3 => exact ⟨_, t, a1, rfl, fun o v hv => by rw [a3 o (List.getElem?_eq_some_iff.1 hv).1]; exact hv⟩
  exact ⟨S', h1, h3, .inr ⟨b, n, c, g, rfl, hn, fun o ho => by
   have := List.getElem?_eq_getElem ho
   rw [this]; exact h2 o _ this⟩⟩
theorem freezeI {gr : Bool} {v : V} {e : Nat} {ks : List Int} (H : St (vc gr v e 1 (ks.map (V.int .i64)) :: frz S :: l) h) (hl : ks.length ≤ 1000000 := by simp) : ∃ S', Le S S' ∧ St (frz S' :: l) h ∧ Ints S' v ks := by
 obtain ⟨S', h1, h2, h3⟩ := freezeV H
 refine ⟨S', h1, h2, ?_⟩
 rcases h3 with ⟨rfl, h3⟩ | ⟨b, n, c, g, rfl, h4, h5⟩
 ·exact .inl ⟨rfl, by simpa using h3⟩
 ·have : n = ks.length := by simp at h4; omega
  subst this
  exact .inr ⟨b, c, g, rfl, hl, fun o ho => h5 o (by simpa using ho)⟩
theorem FSl.mono {α : Type} {s : Nat} {P P' : Nat → Nat → α → Prop} {v : V} {L : List α} (hv : FSl s P v L) (hP : ∀ b o a, P b o a → P' b o a) : FSl s P' v L := by
 rcases hv with h | ⟨b, o, c, h1, h2, h3, h4⟩
 ·exact .inl h
 ·exact .inr ⟨b, o, c, h1, h2, h3, fun i hi => hP _ _ _ (h4 i hi)⟩
theorem NdIn.le (x : NdIn S n) (hS : Le S S') : NdIn S' n := ⟨FSl.mono x.ns fun b o a h => hS _ _ _ h, FSl.mono x.ks fun b o a h => hS _ _ _ h⟩
theorem NdAt.le {b o : Nat} (x : NdAt S b o n) (hS : Le S S') : NdAt S' b o n := ⟨hS _ _ _ x.c0, hS _ _ _ x.c1, hS _ _ _ x.c2, hS _ _ _ x.c3, hS _ _ _ x.c4, hS _ _ _ x.c5, x.inn.le hS⟩
theorem ndsIn_le (x : NdsIn S nv nds) (hS : Le S S') : NdsIn S' nv nds := FSl.mono x fun b o a h => h.le hS
structure GoodW (nds : List Nd) (w : Nat → Nat) : Prop where
 shape : ∀ (i : Nat) (n : Nd), nds[i]? = some n → Shape n
 kids : ∀ (i : Nat) (n : Nd), nds[i]? = some n → ∀ k ∈ n.ks, 0 ≤ k ∧ k < (nds.length : Int)
 sum : ∀ (i : Nat) (n : Nd), nds[i]? = some n → 1 + sumW w n.ks ≤ w i
def ESpec (nds : List Nd) (w : Nat → Nat) (k : Int) : Prop := ∀ {S : Mem} {X : MS} {p : Nat × Nat} {h : Hp} {l : List Asn}, Inv1 S X → (∃ fu, X.fu = fu ++ [p]) → NdsIn S X.nv nds → X.u + 8 * w k.toNat ≤ 100000 → St (frz S :: MK X :: l) h →
 Tri h false l (rX S X (8 * w k.toNat) fun _ X' v => ∃ e f, v = .int .i64 e ∧ X'.fns[p.1]? = some f ∧ 0 ≤ e ∧ e < (f.es.length : Int)) (M 252 [.ptr X.mb 0, .int .i64 k] h)
abbrev PEs (p : Nat × Nat) : Mem → MS → V → Prop := fun S' X' v => ∃ es f, Ints S' v es ∧ X'.fns[p.1]? = some f ∧ In f.es.length es
theorem loop79 {ks : List Int} (hE : ∀ k ∈ ks, ESpec nds w k) (r : Nat) : ∀ {S : Mem} {X : MS} {p : Nat × Nat} {h : Hp} {l : List Asn} {acc : List Int} {accV v : V} {j : Int} (I : Inv1 S X) (hp : ∃ fu, X.fu = fu ++ [p]) (hn : NdsIn S X.nv nds) (hv : FSl 1 (IntAt S) v ks)
 (hu : X.u + 8 * sumW w (ks.drop j.toNat) ≤ 100000) (hacc : ∀ f, X.fns[p.1]? = some f → In f.es.length acc) (hal : acc.length ≤ j.toNat ∧ j ≤ (ks.length : Int)) (hkl : ks.length ≤ 100000) (h1 : 0 ≤ j) (hr : (ks.length : Int) - j ≤ (r : Int)) (H : St (frz S :: MK X :: vc true accV 3 1 (acc.map (V.int .i64)) :: l) h),
 Tri h false l (rX S X (8 * sumW w (ks.drop j.toNat)) (PEs p)) (M 79 [.ptr X.mb 0, accV, v, .int .i64 (ks.length : Nat), .int .i64 j] h) := by
 induction r with
 | zero =>
  intro S X p h l acc accV v j I hp hn hv hu hacc hal hkl h1 hr H
  obtain ⟨f, T⟩ := I.top_ hp
  refine t5 e79 fun L => ?_
  unfold B79
  refine Tri.lss (fun e => by omega) (fun e => ?_)
  apply Tri.iff
  obtain ⟨S', g1, g2, g3⟩ := freezeI (l := MK X :: l) (H.out 2) (by omega)
  exact Tri.done (B := [frz S', MK X]) ⟨S', X, rfl, I.leS g1, Ext1.leS g1, by omega, acc, f, g3, T.at_, hacc f T.at_⟩ g2 L
 | succ r ih =>
  intro S X p h l acc accV v j I hp hn hv hu hacc hal hkl h1 hr H
  obtain ⟨f, T⟩ := I.top_ hp
  refine t5 e79 fun L => ?_
  unfold B79
  refine Tri.lss (fun e => ?_) (fun e => ?_)
  ·have hkj : ks[j.toNat]? = some (ks[j.toNat]'(by omega)) := List.getElem?_eq_getElem _
   have hdr : ks.drop j.toNat = ks[j.toNat]'(by omega) :: ks.drop (j.toNat + 1) := List.drop_eq_getElem_cons _
   have hsm : sumW w (ks.drop j.toNat) = w (ks[j.toNat]'(by omega)).toNat + sumW w (ks.drop (j.toNat + 1)) := by rw [hdr]; unfold sumW; rw [List.map_cons, List.sum_cons]
   have hmem : ks[j.toNat]'(by omega) ∈ ks := List.getElem_mem _
   have hsmall := hv.small
   apply Tri.ift
   refine FSl.idx (by assumption) (by omega) (by omega) fun b1 o1 hb1 => ?_
   have hc1 := hb1
   clear hc1
   refine Tri.loadF 0 H rfl (by assumption) ?_
   refine tb (hE _ hmem I hp hn (by omega) H) L fun v' h B hq H L => ?_
   obtain ⟨S1, X1, rfl, I1, E1, u1, x, f1, rfl, t1, x1, x2⟩ := hq
   rw [← E1.mb]
   refine Tri.bld (e := _) (s := _) H L rfl rfl fun b20 h hb20 H L => ?_
   replace H := H.d2
   refine Tri.app 3 acc.length 1 H rfl (H.newCells (i := 2) rfl rfl) (by decide) (by simp) rfl (by omega) (by omega) rfl L (Own.off _ _) fun v' h H L O o1 => ?_
   replace H := H.x2
   have e1 : acc.map (V.int .i64) ++ (V.int .i64 x :: [].append []) = (acc ++ [x]).map (V.int .i64) := by rw [List.map_append]; rfl
   replace H : St (_ :: _ :: vc true v' 3 1 (acc.map (V.int .i64) ++ (V.int .i64 x :: [].append [])) :: _) _ := H
   rw [e1] at H
   refine Tri.addN (by omega) (by omega) ?_
   have hj1 : (j + 1).toNat = j.toNat + 1 := by omega
   refine Tri.tail (ih (acc := acc ++ [x]) (j := j + 1) I1 (by rw [E1.fu]; exact hp) (by rw [E1.nv]; exact ndsIn_le hn E1.le) (FSl.mono hv fun b o a h => E1.le _ _ _ h) (by rw [hj1]; omega) (fun g hg => ?_) (by simp; omega) hkl (by omega) (by omega) H) L (fun e => e) fun v h B hq H L => ?_
   ·rw [t1] at hg; cases hg
    intro y hy
    rcases List.mem_append.1 hy with hy | hy
    ·obtain ⟨f2, g1, g2⟩ := E1.fns _ f T.at_
     rw [t1] at g1; cases g1
     have := hacc f T.at_ y hy
     have := g2.es; omega
    ·rw [List.mem_singleton] at hy; subst hy; exact ⟨x1, x2⟩
   ·obtain ⟨S2, X2, b1, I2, E2, u2, P2⟩ := hq
    rw [hj1] at u2
    exact ⟨B, ⟨S2, X2, b1, I2, E1.trans E2, by omega, P2⟩, H⟩
  ·apply Tri.iff
   obtain ⟨S', g1, g2, g3⟩ := freezeI (l := MK X :: l) (H.out 2) (by omega)
   exact Tri.done (B := [frz S', MK X]) ⟨S', X, rfl, I.leS g1, Ext1.leS g1, by omega, acc, f, g3, T.at_, hacc f T.at_⟩ g2 L
theorem exprs_ok {ks : List Int} {v : V} {p : Nat × Nat} (hE : ∀ k ∈ ks, ESpec nds w k) (I : Inv1 S X) (hp : ∃ fu, X.fu = fu ++ [p]) (hn : NdsIn S X.nv nds) (hv : FSl 1 (IntAt S) v ks) (hu : X.u + 8 * sumW w ks ≤ 100000) (hkl : ks.length ≤ 100000) (H : St (frz S :: MK X :: l) h) :
 Tri h false l (rX S X (8 * sumW w ks) (PEs p)) (M 182 [.ptr X.mb 0, v] h) := by
 refine t2 e182 fun L => ?_
 unfold B182
 apply bL
 refine FSl.len (by assumption) ?_
 apply Tri.bs
 have H2 : St (_ :: _ :: vc true .nilSlice 3 1 (([] : List Int).map (V.int .i64)) :: _) _ := (H.vc_new true 3 1).ins 2
 have := loop79 hE ks.length (acc := []) (j := 0) I hp hn hv (by simpa using hu) (fun f _ k hk => by cases hk) (by simp) hkl (by omega) (by omega) H2
 rw [show (0 : Int).toNat = 0 from rfl, List.drop_zero] at this
 exact Tri.tail this L (fun e => e) fun v h B hq H L => ⟨B, hq, H⟩
def FSpec (nds : List Nd) (w : Nat → Nat) (n : Nd) : Prop := ∀ {S : Mem} {X : MS} {h : Hp} {l : List Asn}, Inv1 S X → NdsIn S X.nv nds → NdIn S n → X.u + 8 * sumW w n.ks + 3 ≤ 100000 → St (frz S :: MK X :: l) h →
 Tri h false l (rX S X (8 * sumW w n.ks + 3) fun _ X' v => ∃ k, v = .int .i64 k ∧ 0 ≤ k ∧ k < (X'.fns.length : Int)) (M 30 [.ptr X.mb 0, n.V] h)
theorem put_ok {p : Nat × Nat} {e : Ex} (I : Inv1 S X) (hp : ∃ fu, X.fu = fu ++ [p]) (he : Ints S e.ksV e.ks) (hks : ∀ f, X.fns[p.1]? = some f → In f.es.length e.ks ∧ NIn X.strs.length X.fns.length f.sl f.up.length e.kd e.n) (hu : X.u + 1 ≤ 100000) (H : St (frz S :: MK X :: l) h) :
 Tri h false l (rX S X 1 fun _ X' v => ∃ e f, v = .int .i64 e ∧ X'.fns[p.1]? = some f ∧ 0 ≤ e ∧ e < (f.es.length : Int)) (M 292 [.ptr X.mb 0, .agg [.int .u8 e.kd, .int .i64 e.n, e.ksV]] h) := by
 obtain ⟨f, T⟩ := I.top_ hp
 have hf := I.fns f (List.mem_of_getElem? T.at_)
 have hus := I.us f (List.mem_of_getElem? T.at_)
 obtain ⟨k1, k2⟩ := hks f T.at_
 have hpm : p ∈ X.fu := by obtain ⟨fu, hfu⟩ := hp; rw [hfu]; simp
 refine Tri.tail (sp292 T H he) (Lo.refl _ _) (fun e => e) fun v h B hq H L => ?_
 obtain ⟨exV, rfl, rfl⟩ := hq
 obtain ⟨I2, E2⟩ := I.put (f' := { f with exV := exV, es := f.es ++ [e] }) T.at_
  ⟨hf.bo, hf.va, hf.vm, hf.um, fun s hs => (hf.ss s hs).mono (Le.refl _) (Int.le_refl _) (by simp), fun j x hx => by
   rcases Nat.lt_or_ge j f.es.length with hj | hj
   ·rw [List.getElem?_append_left hj] at hx; exact hf.es j x hx
   ·rw [List.getElem?_append_right hj] at hx
    obtain ⟨h1, h2⟩ := List.getElem?_eq_some_iff.1 hx
    have : j = f.es.length := by simp at h1; omega
    subst this
    simp at h2
    subst h2
    exact ⟨he, k1, k2⟩⟩
  ⟨rfl, rfl, rfl, by simp, Nat.le_refl _, Int.le_refl _, Nat.le_refl _, Nat.le_refl _⟩ (fun hn => (hn p hpm rfl).elim) (by simp; omega) hu
 exact ⟨_, ⟨S, _, rfl, I2, E2, Nat.le_refl _, _, _, rfl, List.getElem?_set_self (List.getElem?_eq_some_iff.1 T.at_).1, by omega, by rw [show (f.es ++ [e]).length = f.es.length + 1 by simp]; omega⟩, H⟩
abbrev PE (p : Nat × Nat) : Mem → MS → V → Prop := fun _ X' v => ∃ e f, v = .int .i64 e ∧ X'.fns[p.1]? = some f ∧ 0 ≤ e ∧ e < (f.es.length : Int)
theorem mk_cell {i o : Nat} {w : V} (H : St l h) (hi : l[i]? = some (MK X)) (hw : X.row[o]? = some w) : h.cell X.mb o = some w := by
 obtain ⟨g1, a1, a2⟩ := H.sat.get hi
 obtain ⟨g3, c1, c2⟩ := Sat.get (l := X.A) (i := 0) a2 rfl
 obtain ⟨ho, _⟩ := List.getElem?_eq_some_iff.1 hw
 rw [(c1.trans a1).cell c2 ho, hw]
theorem rX_mono {k k' : Nat} {P P' : Mem → MS → V → Prop} {v : V} {B : List Asn} {S0 : Mem} {X0 : MS} (e : Ext1 S0 X0 S X) (hk : X.u + k ≤ X0.u + k') (hP : ∀ S' X' v, P S' X' v → P' S' X' v) (hq : rX S X k P v B) : rX S0 X0 k' P' v B := by
 obtain ⟨S', X', b, I, E, u, p⟩ := hq
 exact ⟨S', X', b, I, e.trans E, by omega, hP _ _ _ p⟩
theorem rXd {a : Asn} {k : Nat} {P : Mem → MS → V → Prop} {v : V} {B : List Asn} (hq : rX S X k P v B) (H : St (B ++ a :: l) h) : ∃ B', rX S X k P v B' ∧ St (B' ++ l) h := ⟨B, hq, by obtain ⟨_, _, rfl, _⟩ := hq; exact H.x2⟩
theorem in_nil (n : Int) : In n [] := fun k hk => by cases hk
theorem str_ok {s : Bs} (I : Inv1 S X) (hu : X.u + 1 ≤ 100000) (H : St (frz S :: MK X :: l) h) :
 Tri h false l (rX S X 1 fun S' X' v => ∃ k, v = .int .i64 k ∧ 0 ≤ k ∧ k < (X'.strs.length : Int)) (M 296 [.ptr X.mb 0, .str s] h) := by
 have hus := I.u
 refine Tri.tail (sp296 I.map (by omega) H) (Lo.refl _ _) (fun e => e) fun v h B hq H L => ?_
 obtain ⟨k, X2, rfl, rfl, k1, k2, hX⟩ := hq
 rcases hX with hX | ⟨strsV, es, hX, hm⟩
 ·rw [hX] at H k2
  exact ⟨[frz S, MK X], ⟨S, X, rfl, I, Ext1.refl S X, by omega, k, rfl, k1, k2⟩, H⟩
 ·rw [hX] at H k2
  obtain ⟨I2, E2⟩ := I.strs (strsV := strsV) (s := s) hm hu
  exact ⟨[frz S, MK _], ⟨S, _, rfl, I2, E2, Nat.le_refl _, k, rfl, k1, k2⟩, H⟩
theorem fn_cell {i j o : Nat} {w : V} (H : St l h) (hi : l[i]? = some (MK X)) (hj : X.fns[j]? = some f) (hw : f.row[o]? = some w) : h.cell f.fb o = some w := by
 obtain ⟨g1, a1, a2⟩ := H.sat.get hi
 obtain ⟨g2, b1, b2⟩ := Sat.get (l := X.A) (i := 6) a2 rfl
 obtain ⟨g3, c1, c2⟩ := Sat.get (l := X.fns.map Fn.A) (i := j) (A := f.A) b2 (by rw [List.getElem?_map, hj]; rfl)
 obtain ⟨g4, d1, d2⟩ := Sat.get (l := FnL f) (i := 0) c2 rfl
 obtain ⟨ho, _⟩ := List.getElem?_eq_some_iff.1 hw
 rw [(((d1.trans c1).trans b1).trans a1).cell d2 ho, hw]
theorem expr_ok {kx : Int} (hn0 : nds[kx.toNat]? = some n) (h0 : 0 ≤ kx) (hE : ∀ k ∈ n.ks, ESpec nds w k) (hF : n.kd = 26 → FSpec nds w n) (hw : 1 + sumW w n.ks ≤ w kx.toNat) (hkl : n.ks.length ≤ 100000) : ESpec nds w kx := by
 intro S X p h l I hp hn hu H
 obtain ⟨hlt, hnd⟩ := List.getElem?_eq_some_iff.1 hn0
 refine t2 e252 fun L => ?_
 unfold B252
 have hwk : 8 * sumW w n.ks + 8 ≤ 8 * w kx.toNat := by omega
 apply Tri.nil
 apply Tri.addr
 apply Tri.addr
 refine Tri.loadC (mk_cell H (i := 1) (o := 0) rfl rfl) ?_
 refine FSl.idx (by assumption) (by omega) (by omega) fun b10 o10 hb10 => ?_
 have hc10 := hb10
 obtain ⟨c10_0, c10_1, c10_2, c10_3, c10_4, c10_5, c10_6⟩ := hc10
 obtain ⟨c10_7, c10_8, c10_9⟩ := NdIn.three c10_6
 refine Tri.loadsF 0 (by decide) H rfl rfl (NdAt.cells (by assumption)) ?_
 refine Tri.newS H L fun b12 h hb12 H L => ?_
 replace H := H.d2
 refine Tri.stores 2 (by decide) H rfl rfl (Nat.le_of_ble_eq_true rfl) L (fun e => nomatch e) (by first | rfl | assumption) fun h H L => ?_
 refine Tri.newS H L fun b14 h hb14 H L => ?_
 replace H := H.d2
 apply Tri.addr
 refine Tri.load 3 H rfl rfl ?_
 have Ho17 := H
 rw [hnd] at *
 have Ho := H
 refine Tri.wroteC (sp290 (H.draw _)) L (fun v h2 e => by rw [e]; rfl) fun v h2 h B hq H2 hn20 hl20 eh H L => ?_
 obtain ⟨r, rfl, rfl, hr⟩ := hq
 have xn : NdIn S n := by assumption
 have hkv := xn.ks
 apply Tri.addr
 refine Tri.load 3 Ho rfl rfl ?_
 refine Tri.cd (by rw [show pureB _ _ = true from Nat.ble_eq_true_of_le (hl20 rfl)]; rfl) ?_
 refine Tri.bldS rfl ?_
 refine Tri.stores 2 (by decide) H rfl rfl (Nat.le_of_ble_eq_true rfl) L (fun e => nomatch e) (by first | rfl | assumption) fun h H L => ?_
 apply Tri.addr
 refine Tri.load 3 H rfl rfl ?_
 refine Tri.eql (fun k1 => ?_) (fun k1 => ?_)
 ·apply Tri.ift
  refine ls 3 H rfl rfl ?_
  refine tb (name_ok I hp xn (by omega) H) L fun v h B hq H L => ?_
  obtain ⟨S1, X1, rfl, I1, E1, u1, kd, k, f1, rfl, t1, hN⟩ := hq
  rw [← E1.mb]
  refine tb (put_ok (e := ⟨kd, k, .nilSlice, []⟩) I1 (by rw [E1.fu]; exact hp) (.inl ⟨rfl, rfl⟩) (fun g hg => ⟨in_nil _, by rw [t1] at hg; cases hg; exact hN⟩) (by omega) H) L fun v h B hq H L => ?_
  obtain ⟨S2, X2, rfl, I2, E2, u2, e, f2, rfl, P2⟩ := hq
  skip
  exact Tri.done (B := [frz S2, MK X2]) ⟨S2, X2, rfl, I2, E1.trans E2, by omega, e, f2, rfl, P2⟩ H.x2.x2 L
 have fin : ∀ {S1 : Mem} {X1 : MS} {h : Hp} {l : List Asn} {eb : Nat} {e : Ex} (I1 : Inv1 S1 X1) (E1 : Ext1 S X S1 X1) (he : Ints S1 e.ksV e.ks) (hks : ∀ f, X1.fns[p.1]? = some f → In f.es.length e.ks ∧ NIn X1.strs.length X1.fns.length f.sl f.up.length e.kd e.n) (hu : X1.u + 1 ≤ X.u + 8 * w kx.toNat) (H : St (frz S1 :: MK X1 :: row eb [.int .u8 e.kd, .int .i64 e.n, e.ksV] :: l) h),
  Tri h false l (rX S X (8 * w kx.toNat) (PE p)) (M 105 [.ptr X1.mb 0, .ptr eb 0] h) := by
  intro S1 X1 h l eb e I1 E1 he hks hu H
  refine t2 e105 fun L => ?_
  unfold B105
  refine ls 2 H rfl rfl ?_
  refine tb (put_ok I1 (by rw [E1.fu]; exact hp) he hks (by omega) H) L fun v h B hq H L => ?_
  obtain ⟨S2, X2, rfl, I2, E2, u2, e, f2, rfl, P2⟩ := hq
  skip
  exact Tri.done (B := [frz S2, MK X2]) ⟨S2, X2, rfl, I2, E1.trans E2, by omega, e, f2, rfl, P2⟩ H.x2 L
 apply Tri.iff
 refine Tri.eql (fun k2 => ?_) (fun k2 => ?_)
 ·apply Tri.ift
  apply Tri.addr
  refine Tri.load 3 H rfl rfl ?_
  refine tb (str_ok I (by omega) H) L fun v h B hq H L => ?_
  obtain ⟨S1, X1, rfl, I1, E1, u1, k, rfl, ka, kb⟩ := hq
  rw [← E1.mb]
  apply Tri.addr
  refine sto 2 H rfl rfl L (by first | rfl | assumption) fun h H L => ?_
  refine Tri.tail (fin (e := ⟨r, k, .nilSlice, []⟩) I1 E1 (.inl ⟨rfl, rfl⟩) (fun g hg => ⟨in_nil _, fun e => ⟨ka, kb⟩, fun e => ?_, fun e => ?_, fun e => ?_⟩) (by omega) H) L (fun e => e) fun v h B hq H L => rXd hq H
  ·have := hr.2.1 e; omega
  ·exact (hr.2.2.2.1 e).elim
  ·exact (hr.2.2.2.2.1 e).elim
 apply Tri.iff
 refine Tri.eql (fun k3 => ?_) (fun k3 => ?_)
 ·apply Tri.ift
  apply Tri.addr
  refine Tri.load 3 H rfl rfl ?_
  refine tb (str_ok I (by omega) H) L fun v h B hq H L => ?_
  obtain ⟨S1, X1, rfl, I1, E1, u1, k, rfl, ka, kb⟩ := hq
  rw [← E1.mb]
  apply Tri.addr
  refine sto 2 H rfl rfl L (by first | rfl | assumption) fun h H L => ?_
  apply Tri.addr
  refine Tri.load 3 H rfl rfl ?_
  refine tb (exprs_ok hE I1 (by rw [E1.fu]; exact hp) (by rw [E1.nv]; exact ndsIn_le hn E1.le) (FSl.mono hkv fun b o a h => E1.le _ _ _ h) (by omega) hkl H) L fun v h B hq H L => ?_
  obtain ⟨S2, X2, rfl, I2, E2, u2, es, f2, hes, t2, hin⟩ := hq
  rw [← E2.mb]
  have hone : oneCell v = true := by rcases hes with ⟨rfl, _⟩ | ⟨b, c, g, rfl, _⟩ <;> rfl
  apply Tri.addr
  refine sto 2 H rfl rfl L (by first | rfl | assumption) fun h H L => ?_
  refine Tri.tail (fin (e := ⟨r, k, v, es⟩) I2 (E1.trans E2) hes (fun g hg => ⟨by rw [t2] at hg; cases hg; exact hin, fun e => ⟨ka, Int.lt_of_lt_of_le kb (Int.ofNat_le.2 E2.nst)⟩, fun e => ?_, fun e => ?_, fun e => ?_⟩) (by omega) H) L (fun e => e) fun v h B hq H L => rXd hq H
  ·have := hr.2.1 e; omega
  ·exact (hr.2.2.2.1 e).elim
  ·exact (hr.2.2.2.2.1 e).elim
 apply Tri.iff
 refine Tri.eql (fun k4 => ?_) (fun k4 => ?_)
 ·apply Tri.ift
  refine ls 3 H rfl rfl ?_
  refine tb (hF k4 I hn xn (by omega) H) L fun v h B hq H L => ?_
  obtain ⟨S1, X1, rfl, I1, E1, u1, k, rfl, ka, kb⟩ := hq
  rw [← E1.mb]
  apply Tri.addr
  refine sto 2 H rfl rfl L (by first | rfl | assumption) fun h H L => ?_
  refine Tri.tail (fin (e := ⟨r, k, .nilSlice, []⟩) I1 E1 (.inl ⟨rfl, rfl⟩) (fun g hg => ⟨in_nil _, fun e => ?_, fun e => ⟨ka, kb⟩, fun e => ?_, fun e => ?_⟩) (by omega) H) L (fun e => e) fun v h B hq H L => rXd hq H
  ·rcases e with e | e | e
   ·have := hr.1 e; omega
   ·exact (hr.2.2.2.2.2 e).elim
   ·have := hr.2.2.1 e; omega
  ·exact (hr.2.2.2.1 e).elim
  ·exact (hr.2.2.2.2.1 e).elim
 have nin : ∀ {a b : Nat} {c : Int} {d : Nat}, NIn a b c d r n.num := fun {a b c d} => ⟨fun e => by
  rcases e with e | e | e
  ·have := hr.1 e; omega
  ·exact (hr.2.2.2.2.2 e).elim
  ·have := hr.2.2.1 e; omega, fun e => by have := hr.2.1 e; omega, fun e => (hr.2.2.2.1 e).elim, fun e => (hr.2.2.2.2.1 e).elim⟩
 apply Tri.iff
 refine Tri.eql (fun k5 => ?_) (fun k5 => ?_)
 ·apply Tri.ift
  obtain ⟨f, T⟩ := I.top_ hp
  refine tb1 (top106 T H) L fun v h B hq H L => ?_
  obtain ⟨rfl, rfl⟩ := hq
  apply Tri.nil
  apply Tri.addr
  apply Tri.addr
  refine Tri.loadC (fn_cell H (i := 1) (o := 1) rfl T.at_ rfl) ?_
  apply Tri.not
  generalize f.more = mo
  cases mo
  ·apply Tri.ift
   apply Tri.addr
   refine Tri.load 3 H rfl rfl ?_
   refine tb (sp54 H (by decide) I.fault) L fun v h B hq H L => ?_
   obtain ⟨rfl, fe, fl, rfl, hfe⟩ := hq
   obtain ⟨I1, E1⟩ := I.flt (fl := fl) hfe
   exact Tri.tail (fin (X1 := { X with fe := fe, fl := fl }) (e := ⟨r, n.num, .nilSlice, []⟩) I1 E1 (.inl ⟨rfl, rfl⟩) (fun g hg => ⟨in_nil _, nin⟩) (by show X.u + 1 ≤ _; omega) H) L (fun e => e) fun v h B hq H L => rXd hq H
  ·apply Tri.iff
   exact Tri.tail (fin (e := ⟨r, n.num, .nilSlice, []⟩) I (Ext1.refl S X) (.inl ⟨rfl, rfl⟩) (fun g hg => ⟨in_nil _, nin⟩) (by omega) H) L (fun e => e) fun v h B hq H L => rXd hq H
 apply Tri.iff
 apply Tri.addr
 refine Tri.load 3 H rfl rfl ?_
 refine tb (exprs_ok hE I hp hn hkv (by omega) hkl H) L fun v h B hq H L => ?_
 obtain ⟨S2, X2, rfl, I2, E2, u2, es, f2, hes, t2, hin⟩ := hq
 rw [← E2.mb]
 have hone : oneCell v = true := by rcases hes with ⟨rfl, _⟩ | ⟨b, c, g, rfl, _⟩ <;> rfl
 apply Tri.addr
 refine sto 2 H rfl rfl L (by first | rfl | assumption) fun h H L => ?_
 exact Tri.tail (fin (e := ⟨r, n.num, v, es⟩) I2 E2 hes (fun g hg => ⟨by rw [t2] at hg; cases hg; exact hin, nin⟩) (by omega) H) L (fun e => e) fun v h B hq H L => rXd hq H
theorem ss_set4 (x : Int) : ∀ (l : List Sm) (j : Nat) (s : Sm), l[j]? = some s → (l.flatMap Sm.cs).set (0 + j * 7 + 4) (.int .i64 x) = (l.set j { s with nx := x }).flatMap Sm.cs
 | [], _, _, h => by cases h
 | a :: l, 0, s, h => by cases h; rfl
 | a :: l, j + 1, s, h => by
  have h' : l[j]? = some s := h
  rw [List.set_cons_succ, List.flatMap_cons, List.flatMap_cons, ← ss_set4 x l j s h', show 0 + (j + 1) * 7 + 4 = (Sm.cs a).length + (0 + j * 7 + 4) by simp [Sm.cs]; omega, List.set_append_right _ _ (by omega), Nat.add_sub_cancel_left]
theorem ss_set5 (x : Int) : ∀ (l : List Sm) (j : Nat) (s : Sm), l[j]? = some s → (l.flatMap Sm.cs).set (0 + j * 7 + 5) (.int .i64 x) = (l.set j { s with el := x }).flatMap Sm.cs
 | [], _, _, h => by cases h
 | a :: l, 0, s, h => by cases h; rfl
 | a :: l, j + 1, s, h => by
  have h' : l[j]? = some s := h
  rw [List.set_cons_succ, List.flatMap_cons, List.flatMap_cons, ← ss_set5 x l j s h', show 0 + (j + 1) * 7 + 5 = (Sm.cs a).length + (0 + j * 7 + 5) by simp [Sm.cs]; omega, List.set_append_right _ _ (by omega), Nat.add_sub_cancel_left]
theorem upd_sm {j : Nat} {s s' : Sm} (I : Inv1 S X) (hi : X.fns[i]? = some f) (hj : f.ss[j]? = some s) (hs : SmIn S f.sl f.es.length s') (hd : (∀ p ∈ X.fu, p.1 ≠ i) → s'.nx < f.ss.length ∧ s'.el < f.ss.length) :
 Inv1 S { X with fns := X.fns.set i { f with ss := f.ss.set j s' }, u := X.u } ∧ Ext1 S X S { X with fns := X.fns.set i { f with ss := f.ss.set j s' }, u := X.u } := by
 have hm := List.mem_of_getElem? hi
 have hf := I.fns f hm
 refine I.putU (f' := { f with ss := f.ss.set j s' }) X.u (Nat.le_refl _) hi ⟨hf.bo, hf.va, hf.vm, hf.um, fun t ht => ?_, hf.es⟩ ⟨rfl, rfl, rfl, Nat.le_refl _, by simp, Int.le_refl _, Nat.le_refl _, Nat.le_refl _⟩ (fun hn => ?_) (by have := I.us f hm; simpa using this) I.top
 ·rcases mem_set ht with e | e
  ·subst e; exact hs
  ·exact hf.ss t e
 ·have hD := (I.fin i f hi hn).1
  refine ⟨fun t ht => ?_, ?_⟩
  ·show t.nx < (f.ss.set j s').length ∧ t.el < (f.ss.set j s').length
   rw [List.length_set]
   rcases mem_set ht with e | e
   ·subst e; exact hd hn
   ·exact hD.ss t e
  ·rcases hD.st with e | ⟨e, e2⟩
   ·exact .inl e
   ·rw [e2] at hj; cases hj
theorem setNx {b nn c : Nat} {g : Bool} {j : Nat} {x : Int} {k : Hp → VH} (I : Inv1 S X) (hi : X.fns[i]? = some f) (hv : f.stV = .slice b 0 nn c g) (hj : j < f.ss.length) (hx : -1 ≤ x) (hd : (∀ p ∈ X.fu, p.1 ≠ i) → x < f.ss.length) (H : St (frz S :: MK X :: l) h) (L : Lo false h0 h)
 (hK : ∀ h' X', Inv1 S X' → Ext1 S X S X' → X'.u = X.u → X'.fe = X.fe ∧ X'.fl = X.fl ∧ X'.go = X.go ∧ X'.cls = X.cls ∧ (∃ f', X'.fns[i]? = some f' ∧ f'.stV = f.stV ∧ f'.ss.length = f.ss.length) → St (frz S :: MK X' :: l) h' → Lo false h0 h' → Tri h0 false F Q (k h')) : Tri h0 false F Q (storeC (.ptr b (0 + j * 7 + 4)) (.int .i64 x) h k) := by
 have hs : f.ss[j]? = some f.ss[j] := List.getElem?_eq_getElem hj
 have hm := I.fns f (List.mem_of_getElem? hi)
 replace H := openF H hi
 rw [hv] at H
 refine Tri.storeV 3 H rfl (by rw [ss_len]; omega) L (fun e => nomatch e) rfl fun h H L => ?_
 rw [← hv] at H
 replace H : St (_ :: _ :: _ :: vc true f.stV 50 7 ((f.ss.flatMap Sm.cs).set (0 + j * 7 + 4) (.int .i64 x)) :: _) _ := H
 rw [ss_set4 x _ _ _ hs] at H
 have hsm := hm.ss _ (List.getElem_mem hj)
 obtain ⟨I2, E2⟩ := upd_sm (s' := { f.ss[j] with nx := x }) I hi hs ⟨hsm.ln, hx, hsm.el, hsm.vs, hsm.vt, hsm.ve, hsm.is, hsm.it, hsm.ie⟩ (fun hn => ⟨hd hn, ((I.fin i f hi hn).1.ss _ (List.getElem_mem hj)).2⟩)
 exact hK _ _ I2 E2 rfl ⟨rfl, rfl, rfl, rfl, _, List.getElem?_set_self (List.getElem?_eq_some_iff.1 hi).1, rfl, by simp⟩ (closeF (f' := { f with ss := f.ss.set j { f.ss[j] with nx := x } }) hi rfl H X.u) L
theorem setEl {b nn c : Nat} {g : Bool} {j : Nat} {x : Int} {k : Hp → VH} (I : Inv1 S X) (hi : X.fns[i]? = some f) (hv : f.stV = .slice b 0 nn c g) (hj : j < f.ss.length) (hx : -1 ≤ x) (hd : (∀ p ∈ X.fu, p.1 ≠ i) → x < f.ss.length) (H : St (frz S :: MK X :: l) h) (L : Lo false h0 h)
 (hK : ∀ h' X', Inv1 S X' → Ext1 S X S X' → X'.u = X.u → X'.fe = X.fe ∧ X'.fl = X.fl ∧ X'.go = X.go ∧ X'.cls = X.cls ∧ (∃ f', X'.fns[i]? = some f' ∧ f'.stV = f.stV ∧ f'.ss.length = f.ss.length) → St (frz S :: MK X' :: l) h' → Lo false h0 h' → Tri h0 false F Q (k h')) : Tri h0 false F Q (storeC (.ptr b (0 + j * 7 + 5)) (.int .i64 x) h k) := by
 have hs : f.ss[j]? = some f.ss[j] := List.getElem?_eq_getElem hj
 have hm := I.fns f (List.mem_of_getElem? hi)
 replace H := openF H hi
 rw [hv] at H
 refine Tri.storeV 3 H rfl (by rw [ss_len]; omega) L (fun e => nomatch e) rfl fun h H L => ?_
 rw [← hv] at H
 replace H : St (_ :: _ :: _ :: vc true f.stV 50 7 ((f.ss.flatMap Sm.cs).set (0 + j * 7 + 5) (.int .i64 x)) :: _) _ := H
 rw [ss_set5 x _ _ _ hs] at H
 have hsm := hm.ss _ (List.getElem_mem hj)
 obtain ⟨I2, E2⟩ := upd_sm (s' := { f.ss[j] with el := x }) I hi hs ⟨hsm.ln, hsm.nx, hx, hsm.vs, hsm.vt, hsm.ve, hsm.is, hsm.it, hsm.ie⟩ (fun hn => ⟨((I.fin i f hi hn).1.ss _ (List.getElem_mem hj)).1, hd hn⟩)
 exact hK _ _ I2 E2 rfl ⟨rfl, rfl, rfl, rfl, _, List.getElem?_set_self (List.getElem?_eq_some_iff.1 hi).1, rfl, by simp⟩ (closeF (f' := { f with ss := f.ss.set j { f.ss[j] with el := x } }) hi rfl H X.u) L
abbrev PS (p : Nat × Nat) : Mem → MS → V → Prop := fun _ X' v => ∃ j f, v = .int .i64 j ∧ X'.fns[p.1]? = some f ∧ 0 ≤ j ∧ j < (f.ss.length : Int)
theorem stmt_ok {p : Nat × Nat} {s : Sm} (I : Inv1 S X) (hp : ∃ fu, X.fu = fu ++ [p]) (hs : ∀ f, X.fns[p.1]? = some f → SmIn S f.sl f.es.length s) (hu : X.u + 1 ≤ 100000) (H : St (frz S :: MK X :: l) h) :
 Tri h false l (rX S X 1 (PS p)) (M 184 [.ptr X.mb 0, .agg s.cs] h) := by
 obtain ⟨f, T⟩ := I.top_ hp
 have hf := I.fns f (List.mem_of_getElem? T.at_)
 have hus := I.us f (List.mem_of_getElem? T.at_)
 have hs' := hs f T.at_
 have hpm : p ∈ X.fu := by obtain ⟨fu, hfu⟩ := hp; rw [hfu]; simp
 have hone : ∀ {v : V} {l : List Int}, Ints S v l → oneCell v = true := fun {v l} h => by rcases h with ⟨rfl, _⟩ | ⟨b, c, g, rfl, _⟩ <;> rfl
 have h1 : allOne s.cs = true := by simp only [Sm.cs, allOne, hone hs'.vs, hone hs'.vt, hone hs'.ve]; rfl
 refine Tri.tail (sp184 T H h1) (Lo.refl _ _) (fun e => e) fun v h B hq H L => ?_
 obtain ⟨stV, rfl, rfl⟩ := hq
 obtain ⟨I2, E2⟩ := I.put (f' := { f with stV := stV, ss := f.ss ++ [{ s with nx := f.ss.length + 1 }] }) T.at_
  ⟨hf.bo, hf.va, hf.vm, hf.um, fun t ht => by
   rcases List.mem_append.1 ht with ht | ht
   ·exact hf.ss t ht
   ·rw [List.mem_singleton] at ht; subst ht
    exact ⟨hs'.ln, by show (-1 : Int) ≤ (f.ss.length : Int) + 1; omega, hs'.el, hs'.vs, hs'.vt, hs'.ve, hs'.is, hs'.it, hs'.ie⟩, hf.es⟩
  ⟨rfl, rfl, rfl, Nat.le_refl _, by simp, Int.le_refl _, Nat.le_refl _, Nat.le_refl _⟩ (fun hn => (hn p hpm rfl).elim) (by simp; omega) hu
 exact ⟨_, ⟨S, _, rfl, I2, E2, Nat.le_refl _, _, _, rfl, List.getElem?_set_self (List.getElem?_eq_some_iff.1 T.at_).1, by omega, by rw [show (f.ss ++ [({ s with nx := f.ss.length + 1 } : Sm)]).length = f.ss.length + 1 by simp]; omega⟩, H⟩
theorem add_ok {p : Nat × Nat} {nm : Bs} {ln : Int} (I : Inv1 S X) (hp : ∃ fu, X.fu = fu ++ [p]) (hu : X.u + 1 ≤ 100000) (H : St (frz S :: MK X :: l) h) :
 Tri h false l (rX S X 1 fun _ X' v => ∃ j f, v = .int .i64 j ∧ X'.fns[p.1]? = some f ∧ 0 ≤ j ∧ j < f.sl) (M 56 [.ptr X.mb 0, .str nm, .int .i64 ln] h) := by
 obtain ⟨f, T⟩ := I.top_ hp
 have hf := I.fns f (List.mem_of_getElem? T.at_)
 have hus := I.us f (List.mem_of_getElem? T.at_)
 have hpm : p ∈ X.fu := by obtain ⟨fu, hfu⟩ := hp; rw [hfu]; simp
 refine Tri.tail (sp56 T hf I.fault H) (Lo.refl _ _) (fun e => e) fun v h B hq H L => ?_
 rcases hq with ⟨fe, fl, rfl, rfl, hfe, h120⟩ | ⟨vaV, boV, bo, sl, rfl, rfl, b1, b2, b3, b4⟩
 ·obtain ⟨I1, E1⟩ := I.flt (fl := fl) hfe
  have h1 := hf.bo
  have h2 := hf.va
  exact ⟨_, ⟨S, _, rfl, I1, E1, by show X.u ≤ _; omega, 0, f, rfl, T.at_, by omega, by omega⟩, H⟩
 ·obtain ⟨I2, E2⟩ := I.put (f' := { f with vaV := vaV, va := f.va ++ [nm], boV := boV, bo := bo, sl := sl }) T.at_
   ⟨b1, by simp; omega, by simp; omega, hf.um, fun t ht => (hf.ss t ht).mono (Le.refl _) b2 (Nat.le_refl _), fun j e he => ⟨(hf.es j e he).1, (hf.es j e he).2.1, (hf.es j e he).2.2.mono (Nat.le_refl _) (Nat.le_refl _) b2 (Nat.le_refl _)⟩⟩
   ⟨rfl, rfl, rfl, Nat.le_refl _, Nat.le_refl _, b2, Nat.le_refl _, by simp⟩ (fun hn => (hn p hpm rfl).elim) (by show f.ss.length + f.es.length + f.bl.length ≤ X.u + 1; omega) hu
  exact ⟨_, ⟨S, _, rfl, I2, E2, Nat.le_refl _, _, _, rfl, List.getElem?_set_self (List.getElem?_eq_some_iff.1 T.at_).1, by omega, by show (f.va.length : Int) < sl; omega⟩, H⟩
theorem vc_view {gr : Bool} {e s : Nat} {cs : List V} {g : Fg} (hl : Lf g (hf h)) (hv : vc gr v e s cs g) : (v = .nilSlice ∧ cs = []) ∨ ∃ b n c gg, v = .slice b 0 n c gg ∧ cs.length = n * s ∧ ∀ o, o < cs.length → h.cell b o = cs[o]? := by
 cases hv with
 | nil h => exact .inl ⟨rfl, h⟩
 | grown b n m t a1 a2 a3 a4 =>
  refine .inr ⟨b, n, 0, true, rfl, a2, fun o ho => ?_⟩
  have := hl _ _ a1; unfold hf at this
  unfold Hp.cell; rw [this]; exact a4 o ho
 | full b n c t a0 a1 a2 a5 a3 =>
  refine .inr ⟨b, n, c, false, rfl, a2, fun o ho => ?_⟩
  have := hl _ _ a1; unfold hf at this
  unfold Hp.cell; rw [this]; exact a3 o ho
theorem mk_get {j : Nat} {A : Asn} (H : St l h) (hi : l[i]? = some (MK X)) (hj : X.A[j]? = some A) : ∃ g, Lf g (hf h) ∧ A g := by
 obtain ⟨g1, a1, a2⟩ := H.sat.get hi
 obtain ⟨g2, b1, b2⟩ := Sat.get (l := X.A) (i := j) a2 hj
 exact ⟨g2, b1.trans a1, b2⟩
theorem fn_get {j o : Nat} {A : Asn} (H : St l h) (hi : l[i]? = some (MK X)) (hj : X.fns[j]? = some f) (ho : (FnL f)[o]? = some A) : ∃ g, Lf g (hf h) ∧ A g := by
 obtain ⟨g2, b1, b2⟩ := mk_get H hi (j := 6) rfl
 obtain ⟨g3, c1, c2⟩ := Sat.get (l := X.fns.map Fn.A) (i := j) (A := f.A) b2 (by rw [List.getElem?_map, hj]; rfl)
 obtain ⟨g4, d1, d2⟩ := Sat.get (l := FnL f) (i := o) c2 ho
 exact ⟨g4, (d1.trans c1).trans b1, d2⟩
theorem bk_get {j o : Nat} {A : Asn} {b : Bk} (H : St l h) (hi : l[i]? = some (MK X)) (hj : X.bks[j]? = some b) (ho : [row b.bb [b.lbV, .int .i64 b.vars, lpV b.lp], vc true b.lbV 103 3 (b.lbs.flatMap lbc)][o]? = some A) : ∃ g, Lf g (hf h) ∧ A g := by
 obtain ⟨g2, b1, b2⟩ := mk_get H hi (j := 7) rfl
 obtain ⟨g3, c1, c2⟩ := Sat.get (l := X.bks.map Bk.A) (i := j) (A := b.A) b2 (by rw [List.getElem?_map, hj]; rfl)
 obtain ⟨g4, d1, d2⟩ := Sat.get (l := [row b.bb [b.lbV, .int .i64 b.vars, lpV b.lp], vc true b.lbV 103 3 (b.lbs.flatMap lbc)]) (i := o) c2 ho
 exact ⟨g4, (d1.trans c1).trans b1, d2⟩
theorem bkc {j o : Nat} {w : V} {b : Bk} (H : St l h) (hi : l[i]? = some (MK X)) (hj : X.bks[j]? = some b) (hw : [b.lbV, .int .i64 b.vars, lpV b.lp][o]? = some w) : h.cell b.bb o = some w := by
 obtain ⟨g, a1, a2⟩ := bk_get H hi hj (o := 0) rfl
 obtain ⟨ho, _⟩ := List.getElem?_eq_some_iff.1 hw
 rw [a1.cell a2 ho, hw]
theorem lb_len (l : List (Bs × Int × Int)) : (l.flatMap lbc).length = l.length * 3 := by
 induction l with
 | nil => rfl
 | cons a l ih => rw [List.flatMap_cons, List.length_append, ih, List.length_cons]; simp [lbc]; omega
theorem lb_at (l : List (Bs × Int × Int)) (j : Nat) (hj : j < l.length) (o : Nat) (ho : o < 3) : (l.flatMap lbc)[j * 3 + o]? = (lbc l[j])[o]? := by
 induction l generalizing j with
 | nil => simp at hj
 | cons a l ih =>
  cases j with
  | zero => rw [List.flatMap_cons, List.getElem?_append_left (by simp [lbc]; omega)]; simp
  | succ j =>
   rw [List.flatMap_cons, List.getElem?_append_right (by simp [lbc]; omega), show (j + 1) * 3 + o - (lbc a).length = j * 3 + o by simp [lbc]; omega]
   exact ih j (by simpa using hj)
theorem lb_view {j : Nat} {b : Bk} (H : St l h) (hi : l[i]? = some (MK X)) (hj : X.bks[j]? = some b) : (b.lbV = .nilSlice ∧ b.lbs = []) ∨ ∃ b0 c g, b.lbV = .slice b0 0 b.lbs.length c g ∧ ∀ (k : Nat) (hk : k < b.lbs.length) (o : Nat), o < 3 → h.cell b0 (k * 3 + o) = (lbc b.lbs[k])[o]? := by
 obtain ⟨g, a1, a2⟩ := bk_get H hi hj (o := 1) rfl
 rcases vc_view a1 a2 with ⟨h1, h2⟩ | ⟨b0, n, c, gg, h1, h2, h3⟩
 ·refine .inl ⟨h1, ?_⟩
  have := lb_len b.lbs
  rw [h2] at this
  exact List.eq_nil_of_length_eq_zero (by simp at this; omega)
 ·rw [lb_len] at h2
  have : n = b.lbs.length := by omega
  subst this
  refine .inr ⟨b0, c, gg, h1, fun k hk o ho => ?_⟩
  rw [h3 _ (by rw [lb_len]; omega)]
  exact lb_at _ _ hk o ho
theorem bl_view {j : Nat} (H : St l h) (hi : l[i]? = some (MK X)) (hj : X.fns[j]? = some f) : (f.blV = .nilSlice ∧ f.bl = []) ∨ ∃ b0 c g, f.blV = .slice b0 0 f.bl.length c g ∧ ∀ (k : Nat) (hk : k < f.bl.length), h.cell b0 k = some (.ptr (f.bl[k]).2 0) := by
 obtain ⟨g, a1, a2⟩ := fn_get H hi hj (o := 6) rfl
 rcases vc_view a1 a2 with ⟨h1, h2⟩ | ⟨b0, n, c, gg, h1, h2, h3⟩
 ·exact .inl ⟨h1, by simpa [ptrs] using h2⟩
 ·rw [ptrs_len] at h2
  have : n = f.bl.length := by omega
  subst this
  refine .inr ⟨b0, c, gg, h1, fun k hk => ?_⟩
  rw [h3 _ (by rw [ptrs_len]; omega)]
  unfold ptrs; rw [List.getElem?_map, List.getElem?_eq_getElem hk]; rfl
theorem _root_.Go.Mid.Tri.loadsC {b o s : Nat} {X : List V} (hs : s ≠ 0) (hl : X.length = s) (hc : ∀ x, x < s → h.cell b (o + x) = X[x]?) (hk : Tri h0 ro F Q (k (.agg X))) : Tri h0 ro F Q (loadN s (.ptr b o) h k) := by
 rw [loadN_at _ _ _ _ _ hs, St.cells_of hc (fun _ _ => rfl) hl]; exact hk
theorem loop107 {b : Bk} {j : Nat} {nb : Nat} (hb : X.bks[j]? = some b) (hbl : b.lbs.length ≤ 100000) (m : Nat) : ∀ {q : Int} {h : Hp} {l : List Asn} (H : St (frz S :: MK X :: row nb [.int .u8 n.kd, .int .i64 n.num, .str n.nm, n.nsV, n.ksV, .int .i64 n.ln] :: l) h) (h1 : 0 ≤ q) (hm : (b.lbs.length : Int) - q ≤ (m : Int)),
 Tri h true l (fun v B => ∃ r, v = .int .i64 r ∧ B = [frz S, MK X, row nb [.int .u8 n.kd, .int .i64 n.num, .str n.nm, n.nsV, n.ksV, .int .i64 n.ln]]) (M 107 [b.lbV, .func 89 [] [.ptr nb 0], .int .i64 (b.lbs.length : Nat), .int .i64 q] h) := by
 induction m with
 | zero =>
  intro q h l H h1 hm
  refine t4 e107 fun L => ?_
  unfold B107
  refine Tri.lss (fun e => by omega) (fun e => ?_)
  apply Tri.iff
  exact Tri.done (B := [_, _, _]) ⟨_, rfl, rfl⟩ H L
 | succ m ih =>
  intro q h l H h1 hm
  refine t4 e107 fun L => ?_
  unfold B107
  refine Tri.lss (fun e => ?_) (fun e => ?_)
  ·apply Tri.ift
   rcases lb_view H (i := 1) rfl hb with ⟨_, h2⟩ | ⟨b0, c, g, h2, h3⟩
   ·rw [h2] at e; simp at e; omega
   ·rw [h2]
    refine Tri.idx h1 (by omega) ?_
    refine Tri.loadsC (X := lbc (b.lbs[q.toNat]'(by omega))) (by decide) rfl (fun x hx => by rw [Nat.zero_add]; exact h3 _ (by omega) x hx) ?_
    rw [← h2]
    obtain ⟨⟨s1, s2, s3⟩, hs⟩ : ∃ x, x = b.lbs[q.toNat]'(by omega) := ⟨_, rfl⟩
    rw [← hs]
    have sp178 : ∀ {h : Hp} {l : List Asn} (H : St (frz S :: MK X :: row nb [.int .u8 n.kd, .int .i64 n.num, .str n.nm, n.nsV, n.ksV, .int .i64 n.ln] :: l) h), Tri h true l (fun v B => (∃ b, v = .bool b) ∧ B = [frz S, MK X, row nb [.int .u8 n.kd, .int .i64 n.num, .str n.nm, n.nsV, n.ksV, .int .i64 n.ln]]) (M 178 [.agg (lbc (s1, s2, s3)), .ptr nb 0] h) := by
     intro h l H
     refine t2 e178 fun L => ?_
     unfold B178
     refine Tri.newS H L fun b0 h hb0 H L => ?_
     replace H := H.d2
     apply Tri.addr
     refine Tri.load 2 H rfl rfl ?_
     apply Tri.addr
     refine Tri.load 3 H rfl rfl ?_
     refine Tri.strEq fun s5 es5 => ?_
     exact Tri.done (B := [_, _, _]) ⟨⟨_, rfl⟩, rfl⟩ H.x2 L
    refine Tri.eqv (congrArg (fun x => bindS x _) (dyn_at _ _ _ _ _ _)) ?_
    refine tb (sp178 H) L fun v h B hq H L => ?_
    obtain ⟨⟨r, rfl⟩, rfl⟩ := hq
    cases r
    ·apply Tri.iff
     refine Tri.addN (by omega) (by omega) ?_
     exact te (ih H (by omega) (by omega)) L
    ·apply Tri.ift
     exact Tri.done (B := [_, _, _]) ⟨_, rfl, rfl⟩ H L
  ·apply Tri.iff
   exact Tri.done (B := [_, _, _]) ⟨_, rfl, rfl⟩ H L
theorem sp176 {b : Bk} {j nb : Nat} (hb : X.bks[j]? = some b) (hbl : b.lbs.length ≤ 100000) (H : St (frz S :: MK X :: row nb [.int .u8 n.kd, .int .i64 n.num, .str n.nm, n.nsV, n.ksV, .int .i64 n.ln] :: l) h) :
 Tri h true l (fun v B => ∃ r, v = .bool r ∧ B = [frz S, MK X, row nb [.int .u8 n.kd, .int .i64 n.num, .str n.nm, n.nsV, n.ksV, .int .i64 n.ln]]) (M 176 [b.lbV, .func 89 [] [.ptr nb 0]] h) := by
 have sp250 : Tri h true l (fun v B => ∃ r, v = .int .i64 r ∧ B = [frz S, MK X, row nb [.int .u8 n.kd, .int .i64 n.num, .str n.nm, n.nsV, n.ksV, .int .i64 n.ln]]) (M 250 [b.lbV, .func 89 [] [.ptr nb 0]] h) := by
  refine t2 e250 fun L => ?_
  unfold B250
  apply bL
  refine Tri.mono (Q' := fun v B => ∃ r, v = .int .i64 r ∧ B = [frz S, MK X, row nb [.int .u8 n.kd, .int .i64 n.num, .str n.nm, n.nsV, n.ksV, .int .i64 n.ln]]) ?_ (fun _ _ h => h)
  have hlen : ∀ {K : V → VH}, Tri h true l (fun v B => ∃ r, v = .int .i64 r ∧ B = [frz S, MK X, row nb [.int .u8 n.kd, .int .i64 n.num, .str n.nm, n.nsV, n.ksV, .int .i64 n.ln]]) (K (.int .i64 (b.lbs.length : Nat))) → Tri h true l (fun v B => ∃ r, v = .int .i64 r ∧ B = [frz S, MK X, row nb [.int .u8 n.kd, .int .i64 n.num, .str n.nm, n.nsV, n.ksV, .int .i64 n.ln]]) (Mid.lenSl b.lbV K) := fun {K} hk => by
   rcases lb_view H (i := 1) rfl hb with ⟨h1, h2⟩ | ⟨b0, c, g, h2, _⟩
   ·rw [h1]; rw [h2] at hk; exact hk
   ·rw [h2]; exact hk
  refine hlen ?_
  apply Tri.bs
  exact te (loop107 hb hbl b.lbs.length H (by omega) (by omega)) L
 refine t2 e176 fun L => ?_
 unfold B176
 refine Tri.bind sp250 L (fun e => e) fun v h B hq H L => ?_
 obtain ⟨r, rfl, rfl⟩ := hq
 skip
 refine Tri.geq (fun e => ?_) (fun e => ?_)
 ·skip
  exact Tri.done (B := [_, _, _]) ⟨_, rfl, rfl⟩ H L
 ·skip
  exact Tri.done (B := [_, _, _]) ⟨_, rfl, rfl⟩ H L
end
end Go.FP
end
