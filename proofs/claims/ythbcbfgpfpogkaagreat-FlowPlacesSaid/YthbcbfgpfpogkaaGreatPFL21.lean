/- A part of the proof. -/
import Derived.Test.YthbcbfgpfpogkaaGreatPFL16
set_option linter.all false
set_option warn.classDefReducibility false
noncomputable section
section
open Go Go.Mid Go.Proofs
set_option maxRecDepth 100000
namespace Go.FP
section
variable {S S' S'' : Mem} {l F : List Asn} {h h0 : Hp} {ro : Bool} {Q : V → List Asn → Prop} {k : V → VH} {K : V → Hp → VH} {nds : List Nd} {n : Nd} {v nv : V} {X X' X'' : MS} {f f' : Fn} {i : Nat} {w : Nat → Nat} {b b' : Bk} {c c' : Cl} {wi : Wi}
theorem FSl.cutLo {α : Type} {s e : Nat} {P : Nat → Nat → α → Prop} {L : List α} {d : IntKind} {lo : Int} (hv : FSl s P v L) (h1 : 0 ≤ lo) (h2 : lo ≤ (L.length : Int)) (hk : ∀ v', FSl s P v' (L.drop lo.toNat) → Tri h0 ro F Q (K v' h)) : Tri h0 ro F Q (bindS (slSlK e s (some (.int d lo)) none h v) K) := by
 obtain ⟨m, rfl⟩ : ∃ m : Nat, lo = m := ⟨lo.toNat, by omega⟩
 rcases hv with ⟨rfl, rfl⟩ | ⟨b, o, c, rfl, hc, hL, hP⟩
 ·have : m = 0 := by simp at h2; omega
  subst this
  exact hk _ (.inl ⟨rfl, rfl⟩)
 ·have e3 : slSlK e s (some (.int d ((m : Nat) : Int))) none h (.slice b o L.length c false) = slS h e s b o c false m L.length := rfl
  rw [e3, slS_fix (by omega) hc]
  refine hk _ (.inr ⟨b, _, c - m, by rw [Int.toNat_natCast, List.length_drop], by rw [List.length_drop]; omega, by rw [List.length_drop]; omega, fun i hi => ?_⟩)
  rw [Int.toNat_natCast, List.length_drop] at hi
  have hb : Nat.beq m c = false := by
   rcases Bool.eq_false_or_eq_true (Nat.beq m c) with h | h
   ·have := Nat.eq_of_beq_eq_true h; omega
   ·exact h
  rw [hb]
  have := hP (m + i) (by omega)
  rw [show o + (m + i) * s = o + m * s + i * s by rw [Nat.add_mul]; omega] at this
  simpa using this
theorem FSl.cutHi {α : Type} {s e : Nat} {P : Nat → Nat → α → Prop} {L : List α} {d : IntKind} {hi : Int} (hv : FSl s P v L) (h1 : 0 ≤ hi) (h2 : hi ≤ (L.length : Int)) (hk : ∀ v', FSl s P v' (L.take hi.toNat) → Tri h0 ro F Q (K v' h)) : Tri h0 ro F Q (bindS (slSlK e s none (some (.int d hi)) h v) K) := by
 obtain ⟨m, rfl⟩ : ∃ m : Nat, hi = m := ⟨hi.toNat, by omega⟩
 rcases hv with ⟨rfl, rfl⟩ | ⟨b, o, c, rfl, hc, hL, hP⟩
 ·have : m = 0 := by simp at h2; omega
  subst this
  exact hk _ (.inl ⟨rfl, rfl⟩)
 ·have e3 : slSlK e s none (some (.int d ((m : Nat) : Int))) h (.slice b o L.length c false) = slS h e s b o c false 0 m := rfl
  rw [e3, slS_fix (by omega) (by omega)]
  refine hk _ (.inr ⟨b, o, c, ?_, by rw [List.length_take]; omega, by rw [List.length_take]; omega, fun i hi => ?_⟩)
  ·rw [Int.toNat_natCast, List.length_take, Nat.min_eq_left (by omega), Nat.zero_mul, Nat.sub_zero, Nat.sub_zero]
   cases Nat.beq 0 c <;> rfl
  ·rw [Int.toNat_natCast, List.length_take] at hi
   have := hP i (by omega)
   simpa using this
theorem add0 {p : Nat × Nat} {nm : Bs} {ln : Int} (I : Inv1 S X) (hp : ∃ fu, X.fu = fu ++ [p]) (H : St (frz S :: MK X :: l) h) :
 Tri h false l (rX S X 0 fun _ X' v => ∃ j f, v = .int .i64 j ∧ X'.fns[p.1]? = some f ∧ 0 ≤ j ∧ j < f.sl) (M 56 [.ptr X.mb 0, .str nm, .int .i64 ln] h) := by
 obtain ⟨f, T⟩ := I.top_ hp
 have hf := I.fns f (List.mem_of_getElem? T.at_)
 have hus := I.us f (List.mem_of_getElem? T.at_)
 have hpm : p ∈ X.fu := by obtain ⟨fu, hfu⟩ := hp; rw [hfu]; simp
 refine Tri.tail (sp56 T hf I.fault H) (Lo.refl _ _) (fun e => e) fun v h B hq H L => ?_
 rcases hq with ⟨fe, fl, rfl, rfl, hfe, h120⟩ | ⟨vaV, boV, bo, sl, rfl, rfl, b1, b2, b3, b4⟩
 ·obtain ⟨I1, E1⟩ := I.flt (fl := fl) hfe
  have h1 := hf.bo
  have h2 := hf.va
  exact ⟨_, ⟨S, _, rfl, I1, E1, Nat.le_refl _, 0, f, rfl, T.at_, by omega, by omega⟩, H⟩
 ·obtain ⟨I2, E2⟩ := I.putU (f' := { f with vaV := vaV, va := f.va ++ [nm], boV := boV, bo := bo, sl := sl }) X.u (Nat.le_refl _) T.at_
   ⟨b1, by simp; omega, by simp; omega, hf.um, fun t ht => (hf.ss t ht).mono (Le.refl _) b2 (Nat.le_refl _), fun j e he => ⟨(hf.es j e he).1, (hf.es j e he).2.1, (hf.es j e he).2.2.mono (Nat.le_refl _) (Nat.le_refl _) b2 (Nat.le_refl _)⟩⟩
   ⟨rfl, rfl, rfl, Nat.le_refl _, Nat.le_refl _, b2, Nat.le_refl _, by simp⟩ (fun hn => (hn p hpm rfl).elim) hus I.top
  exact ⟨_, ⟨S, { X with fns := X.fns.set p.1 { f with vaV := vaV, va := f.va ++ [nm], boV := boV, bo := bo, sl := sl }, u := X.u }, rfl, I2, E2, Nat.le_refl _, _, _, rfl, List.getElem?_set_self (List.getElem?_eq_some_iff.1 T.at_).1, by omega, by show (f.va.length : Int) < sl; omega⟩, H⟩
theorem loop61 {p : Nat × Nat} {nb : Nat} {exV : V} {es : List Int} (gln : 1 ≤ n.ln) (r : Nat) : ∀ {S : Mem} {X : MS} {h : Hp} {l : List Asn} {acc : List Int} {accV : V} {j : Int} (I : Inv1 S X) (hp : ∃ fu, X.fu = fu ++ [p]) (hnv : FSl 1 (StrAt S) n.nsV n.ns) (hns : n.ns.length ≤ 200) (hex : Ints S exV es) (hes : ∀ f, X.fns[p.1]? = some f → In f.es.length es ∧ In f.sl acc) (hu : X.u + 1 ≤ 100000) (hacc : acc.length ≤ j) (h1 : 0 ≤ j) (h2 : j ≤ n.ns.length) (hm : (n.ns.length : Int) - j ≤ (r : Int)) (H : St (frz S :: MK X :: vc true accV 3 1 (acc.map (V.int .i64)) :: ndr nb n :: l) h),
 Tri h false l (rX S X 1 PU) (M 61 [.ptr X.mb 0, .ptr nb 0, exV, accV, n.nsV, .int .i64 (n.ns.length : Nat), .int .i64 j] h) := by
 have fin : ∀ {S : Mem} {X : MS} {h : Hp} {l : List Asn} {acc : List Int} {accV : V} {j : Int} (I : Inv1 S X) (hp : ∃ fu, X.fu = fu ++ [p]) (hex : Ints S exV es) (hes : ∀ f, X.fns[p.1]? = some f → In f.es.length es ∧ In f.sl acc) (hu : X.u + 1 ≤ 100000) (h2 : (n.ns.length : Int) ≤ j) (hal : acc.length ≤ 1000000) (H : St (frz S :: MK X :: vc true accV 3 1 (acc.map (V.int .i64)) :: ndr nb n :: l) h),
  Tri h false l (rX S X 1 PU) (M 61 [.ptr X.mb 0, .ptr nb 0, exV, accV, n.nsV, .int .i64 (n.ns.length : Nat), .int .i64 j] h) := by
  intro S X h l acc accV j I hp hex hes hu h2 hal H
  unfold ndr at H
  refine t7 e61 fun L => ?_
  unfold B61
  refine Tri.lss (fun e => by omega) (fun e => ?_)
  apply Tri.iff
  apply Tri.addr
  refine Tri.load 3 H rfl rfl ?_
  obtain ⟨S1, g1, H, g3⟩ := freezeI H.u2 hal
  refine Tri.bldS (w := .agg [.int .u8 1, accV, .nilSlice, exV, .int .i64 0, .int .i64 0, .int .i64 n.ln]) (by rcases g3 with ⟨rfl, _⟩ | ⟨b, c, g, rfl, _⟩ <;> rcases hex with ⟨rfl, _⟩ | ⟨b, c, g, rfl, _⟩ <;> rfl) ?_
  refine tb (stmt_ok (s := ⟨1, accV, .nilSlice, exV, 0, 0, n.ln, acc, [], es⟩) (I.leS g1) hp (fun f hf => ⟨gln, by show (-1 : Int) ≤ 0; decide, by show (-1 : Int) ≤ 0; decide, g3, .inl ⟨rfl, rfl⟩, hex.le g1, (hes f hf).2, in_nil _, (hes f hf).1⟩) hu H) L fun v h B hq H L => ?_
  obtain ⟨S4, X4, rfl, I4, E4, u4, j4, f4, rfl, t4, j5, j6⟩ := hq
  exact Tri.done (B := [frz S4, MK X4]) ⟨S4, X4, rfl, I4, (Ext1.leS g1).trans E4, u4, rfl⟩ H.x2 L
 induction r with
 | zero =>
  intro S X h l acc accV j I hp hnv hns hex hes hu hacc h1 h2 hm H
  exact fin I hp hex hes hu (by omega) (by omega) H
 | succ r ih =>
  intro S X h l acc accV j I hp hnv hns hex hes hu hacc h1 h2 hm H
  by_cases hlt : j < (n.ns.length : Int)
  ·unfold ndr at H
   refine t7 e61 fun L => ?_
   unfold B61
   refine Tri.lss (fun e => ?_) (fun e => by omega)
   apply Tri.ift
   refine FSl.idx (by assumption) (by omega) (by omega) fun b1 o1 hb1 => ?_
   have hc1 := hb1
   clear hc1
   refine Tri.loadF 0 H rfl (by assumption) ?_
   apply Tri.addr
   refine Tri.load 3 H rfl rfl ?_
   refine tb (add0 I hp H) L fun v h B hq H L => ?_
   obtain ⟨S1, X1, rfl, I1, E1, u1, q, f1, rfl, t1, q1, q2⟩ := hq
   rw [← E1.mb]
   refine Tri.bld (e := _) (s := _) H L rfl rfl fun b10 h hb10 H L => ?_
   replace H := H.d2
   refine Tri.app 3 acc.length 1 H rfl (H.newCells (i := 2) rfl rfl) (by decide) (by simp) rfl (by omega) (by omega) rfl L (Own.off _ _) fun v' h H L O o1 => ?_
   replace H := H.x2
   have e1 : acc.map (V.int .i64) ++ (V.int .i64 q :: [].append []) = (acc ++ [q]).map (V.int .i64) := by rw [List.map_append]; rfl
   replace H : St (_ :: _ :: vc true v' 3 1 (acc.map (V.int .i64) ++ (V.int .i64 q :: [].append [])) :: _) _ := H
   rw [e1] at H
   refine Tri.addN (by omega) (by omega) ?_
   obtain ⟨f0, T0⟩ := I.top_ hp
   refine Tri.tail (ih (acc := acc ++ [q]) (j := j + 1) I1 (by rw [E1.fu]; exact hp) (FSl.mono hnv fun b o a h => E1.le _ _ _ h) hns (hex.le E1.le) (fun g hg => ?_) (by omega) (by simp; omega) (by omega) (by omega) (by omega) H) L (fun e => e) fun v h B hq H L => ⟨B, rX_mono E1 (by omega) (fun _ _ _ h => h) hq, H⟩
   rw [t1] at hg; cases hg
   obtain ⟨f2, g1, g2⟩ := E1.fns _ f0 T0.at_
   rw [t1] at g1; cases g1
   have := hes f0 T0.at_
   refine ⟨this.1.mono (by have := g2.es; omega), fun y hy => ?_⟩
   rcases List.mem_append.1 hy with hy | hy
   ·exact (this.2.mono g2.sl) y hy
   ·rw [List.mem_singleton] at hy; subst hy; exact ⟨q1, q2⟩
  ·exact fin I hp hex hes hu (by omega) (by omega) H
abbrev TN (nds : List Nd) (W : Nat) (key : Nat) (n : Nd) : Prop := ∀ {S : Mem} {X : MS} {p : Nat × Nat} {h : Hp} {l : List Asn}, Inv1 S X → (∃ fu, X.fu = fu ++ [p]) → NdsIn S X.nv nds → NdIn S n → X.u + 8 * W ≤ 100000 → St (frz S :: MK X :: l) h → Tri h false l (rX S X (8 * W) PU) (M key [.ptr X.mb 0, n.V] h)
def LpOk (X : MS) (p : Nat × Nat) (lp : Option (Nat × Nat)) : Prop := ∀ c, lp = some c → ∃ l, X.cls[c.1]? = some l ∧ l.cb = c.2 ∧ l.own = p.1
def BSpec (nds : List Nd) (w : Nat → Nat) (k : Int) : Prop := ∀ {S : Mem} {X : MS} {p : Nat × Nat} {h : Hp} {l : List Asn} {lp : Option (Nat × Nat)}, Inv1 S X → (∃ fu, X.fu = fu ++ [p]) → NdsIn S X.nv nds → X.u + (8 * w k.toNat - 7) ≤ 100000 → LpOk X p lp → St (frz S :: MK X :: l) h →
 Tri h false l (rX S X (8 * w k.toNat - 7) PU) (M 58 [.ptr X.mb 0, .int .i64 k, lpV lp, .nilFunc] h)
theorem sumW_split (w : Nat → Nat) (ks : List Int) (m : Nat) : sumW w (ks.take m) + sumW w (ks.drop m) = sumW w ks := by
 unfold sumW; rw [← List.sum_append, ← List.map_append, List.take_append_drop]
theorem le_sumW (w : Nat → Nat) {k : Int} : ∀ {ks : List Int}, k ∈ ks → w k.toNat ≤ sumW w ks
 | a :: ks, h => by
  have e : sumW w (a :: ks) = w a.toNat + sumW w ks := by unfold sumW; rw [List.map_cons, List.sum_cons]
  rw [e]
  rcases List.mem_cons.1 h with h | h
  ·rw [h]; omega
  ·have := le_sumW w h; omega
theorem k63t {p : Nat × Nat} {nb : Nat} {fv ksV kv : V} {W : Nat} (hL : TN nds W 186 n) (I : Inv1 S X) (hp : ∃ fu, X.fu = fu ++ [p]) (hn : NdsIn S X.nv nds) (x : NdIn S n) (hu : X.u + 8 * W ≤ 100000) (H : St (frz S :: MK X :: ndr nb n :: l) h) :
 Tri h false l (rX S X (8 * W) PU) (M 63 [.ptr X.mb 0, .ptr nb 0, fv, ksV, kv, .bool true] h) := by
 unfold ndr at H
 refine t6 e63 fun L => ?_
 unfold B63
 apply Tri.ift
 refine ls 2 H rfl rfl ?_
 refine tb (hL I hp hn x hu H) L fun v h B hq H L => ?_
 obtain ⟨S1, X1, rfl, I1, E1, u1, rfl⟩ := hq
 exact Tri.done (B := [frz S1, MK X1]) ⟨S1, X1, rfl, I1, E1, u1, rfl⟩ H.x2 L
theorem k8 {p : Nat × Nat} {nb : Nat} {fv ksV : V} {W : Nat} (hL : TN nds W 188 n) (I : Inv1 S X) (hp : ∃ fu, X.fu = fu ++ [p]) (hn : NdsIn S X.nv nds) (x : NdIn S n) (hu : X.u + 8 * W ≤ 100000) (H : St (frz S :: MK X :: ndr nb n :: l) h) :
 Tri h false l (rX S X (8 * W) PU) (M 63 [.ptr X.mb 0, .ptr nb 0, fv, ksV, .int .u8 8, .bool false] h) := by
 unfold ndr at H
 refine t6 e63 fun L => ?_
 unfold B63
 apply Tri.iff
 refine Tri.eql (fun _ => ?_) (fun e => absurd e (by decide))
 apply Tri.ift
 refine ls 2 H rfl rfl ?_
 refine tb (hL I hp hn x hu H) L fun v h B hq H L => ?_
 obtain ⟨S1, X1, rfl, I1, E1, u1, rfl⟩ := hq
 exact Tri.done (B := [frz S1, MK X1]) ⟨S1, X1, rfl, I1, E1, u1, rfl⟩ H.x2 L
theorem k63n {nb : Nat} {fv ksV : V} {kd : Int} {W : Nat} (hk : kd ≠ 8 ∧ kd ≠ 11 ∧ kd ≠ 12 ∧ kd ≠ 13 ∧ kd ≠ 14) (I : Inv1 S X) (H : St (frz S :: MK X :: ndr nb n :: l) h) :
 Tri h false l (rX S X W PU) (M 63 [.ptr X.mb 0, .ptr nb 0, fv, ksV, .int .u8 kd, .bool false] h) := by
 unfold ndr at H
 refine t6 e63 fun L => ?_
 unfold B63
 apply Tri.iff
 refine Tri.eql (fun e => absurd e hk.1) (fun _ => ?_)
 apply Tri.iff
 refine Tri.eql (fun e => absurd e hk.2.1) (fun _ => ?_)
 apply Tri.iff
 refine Tri.eql (fun e => absurd e hk.2.2.1) (fun _ => ?_)
 apply Tri.iff
 refine Tri.eql (fun e => absurd e hk.2.2.2.1) (fun _ => ?_)
 apply Tri.iff
 refine Tri.eql (fun e => absurd e hk.2.2.2.2) (fun _ => ?_)
 apply Tri.iff
 exact Tri.done (B := [frz S, MK X]) ⟨S, X, rfl, I, Ext1.refl S X, Nat.le_add_right _ _, rfl⟩ H.x2 L
theorem stat_ok (hs : Shape n) (h15 : n.kd ≠ 15) (hE : ∀ k ∈ n.ks, ESpec nds w k) (hB : ∀ k ∈ n.ks, BSpec nds w k) (hL : n.kd = 6 ∨ n.kd = 7 ∨ n.kd = 9 ∨ n.kd = 10 → TN nds (1 + sumW w n.ks) 186 n) (hC : n.kd = 8 → TN nds (1 + sumW w n.ks) 188 n) (hkl : n.ks.length ≤ 100000) :
 TN nds (1 + sumW w n.ks) 116 n := by
 intro S X p h l I hp hn x hu H
 obtain ⟨f, T⟩ := I.top_ hp
 have gln := hs.ln
 have hkv := x.ks
 have hnv := x.ns
 have hone := x.one
 refine t2 e116 fun L => ?_
 unfold B116
 refine Tri.newS H L fun b0 h hb0 H L => ?_
 replace H := H.d2
 have Ho := H
 refine Tri.wrote (top106 T (H.draw _)) L (fun _ => rfl) fun v h2 h B hq H2 hn20 hl20 eh H L => ?_
 obtain ⟨rfl, rfl⟩ := hq
 apply Tri.addr
 refine Tri.load 2 Ho rfl rfl ?_
 refine Tri.cd (by rw [show pureB _ _ = true from Nat.ble_eq_true_of_le (hl20 rfl)]; rfl) ?_
 apply Tri.addr
 refine Tri.load 2 H rfl rfl ?_
 refine Tri.eql (fun k2 => ?_) (fun k2 => ?_)
 ·apply Tri.ift
  refine tb (exprs_ok hE I hp hn hkv (by omega) hkl H) L fun v h B hq H L => ?_
  obtain ⟨S1, X1, rfl, I1, E1, u1, es, f1, i1, t1, y1⟩ := hq
  rw [← E1.mb]
  have hnv1 : FSl 1 (StrAt S1) n.nsV n.ns := FSl.mono hnv fun b o a h => E1.le _ _ _ h
  apply Tri.addr
  refine Tri.load 2 H rfl rfl ?_
  apply bL
  refine FSl.len (by assumption) ?_
  apply Tri.bs
  have H2 : St (_ :: _ :: vc true .nilSlice 3 1 (([] : List Int).map (V.int .i64)) :: ndr b0 n :: _) _ := (H.vc_new true 3 1).ins 2
  refine Tri.tail (loop61 (acc := []) gln n.ns.length I1 (by rw [E1.fu]; exact hp) hnv1 (hs.s.2.2.2.2.2.2.2 (.inl k2)) i1 (fun g hg => ⟨by rw [t1] at hg; cases hg; exact y1, in_nil _⟩) (by omega) (by simp) (by omega) (by omega) (by omega) H2) L (fun e => e) fun v h B hq H L => ⟨B, rX_mono E1 (by omega) (fun _ _ _ h => h) hq, H⟩
 apply Tri.iff
 refine Tri.eql (fun k3 => ?_) (fun k3 => ?_)
 ·have hk3 := hs.s.1 k3
  apply Tri.ift
  apply Tri.addr
  refine Tri.load 2 H rfl rfl ?_
  have hsp := sumW_split w n.ks n.num.toNat
  refine FSl.cutHi hkv (by omega) (by omega) fun v1 hv1 => ?_
  refine tb (exprs_ok (fun k hk => hE k (List.mem_of_mem_take hk)) I hp hn hv1 (by omega) (by rw [List.length_take]; omega) H) L fun v h B hq H L => ?_
  obtain ⟨S1, X1, rfl, I1, E1, u1, es, f1, i1, t1, y1⟩ := hq
  rw [← E1.mb]
  apply Tri.addr
  refine Tri.load 2 H rfl rfl ?_
  refine FSl.cutLo (FSl.mono hkv fun b o a h => E1.le _ _ _ h) (by omega) (by omega) fun v2 hv2 => ?_
  have Ho2 := H
  refine Tri.wrote (exprs_ok (fun k hk => hE k (List.mem_of_mem_drop hk)) I1 (by rw [E1.fu]; exact hp) (by rw [E1.nv]; exact ndsIn_le hn E1.le) hv2 (by omega) (by rw [List.length_drop]; omega) (H.draw _)) L (fun e => e) fun v2 h2 h B hq H2 hn20 hl20 eh H L => ?_
  obtain ⟨S2, X2, rfl, I2, E2, u2, es2, f2, i2, t2, y2⟩ := hq
  rw [← E2.mb]
  apply Tri.addr
  refine Tri.load 2 Ho2 rfl rfl ?_
  refine Tri.cd (cdS (Ho2.row_cell (i := 2) (o := 5) rfl (by show 5 < 6; decide)) (H.row_cell (i := 2) (o := 5) rfl (by show 5 < 6; decide))) ?_
  refine Tri.bldS (w := .agg [.int .u8 2, .nilSlice, v, v2, .int .i64 0, .int .i64 0, .int .i64 n.ln]) (by rcases i1 with ⟨rfl, _⟩ | ⟨b, c, g, rfl, _⟩ <;> rcases i2 with ⟨rfl, _⟩ | ⟨b, c, g, rfl, _⟩ <;> rfl) ?_
  refine tb (stmt_ok (s := ⟨2, .nilSlice, v, v2, 0, 0, n.ln, [], es, es2⟩) I2 (by rw [E2.fu, E1.fu]; exact hp) (fun f hf => ⟨gln, by show (-1 : Int) ≤ 0; decide, by show (-1 : Int) ≤ 0; decide, .inl ⟨rfl, rfl⟩, i1.le E2.le, i2, in_nil _, ?_, by rw [t2] at hf; cases hf; exact y2⟩) (by omega) H) L fun v h B hq H L => ?_
  ·obtain ⟨f3, g4, g5⟩ := E2.fns _ f1 t1
   rw [g4] at hf; cases hf
   exact y1.mono (by have := g5.es; omega)
  obtain ⟨S4, X4, rfl, I4, E4, u4, j4, f4, rfl, t4, j5, j6⟩ := hq
  exact Tri.done (B := [frz S4, MK X4]) ⟨S4, X4, rfl, I4, E1.trans (E2.trans E4), by omega, rfl⟩ H.x2 L
 apply Tri.iff
 refine Tri.eql (fun k4 => ?_) (fun k4 => ?_)
 ·apply Tri.ift
  have Ho2 := H
  refine Tri.wrote (exprs_ok hE I hp hn hkv (by omega) hkl (H.draw _)) L (fun e => e) fun v2 h2 h B hq H2 hn20 hl20 eh H L => ?_
  obtain ⟨S2, X2, rfl, I2, E2, u2, es2, f2, i2, t2, y2⟩ := hq
  rw [← E2.mb]
  apply Tri.addr
  refine Tri.load 2 Ho2 rfl rfl ?_
  refine Tri.cd (cdS (Ho2.row_cell (i := 2) (o := 5) rfl (by show 5 < 6; decide)) (H.row_cell (i := 2) (o := 5) rfl (by show 5 < 6; decide))) ?_
  refine Tri.bldS (w := .agg [.int .u8 3, .nilSlice, .nilSlice, v2, .int .i64 0, .int .i64 0, .int .i64 n.ln]) (by rcases i2 with ⟨rfl, _⟩ | ⟨b, c, g, rfl, _⟩ <;> rfl) ?_
  refine tb (stmt_ok (s := ⟨3, .nilSlice, .nilSlice, v2, 0, 0, n.ln, [], [], es2⟩) I2 (by rw [E2.fu]; exact hp) (fun f hf => ⟨gln, by show (-1 : Int) ≤ 0; decide, by show (-1 : Int) ≤ 0; decide, .inl ⟨rfl, rfl⟩, .inl ⟨rfl, rfl⟩, i2, in_nil _, in_nil _, by rw [t2] at hf; cases hf; exact y2⟩) (by omega) H) L fun v h B hq H L => ?_
  obtain ⟨S4, X4, rfl, I4, E4, u4, j4, f4, rfl, t4, j5, j6⟩ := hq
  exact Tri.done (B := [frz S4, MK X4]) ⟨S4, X4, rfl, I4, E2.trans E4, by omega, rfl⟩ H.x2 L
 apply Tri.iff
 refine Tri.eql (fun k5 => ?_) (fun k5 => ?_)
 ·have hk5 := hs.s.2.1 k5
  apply Tri.ift
  refine FSl.idx (by assumption) (by omega) (by omega) fun b21 o21 hb21 => ?_
  have hc21 := hb21
  clear hc21
  refine Tri.loadF 0 H rfl (by assumption) ?_
  have hmem := List.getElem_mem (l := n.ks) (n := 0) (by omega)
  have hle := le_sumW w hmem
  refine tb (hB _ hmem (lp := none) I hp hn (by omega) (fun c e => nomatch e) H) L fun v h B hq H L => ?_
  obtain ⟨S1, X1, rfl, I1, E1, u1, rfl⟩ := hq
  exact Tri.done (B := [frz S1, MK X1]) ⟨S1, X1, rfl, I1, E1, by omega, rfl⟩ H.x2 L
 apply Tri.iff
 refine Tri.eql (fun k6 => ?_) (fun k6 => ?_)
 ·apply Tri.ift
  refine te (k63t (hL (by omega)) I hp hn x hu H) L
 apply Tri.iff
 refine Tri.eql (fun k7 => ?_) (fun k7 => ?_)
 ·apply Tri.ift
  refine te (k63t (hL (by omega)) I hp hn x hu H) L
 apply Tri.iff
 refine Tri.eql (fun k9 => ?_) (fun k9 => ?_)
 ·apply Tri.ift
  refine te (k63t (hL (by omega)) I hp hn x hu H) L
 apply Tri.iff
 refine Tri.eql (fun k10 => ?_) (fun k10 => ?_)
 ·refine te (k63t (hL (by omega)) I hp hn x hu H) L
 by_cases e8 : n.kd = 8
 ·rw [e8]
  refine te (FP.k8 (hC e8) I hp hn x hu H) L
 by_cases e11 : n.kd = 11
 ·rw [e11]
  refine Tri.tail (FP.k11 hE I hp hn x (hs.s.2.2.2.2.2.2.1 e11) gln (by omega) hkl H) L (fun e => e) fun v h B hq H L => ⟨B, rX_mono (Ext1.refl S X) (by omega) (fun _ _ _ h => h) hq, H⟩
 by_cases e12 : n.kd = 12
 ·rw [e12]
  refine Tri.tail (FP.k12 hE I hp hn x gln (by omega) hkl H) L (fun e => e) fun v h B hq H L => ⟨B, rX_mono (Ext1.refl S X) (by omega) (fun _ _ _ h => h) hq, H⟩
 by_cases e13 : n.kd = 13
 ·rw [e13]
  refine Tri.tail (FP.k13 I hp x gln (by omega) H) L (fun e => e) fun v h B hq H L => ⟨B, rX_mono (Ext1.refl S X) (by omega) (fun _ _ _ h => h) hq, H⟩
 by_cases e14 : n.kd = 14
 ·rw [e14, T.fb]
  refine Tri.tail (FP.k14 I hp gln (by omega) H) L (fun e => e) fun v h B hq H L => ⟨B, rX_mono (Ext1.refl S X) (by omega) (fun _ _ _ h => h) hq, H⟩
 refine te (k63n (kd := n.kd) ⟨e8, e11, e12, e13, e14⟩ I H) L
abbrev rMc (S : Mem) (X : MS) (mc : Nat) : V → List Asn → Prop := fun v B => (∃ b, v = .bool b) ∧ B = [frz S, MK X, row mc [.ptr X.mb 0]]
theorem q112 {k : Int} {mc : Nat} (hn : NdsIn S X.nv nds) (h1 : 0 ≤ k) (h2 : k < (nds.length : Int)) (H : St (frz S :: MK X :: row mc [.ptr X.mb 0] :: l) h) : Tri h true l (rMc S X mc) (M 112 [.int .i64 k, .ptr mc 0] h) := by
 refine t2 e112 fun L => ?_
 unfold B112
 refine Tri.load 2 H rfl rfl ?_
 apply Tri.nil
 apply Tri.addr
 apply Tri.addr
 refine Tri.loadC (mk_cell H (i := 0 + 1) (o := 0) rfl rfl) ?_
 refine FSl.idx (by assumption) (by omega) (by omega) fun b10 o10 hb10 => ?_
 have hc10 := hb10
 obtain ⟨c10_0, c10_1, c10_2, c10_3, c10_4, c10_5, c10_6⟩ := hc10
 obtain ⟨c10_7, c10_8, c10_9⟩ := NdIn.three c10_6
 apply Tri.addr
 refine Tri.loadF 0 H rfl (by assumption) ?_
 exact Tri.done (B := [frz S, MK X, row mc [.ptr X.mb 0]]) ⟨⟨_, rfl⟩, rfl⟩ H L
theorem q99 {ks : List Int} {mc : Nat} (hn : NdsIn S X.nv nds) (hv : FSl 1 (IntAt S) v ks) (hk : ∀ k ∈ ks, 0 ≤ k ∧ k < (nds.length : Int)) (m : Nat) : ∀ {j : Int} {h : Hp} (H : St (frz S :: MK X :: row mc [.ptr X.mb 0] :: l) h) (h1 : 0 ≤ j) (hm : (ks.length : Int) - j ≤ (m : Int)),
 Tri h true l (fun v B => (∃ b, v = .int .i64 b) ∧ B = [frz S, MK X, row mc [.ptr X.mb 0]]) (M 99 [v, .func 56 [] [.ptr mc 0], .int .i64 (ks.length : Nat), .int .i64 j] h) := by
 have hsm := hv.small
 induction m with
 | zero =>
  intro j h H h1 hm
  refine t4 e99 fun L => ?_
  unfold B99
  refine Tri.lss (fun e => by omega) (fun e => ?_)
  apply Tri.iff
  exact Tri.done (B := [frz S, MK X, row mc [.ptr X.mb 0]]) ⟨⟨_, rfl⟩, rfl⟩ H L
 | succ m ih =>
  intro j h H h1 hm
  refine t4 e99 fun L => ?_
  unfold B99
  refine Tri.lss (fun e => ?_) (fun e => ?_)
  ·apply Tri.ift
   refine FSl.idx (by assumption) (by omega) (by omega) fun b1 o1 hb1 => ?_
   have hc1 := hb1
   clear hc1
   refine Tri.loadF 0 H rfl (by assumption) ?_
   refine Tri.eqv (congrArg (fun x => bindS x _) (dyn_at _ _ _ _ _ _)) ?_
   have hkj := hk _ (List.getElem_mem (l := ks) (n := j.toNat) (by omega))
   refine tb1 (q112 hn hkj.1 hkj.2 H) L fun v h B hq H L => ?_
   obtain ⟨⟨r, rfl⟩, rfl⟩ := hq
   cases r
   ·apply Tri.iff
    refine Tri.addN (by omega) (by omega) ?_
    exact te1 (ih H (by omega) (by omega)) L
   ·apply Tri.ift
    exact Tri.done (B := [frz S, MK X, row mc [.ptr X.mb 0]]) ⟨⟨_, rfl⟩, rfl⟩ H L
  ·apply Tri.iff
   exact Tri.done (B := [frz S, MK X, row mc [.ptr X.mb 0]]) ⟨⟨_, rfl⟩, rfl⟩ H L
theorem q110 {ks : List Int} {mc : Nat} (hn : NdsIn S X.nv nds) (hv : FSl 1 (IntAt S) v ks) (hk : ∀ k ∈ ks, 0 ≤ k ∧ k < (nds.length : Int)) (H : St (frz S :: MK X :: row mc [.ptr X.mb 0] :: l) h) : Tri h true l (rMc S X mc) (M 110 [v, .func 56 [] [.ptr mc 0]] h) := by
 have q174 : Tri h true l (fun v B => (∃ b, v = .int .i64 b) ∧ B = [frz S, MK X, row mc [.ptr X.mb 0]]) (M 174 [v, .func 56 [] [.ptr mc 0]] h) := by
  refine t2 e174 fun L => ?_
  unfold B174
  apply bL
  refine FSl.len (by assumption) ?_
  apply Tri.bs
  exact te1 (q99 hn hv hk ks.length H (by omega) (by omega)) L
 refine t2 e110 fun L => ?_
 unfold B110
 refine Tri.bind q174 L (fun _ => rfl) fun v h B hq H L => ?_
 obtain ⟨⟨r, rfl⟩, rfl⟩ := hq
 refine Tri.geq (fun e => ?_) (fun e => ?_)
 ·exact Tri.done (B := [frz S, MK X, row mc [.ptr X.mb 0]]) ⟨⟨_, rfl⟩, rfl⟩ H L
 ·exact Tri.done (B := [frz S, MK X, row mc [.ptr X.mb 0]]) ⟨⟨_, rfl⟩, rfl⟩ H L
def KSpec (nds : List Nd) (w : Nat → Nat) (k : Int) : Prop := ∀ n, nds[k.toNat]? = some n → 1 ≤ w k.toNat ∧ (n.kd ≠ 15 → TN nds (w k.toNat) 116 n)
theorem _root_.Go.Mid.Tri.eqFn {g : FuncId} {c : List V} {t : TypeDesc} (ht : t = .func #[] #[] false) (hk : Tri h0 ro F Q (k (.bool false))) : Tri h0 ro F Q (eqS t .eql (.func g [] c) .nilFunc k) := by subst ht; exact hk
theorem _root_.Go.Mid.Tri.eqFnN {t : TypeDesc} (ht : t = .func #[] #[] false) (hk : Tri h0 ro F Q (k (.bool true))) : Tri h0 ro F Q (eqS t .eql .nilFunc .nilFunc k) := by subst ht; exact hk
theorem loop49 {S0 : Mem} {X0 : MS} {a3 v : V} {mc N : Nat} {ks : List Int} {p : Nat × Nat} (ha3 : a3 = .nilFunc ∨ ∃ g c, a3 = .func g [] c) (hn : NdsIn S0 X0.nv nds) (hv : FSl 1 (IntAt S0) v ks) (hk : ∀ k ∈ ks, 0 ≤ k ∧ k < (nds.length : Int)) (hS : ∀ k ∈ ks, KSpec nds w k)
 (hp : ∃ fu, X0.fu = fu ++ [p]) (hbl : ∃ f, X0.fns[p.1]? = some f ∧ f.bl ≠ []) (hN : N ≤ 100000)
 (hend : ∀ {S1 : Mem} {X1 : MS} {h1 : Hp}, Inv1 S1 X1 → Ext1 S0 X0 S1 X1 → X1.u ≤ N → St (frz S1 :: MK X1 :: row mc [.ptr X1.mb 0] :: l) h1 → Tri h1 false F Q (M 49 [a3, .ptr mc 0, v, v, .int .i64 (ks.length : Nat), .int .i64 (ks.length : Nat)] h1))
 (r : Nat) : ∀ {S : Mem} {X : MS} {h : Hp} {j : Int} (I : Inv1 S X) (E : Ext1 S0 X0 S X) (hu : X.u + 8 * sumW w (ks.drop j.toNat) ≤ N) (h1 : 0 ≤ j) (h2 : j ≤ (ks.length : Int)) (hm : (ks.length : Int) - j ≤ (r : Int)) (H : St (frz S :: MK X :: row mc [.ptr X.mb 0] :: l) h),
   Tri h false F Q (M 49 [a3, .ptr mc 0, v, v, .int .i64 (ks.length : Nat), .int .i64 j] h) := by
 have hsm := hv.small
 induction r with
 | zero =>
  intro S X h j I E hu h1 h2 hm H
  obtain rfl : j = (ks.length : Nat) := by omega
  exact hend I E (by omega) H
 | succ r ih =>
  intro S X h j I E hu h1 h2 hm H
  by_cases hlt : j < (ks.length : Int)
  ·have hn' : NdsIn S X.nv nds := by rw [E.nv]; exact ndsIn_le hn E.le
   have hv' : FSl 1 (IntAt S) v ks := FSl.mono hv fun b o a h => E.le _ _ _ h
   have hmem := List.getElem_mem (l := ks) (n := j.toNat) (by omega)
   have hkj := hk _ hmem
   obtain ⟨hw1, hSt⟩ := hS _ hmem _ (List.getElem?_eq_getElem (by omega))
   have hdr : ks.drop j.toNat = ks[j.toNat]'(by omega) :: ks.drop (j.toNat + 1) := List.drop_eq_getElem_cons _
   have hsum : sumW w (ks.drop j.toNat) = w (ks[j.toNat]'(by omega)).toNat + sumW w (ks.drop (j.toNat + 1)) := by rw [hdr]; unfold sumW; rw [List.map_cons, List.sum_cons]
   clear hv hn
   refine t6 e49 fun L => ?_
   unfold B49
   refine Tri.lss (fun e => ?_) (fun e => by omega)
   apply Tri.ift
   refine FSl.idx (by assumption) (by omega) (by omega) fun b1 o1 hb1 => ?_
   have hc1 := hb1
   clear hc1
   refine Tri.loadF 0 H rfl (by assumption) ?_
   refine Tri.load 2 H rfl rfl ?_
   apply Tri.nil
   apply Tri.addr
   apply Tri.addr
   refine Tri.loadC (mk_cell H (i := 0 + 1) (o := 0) rfl rfl) ?_
   refine FSl.idx (by assumption) (by omega) (by omega) fun b10 o10 hb10 => ?_
   have hc10 := hb10
   obtain ⟨c10_0, c10_1, c10_2, c10_3, c10_4, c10_5, c10_6⟩ := hc10
   obtain ⟨c10_7, c10_8, c10_9⟩ := NdIn.three c10_6
   refine Tri.loadsF 0 (by decide) H rfl rfl (NdAt.cells (by assumption)) ?_
   refine Tri.newS H L fun b12 h hb12 H L => ?_
   replace H := H.d2
   refine Tri.stores 2 (by decide) H rfl rfl (Nat.le_of_ble_eq_true rfl) L (fun e => nomatch e) (by first | rfl | assumption) fun h H L => ?_
   apply Tri.addr
   refine Tri.load 2 H rfl rfl ?_
   have x := c10_6
   generalize hnd : nds[(ks[j.toNat]'(by omega)).toNat]'(by omega) = n at *
   have hp' : ∃ fu, X.fu = fu ++ [p] := by rw [E.fu]; exact hp
   have hbl' : ∀ f, X.fns[p.1]? = some f → f.bl ≠ [] := fun f hf => by
    obtain ⟨f0, T0, hb0⟩ := hbl
    obtain ⟨f2, g1, g2⟩ := E.fns _ f0 T0
    rw [hf] at g1; cases g1
    rw [g2.bl]; exact hb0
   have next : ∀ {S1 : Mem} {X1 : MS} {h : Hp}, Inv1 S1 X1 → Ext1 S X S1 X1 → X1.u ≤ X.u + 8 * w (ks[j.toNat]'(by omega)).toNat → St (frz S1 :: MK X1 :: row mc [.ptr X1.mb 0] :: l) h →
    Tri h false F Q (M 51 [a3, .ptr mc 0, v, v, .int .i64 (ks.length : Nat), .int .i64 j] h) := by
    intro S1 X1 h I1 E1 u1 H
    refine t6 e51 fun L => ?_
    unfold B51
    refine Tri.addN (by omega) (by omega) ?_
    refine te (ih (j := j + 1) I1 (E.trans E1) (by rw [show (j + 1).toNat = j.toNat + 1 by omega]; omega) (by omega) (by omega) (by omega) H) L
   refine Tri.eql (fun k15 => ?_) (fun k15 => ?_)
   ·apply Tri.ift
    rcases ha3 with rfl | ⟨g, c, rfl⟩
    ·refine Tri.eqFnN rfl ?_
     apply gtt
     apply bB
     refine FSl.cutLo hv' h1 h2 fun v1 hv1 => ?_
     replace H := (H.out 3).ins 2
     apply bB
     refine tb0 (q110 hn' hv1 (fun k hk' => hk k (List.mem_of_mem_drop hk')) H) L fun v2 h B hq H L => ?_
     obtain ⟨⟨rb, rfl⟩, rfl⟩ := hq
     refine Tri.eqv (bind_notS _ _) ?_
     apply Tri.not
     apply Tri.bs
     apply pT
     refine Tri.load 2 H rfl rfl ?_
     refine ls 3 H rfl rfl ?_
     refine tb (label_ok I hp' x hbl' (by omega) ((H.out 3).ins 2)) L fun v h B hq H L => ?_
     obtain ⟨S1, X1, rfl, I1, E1, u1, rfl⟩ := hq
     rw [← E1.mb] at H
     exact te (next I1 E1 (by omega) H.x2) L
    ·refine Tri.eqFn rfl ?_
     apply gft
     apply pF
     refine Tri.load 3 H rfl rfl ?_
     refine ls 2 H rfl rfl ?_
     refine tb (label_ok (last := false) I hp' x hbl' (by omega) H) L fun v h B hq H L => ?_
     obtain ⟨S1, X1, rfl, I1, E1, u1, rfl⟩ := hq
     rw [← E1.mb] at H
     exact te (next I1 E1 (by omega) H.x2) L
   ·apply Tri.iff
    refine Tri.load 3 H rfl rfl ?_
    refine ls 2 H rfl rfl ?_
    refine tb (hSt k15 I hp' hn' x (by omega) H) L fun v h B hq H L => ?_
    obtain ⟨S1, X1, rfl, I1, E1, u1, rfl⟩ := hq
    rw [← E1.mb] at H
    exact te (next I1 E1 u1 H.x2) L
  ·obtain rfl : j = (ks.length : Nat) := by omega
   exact hend I E (by omega) H
theorem closed_ext {S0 S2 : Mem} {X2 : MS} {p : Nat × Nat} {f f2 : Fn} {bb : Nat} {lp : Option (Nat × Nat)} {blV blV' vaV : V} {X : MS} (T : Top X p f) (E : Ext1 S0 (X.opened p.1 f bb lp blV) S2 X2) (h2 : X2.fns[p.1]? = some f2) :
 Ext1 S0 X S2 (X2.closed p.1 f2 vaV blV' f.va.length f.bl) := by
 obtain ⟨hlt, _⟩ := List.getElem?_eq_some_iff.1 T.at_
 obtain ⟨hlt2, _⟩ := List.getElem?_eq_some_iff.1 h2
 have hop : ∀ j, j ≠ p.1 → (X.opened p.1 f bb lp blV).fns[j]? = X.fns[j]? := fun j hj => List.getElem?_set_ne (Ne.symm hj)
 have hcl : ∀ j, j ≠ p.1 → (X2.closed p.1 f2 vaV blV' f.va.length f.bl).fns[j]? = X2.fns[j]? := fun j hj => List.getElem?_set_ne (Ne.symm hj)
 obtain ⟨f3, g1, g2⟩ := E.fns p.1 _ (List.getElem?_set_self hlt)
 rw [h2] at g1; cases g1
 refine ⟨E.le, E.fe, E.mb, E.nv, E.fu, fun j g hg => ?_, E.nst, fun j b hb => ?_, fun j c hc => E.cls j c hc, Nat.le_trans (Nat.le_succ _) E.u⟩
 ·by_cases e : j = p.1
  ·subst e
   rw [T.at_] at hg; cases hg
   refine ⟨_, List.getElem?_set_self hlt2, g2.fb, rfl, g2.ps, g2.es, g2.ss, g2.sl, g2.up, ?_⟩
   show f.va.length ≤ (f2.va.take f.va.length).length
   have := g2.va
   have : f.va.length ≤ f2.va.length := this
   rw [List.length_take]; omega
  ·rw [hcl j e]
   exact E.fns j g (by rw [hop j e]; exact hg)
 ·exact E.bks j b (by
   show (X.bks ++ [_])[j]? = some b
   rw [List.getElem?_append_left (List.getElem?_eq_some_iff.1 hb).1]; exact hb)
theorem c47 {S1 : Mem} {X1 : MS} {p : Nat × Nat} {bb mc : Nat} {lp : Option (Nat × Nat)} {blV : V} (I1 : Inv1 S1 X1) (E1 : Ext1 S (X.opened p.1 f bb lp blV) S1 X1) (T : Top X p f) (H : St (frz S1 :: MK X1 :: row mc [.ptr X1.mb 0] :: l) h) :
 Tri h false l (fun v B => v = .tuple [] ∧ ∃ X2, B = [frz S1, MK X2] ∧ Inv1 S1 X2 ∧ Ext1 S X S1 X2 ∧ X2.u = X1.u) (M 47 [.ptr mc 0] h) := by
 obtain ⟨hlt, _⟩ := List.getElem?_eq_some_iff.1 T.at_
 obtain ⟨f2, g1, g2⟩ := E1.fns p.1 _ (List.getElem?_set_self hlt)
 obtain ⟨b, hb, b1, b2, b3⟩ := E1.bks X.bks.length ⟨bb, .nilSlice, f.va.length, lp, []⟩ (by
  show (X.bks ++ [_])[X.bks.length]? = _
  rw [List.getElem?_append_right (Nat.le_refl _), Nat.sub_self]; rfl)
 obtain ⟨f3, T2⟩ := I1.top_ (p := p) (by rw [E1.fu]; exact T.fu)
 have ef := T2.at_
 rw [g1] at ef; cases ef
 have hva : f.va.length ≤ f2.va.length := g2.va
 have hv0 : b.vars = (f.va.length : Int) := b2
 have hbl : f2.bl = f.bl ++ [(X.bks.length, bb)] := g2.bl
 refine t1 e47 fun L => ?_
 unfold B47
 refine Tri.load 2 H rfl rfl ?_
 refine tb (sp118 T2 H hbl hb b1 (by omega) (by omega)) L fun v h B hq H L => ?_
 obtain ⟨vaV, blV', rfl, rfl⟩ := hq
 have I2 := I1.closed (vaV := vaV) (blV := blV') T2 hbl hb
 have e1 : b.vars.toNat = f.va.length := by omega
 rw [e1] at I2 H
 exact Tri.done (B := [frz S1, MK _]) ⟨rfl, _, rfl, I2, closed_ext T E1 g1, rfl⟩ H.x2 L
theorem block_gen {kx : Int} {lp : Option (Nat × Nat)} {p : Nat × Nat} {a3 : V} (ha3 : a3 = .nilFunc ∨ ∃ g c, a3 = .func g [] c) (hkx : nds[kx.toNat]? = some n) (h0 : 0 ≤ kx) (hk : ∀ k ∈ n.ks, 0 ≤ k ∧ k < (nds.length : Int)) (hS : ∀ k ∈ n.ks, KSpec nds w k) (hw : 1 + sumW w n.ks ≤ w kx.toNat)
 (I : Inv1 S X) (T : Top X p f) (hn : NdsIn S X.nv nds) (hu : X.u + (8 * w kx.toNat - 7) ≤ 100000) (hlp : LpOk X p lp)
 (hend : ∀ {S1 : Mem} {X1 : MS} {h1 : Hp} {mc bb : Nat} {blV : V}, Inv1 S1 X1 → Ext1 S (X.opened p.1 f bb lp blV) S1 X1 → X1.u + 7 ≤ X.u + 8 * w kx.toNat → St (frz S1 :: MK X1 :: row mc [.ptr X1.mb 0] :: l) h1 → Tri h1 false F Q (M 49 [a3, .ptr mc 0, n.ksV, n.ksV, .int .i64 (n.ks.length : Nat), .int .i64 (n.ks.length : Nat)] h1))
 (H : St (frz S :: MK X :: l) h) : Tri h false F Q (M 58 [.ptr X.mb 0, .int .i64 kx, lpV lp, a3] h) := by
 obtain ⟨hlt, hnd⟩ := List.getElem?_eq_some_iff.1 hkx
 have hltf := (List.getElem?_eq_some_iff.1 T.at_).1
 refine t4 e58 fun L => ?_
 unfold B58
 refine Tri.newS H L fun b0 h hb0 H L => ?_
 replace H := H.d2
 refine Tri.load 2 H rfl rfl ?_
 refine tb (sp108 T H) L fun v h B hq H L => ?_
 obtain ⟨bb, blV, rfl, rfl⟩ := hq
 have I1 := I.opened (bb := bb) (blV := blV) T (by omega) hlp
 have e0 : (X.opened p.1 f bb lp blV).u = X.u + 1 := rfl
 rw [show X.mb = (X.opened p.1 f bb lp blV).mb from rfl] at H
 have hn1 : NdsIn S (X.opened p.1 f bb lp blV).nv nds := hn
 have hat1 : (X.opened p.1 f bb lp blV).fns[p.1]? = some { f with blV := blV, bl := f.bl ++ [(X.bks.length, bb)] } := List.getElem?_set_self hltf
 have hfu1 : ∃ fu, (X.opened p.1 f bb lp blV).fu = fu ++ [p] := T.fu
 have hend1 := fun {S1 X1 h1} => hend (S1 := S1) (X1 := X1) (h1 := h1) (mc := b0) (bb := bb) (blV := blV)
 generalize X.opened p.1 f bb lp blV = X1 at *
 refine Tri.load 2 H rfl rfl ?_
 apply Tri.nil
 apply Tri.addr
 apply Tri.addr
 refine Tri.loadC (mk_cell H (i := 0 + 1) (o := 0) rfl rfl) ?_
 refine FSl.idx (by assumption) (by omega) (by omega) fun b20 o20 hb20 => ?_
 have hc20 := hb20
 obtain ⟨c20_0, c20_1, c20_2, c20_3, c20_4, c20_5, c20_6⟩ := hc20
 obtain ⟨c20_7, c20_8, c20_9⟩ := NdIn.three c20_6
 apply Tri.addr
 refine Tri.loadF 0 H rfl (by assumption) ?_
 apply bL
 refine FSl.len (by assumption) ?_
 apply Tri.bs
 have x := c20_6
 rw [hnd] at *
 refine te (loop49 (N := X.u + 8 * w kx.toNat - 7) ha3 hn1 x.ks hk hS hfu1 ⟨_, hat1, by simp⟩ (by omega) (fun I E u H => hend1 I E (by omega) H) n.ks.length (j := 0) I1 (Ext1.refl S X1) (by rw [show (0 : Int).toNat = 0 from rfl, List.drop_zero]; omega) (by omega) (by omega) (by omega) H) L
theorem _root_.Go.Mid.Tri.neFnN {t : TypeDesc} (ht : t = .func #[] #[] false) (hk : Tri h0 ro F Q (k (.bool false))) : Tri h0 ro F Q (eqS t .neq .nilFunc .nilFunc k) := by subst ht; exact hk
theorem _root_.Go.Mid.Tri.neFn {g : FuncId} {c : List V} {t : TypeDesc} (ht : t = .func #[] #[] false) (hk : Tri h0 ro F Q (k (.bool true))) : Tri h0 ro F Q (eqS t .neq (.func g [] c) .nilFunc k) := by subst ht; exact hk
theorem block_ok {kx : Int} (hkx : nds[kx.toNat]? = some n) (h0 : 0 ≤ kx) (hk : ∀ k ∈ n.ks, 0 ≤ k ∧ k < (nds.length : Int)) (hS : ∀ k ∈ n.ks, KSpec nds w k) (hw : 1 + sumW w n.ks ≤ w kx.toNat) : BSpec nds w kx := by
 intro S X p h l lp I hp hn hu hlp H
 obtain ⟨f, T⟩ := I.top_ hp
 refine block_gen (.inl rfl) hkx h0 hk hS hw I T hn hu hlp (fun {S1 X1 h mc bb blV} I1 E1 u1 H => ?_) H
 refine t6 e49 fun L => ?_
 unfold B49
 refine Tri.lss (fun e => by omega) (fun e => ?_)
 apply Tri.iff
 refine Tri.neFnN rfl (Tri.iff ?_)
 refine Tri.tail (c47 I1 E1 T H) L (fun e => e) fun v h B hq H L => ?_
 obtain ⟨rfl, X2, rfl, I2, E2, u2⟩ := hq
 exact ⟨_, ⟨S1, X2, rfl, I2, E2, by omega, rfl⟩, H⟩
end
end Go.FP
end
