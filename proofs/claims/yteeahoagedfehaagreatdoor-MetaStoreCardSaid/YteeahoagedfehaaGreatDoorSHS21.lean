/- A part of the proof. -/
import Derived.Test.YteeahoagedfehaaGreatDoorSHS17
set_option linter.all false
set_option warn.classDefReducibility false
noncomputable section
section
open Go Go.Mid Go.Proofs
set_option maxRecDepth 100000
namespace Go.MS
section
variable {l F : List Asn} {h h0 : Hp} {ro : Bool} {Q : V → List Asn → Prop} {k : V → VH} {K : V → Hp → VH} {v lV : V} {X X' : HI} {x y : IO} {i j : Nat} {pl : List Pl} {os : List IO}
def okV (v : Vl) : Prop := 0 ≤ v.1 ∧ v.1 ≤ 8 ∧ (v.1 ≤ 2 → v.2 = 0)
def rPut (X : HI) (t key w : Vl) : V → List Asn → Prop := fun r B => (key.1 = 0 ∧ rErr r B) ∨ (key.1 ≠ 0 ∧ r = outV 1 (0, 0) (0, 0) .nilSlice 0 ∧ ∃ x lV, ofI X.os t 5 = some x ∧ B = [HK (X.upd (t.2.toNat - 1) (x.wi lV (setP x.a.pl key w)))])
theorem mem_ofI {os : List IO} {a : Vl} {n : Int} (h : ofI os a n = some x) : x ∈ os := List.mem_of_getElem? (ofI_at h).1
theorem f68 {t key w : Vl} (R : Room X) (hx : (ofI X.os t 5).isSome = true) (h0 : 0 ≤ key.1) (h2 : keepI X.os key = true) (h3 : keepI X.os w = true) (H : St (HK X :: l) h) : Tri h false l (rPut X t key w) (M 68 [.ptr X.hb 0, vlV t, vlV key, vlV w] h) := by
 refine t4 e68 fun L => ?_
 unfold B68
 refine Tri.newS H L fun b0 h hb0 H L => ?_
 replace H := H.d1
 refine Tri.newS H L fun b1 h hb1 H L => ?_
 replace H := H.d1
 refine Tri.newS H L fun b2 h hb2 H L => ?_
 replace H := H.d1
 refine Tri.newS H L fun b3 h hb3 H L => ?_
 replace H := H.d1
 refine Tri.addr ?_
 refine Tri.load 3 H rfl rfl ?_
 obtain ⟨x, hx⟩ := Option.isSome_iff_exists.1 hx
 have rr := R.r
 refine Tri.eql (fun e => ?_) (fun e => ?_)
 ·refine Tri.ift ?_
  refine Tri.bind (sp70 (by first | rfl | assumption | omega | (dsimp only; omega)) (by first | rfl | assumption | omega | (dsimp only; omega)) H) L (fun e => e) fun v h B hq21 H L => ?_
  obtain ⟨n, rfl, rfl⟩ := hq21
  refine Tri.stores 0 (by decide) H rfl rfl (Nat.le_of_ble_eq_true rfl) L (fun e => nomatch e) (by first | rfl | assumption) fun h H L => ?_
  refine Tri.loads 0 (by decide) H rfl (Nat.le_of_ble_eq_true rfl) ?_
  exact Tri.done (B := []) (.inl ⟨e, n, rfl, rfl⟩) H.tl.tl.tl.tl L
 ·refine Tri.iff ?_
  refine Tri.loads 4 (by decide) H rfl (Nat.le_of_ble_eq_true rfl) ?_
  refine Tri.loads 3 (by decide) H rfl (Nat.le_of_ble_eq_true rfl) ?_
  refine Tri.loads 2 (by decide) H rfl (Nat.le_of_ble_eq_true rfl) ?_
  refine Tri.bind (sp56 hx (by omega) h2 h3 (by omega) R.u R.mx (R.pl x (mem_ofI hx)) (R.nd x (mem_ofI hx)) (by have := R.len; omega) H) L (fun e => e) fun v h B hq H L => ?_
  obtain ⟨lV, rfl, rfl⟩ := hq
  refine Tri.eql (fun _ => ?_) (fun e => absurd e (by decide))
  refine Tri.ift ?_
  refine Tri.bldS rfl ?_
  refine Tri.bind (sp82 (a := (0, 0)) H) L (fun _ => rfl) fun v h B hq H L => ?_
  obtain ⟨rfl, rfl⟩ := hq
  refine Tri.stores 1 (by decide) H rfl rfl (Nat.le_of_ble_eq_true rfl) L (fun e => nomatch e) (by first | rfl | assumption) fun h H L => ?_
  refine Tri.loads 1 (by decide) H rfl (Nat.le_of_ble_eq_true rfl) ?_
  exact Tri.done (B := [HK _]) (.inr ⟨e, rfl, x, lV, hx, rfl⟩) H.x1.x1.x1.x1 L
def rAny : V → List Asn → Prop := fun r B => ∃ kd v fn ag po, r = outV kd v fn ag po ∧ (kd ≠ 4 ∧ oneCell ag = true) ∧ B = []
def dirc (X : HI) (kn : Vl) (ok : Bool) (t key : Vl) : Prop := (ofI X.os t 5).isSome = true ∧ ((fndI X.os kn ok t).1 = 0 ∨ (getI X.os t key).1 ≠ 0)
def rStep (X : HI) (kn : Vl) (ok : Bool) (t key w : Vl) : V → List Asn → Prop := fun r B => (dirc X kn ok t key ∧ rPut X t key w r B) ∨ (¬ dirc X kn ok t key ∧ rAny r B)
theorem rPut_any {t key w : Vl} {r : V} {B : List Asn} (h : rPut X t key w r B) : rAny r [] := by
 rcases h with ⟨_, n, rfl, _⟩ | ⟨_, rfl, _⟩
 ·exact ⟨_, _, _, _, _, rfl, ⟨by decide, rfl⟩, rfl⟩
 ·exact ⟨_, _, _, _, _, rfl, ⟨by decide, rfl⟩, rfl⟩
def ValsOk (X : HI) : Prop := ∀ x ∈ X.os, ∀ p ∈ x.a.pl, okV p.2
theorem getP_ok : ∀ (pl : List Pl) (key : Vl), (∀ p ∈ pl, okV p.2) → okV (getP pl key)
 | [], _, _ => by unfold getP; exact ⟨by decide, by decide, fun _ => rfl⟩
 | p :: pl, key, h => by
  unfold getP
  split
  ·exact h p List.mem_cons_self
  ·exact getP_ok pl key fun q hq => h q (List.mem_cons_of_mem _ hq)
theorem getI_ok (hv : ValsOk X) (a key : Vl) : okV (getI X.os a key) := by
 unfold getI
 cases hx : ofI X.os a 5 with
 | none => exact ⟨(by decide : (0 : Int) ≤ 0), (by decide : (0 : Int) ≤ 8), fun _ => rfl⟩
 | some x => exact getP_ok _ _ (hv x (mem_ofI hx))
theorem fndI_ok (hv : ValsOk X) (kn : Vl) (ok : Bool) (a : Vl) : okV (fndI X.os kn ok a) := by
 unfold fndI
 split
 ·exact getI_ok hv _ _
 ·exact ⟨by decide, by decide, fun _ => rfl⟩
theorem bind_fldV (p : Vl) (k : V → VH) (K : V → Hp → VH) : bindS (fld1 0 (vlV p) k) K = bindS (k (.int .u8 p.1)) K := rfl
theorem step5 {t key w kn : Vl} {ok : Bool} {i : Int} {b5 b6 b7 b8 c0 c1 c2 : Nat} (R : Room X) (hv : ValsOk X) (ht : okV t) (h0 : 0 ≤ key.1) (h2 : keepI X.os key = true) (h3 : keepI X.os w = true) (hi : 0 ≤ i ∧ i ≤ 50)
 (hrec : i < 50 → ∀ (t' : Vl) (h : Hp), okV t' → St (HK X :: FD X.hb c0 c1 c2 kn ok :: Mid.row b5 (vlC t') :: Mid.row b6 (vlC key) :: Mid.row b7 (vlC w) :: Mid.row b8 (vcells (outV 0 (0, 0) (0, 0) .nilSlice 0)) :: l) h → Tri h false l rAny (M 5 [.ptr X.hb 0, .ptr b5 0, .ptr b6 0, .ptr b7 0, .ptr b8 0, .func 74 [] [.ptr c0 0, .ptr c1 0, .ptr c2 0], .int .i64 (i + 1)] h))
 (H : St (HK X :: FD X.hb c0 c1 c2 kn ok :: Mid.row b5 (vlC t) :: Mid.row b6 (vlC key) :: Mid.row b7 (vlC w) :: Mid.row b8 (vcells (outV 0 (0, 0) (0, 0) .nilSlice 0)) :: l) h) :
 Tri h false l (fun r B => (i < 50 → rStep X kn ok t key w r B) ∧ (i = 50 → rAny r B)) (M 5 [.ptr X.hb 0, .ptr b5 0, .ptr b6 0, .ptr b7 0, .ptr b8 0, .func 74 [] [.ptr c0 0, .ptr c1 0, .ptr c2 0], .int .i64 i] h) := by
 refine t7 e5 fun L => ?_
 unfold B5
 have hP : ∀ x ∈ X.os, x.a.pl.length ≤ 100000 := fun x hx => Nat.le_trans (R.pl x hx) (by decide)
 have ht0 := ht.1
 have ht8 := ht.2.1
 refine Tri.lss (fun e => ?_) (fun e => ?_)
 ·refine Tri.ift ?_
  refine Tri.loads 2 (by decide) H rfl (Nat.le_of_ble_eq_true rfl) ?_
  refine Tri.eqv (congrArg (fun x => bindS x _) (dyn_at _ _ _ _ _ _)) ?_
  refine Tri.bind (sp148 (by first | rfl | assumption | omega | (dsimp only; omega)) H) L (fun _ => rfl) fun v h B hq3 H L => ?_
  obtain ⟨rfl, rfl⟩ := hq3
  refine Tri.newS H L fun b4 h hb4 H L => ?_
  replace H := H.d2
  refine Tri.stores 2 (by decide) H rfl rfl (Nat.le_of_ble_eq_true rfl) L (fun e => nomatch e) (by first | rfl | assumption) fun h H L => ?_
  refine Tri.loads 3 (by decide) H rfl (Nat.le_of_ble_eq_true rfl) ?_
  refine Tri.bind (sp66 H) L (fun _ => rfl) fun v h B hq7 H L => ?_
  obtain ⟨rfl, rfl⟩ := hq7
  have hm := fndI_ok hv kn ok t
  cases hs : (ofI X.os t 5).isSome with
  | true =>
   refine Tri.eqv (guard_tt _ _ _) ?_
   refine Tri.eqv (bind_addr _ _) ?_
   refine Tri.addr ?_
   refine Tri.eqv (bind_load1 _ _) ?_
   refine Tri.load 2 H rfl rfl ?_
   refine Tri.eqv (bind_intS _ _) ?_
   refine Tri.eql (fun e1 => ?_) (fun e1 => ?_)
   ·refine Tri.bs ?_
    refine Tri.eqv (guard_tf _ _ _) ?_
    refine Tri.eqv (guard_tt _ _ _) ?_
    refine Tri.eqv (bind_optS _ _) ?_
    refine Tri.eqv (pick_t _ _ _) ?_
    refine Tri.bs ?_
    refine Tri.eqv (pick_t _ _ _) ?_
    refine Tri.ift ?_
    refine Tri.loads 3 (by decide) H rfl (Nat.le_of_ble_eq_true rfl) ?_
    refine Tri.loads 4 (by decide) H rfl (Nat.le_of_ble_eq_true rfl) ?_
    refine Tri.loads 5 (by decide) H rfl (Nat.le_of_ble_eq_true rfl) ?_
    have hd : dirc X kn ok t key := ⟨hs, .inl e1⟩
    refine Tri.bind (f68 R hs h0 h2 h3 H) L (fun e => e) fun r h B hq H L => ?_
    rcases hq with ⟨hk0, n, rfl, rfl⟩ | ⟨hk0, rfl, x, lV, hx, rfl⟩
    ·refine Tri.stores 5 (by decide) H rfl rfl (Nat.le_of_ble_eq_true rfl) L (fun e => nomatch e) (by first | rfl | assumption) fun h H L => ?_
     refine Tri.loads 5 (by decide) H rfl (Nat.le_of_ble_eq_true rfl) ?_
     exact Tri.done (B := []) ⟨fun _ => .inl ⟨hd, .inl ⟨hk0, n, rfl, rfl⟩⟩, fun c => by omega⟩ H.tl.tl.tl.tl.tl.tl L
    ·refine Tri.stores 6 (by decide) H rfl rfl (Nat.le_of_ble_eq_true rfl) L (fun e => nomatch e) (by first | rfl | assumption) fun h H L => ?_
     refine Tri.loads 6 (by decide) H rfl (Nat.le_of_ble_eq_true rfl) ?_
     exact Tri.done (B := [HK _]) ⟨fun _ => .inl ⟨hd, .inr ⟨hk0, rfl, x, lV, hx, rfl⟩⟩, fun c => by omega⟩ H.x1.x1.x1.x1.x1.x1 L
   ·refine Tri.bs ?_
    refine Tri.eqv (guard_ff _ _ _) ?_
    refine Tri.eqv (bind_loadN _ _) ?_
    refine Tri.loads 3 (by decide) H rfl (Nat.le_of_ble_eq_true rfl) ?_
    refine Tri.eqv (bind_loadN _ _) ?_
    refine Tri.loads 4 (by decide) H rfl (Nat.le_of_ble_eq_true rfl) ?_
    refine Tri.eqv (bind_bind _ _ _) ?_
    refine Tri.bind (sp18 (by first | rfl | assumption | omega | (dsimp only; omega)) H) L (fun _ => rfl) fun v h B hq67 H L => ?_
    obtain ⟨rfl, rfl⟩ := hq67
    refine Tri.eqv (bind_fldV _ _ _) ?_
    refine Tri.eqv (bind_intS _ _) ?_
    refine Tri.neq (fun e2 => ?_) (fun e2 => ?_)
    ·refine Tri.bs ?_
     refine Tri.eqv (guard_tt _ _ _) ?_
     refine Tri.eqv (bind_optS _ _) ?_
     refine Tri.eqv (pick_f _ _ _) ?_
     refine Tri.bs ?_
     refine Tri.eqv (pick_t _ _ _) ?_
     refine Tri.ift ?_
     refine Tri.loads 3 (by decide) H rfl (Nat.le_of_ble_eq_true rfl) ?_
     refine Tri.loads 4 (by decide) H rfl (Nat.le_of_ble_eq_true rfl) ?_
     refine Tri.loads 5 (by decide) H rfl (Nat.le_of_ble_eq_true rfl) ?_
     have hd : dirc X kn ok t key := ⟨hs, .inr e2⟩
     refine Tri.bind (f68 R hs h0 h2 h3 H) L (fun e => e) fun r h B hq H L => ?_
     rcases hq with ⟨hk0, n, rfl, rfl⟩ | ⟨hk0, rfl, x, lV, hx, rfl⟩
     ·refine Tri.stores 5 (by decide) H rfl rfl (Nat.le_of_ble_eq_true rfl) L (fun e => nomatch e) (by first | rfl | assumption) fun h H L => ?_
      refine Tri.loads 5 (by decide) H rfl (Nat.le_of_ble_eq_true rfl) ?_
      exact Tri.done (B := []) ⟨fun _ => .inl ⟨hd, .inl ⟨hk0, n, rfl, rfl⟩⟩, fun c => by omega⟩ H.tl.tl.tl.tl.tl.tl L
     ·refine Tri.stores 6 (by decide) H rfl rfl (Nat.le_of_ble_eq_true rfl) L (fun e => nomatch e) (by first | rfl | assumption) fun h H L => ?_
      refine Tri.loads 6 (by decide) H rfl (Nat.le_of_ble_eq_true rfl) ?_
      exact Tri.done (B := [HK _]) ⟨fun _ => .inl ⟨hd, .inr ⟨hk0, rfl, x, lV, hx, rfl⟩⟩, fun c => by omega⟩ H.x1.x1.x1.x1.x1.x1 L
    ·refine Tri.bs ?_
     refine Tri.eqv (guard_tt _ _ _) ?_
     refine Tri.eqv (bind_optS _ _) ?_
     refine Tri.eqv (pick_f _ _ _) ?_
     refine Tri.bs ?_
     refine Tri.eqv (pick_t _ _ _) ?_
     refine Tri.iff ?_
     refine Tri.addr ?_
     refine Tri.load 2 H rfl rfl ?_
     have hd : ¬ dirc X kn ok t key := fun c => c.2.elim e1 (fun c => c e2)
     refine Tri.eql (fun e => absurd e e1) (fun _ => ?_)
     refine Tri.iff ?_
     refine Tri.loads 2 (by decide) H rfl (Nat.le_of_ble_eq_true rfl) ?_
     refine Tri.bind (sp74 H) L (fun _ => rfl) fun v h B hq112 H L => ?_
     obtain ⟨rfl, rfl⟩ := hq112
     by_cases hf : (fndI X.os kn ok t).1 = 6 ∨ (fndI X.os kn ok t).1 = 7
     ·rw [show decide ((fndI X.os kn ok t).1 = 6 ∨ (fndI X.os kn ok t).1 = 7) = true from decide_eq_true hf]
      refine Tri.ift ?_
      refine Tri.loads 2 (by decide) H rfl (Nat.le_of_ble_eq_true rfl) ?_
      refine Tri.loads 3 (by decide) H rfl (Nat.le_of_ble_eq_true rfl) ?_
      refine Tri.loads 4 (by decide) H rfl (Nat.le_of_ble_eq_true rfl) ?_
      refine Tri.loads 5 (by decide) H rfl (Nat.le_of_ble_eq_true rfl) ?_
      refine Tri.bld (e := _) (s := _) H L rfl rfl fun b125 h hb125 H L => ?_
      replace H := H.d2
      refine Tri.bind (sp76 H) L (fun _ => rfl) fun v h B hq126 H L => ?_
      obtain ⟨rfl, rfl⟩ := hq126
      refine Tri.stores 7 (by decide) H rfl rfl (Nat.le_of_ble_eq_true rfl) L (fun e => nomatch e) (by first | rfl | assumption) fun h H L => ?_
      refine Tri.loads 7 (by decide) H rfl (Nat.le_of_ble_eq_true rfl) ?_
      exact Tri.done (B := []) ⟨fun _ => .inr ⟨hd, _, _, _, _, _, rfl, ⟨by decide, rfl⟩, rfl⟩, fun c => by omega⟩ H.tl.tl.tl.tl.tl.tl.tl.tl L
     ·rw [show decide ((fndI X.os kn ok t).1 = 6 ∨ (fndI X.os kn ok t).1 = 7) = false from decide_eq_false hf]
      refine Tri.iff ?_
      refine Tri.loads 2 (by decide) H rfl (Nat.le_of_ble_eq_true rfl) ?_
      refine Tri.stores 3 (by decide) H rfl rfl (Nat.le_of_ble_eq_true rfl) L (fun e => nomatch e) (by first | rfl | assumption) fun h H L => ?_
      refine Tri.addN (by omega) (by omega) ?_
      refine Tri.tail (hrec e (fndI X.os kn ok t) _ hm H.x2) L (fun e => e) fun r h B hq H L => ?_
      obtain ⟨kd, v, fn, ag, po, rfl, h4, rfl⟩ := hq
      exact ⟨[], ⟨fun _ => .inr ⟨hd, kd, v, fn, ag, po, rfl, h4, rfl⟩, fun c => by omega⟩, H⟩
  | false =>
   have hd : ¬ dirc X kn ok t key := fun c => by unfold dirc at c; rw [hs] at c; exact Bool.noConfusion c.1
   refine Tri.eqv (guard_ft _ _ _) ?_
   refine Tri.eqv (guard_u _ _ _ _) ?_
   refine Tri.eqv (guard_ft _ _ _) ?_
   refine Tri.eqv (pick_f _ _ _) ?_
   refine Tri.iff ?_
   refine Tri.addr ?_
   refine Tri.load 2 H rfl rfl ?_
   refine Tri.eql (fun e1 => ?_) (fun e1 => ?_)
   ·refine Tri.ift ?_
    refine Tri.loads 3 (by decide) H rfl (Nat.le_of_ble_eq_true rfl) ?_
    refine Tri.bind (sp72 (by first | rfl | assumption | omega | (dsimp only; omega)) (by first | rfl | assumption | omega | (dsimp only; omega)) H) L (fun _ => rfl) fun v h B hq192 H L => ?_
    obtain ⟨z, hz, rfl, rfl⟩ := hq192
    refine Tri.strAdd (by simp only [*]; omega) fun z193 ez193 => ?_
    refine Tri.strAdd (by simp only [*]; omega) fun z194 ez194 => ?_
    refine Tri.bind (sp70 (by dsimp only at *; omega) R H) L (fun e => e) fun r h B hq H L => ?_
    obtain ⟨n, rfl, rfl⟩ := hq
    refine Tri.stores 5 (by decide) H rfl rfl (Nat.le_of_ble_eq_true rfl) L (fun e => nomatch e) (by first | rfl | assumption) fun h H L => ?_
    refine Tri.loads 5 (by decide) H rfl (Nat.le_of_ble_eq_true rfl) ?_
    exact Tri.done (B := []) ⟨fun _ => .inr ⟨hd, _, _, _, _, _, rfl, ⟨by decide, rfl⟩, rfl⟩, fun c => by omega⟩ H.tl.tl.tl.tl.tl.tl L
   ·refine Tri.iff ?_
    refine Tri.loads 2 (by decide) H rfl (Nat.le_of_ble_eq_true rfl) ?_
    refine Tri.bind (sp74 H) L (fun _ => rfl) fun v h B hq202 H L => ?_
    obtain ⟨rfl, rfl⟩ := hq202
    by_cases hf : (fndI X.os kn ok t).1 = 6 ∨ (fndI X.os kn ok t).1 = 7
    ·rw [show decide ((fndI X.os kn ok t).1 = 6 ∨ (fndI X.os kn ok t).1 = 7) = true from decide_eq_true hf]
     refine Tri.ift ?_
     refine Tri.loads 2 (by decide) H rfl (Nat.le_of_ble_eq_true rfl) ?_
     refine Tri.loads 3 (by decide) H rfl (Nat.le_of_ble_eq_true rfl) ?_
     refine Tri.loads 4 (by decide) H rfl (Nat.le_of_ble_eq_true rfl) ?_
     refine Tri.loads 5 (by decide) H rfl (Nat.le_of_ble_eq_true rfl) ?_
     refine Tri.bld (e := _) (s := _) H L rfl rfl fun b225 h hb225 H L => ?_
     replace H := H.d2
     refine Tri.bind (sp76 H) L (fun _ => rfl) fun v h B hq226 H L => ?_
     obtain ⟨rfl, rfl⟩ := hq226
     refine Tri.stores 7 (by decide) H rfl rfl (Nat.le_of_ble_eq_true rfl) L (fun e => nomatch e) (by first | rfl | assumption) fun h H L => ?_
     refine Tri.loads 7 (by decide) H rfl (Nat.le_of_ble_eq_true rfl) ?_
     exact Tri.done (B := []) ⟨fun _ => .inr ⟨hd, _, _, _, _, _, rfl, ⟨by decide, rfl⟩, rfl⟩, fun c => by omega⟩ H.tl.tl.tl.tl.tl.tl.tl.tl L
    ·rw [show decide ((fndI X.os kn ok t).1 = 6 ∨ (fndI X.os kn ok t).1 = 7) = false from decide_eq_false hf]
     refine Tri.iff ?_
     refine Tri.loads 2 (by decide) H rfl (Nat.le_of_ble_eq_true rfl) ?_
     refine Tri.stores 3 (by decide) H rfl rfl (Nat.le_of_ble_eq_true rfl) L (fun e => nomatch e) (by first | rfl | assumption) fun h H L => ?_
     refine Tri.addN (by omega) (by omega) ?_
     refine Tri.tail (hrec e (fndI X.os kn ok t) _ hm H.x2) L (fun e => e) fun r h B hq H L => ?_
     obtain ⟨kd, v, fn, ag, po, rfl, h4, rfl⟩ := hq
     exact ⟨[], ⟨fun _ => .inr ⟨hd, kd, v, fn, ag, po, rfl, h4, rfl⟩, fun c => by omega⟩, H⟩
 ·refine Tri.iff ?_
  refine Tri.bind (sp70 (by first | rfl | assumption | omega | (dsimp only; omega)) (by first | rfl | assumption | omega | (dsimp only; omega)) H) L (fun e => e) fun v h B hq251 H L => ?_
  obtain ⟨n, rfl, rfl⟩ := hq251
  refine Tri.stores 4 (by decide) H rfl rfl (Nat.le_of_ble_eq_true rfl) L (fun e => nomatch e) (by first | rfl | assumption) fun h H L => ?_
  refine Tri.loads 4 (by decide) H rfl (Nat.le_of_ble_eq_true rfl) ?_
  exact Tri.done (B := []) ⟨fun c => by omega, fun _ => ⟨_, _, _, _, _, rfl, ⟨by decide, rfl⟩, rfl⟩⟩ H.tl.tl.tl.tl.tl L
theorem rStep_any {kn key t w : Vl} {ok : Bool} {r : V} {B : List Asn} (h : rStep X kn ok t key w r B) : rAny r [] := by
 rcases h with ⟨_, h⟩ | ⟨_, kd, v, fn, ag, po, rfl, h4, rfl⟩
 ·exact rPut_any h
 ·exact ⟨kd, v, fn, ag, po, rfl, h4, rfl⟩
theorem loop5 {key w kn : Vl} {ok : Bool} {b5 b6 b7 b8 c0 c1 c2 : Nat} (R : Room X) (hv : ValsOk X) (h0 : 0 ≤ key.1) (h2 : keepI X.os key = true) (h3 : keepI X.os w = true) (m : Nat) : ∀ {i : Int} {t : Vl} {h : Hp} (ht : okV t) (hi : 0 ≤ i ∧ i ≤ 50) (hm : 50 - i ≤ m)
 (H : St (HK X :: FD X.hb c0 c1 c2 kn ok :: Mid.row b5 (vlC t) :: Mid.row b6 (vlC key) :: Mid.row b7 (vlC w) :: Mid.row b8 (vcells (outV 0 (0, 0) (0, 0) .nilSlice 0)) :: l) h),
 Tri h false l rAny (M 5 [.ptr X.hb 0, .ptr b5 0, .ptr b6 0, .ptr b7 0, .ptr b8 0, .func 74 [] [.ptr c0 0, .ptr c1 0, .ptr c2 0], .int .i64 i] h) := by
 induction m with
 | zero =>
  intro i t h ht hi hm H
  refine Tri.dropB (step5 R hv ht h0 h2 h3 hi (fun e => by omega) H) fun v B hq => ?_
  obtain ⟨kd, v, fn, ag, po, rfl, h4, rfl⟩ := hq.2 (by omega)
  exact ⟨kd, v, fn, ag, po, rfl, h4, rfl⟩
 | succ m ih =>
  intro i t h ht hi hm H
  refine Tri.dropB (step5 R hv ht h0 h2 h3 hi (fun e t' h' ht' H' => ih ht' (by omega) (by omega) H') H) fun v B hq => ?_
  by_cases e : i < 50
  ·exact rStep_any (hq.1 e)
  ·obtain ⟨kd, v, fn, ag, po, rfl, h4, rfl⟩ := hq.2 (by omega)
   exact ⟨kd, v, fn, ag, po, rfl, h4, rfl⟩
abbrev nwS : Bs := ⟨10, 568554335933414845079391⟩
theorem f20 {t key w : Vl} (R : Room X) (hv : ValsOk X) (ht : okV t) (h0 : 0 ≤ key.1) (h2 : keepI X.os key = true) (h3 : keepI X.os w = true) (H : St (HK X :: l) h) :
 Tri h false l (rStep X (knV X.as nwS) (knB X.as nwS) t key w) (M 20 [.ptr X.hb 0, vlV t, vlV key, vlV w] h) := by
 refine t4 e20 fun L => ?_
 unfold B20
 refine Tri.newS H L fun b0 h hb0 H L => ?_
 replace H := H.d1
 refine Tri.newS H L fun b1 h hb1 H L => ?_
 replace H := H.d1
 refine Tri.newS H L fun b2 h hb2 H L => ?_
 replace H := H.d1
 refine Tri.newS H L fun b3 h hb3 H L => ?_
 replace H := H.d1
 refine Tri.bind (sp64 H) L (fun e => e) fun v h B hq4 H L => ?_
 obtain ⟨c0, c1, c2, rfl, rfl⟩ := hq4
 have H1 := ((((H.out 5).ins 2).out 5).ins 3).out 5 |>.ins 4
 refine Tri.tail (step5 (i := 0) R hv ht h0 h2 h3 ⟨by decide, by decide⟩ (fun e t' h' ht' H' => loop5 R hv h0 h2 h3 49 ht' (by omega) (by omega) H') H1) L (fun e => e) fun r h B hq H L => ?_
 exact ⟨B, hq.1 (by decide), H⟩
theorem getI_some {t key : Vl} (h : (getI X.os t key).1 ≠ 0) : (ofI X.os t 5).isSome = true := by
 unfold getI at h
 cases hx : ofI X.os t 5 with
 | none => rw [hx] at h; exact absurd rfl h
 | some x => rfl
theorem f24 {t key : Vl} (hP : ∀ x ∈ X.os, x.a.pl.length ≤ 100000) (hg : (getI X.os t key).1 ≠ 0) (H : St (HK X :: l) h) :
 Tri h false l (rHK X (outV 1 (getI X.os t key) (0, 0) .nilSlice 0)) (M 24 [.ptr X.hb 0, vlV t, vlV key] h) := by
 refine t3 e24 fun L => ?_
 unfold B24
 refine Tri.newS H L fun b0 h hb0 H L => ?_
 replace H := H.d1
 refine Tri.newS H L fun b1 h hb1 H L => ?_
 replace H := H.d1
 refine Tri.newS H L fun b2 h hb2 H L => ?_
 replace H := H.d1
 refine Tri.bind (sp64 H) L (fun e => e) fun v h B hq3 H L => ?_
 obtain ⟨c0, c1, c2, rfl, rfl⟩ := hq3
 refine Tri.call (x := B1 M (.ptr X.hb 0) (.ptr b0 0) (.ptr b1 0) (.ptr b2 0) (.func 74 [] [.ptr c0 0, .ptr c1 0, .ptr c2 0]) (.int .i64 0) h) (fun p => e1 _ _ _ _ _ _ h p) ?_
 unfold B1
 refine Tri.lss (fun _ => ?_) (fun e => absurd e (by decide))
 refine Tri.ift ?_
 refine Tri.loads 4 (by decide) H rfl (Nat.le_of_ble_eq_true rfl) ?_
 refine Tri.eqv (congrArg (fun x => bindS x _) (dyn_at _ _ _ _ _ _)) ?_
 refine Tri.bind (sp148 (by first | rfl | assumption | omega | (dsimp only; omega)) H) L (fun _ => rfl) fun v h B hq23 H L => ?_
 obtain ⟨rfl, rfl⟩ := hq23
 refine Tri.newS H L fun b24 h hb24 H L => ?_
 replace H := H.d2
 refine Tri.stores 2 (by decide) H rfl rfl (Nat.le_of_ble_eq_true rfl) L (fun e => nomatch e) (by first | rfl | assumption) fun h H L => ?_
 refine Tri.loads 5 (by decide) H rfl (Nat.le_of_ble_eq_true rfl) ?_
 refine Tri.bind (sp66 H) L (fun _ => rfl) fun v h B hq27 H L => ?_
 obtain ⟨rfl, rfl⟩ := hq27
 rw [getI_some hg]
 refine Tri.ift ?_
 refine Tri.loads 5 (by decide) H rfl (Nat.le_of_ble_eq_true rfl) ?_
 refine Tri.loads 4 (by decide) H rfl (Nat.le_of_ble_eq_true rfl) ?_
 refine Tri.bind (sp18 (by first | rfl | assumption | omega | (dsimp only; omega)) H) L (fun _ => rfl) fun v h B hq43 H L => ?_
 obtain ⟨rfl, rfl⟩ := hq43
 refine Tri.newS H L fun b44 h hb44 H L => ?_
 replace H := H.d2
 refine Tri.stores 2 (by decide) H rfl rfl (Nat.le_of_ble_eq_true rfl) L (fun e => nomatch e) (by first | rfl | assumption) fun h H L => ?_
 refine Tri.addr ?_
 refine Tri.load 2 H rfl rfl ?_
 refine Tri.neq (fun _ => ?_) (fun e => absurd e hg)
 refine Tri.eqv (guard_tf _ _ _) ?_
 refine Tri.eqv (pick_t _ _ _) ?_
 refine Tri.ift ?_
 refine Tri.loads 2 (by decide) H rfl (Nat.le_of_ble_eq_true rfl) ?_
 refine Tri.bind (sp82 H) L (fun _ => rfl) fun v h B hq64 H L => ?_
 obtain ⟨rfl, rfl⟩ := hq64
 refine Tri.stores 4 (by decide) H rfl rfl (Nat.le_of_ble_eq_true rfl) L (fun e => nomatch e) (by first | rfl | assumption) fun h H L => ?_
 refine Tri.loads 4 (by decide) H rfl (Nat.le_of_ble_eq_true rfl) ?_
 exact Tri.done (B := [HK X]) ⟨rfl, rfl⟩ H.x1.x1.x1.x1.x1.x1 L
end
end Go.MS
end
