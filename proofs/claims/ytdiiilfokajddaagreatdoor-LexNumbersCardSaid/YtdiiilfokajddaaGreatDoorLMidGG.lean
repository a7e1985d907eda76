/- What a machine takes from outside, whole: the operations of MidBB and MidFF; functions that the model answers at once. -/
import Derived.Test.YtdiiilfokajddaaGreatDoorLMidFF
set_option linter.all false
namespace Go.Mid
open Go.RowKit
variable {P : Program}

theorem opU_reads [Orc] {o : Op} (hk : kdU P o = 1 ∨ kdU P o = 2) {as : List V} {h h' : Hp} {v : V} (he : opU P o as h = some (v, h')) : h' = h ∧ ∀ ρ w (a : Act) (oo : Oper), oo.op = o → Live P ρ w h → RelL ρ as (o.operands.toList.map a.eval) →
    ∃ x, (execOp a.eval oo).run P w = .ok (.value x) w ∧ Rel ρ v x := by
  have take : ∀ {w : World} {ρ : Rho} {s : Sem Value}, (∃ x, s.run P w = .ok x w ∧ Rel ρ v x) → ∃ x, (do let r ← s; pure (Go.Next.value r) : Sem Go.Next).run P w = .ok (.value x) w ∧ Rel ρ v x :=
    fun ⟨x, h1, h2⟩ => ⟨x, run_v h1, h2⟩
  cases o <;> try (simp [kdU] at hk; done)
  case binOp op ty x y pre =>
    simp only [opU] at he
    split at he <;> try (cases he; done)
    split at he <;> try (cases he; done)
    rename_i a b _ t hu
    obtain ⟨rfl, h1⟩ := vh_some he
    refine ⟨rfl, fun ρ w act oo ho _ hr => ?_⟩
    obtain ⟨u, v', huv, r1, r2⟩ := rel_two (xs := [act.eval x, act.eval y]) (by simpa [Op.operands] using hr)
    simp only [List.cons.injEq, and_true] at huv
    obtain ⟨rfl, rfl⟩ := huv
    unfold execOp; rw [ho]
    exact take (cmpP_sim hu h1 r1 r2 x y w)
  case convert s d x =>
    exfalso
    simp only [kdU] at hk
    split at hk
    · split at hk <;> simp at hk
    · split at hk <;> simp at hk
    · simp at hk
  case call c =>
    obtain ⟨callee, args, tys⟩ := c
    cases callee <;> try (simp [kdU] at hk; done)
    rename_i b
    simp only [opU] at he
    cases b <;> try (simp [kdU] at hk; done)
    simp only at he
    split at he <;> try (cases he; done)
    obtain ⟨rfl, h1⟩ := vh_some he
    refine ⟨rfl, fun ρ w act oo ho H hr => ?_⟩
    obtain ⟨u, hu1, r1⟩ := rel_one (xs := args.toList.map act.eval) (by simpa [Op.operands, Call.operands] using hr)
    unfold execOp; rw [ho]
    simp only [resolve, pure_bind, invoke, builtin]
    have ha0 : args.map act.eval = #[u] := by
      apply Array.ext'; simpa using hu1
    rw [ha0]
    exact take (headV_sim H h1 r1 _ _)
theorem opU_pure {o : Op} (hk : kdU P o = 1) (as : List V) (h h2 : Hp) : opU P o as h2 = (opU P o as h).map fun p => (p.1, h2) := by
  cases o <;> try (simp [kdU] at hk; done)
  case binOp op ty x y pre =>
    simp only [opU]
    split
    · split
      · exact vh_map' _ _ _
      · rfl
    · rfl
  case convert s d x =>
    exfalso
    simp only [kdU] at hk
    split at hk
    · split at hk <;> simp at hk
    · split at hk <;> simp at hk
    · simp at hk
  case call c =>
    exfalso
    obtain ⟨callee, args, tys⟩ := c
    cases callee <;> try (simp [kdU] at hk; done)
    rename_i b
    cases b <;> simp [kdU] at hk
theorem opU_make [Orc] {o : Op} (hn : kdU P o ≠ 0) {as : List V} {h h' : Hp} {v : V} (he : opU P o as h = some (v, h')) : Fr h h' ∧ ∀ (Z : Res) w0 w ρ (a : Act) (oo : Oper), oo.op = o → R P w0 w h ρ → RelL ρ as (o.operands.toList.map a.eval) →
    Made P w0 ((execOp a.eval oo).run P w) v h' ρ := by
  by_cases h12 : kdU P o = 1 ∨ kdU P o = 2
  · obtain ⟨rfl, h1⟩ := opU_reads h12 he
    refine ⟨Fr.refl _, fun Z w0 w ρ a oo hoo H hr => ?_⟩
    obtain ⟨x, h2, h3⟩ := h1 ρ w a oo hoo H.live hr
    exact ⟨x, w, ρ, .inl h2, h3, Ext.refl _, H⟩
  · cases o <;> try (simp [kdU] at hn; done)
    case binOp op ty x y pre =>
      exfalso
      simp only [kdU] at hn h12
      cases hb : (isK x || isK y) <;> rw [hb] at hn h12
      · simp only [cond_false] at hn h12
        split at hn <;> first | (split at hn <;> simp_all) | simp_all
      · simp at hn
    case convert s d x =>
      simp only [opU] at he
      split at he <;> try (cases he; done)
      obtain ⟨rfl, h1⟩ := vh_some he
      refine ⟨Fr.refl _, fun Z w0 w ρ a oo hoo H hr => ?_⟩
      obtain ⟨u, hu, r1⟩ := rel_one (xs := [a.eval x]) (by simpa [Op.operands] using hr)
      simp only [List.cons.injEq, and_true] at hu
      subst hu
      obtain ⟨r, h2, h3⟩ := convU_sim H h1 r1
      refine ⟨r, w, ρ, .inl ?_, h3, Ext.refl _, H⟩
      unfold execOp; rw [hoo]
      exact run_v h2
    case call c =>
      obtain ⟨callee, args, tys⟩ := c
      cases callee <;> try (simp [kdU] at hn; done)
      rename_i b
      cases b <;> try (simp [kdU] at hn h12; done)
      simp only [opU] at he
      split at he <;> try (cases he; done)
      rename_i a n ty it hty
      split at he <;> try (cases he; done)
      rename_i u hu
      cases hc : Nat.beq (P.cellsOf u) 1 with
      | false => rw [hc] at he; cases he
      | true =>
        rw [hc] at he
        simp only [cond_true] at he
        have hc' := Nat.eq_of_beq_eq_true hc
        refine ⟨?_, fun Z w0 w ρ act oo hoo H hr => ?_⟩
        · unfold seeV at he
          simp only [Bool.cond_eq_ite] at he
          (repeat' split at he) <;> first | (cases he; done) | (simp only [Option.some.injEq, Prod.mk.injEq] at he; obtain ⟨_, rfl⟩ := he; first | exact Fr.refl _ | exact Fr.put _ _ _)
        · obtain ⟨x, y, hxy, r1, r2⟩ := rel_two (xs := args.toList.map act.eval) (by simpa [Op.operands, Call.operands] using hr)
          have ht : tys = #[ty, it] := by apply Array.ext'; simpa using hty
          subst ht
          obtain ⟨r, w', h1, h2, h3⟩ := seeV_sim H he r1 r2 hu hc' oo.type
          refine ⟨r, w', ρ, .inl ?_, h2, Ext.refl _, h3⟩
          unfold execOp; rw [hoo]
          simp only [resolve, pure_bind, invoke, builtin]
          have ha0 : args.map act.eval = #[x, y] := by
            apply Array.ext'; simpa using hxy
          rw [ha0]
          exact run_v h1
theorem qops [O : Orc] (hk : ∀ o, Orc.kd o = kdQ P o) (ho : ∀ o as h, Orc.op o as h = opQ P o as h) : OpOk P := by
  have z : ∀ o, kdP P o = 0 → kdQ P o = kdU P o ∧ ∀ as h, opQ P o as h = opU P o as h := fun o h => by unfold kdQ opQ; rw [h]; exact ⟨rfl, fun _ _ => rfl⟩
  have s : ∀ o, kdP P o ≠ 0 → kdQ P o = kdP P o ∧ ∀ as h, opQ P o as h = opP P o as h := fun o h => by
    unfold kdQ opQ
    cases e : kdP P o with
    | zero => exact (h e).elim
    | succ k => exact ⟨rfl, fun _ _ => rfl⟩
  have low : @OpOk P ⟨O.ng, O.fn, kdP P, opP P, O.inv⟩ := @xops P ⟨O.ng, O.fn, kdP P, opP P, O.inv⟩ (fun _ => rfl) (fun _ _ _ => rfl)
  have up : ∀ {Z : Res} {w0 w h ρ}, R P w0 w h ρ → @R ⟨O.ng, O.fn, kdP P, opP P, O.inv⟩ Z P w0 w h ρ := fun {Z w0 w h ρ} H => @R.mk ⟨O.ng, O.fn, kdP P, opP P, O.inv⟩ Z P _ _ _ _ H.below H.bnd H.live H.inj H.fresh H.glob H.base H.rs
  have down : ∀ {Z : Res} {w0 w h ρ}, @R ⟨O.ng, O.fn, kdP P, opP P, O.inv⟩ Z P w0 w h ρ → R P w0 w h ρ := fun {Z w0 w h ρ} H =>
    @R.mk O Z P _ _ _ _ (@R.below ⟨O.ng, O.fn, kdP P, opP P, O.inv⟩ Z P w0 w h ρ H) (@R.bnd ⟨O.ng, O.fn, kdP P, opP P, O.inv⟩ Z P w0 w h ρ H) (@R.live ⟨O.ng, O.fn, kdP P, opP P, O.inv⟩ Z P w0 w h ρ H) (@R.inj ⟨O.ng, O.fn, kdP P, opP P, O.inv⟩ Z P w0 w h ρ H) (@R.fresh ⟨O.ng, O.fn, kdP P, opP P, O.inv⟩ Z P w0 w h ρ H) (@R.glob ⟨O.ng, O.fn, kdP P, opP P, O.inv⟩ Z P w0 w h ρ H) (@R.base ⟨O.ng, O.fn, kdP P, opP P, O.inv⟩ Z P w0 w h ρ H) (@R.rs ⟨O.ng, O.fn, kdP P, opP P, O.inv⟩ Z P w0 w h ρ H)
  refine ⟨fun o h1 as h h2 => ?_, fun o as h v h' h1 he => ?_, fun o as h v h' he hn => ?_⟩
  · rw [ho, ho]
    rw [hk] at h1
    by_cases h0 : kdP P o = 0
    · rw [(z o h0).2, (z o h0).2]; exact opU_pure (by rw [← (z o h0).1]; exact h1) as h h2
    · rw [(s o h0).2, (s o h0).2]; exact opP_pure (by rw [← (s o h0).1]; exact h1) as h h2
  · rw [ho] at he
    rw [hk] at h1
    by_cases h0 : kdP P o = 0
    · rw [(z o h0).2] at he; exact opU_reads (by rw [← (z o h0).1]; exact h1) he
    · rw [(s o h0).2] at he; exact opP_reads (by rw [← (s o h0).1]; exact h1) he
  · rw [ho] at he
    rw [hk] at hn
    by_cases h0 : kdP P o = 0
    · rw [(z o h0).2] at he; exact opU_make (by rw [← (z o h0).1]; exact hn) he
    · rw [(s o h0).2] at he
      obtain ⟨h1, h2⟩ := @OpOk.make P ⟨O.ng, O.fn, kdP P, opP P, O.inv⟩ low o as h v h' he h0
      refine ⟨h1, fun Z w0 w ρ a oo hoo H hr => ?_⟩
      obtain ⟨x, w', ρ', k1, k2, k3, k4⟩ := h2 Z w0 w ρ a oo hoo (up H) hr
      exact ⟨x, w', ρ', k1, k2, k3, down k4⟩

/-! functions that the model answers at once -/
/-- the same pointer. -/
noncomputable def sameF (as : List V) (h : Hp) : Option (V × Hp) :=
  match as with
  | [.ptr b o] => some (.ptr b o, h)
  | [.nilPtr] => some (.nilPtr, h)
  | _ => none
/-- a row of so many bytes, of which nothing is known. -/
noncomputable def makeF (e : TypeId) (as : List V) (h : Hp) : Option (V × Hp) :=
  match as with
  | [.int .i64 (.ofNat n)] => bif Nat.ble n 281474976710656 then some (.slice h.n 0 n 0 true, h.new (.cells .nil n true e)) else none
  | _ => none
theorem callR_ext {f : FuncId} {fn : Func} {e : Array Value → Sem Value} (hf : P.funcs[f]? = some fn) (hname : (fn.name == "runtime.NumGoroutine") = false) (hb : fn.body.isNone = true) (hn : Extern.findNext fn = none) (he : Extern.find fn = some e)
    {xs : Array Value} {w w' : World} {x : Value} {Q : Ending → World → Prop} (hr : (e xs).run P w = .ok x w') (hq : Q (.returned x) w') : CallR P f xs w Q :=
  .inr ⟨x, w', by rw [run_callFunc_extern hf hname hb hn he, hr]; rfl, hq⟩
theorem sameF_sim [Orc] [Res] {f : FuncId} {fn : Func} (hf : P.funcs[f]? = some fn) (hname : (fn.name == "runtime.NumGoroutine") = false) (hb : fn.body.isNone = true) (hn : Extern.findNext fn = none) (he : Extern.find fn = some Extern.AbiNoEscape.same)
    {as : List V} {h h' : Hp} {v : V} (hs : sameF as h = some (v, h')) {w0 w : World} {ρ : Rho} {xs : List Value} (H : R P w0 w h ρ) (ha : RelL ρ as xs) : CallR P f ⟨xs⟩ w fun e w' => ∃ x ρ', e = .returned x ∧ Rel ρ' v x ∧ Ext ρ ρ' ∧ R P w0 w' h' ρ' := by
  unfold sameF at hs
  split at hs <;> try (cases hs; done)
  all_goals
    simp only [Option.some.injEq, Prod.mk.injEq] at hs
    obtain ⟨rfl, rfl⟩ := hs
    obtain ⟨x, rfl, hx⟩ := rel_one ha
    exact callR_ext hf hname hb hn he (Lib.run_noEscape w x) ⟨x, ρ, rfl, hx, Ext.refl _, H⟩
theorem makeF_sim [Orc] [Res] {f : FuncId} {fn : Func} {ps : Array TypeId} {t e : TypeId} (ht : P.underlying t = some (.slice e)) (hce : P.cellsOf e = 1) (hf : P.funcs[f]? = some fn) (hname : (fn.name == "runtime.NumGoroutine") = false) (hb : fn.body.isNone = true) (hn : Extern.findNext fn = none)
    (he : Extern.find fn = some (Extern.BytealgMakeNoZero.makeNoZero ps #[t]))
    {as : List V} {h h' : Hp} {v : V} (hs : makeF e as h = some (v, h')) {w0 w : World} {ρ : Rho} {xs : List Value} (H : R P w0 w h ρ) (ha : RelL ρ as xs) : CallR P f ⟨xs⟩ w fun e w' => ∃ x ρ', e = .returned x ∧ Rel ρ' v x ∧ Ext ρ ρ' ∧ R P w0 w' h' ρ' := by
  unfold makeF at hs
  split at hs <;> try (cases hs; done)
  rename_i n
  cases hle : Nat.ble n 281474976710656 with
  | false => rw [hle] at hs; cases hs
  | true =>
    rw [hle] at hs
    simp only [cond_true, Option.some.injEq, Prod.mk.injEq] at hs
    obtain ⟨rfl, rfl⟩ := hs
    obtain ⟨x, rfl, hx⟩ := rel_one ha
    cases hx
    obtain ⟨cs, h1, h2, h3⟩ := Lib.run_makeNoZero (P := P) w ps t e ht n (Nat.le_of_ble_eq_true hle)
    have hR := H.drew.drew.new (.cells .nil n true e) (.cells cs e) cs.size rfl ⟨cs, heap_alloc_new _ _, fun i v hv => (by rw [Tr.get_nil] at hv; cases hv), (by simpa using h2), fun _ => (by rw [hce]; simp; exact h2)⟩
    refine callR_ext hf hname hb hn he h1 ⟨_, _, rfl, ?_, hR.1, hR.2⟩
    have := Rel.sliceG (ρ := upd ρ h.n ⟨w.drew.drew.heap.size, 0, cs.size⟩) (b := h.n) 0 n 0 (upd_same _ _ _)
    exact this
end Go.Mid
