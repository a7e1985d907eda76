/- The operations of MidBB, all of them: what a machine may take from outside. -/
import Derived.Test.YtdiiilfokajddaaGreatDoorLMidDD
set_option linter.all false
namespace Go.Mid
open Go.RowKit
variable {P : Program}

theorem vh_map' (h h2 : Hp) (x : Option V) : vh h2 x = (vh h x).map fun p => (p.1, h2) := by cases x <;> rfl
theorem rel_one [Orc] {ρ : Rho} {a : V} {xs : List Value} (h : RelL ρ [a] xs) : ∃ x, xs = [x] ∧ Rel ρ a x := by
  obtain ⟨x, xs', rfl, h1, h2⟩ := h.cons_inv
  rw [h2.nil_inv]; exact ⟨x, rfl, h1⟩
theorem rel_two [Orc] {ρ : Rho} {a b : V} {xs : List Value} (h : RelL ρ [a, b] xs) : ∃ x y, xs = [x, y] ∧ Rel ρ a x ∧ Rel ρ b y := by
  obtain ⟨x, xs', rfl, h1, h2⟩ := h.cons_inv
  obtain ⟨y, rfl, h3⟩ := rel_one h2
  exact ⟨x, y, rfl, h1, h3⟩
theorem bound_nat [Orc] {ρ : Rho} {v : V} {x : Value} (h : Rel ρ v x) {n : Nat} (hn : natA (some v) = some n) : ∃ k, x = .int k (n : Int) := by
  cases h <;> simp only [natA, reduceCtorEq] at hn
  rename_i k m
  cases m <;> simp only [natA, Option.some.injEq, reduceCtorEq] at hn
  subst hn; exact ⟨k, rfl⟩
theorem slice_run [Orc] {x : Value} {b o n s : Nat} {ty e : TypeId} (hx : x = .pointer (some ⟨b, o, none⟩)) (hu : P.underlying ty = some (.array n e)) (hs : sz P e = some s) {lo hi : Option Value} {l r : Nat}
    (hl : (lo = none ∧ l = 0) ∨ ∃ k, lo = some (.int k (l : Int))) (hr : (hi = none ∧ r = n) ∨ ∃ k, hi = some (.int k (r : Int))) (h1 : l ≤ r) (h2 : r ≤ n) (w : World) :
    (Instr.sliceAt ty x lo hi none).run P w = .ok (.slice (some (if n = l then ⟨b, o, none⟩ else (⟨b, o, none⟩ : Addr).add (l * s))) (r - l) (n - l)) w := by
  subst hx
  have hb : (Instr.sliceBounds false n n lo hi none).run P w = .ok (l, r, n) w := by
    rcases hr with ⟨rfl, rfl⟩ | ⟨k, rfl⟩ <;> rcases hl with ⟨rfl, rfl⟩ | ⟨k', rfl⟩
    · rfl
    · simp only [Instr.sliceBounds, pure_bind, Sem.run_bind, run_bound rfl h1, Result.andThen_ok, Option.isSome_none, Bool.false_eq_true, if_false, Sem.run_pure]
    · simp only [Instr.sliceBounds, pure_bind, Sem.run_bind, run_bound rfl h2, Result.andThen_ok, Sem.run_pure]
    · simp only [Instr.sliceBounds, pure_bind, Sem.run_bind, run_bound rfl h2, run_bound rfl h1, Result.andThen_ok, Option.isSome_none, Bool.false_eq_true, if_false, Sem.run_pure]
  have hsz := run_sz (w := w) hs
  simp only [Instr.sliceAt, Sem.run_bind, run_underlying hu, Result.andThen_ok, Instr.sureAddr, pure_bind, Sem.run_pure, hb, hsz]
theorem sliceX_sim [Orc] {ρ : Rho} {ty : TypeId} {lo hi : Option Operand} {a : V} {as : List V} {v : V} {x : Operand} {ev : Operand → Value} (h : sliceX P ty lo.isSome hi.isSome a as = some v) (hr : RelL ρ (a :: as) ((x :: (lo.toList ++ hi.toList)).map ev)) (w : World) :
    ∃ r, (Instr.sliceAt ty (ev x) (lo.map ev) (hi.map ev) none).run P w = .ok r w ∧ Rel ρ v r := by
  unfold sliceX at h
  cases hu : P.underlying ty with
  | none => rw [hu] at h; cases h
  | some d =>
    rw [hu] at h
    cases d <;> simp only [reduceCtorEq] at h
    · rename_i n e
      cases hs : sz P e with
      | none => rw [hs] at h; cases h
      | some s =>
        rw [hs] at h
        simp only at h
        simp only [List.map_cons] at hr
        obtain ⟨x0, xs0, hx0, hrx, hrs⟩ := hr.cons_inv
        simp only [List.cons.injEq] at hx0
        obtain ⟨rfl, rfl⟩ := hx0
        obtain ⟨b, o, l', r', hx, hl, hr', h1, h2, h3⟩ := cutA_sim h hrx
        refine ⟨_, slice_run hx hu hs ?_ ?_ h1 h2 w, h3⟩
        · cases lo with
          | none =>
            refine .inl ⟨rfl, ?_⟩
            cases as <;> simp [bndX] at hl <;> omega
          | some y =>
            refine .inr ?_
            cases as with
            | nil => simp [bndX] at hl
            | cons u as =>
              simp only [Option.isSome_some, bndX, cond_true] at hl
              obtain ⟨z, zs, hz, h4, _⟩ := hrs.cons_inv
              simp only [Option.toList_some, List.cons_append, List.nil_append, List.map_cons, List.cons.injEq] at hz
              obtain ⟨rfl, _⟩ := hz
              obtain ⟨k, hk⟩ := bound_nat h4 hl
              exact ⟨k, by rw [Option.map_some, hk]⟩
        · cases hi with
          | none =>
            refine .inl ⟨rfl, ?_⟩
            cases hq : (bndX lo.isSome 0 as).2 with
            | nil => rw [hq] at hr'; simp [bndX] at hr'; omega
            | cons u us => rw [hq] at hr'; simp [bndX] at hr'; omega
          | some y =>
            refine .inr ?_
            have key : ∀ (as : List V), RelL ρ as [ev y] → (bndX true n as).1 = some r' → ∃ k, some (ev y) = some (.int k (r' : Int)) := by
              intro as hrs hh
              obtain ⟨u, rfl⟩ : ∃ u, as = [u] := by
                have := hrs.1
                cases as with
                | nil => simp at this
                | cons u us => cases us with
                  | nil => exact ⟨u, rfl⟩
                  | cons => simp at this
              simp only [bndX, cond_true] at hh
              obtain ⟨z, hz, h4⟩ := rel_one hrs
              simp only [List.cons.injEq, and_true] at hz
              subst hz
              obtain ⟨k, hk⟩ := bound_nat h4 hh
              exact ⟨k, by rw [hk]⟩
            cases lo with
            | none =>
              simp only [Option.toList_none, List.nil_append, Option.toList_some, List.map_cons, List.map_nil] at hrs
              refine key as hrs ?_
              cases as with
              | nil => have := hrs.1; simp at this
              | cons u us => simpa [bndX] using hr'
            | some z =>
              simp only [Option.toList_some, List.cons_append, List.nil_append, List.map_cons, List.map_nil] at hrs
              cases as with
              | nil => have := hrs.1; simp at this
              | cons u us =>
                obtain ⟨z0, zs, hz, h4, h5⟩ := hrs.cons_inv
                simp only [List.cons.injEq] at hz
                obtain ⟨_, rfl⟩ := hz
                exact key us h5 (by simpa [bndX] using hr')
theorem opP_reads [Orc] {o : Op} (hk : kdP P o = 1 ∨ kdP P o = 2) {as : List V} {h h' : Hp} {v : V} (he : opP P o as h = some (v, h')) : h' = h ∧ ∀ ρ w (a : Act) (oo : Oper), oo.op = o → Live P ρ w h → RelL ρ as (o.operands.toList.map a.eval) →
    ∃ x, (execOp a.eval oo).run P w = .ok (.value x) w ∧ Rel ρ v x := by
  have take : ∀ {w : World} {ρ : Rho} {s : Sem Value}, (∃ x, s.run P w = .ok x w ∧ Rel ρ v x) → ∃ x, (do let r ← s; pure (Go.Next.value r) : Sem Go.Next).run P w = .ok (.value x) w ∧ Rel ρ v x :=
    fun ⟨x, h1, h2⟩ => ⟨x, run_v h1, h2⟩
  cases o <;> try (simp [kdP] at hk; done)
  case binOp op ty x y pre =>
    simp only [opP] at he
    split at he <;> try (cases he; done)
    rename_i a b
    cases hq : Nat.beq (kdEq P op ty) 1 <;> rw [hq] at he
    · cases he
    · simp only [cond_true] at he
      obtain ⟨rfl, h1⟩ := vh_some he
      refine ⟨rfl, fun ρ w act oo ho _ hr => ?_⟩
      obtain ⟨u, v', huv, r1, r2⟩ := rel_two (xs := [act.eval x, act.eval y]) (by simpa [Op.operands] using hr)
      simp only [List.cons.injEq, and_true] at huv
      obtain ⟨rfl, rfl⟩ := huv
      unfold execOp; rw [ho]
      exact take (eqX_sim h1 r1 r2 w)
  case unOp op ty x =>
    cases op <;> try (simp [kdP] at hk; done)
    simp only [opP] at he
    split at he <;> try (cases he; done)
    obtain ⟨rfl, h1⟩ := vh_some he
    refine ⟨rfl, fun ρ w act oo ho _ hr => ?_⟩
    obtain ⟨u, hu, r1⟩ := rel_one (xs := [act.eval x]) (by simpa [Op.operands] using hr)
    simp only [List.cons.injEq, and_true] at hu
    subst hu
    unfold execOp; rw [ho]
    exact take (xorV_sim h1 r1 w)
  case convert s d x =>
    simp only [opP] at he
    split at he <;> try (cases he; done)
    obtain ⟨rfl, h1⟩ := vh_some he
    refine ⟨rfl, fun ρ w act oo ho H hr => ?_⟩
    obtain ⟨u, hu, r1⟩ := rel_one (xs := [act.eval x]) (by simpa [Op.operands] using hr)
    simp only [List.cons.injEq, and_true] at hu
    subst hu
    unfold execOp; rw [ho]
    exact take (convX_sim H h1 r1)
  case slice ty x lo hi mx =>
    cases mx <;> try (simp [kdP] at hk; done)
    simp only [opP] at he
    split at he <;> try (cases he; done)
    obtain ⟨rfl, h1⟩ := vh_some he
    refine ⟨rfl, fun ρ w act oo ho H hr => ?_⟩
    unfold execOp; rw [ho]
    exact take (sliceX_sim h1 (x := x) (by simpa [Op.operands] using hr) w)
  case call c =>
    obtain ⟨callee, args, tys⟩ := c
    cases callee <;> try (simp [kdP] at hk; done)
    rename_i b
    simp only [opP] at he
    cases b <;> try (simp [kdP, kdB] at hk; done)
    · simp only [builtX] at he
      split at he <;> try (cases he; done)
      rename_i ty tyr x hty
      split at he <;> try (cases he; done)
      rename_i e hu
      obtain ⟨rfl, h1⟩ := vh_some he
      refine ⟨rfl, fun ρ w act oo ho H hr => ?_⟩
      obtain ⟨u, hu1, r1⟩ := rel_one (xs := args.toList.map act.eval) (by simpa [Op.operands, Call.operands] using hr)
      unfold execOp; rw [ho]
      simp only [resolve, pure_bind, invoke, builtin]
      have ha0 : (args.map act.eval)[0]? = some u := by
        have : (args.map act.eval).toList = [u] := by simpa using hu1
        rw [← Array.getElem?_toList, this]; rfl
      have ht0 : tys[0]? = some ty := by rw [← Array.getElem?_toList, hty]; rfl
      exact take (capV_sim h1 r1 hu ht0 ha0 _ w)
    · simp only [builtX] at he
      split at he <;> try (cases he; done)
      obtain ⟨rfl, h1⟩ := vh_some he
      refine ⟨rfl, fun ρ w act oo ho H hr => ?_⟩
      obtain ⟨u, v', huv, r1, r2⟩ := rel_two (xs := args.toList.map act.eval) (by simpa [Op.operands, Call.operands] using hr)
      unfold execOp; rw [ho]
      simp only [resolve, pure_bind, invoke, builtin]
      have ha0 : args.map act.eval = #[u, v'] := by
        apply Array.ext'; simpa using huv
      rw [ha0]
      exact take (maxV_sim h1 r1 r2 _ _ w)
    · simp only [builtX] at he
      split at he <;> try (cases he; done)
      obtain ⟨rfl, h1⟩ := vh_some he
      refine ⟨rfl, fun ρ w act oo ho H hr => ?_⟩
      obtain ⟨u, v', huv, r1, r2⟩ := rel_two (xs := args.toList.map act.eval) (by simpa [Op.operands, Call.operands] using hr)
      unfold execOp; rw [ho]
      simp only [resolve, pure_bind, invoke, builtin]
      have ha0 : args.map act.eval = #[u, v'] := by
        apply Array.ext'; simpa using huv
      rw [ha0]
      exact take (minV_sim h1 r1 r2 _ _ w)
theorem opP_pure {o : Op} (hk : kdP P o = 1) (as : List V) (h h2 : Hp) : opP P o as h2 = (opP P o as h).map fun p => (p.1, h2) := by
  cases o <;> try (simp [kdP] at hk; done)
  case binOp op ty x y pre =>
    simp only [opP]
    split
    · cases Nat.beq (kdEq P op ty) 1
      · rfl
      · exact vh_map' _ _ _
    · rfl
  case unOp op ty x =>
    cases op <;> try (simp [kdP] at hk; done)
    simp only [opP]
    split
    · exact vh_map' _ _ _
    · rfl
  case convert s d x =>
    simp only [kdP] at hk
    split at hk <;> cases hk
  case slice ty x lo hi mx =>
    cases mx <;> try (simp [kdP] at hk; done)
    simp only [opP]
    split
    · exact vh_map' _ _ _
    · rfl
  case call c =>
    obtain ⟨callee, args, tys⟩ := c
    cases callee <;> try (simp [kdP] at hk; done)
    rename_i b
    cases b <;> try (simp [kdP, kdB] at hk; done)
    all_goals
      simp only [opP, builtX]
      repeat' split
      all_goals first | exact vh_map' _ _ _ | rfl
theorem xops [Orc] (hk : ∀ o, Orc.kd o = kdP P o) (ho : ∀ o as h, Orc.op o as h = opP P o as h) : OpOk P where
  pure o h1 as h h2 := by rw [ho, ho]; exact opP_pure (by rw [← hk]; exact h1) as h h2
  reads o as h v h' h1 he := opP_reads (by rw [← hk]; exact h1) (by rw [← ho]; exact he)
  make o as h v h' he hn := by
    rw [ho] at he
    rw [hk] at hn
    by_cases h12 : kdP P o = 1 ∨ kdP P o = 2
    · obtain ⟨rfl, h1⟩ := opP_reads h12 he
      refine ⟨Fr.refl _, fun Z w0 w ρ a oo hoo H hr => ?_⟩
      obtain ⟨x, h2, h3⟩ := h1 ρ w a oo hoo H.live hr
      exact ⟨x, w, ρ, .inl h2, h3, Ext.refl _, H⟩
    · cases o <;> try (simp [kdP] at hn; done)
      case binOp op ty x y pre =>
        exfalso
        simp only [kdP] at hn h12
        unfold kdEq at hn h12
        split at hn <;> first | (split at hn <;> simp_all) | simp_all
      case unOp op ty x => cases op <;> simp [kdP] at hn h12
      case convert s d x =>
        exfalso
        simp only [kdP] at hn h12
        split at hn <;> simp_all
      case slice ty x lo hi mx =>
        exfalso
        cases mx <;> try (simp [kdP] at hn; done)
        simp only [kdP] at hn h12
        split at hn <;> simp_all
      case call c =>
        obtain ⟨callee, args, tys⟩ := c
        cases callee <;> try (simp [kdP] at hn; done)
        rename_i b
        cases b <;> try (simp [kdP, kdB] at hn h12; done)
        simp only [opP, builtX] at he
        split at he <;> try (cases he; done)
        rename_i ty tyr d x hty
        split at he <;> try (cases he; done)
        rename_i e hu
        split at he <;> try (cases he; done)
        rename_i s hs
        refine ⟨?_, fun Z w0 w ρ a oo hoo H hr => ?_⟩
        · unfold cpN at he
          split at he <;> try (cases he; done)
          split at he <;> try (cases he; done)
          unfold cpTo at he
          split at he <;> try (cases he; done)
          simp only [Bool.cond_eq_ite] at he
          (repeat' split at he) <;> first | (cases he; done) | (simp only [Option.some.injEq, Prod.mk.injEq] at he; obtain ⟨_, rfl⟩ := he; first | exact Fr.refl _ | exact Fr.put _ _ _)
        · obtain ⟨u, v', huv, r1, r2⟩ := rel_two (xs := args.toList.map a.eval) (by simpa [Op.operands, Call.operands] using hr)
          have ht0 : tys[0]? = some ty := by rw [← Array.getElem?_toList, hty]; rfl
          obtain ⟨r, w', h1, h2, h3⟩ := cp_sim H he r1 r2 hu hs ht0 oo.type
          refine ⟨r, w', ρ, .inl ?_, h2, Ext.refl _, h3⟩
          unfold execOp; rw [hoo]
          simp only [resolve, pure_bind, invoke, builtin]
          have ha0 : args.map a.eval = #[u, v'] := by
            apply Array.ext'; simpa using huv
          rw [ha0]
          exact run_v h1
end Go.Mid
