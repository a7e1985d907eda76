/- An operation that only reads. -/
import Derived.Test.YthbcbfgpfpogkaaGreatFMidF
set_option linter.all false
set_option warn.classDefReducibility false
namespace Go.Mid
open Go.RowKit
variable {P : Program} [Orc] [Z : Res]

theorem read_simC {ρ : Rho} {a : Act} {t : Tr V} {h h' : Hp} {w : World} {o : Oper} {v : V} (H : Live P ρ w h) (ho : OpR ρ a t o.op.operands.toList) (hm : makesC o.op = false) (he : execC P t h o.op = some (v, h')) :
    h' = h ∧ ∃ x, (execOp a.eval o).run P w = .ok (.value x) w ∧ Rel ρ v x := by
  obtain ⟨dst, op, type, pos, after, guard⟩ := o
  have take : ∀ {s : Sem Value}, (h' = h ∧ ∃ x, s.run P w = .ok x w ∧ Rel ρ v x) → h' = h ∧ ∃ x, (do let r ← s; pure (Next.value r) : Sem Next).run P w = .ok (.value x) w ∧ Rel ρ v x :=
    fun ⟨e, x, h1, h2⟩ => ⟨e, x, run_v h1, h2⟩
  have read : ∀ {x : Operand} {u : V}, x ∈ op.operands.toList → evalO t x = some u → Rel ρ u (a.eval x) := fun hx hu => ho _ hx _ hu
  cases op <;> simp only [makesC, Bool.true_eq_false] at hm <;> simp only [execC] at he <;> simp only [Op.operands] at read ho
  case move x =>
    obtain ⟨rfl, h1⟩ := vh_some he
    exact ⟨rfl, a.eval x, rfl, read (by simp) h1⟩
  case assign x =>
    obtain ⟨rfl, h1⟩ := vh_some he
    exact ⟨rfl, a.eval x, rfl, read (by simp) h1⟩
  case pick c x y =>
    unfold exPick at he
    cases hc : evalO t c with
    | none => simp [hc] at he
    | some u =>
      have hr := read (by simp) hc
      cases u <;> simp only [hc, reduceCtorEq] at he
      rename_i b
      cases hcv : a.eval c <;> rw [hcv] at hr <;> cases hr
      cases b <;> simp only at he
      · obtain ⟨rfl, h1⟩ := vh_some he
        exact ⟨rfl, a.eval y, by simp [execOp, hcv, asBool], read (by simp) h1⟩
      · obtain ⟨rfl, h1⟩ := vh_some he
        exact ⟨rfl, a.eval x, by simp [execOp, hcv, asBool], read (by simp) h1⟩
  case build ty parts =>
    unfold exBuild at he
    cases hp : evalP t parts.toList with
    | none => simp [hp] at he
    | some ps =>
      simp only [hp] at he
      cases hz : zero P ty with
      | none => simp [hz] at he
      | some z =>
        simp only [hz] at he
        cases hu : P.underlying ty with
        | none => simp [hu] at he
        | some d =>
          simp only [hu] at he
          have hpr : PartR ρ ps (parts.map fun (i, x) => (i, a.eval x)).toList := by
            have := evalP_sim (ρ := ρ) (a := a) (t := t) (xs := parts.toList) (vs := ps) (by simpa using ho) hp
            simpa using this
          exact take (bld_sim hpr hz hu he w)
  case load ty x =>
    cases hx : evalO t x with
    | none => simp [hx, exLoad] at he
    | some u =>
      have hr := read (by simp) hx
      rw [hx] at he
      cases hxv : a.eval x <;> rw [hxv] at hr <;> cases hr <;> simp only [exLoad, reduceCtorEq] at he
      rename_i b l off hb
      obtain ⟨rfl, h1⟩ := vh_some he
      obtain ⟨r, h2, h3⟩ := loadV_sim H hb h1
      refine take ⟨rfl, r, ?_, h3⟩
      rw [hxv]
      exact h2
  case nilCheck x =>
    cases hx : evalO t x with
    | none => simp [hx, exNil] at he
    | some u =>
      have hr := read (by simp) hx
      rw [hx] at he
      cases hxv : a.eval x <;> rw [hxv] at hr <;> cases hr <;> simp only [exNil, Option.some.injEq, Prod.mk.injEq, reduceCtorEq] at he <;> obtain ⟨rfl, rfl⟩ := he <;>
        refine ⟨rfl, _, by simp only [execOp]; rw [hxv]; rfl, ?_⟩ <;> constructor <;> assumption
  case binOp op ty x y ty2 =>
    unfold exBin at he
    cases hx : evalO t x with
    | none => simp [hx] at he
    | some u =>
      cases hy : evalO t y with
      | none => simp [hx, hy] at he
      | some u' =>
        simp only [hx, hy] at he
        obtain ⟨rfl, h1⟩ := vh_some he
        exact take ⟨rfl, binV_sim ty h1 (read (by simp) hx) (read (by simp) hy) x y w⟩
  case unOp op ty x =>
    cases hx : evalO t x with
    | none => simp [hx, exUn] at he
    | some u =>
      simp only [hx, exUn] at he
      obtain ⟨rfl, h1⟩ := vh_some he
      exact take ⟨rfl, unV_sim h1 (read (by simp) hx) w⟩
  case convert src dst x =>
    cases hx : evalO t x with
    | none => simp [hx, exConv] at he
    | some u =>
      have hr := read (by simp) hx
      rw [hx] at he
      cases hxv : a.eval x <;> rw [hxv] at hr <;> cases hr <;> simp only [exConv, reduceCtorEq] at he
      · rename_i k n
        cases hs : P.underlying src with
        | none => simp [hs] at he
        | some d =>
          simp only [hs] at he
          cases hd : P.underlying dst with
          | none => simp [hd] at he
          | some e =>
            cases e <;> simp only [hd, reduceCtorEq] at he
            simp only [Option.some.injEq, Prod.mk.injEq] at he
            obtain ⟨rfl, rfl⟩ := he
            rename_i k'
            refine take ⟨rfl, .int k' (k'.wrap n), ?_, by rw [fwrap_eq]; exact .int _ _⟩
            rw [hxv]
            simp only [convert, Sem.run_bind, run_underlying hs, run_underlying hd, Result.andThen_ok]
            cases d <;> rfl
      · rename_i s
        cases hs : P.underlying src with
        | none => simp [hs] at he
        | some d =>
          cases d <;> simp only [hs, reduceCtorEq] at he
          cases hd : P.underlying dst with
          | none => simp [hd] at he
          | some e =>
            cases e <;> simp only [hd, reduceCtorEq] at he
            simp only [Option.some.injEq, Prod.mk.injEq] at he
            obtain ⟨rfl, rfl⟩ := he
            refine take ⟨rfl, _, ?_, .str s⟩
            rw [hxv]
            simp only [convert, Sem.run_bind, run_underlying hs, run_underlying hd, Result.andThen_ok]
            rfl
  case makeInterface ty x =>
    cases hx : evalO t x with
    | none => simp [hx, exIface] at he
    | some u =>
      simp only [hx, exIface] at he
      cases hu : P.underlying ty with
      | none => simp [hu] at he
      | some d =>
        have hr := read (by simp) hx
        cases d <;> simp only [hu, reduceCtorEq, Option.some.injEq, Prod.mk.injEq] at he <;> obtain ⟨rfl, rfl⟩ := he <;>
          exact take ⟨rfl, .iface ty (a.eval x), by simp only [Instr.makeInterface, Sem.run_bind, run_underlying hu, Result.andThen_ok]; rfl, .iface ty hr⟩
  case makeFunc fn first cap =>
    unfold exFunc at he
    cases fn <;> simp only [reduceCtorEq] at he
    rename_i f
    cases h1 : evalL t first.toList with
    | none => simp [h1] at he
    | some as =>
      simp only [h1] at he
      cases h2 : evalL t cap.toList with
      | none => simp [h2] at he
      | some cs =>
        simp only [h2, Option.some.injEq, Prod.mk.injEq] at he
        obtain ⟨rfl, rfl⟩ := he
        have r1 := evalL_sim (ρ := ρ) (a := a) (t := t) (fun y hy => ho y (by simp; exact .inl (by simpa using hy))) h1
        have r2 := evalL_sim (ρ := ρ) (a := a) (t := t) (fun y hy => ho y (by simp; exact .inr (by simpa using hy))) h2
        refine take ⟨rfl, .func (.func f) ⟨first.toList.map a.eval⟩ ⟨cap.toList.map a.eval⟩, ?_, .func f r1.1 r1.2 r2.1 r2.2⟩
        have e1 : first.map a.eval = ⟨first.toList.map a.eval⟩ := by apply Array.ext'; simp
        have e2 : cap.map a.eval = ⟨cap.toList.map a.eval⟩ := by apply Array.ext'; simp
        rw [e1, e2]; rfl
  case slice ty x lo hi mx =>
    cases mx with
    | some _ => simp at he
    | none =>
      simp only at he
      exact take (slice_sim H (fun y hy => ho y (by
        rcases hy with rfl | rfl | rfl <;> simp)) he)
  case fieldAddr ty x f =>
    cases hx : evalO t x with
    | none => simp [hx, exFieldAddr] at he
    | some u =>
      have hr := read (by simp) hx
      rw [hx] at he
      cases hxv : a.eval x <;> rw [hxv] at hr <;> cases hr <;> simp only [exFieldAddr, reduceCtorEq] at he
      rename_i b l off hb
      cases hu : P.underlying ty with
      | none => simp [hu] at he
      | some d =>
        cases d <;> simp only [hu, reduceCtorEq] at he
        rename_i fields
        cases hf : fields[f]? with
        | none => simp [hf] at he
        | some fl =>
          simp only [hf] at he
          cases hs : sz P fl.type with
          | none => simp [hs] at he
          | some s =>
            simp only [hs] at he
            cases hb0 : Nat.beq s 0 with
            | true => simp [hb0] at he
            | false =>
              have hs0 : ¬ s = 0 := fun e => by subst e; simp at hb0
              simp only [hb0, cond_false, Option.some.injEq, Prod.mk.injEq] at he
              obtain ⟨rfl, rfl⟩ := he
              refine take ⟨rfl, _, ?_, .ptr _ hb⟩
              rw [hxv]
              simp only [Instr.fieldAt, Sem.run_bind, run_underlying hu, Result.andThen_ok, hf]
              simp only [Instr.sureAddr, fieldPlace, Sem.run_bind, run_sz hs, Result.andThen_ok, Sem.run_pure, if_neg hs0, add_at, Nat.add_assoc]
  case field ty x f =>
    cases hx : evalO t x with
    | none => simp [hx, exField] at he
    | some u =>
      have hr := read (by simp) hx
      rw [hx] at he
      cases hxv : a.eval x <;> rw [hxv] at hr <;> cases hr <;> simp only [exField, reduceCtorEq] at he
      rename_i cs xs hl hrr
      cases hu : P.underlying ty with
      | none => simp [hu] at he
      | some d =>
        cases d <;> simp only [hu, reduceCtorEq] at he
        rename_i fields
        cases hf : fields[f]? with
        | none => simp [hf] at he
        | some fl =>
          simp only [hf] at he
          obtain ⟨rfl, h1⟩ := vh_some he
          obtain ⟨r, h2, h3⟩ := partV_sim (P := P) ⟨hl, hrr⟩ h1 w
          refine take ⟨rfl, r, ?_, h3⟩
          rw [hxv]
          simp only [Instr.field, Sem.run_bind, run_underlying hu, Result.andThen_ok, hf]
          simpa [asAgg] using h2
  case indexAddr ty x ix =>
    unfold exIndexAddr at he
    cases hix : natA (evalO t ix) with
    | none => simp [hix] at he
    | some i =>
      obtain ⟨k, hk⟩ := natA_spec hix
      have hri := read (x := ix) (by simp) hk
      simp only [hix] at he
      cases hiv : a.eval ix <;> rw [hiv] at hri <;> cases hri
      cases hx : evalO t x with
      | none => simp [hx] at he
      | some u =>
        have hr := read (x := x) (by simp) hx
        rw [hx] at he
        cases hxv : a.eval x <;> rw [hxv] at hr <;> cases hr <;> simp only [reduceCtorEq] at he
        case pointer.ptr =>
          rename_i b l off hb
          cases hu : P.underlying ty with
          | none => simp [hu] at he
          | some d =>
            cases d <;> simp only [hu, reduceCtorEq] at he
            rename_i len elem
            cases hs : sz P elem with
            | none => simp [hs] at he
            | some s =>
              simp only [hs] at he
              cases hb0 : Nat.blt i len with
              | false => simp [hb0] at he
              | true =>
                have hlt : i < len := Nat.le_of_ble_eq_true hb0
                simp only [hb0, cond_true, Option.some.injEq, Prod.mk.injEq] at he
                obtain ⟨rfl, rfl⟩ := he
                refine take ⟨rfl, _, ?_, .ptr _ hb⟩
                rw [hxv, hiv]
                simp only [Instr.indexAt, asIntOf, Sem.run_bind, Sem.run_pure, run_underlying hu, Result.andThen_ok, Instr.sureAddr]
                rw [if_pos (by omega)]
                simp [run_sz hs, add_at, Nat.add_assoc]
        all_goals
          cases hu : P.underlying ty with
          | none => simp [hu] at he
          | some d =>
            cases d <;> simp only [hu, reduceCtorEq] at he
            rename_i elem
            cases hs : sz P elem with
            | none => simp [hs] at he
            | some s =>
              simp only [hs] at he
              simp only [Bool.cond_eq_ite, Option.ite_none_right_eq_some, Option.some.injEq, Prod.mk.injEq] at he
              obtain ⟨hlt0, rfl, rfl⟩ := he
              have hlt := Nat.le_of_ble_eq_true hlt0
              first
              | (exfalso; omega)
              | (refine take ⟨rfl, _, ?_, .ptr _ (by assumption)⟩
                 rw [hxv, hiv]
                 simp only [Instr.indexAt, asIntOf, Sem.run_bind, Sem.run_pure, run_underlying hu, Result.andThen_ok]
                 rw [if_pos (by omega)]
                 simp [run_sz hs, add_at, Nat.add_assoc])
  case index ty x ix =>
    unfold exIndex at he
    cases hix : natA (evalO t ix) with
    | none => simp [hix] at he
    | some i =>
      obtain ⟨k, hk⟩ := natA_spec hix
      have hri := read (x := ix) (by simp) hk
      simp only [hix] at he
      cases hiv : a.eval ix <;> rw [hiv] at hri <;> cases hri
      cases hx : evalO t x with
      | none => simp [hx] at he
      | some u =>
        have hr := read (x := x) (by simp) hx
        rw [hx] at he
        cases hxv : a.eval x <;> rw [hxv] at hr <;> cases hr <;> simp only [reduceCtorEq] at he
        case string.str =>
          rename_i s
          cases hu : P.underlying ty with
          | none => simp [hu] at he
          | some d =>
            cases d <;> simp only [hu, reduceCtorEq] at he
            rw [Bs.get_eq] at he
            cases hg : s.l[i]? with
            | none => simp [hg] at he
            | some b =>
              simp only [hg, Option.map_some, Option.some.injEq, Prod.mk.injEq] at he
              obtain ⟨rfl, rfl⟩ := he
              refine take ⟨rfl, _, ?_, .int .u8 _⟩
              rw [hxv, hiv]
              have hgb : (ByteArray.mk ⟨s.l⟩)[i]? = some b := by
                have hlt : i < s.l.length := by
                  rcases Nat.lt_or_ge i s.l.length with h1 | h1
                  · exact h1
                  · rw [List.getElem?_eq_none h1] at hg; cases hg
                rw [List.getElem?_eq_getElem hlt] at hg
                have hlt' : i < (ByteArray.mk ⟨s.l⟩).size := hlt
                rw [getElem?_pos (ByteArray.mk ⟨s.l⟩) i hlt']
                exact hg
              simp only [Instr.index, asIntOf, Sem.run_bind, Sem.run_pure, run_underlying hu, Result.andThen_ok]
              rw [if_pos (by omega), Int.toNat_natCast, hgb]
              rfl
        case agg.agg =>
          rename_i cs xs hl hrr
          cases hu : P.underlying ty with
          | none => simp [hu] at he
          | some d =>
            cases d <;> simp only [hu, reduceCtorEq] at he
            rename_i len elem
            cases hs : sz P elem with
            | none => simp [hs] at he
            | some s =>
              simp only [hs] at he
              cases hb0 : Nat.blt i len with
              | false => simp [hb0] at he
              | true =>
                have hlt : i < len := Nat.le_of_ble_eq_true hb0
                simp only [hb0, cond_true] at he
                obtain ⟨rfl, h1⟩ := vh_some he
                obtain ⟨r, h2, h3⟩ := partV_sim (P := P) ⟨hl, hrr⟩ h1 w
                refine take ⟨rfl, r, ?_, h3⟩
                rw [hxv, hiv]
                simp only [Instr.index, asIntOf, Sem.run_bind, Sem.run_pure, run_underlying hu, Result.andThen_ok]
                rw [if_pos (by omega)]
                simp only [Sem.run_bind, run_sz hs, Result.andThen_ok, Int.toNat_natCast]
                exact h2
  case lookup ty x ix ok =>
    unfold exLookup at he
    cases hu : P.underlying ty with
    | none => simp [hu] at he
    | some d =>
      cases d <;> simp only [hu, reduceCtorEq] at he
      rename_i key elem
      cases hk : evalO t ix with
      | none => simp [hk] at he
      | some k =>
        have hrk := read (x := ix) (by simp) hk
        simp only [hk] at he
        cases hok : keyOk (P.underlying key) k with
        | false => simp [hok] at he
        | true =>
          simp only [hok, cond_true] at he
          cases hkd : P.underlying key with
          | none => rw [hkd] at hok; simp [keyOk] at hok
          | some kd =>
            rw [hkd] at hok
            cases hm : mapOf h (evalO t x) with
            | none => simp [hm] at he
            | some es =>
              simp only [hm] at he
              have hmap : ∃ ents : List MapEntry, ((a.eval x = .map none ∧ ents = []) ∨ ∃ r clock, a.eval x = .map (some r) ∧ w.heap[r]? = some (.map ⟨ents⟩ clock)) ∧ es.length = ents.length ∧
                  ∀ (i : Nat) a b e, es[i]? = some (a, b) → ents[i]? = some e → Rel ρ a e.key ∧ Rel ρ b e.val := by
                cases hx : evalO t x with
                | none => simp [hx, mapOf] at hm
                | some u =>
                  have hr := read (x := x) (by simp) hx
                  rw [hx] at hm
                  cases hxv : a.eval x <;> rw [hxv] at hr <;> cases hr <;> simp only [mapOf, reduceCtorEq, Option.some.injEq] at hm
                  · rename_i b l hb
                    cases hg : h.t.get b with
                    | none => simp [hg] at hm
                    | some ob =>
                      cases ob <;> simp only [hg, reduceCtorEq, Option.some.injEq] at hm
                      subst hm
                      obtain ⟨ents, clock, M⟩ := H b l _ hb hg
                      exact ⟨ents, .inr ⟨_, clock, rfl, M.at_⟩, M.len, M.get⟩
                  · subst hm
                    exact ⟨[], .inl ⟨rfl, rfl⟩, rfl, fun i a b e h => by simp at h⟩
              obtain ⟨ents, e1, e2, e3⟩ := hmap
              cases hg : mapGet k es with
              | none => simp [hg, lookIn, lookZ] at he
              | some r =>
                rw [hg] at he
                have hfind := mapGet_sim hrk hok 0 e2 e3 hg
                have hck := run_checkKey (P := P) hrk hkd hok
                have start : ∀ (f : Option (Nat × Value)) (x' : Value), Instr.findNow kd (a.eval ix) ents 0 = some f →
                    ((match f with | some (_, v) => pure (v, true) | none => do pure (← zeroValue elem, false) : Sem (Value × Bool)).run P w = .ok (x', f.isSome) w) →
                    (Instr.lookup ty (a.eval x) (a.eval ix) ok).run P w = .ok (if ok then .tuple #[x', .bool f.isSome] else x') w := by
                  intro f x' hf hz
                  have hfk : (Instr.findKey key (a.eval ix) ents).run P w = .ok f w := by
                    simp only [Instr.findKey, Sem.run_bind, run_underlying hkd, Result.andThen_ok, hf]
                    rfl
                  have fin : ∀ b, (do
                      Instr.checkKey b 10000 key (a.eval ix)
                      match ← Instr.findKey key (a.eval ix) ents with
                        | some (_, v) => pure (if ok = true then Value.tuple #[v, Value.bool true] else v)
                        | none => do
                          let z ← zeroValue elem
                          pure (if ok = true then Value.tuple #[z, Value.bool false] else z) : Sem Value).run P w = .ok (if ok then .tuple #[x', .bool f.isSome] else x') w := by
                    intro b
                    simp only [Sem.run_bind, hck, Result.andThen_ok, hfk]
                    have hz' := hz
                    cases f with
                    | none =>
                      simp only [Sem.run_bind] at hz' ⊢
                      cases hzz : (zeroValue elem).run P w with
                      | halt q w' => rw [hzz] at hz'; cases hz'
                      | ok z w' =>
                        rw [hzz] at hz'
                        simp only [Result.andThen_ok, Sem.run_pure, Result.ok.injEq, Prod.mk.injEq] at hz' ⊢
                        obtain ⟨⟨rfl, _⟩, rfl⟩ := hz'
                        exact ⟨rfl, rfl⟩
                    | some p =>
                      obtain ⟨i, v⟩ := p
                      simp only [Sem.run_pure, Result.ok.injEq, Prod.mk.injEq] at hz'
                      obtain ⟨⟨rfl, _⟩, _⟩ := hz'
                      rfl
                  unfold Instr.lookup
                  simp only [Sem.run_bind, run_underlying hu, Result.andThen_ok]
                  rcases e1 with ⟨e1, rfl⟩ | ⟨r', clock, e1, e1'⟩
                  · rw [e1]
                    simp only [pure_bind]
                    exact fin _
                  · rw [e1]
                    simp only [Sem.run_bind, MapKept.run_getObj_map e1', Result.andThen_ok]
                    simp only [← Sem.run_bind, pure_bind]
                    exact fin _
                rcases hfind with ⟨rfl, hf⟩ | ⟨u, x', i, rfl, hf, hru, _⟩
                · simp only [lookIn, lookZ] at he
                  cases hz : zero P elem with
                  | none => simp [hz] at he
                  | some z =>
                    simp only [hz, Option.some.injEq, Prod.mk.injEq] at he
                    obtain ⟨rfl, rfl⟩ := he
                    obtain ⟨ie, zx, hi, hzx, hrz⟩ := info_of_zero (ρ := ρ) hz
                    refine take ⟨rfl, _, start none zx hf (by simp [run_zero hi hzx]), ?_⟩
                    cases ok
                    · exact hrz
                    · exact .tuple (xs := [zx, .bool false]) rfl (RelL.cons hrz (RelL.cons (.bool _) (RelL.nil ρ))).2
                · simp only [lookIn, lookZ, Option.some.injEq, Prod.mk.injEq] at he
                  obtain ⟨rfl, rfl⟩ := he
                  refine take ⟨rfl, _, start _ x' hf rfl, ?_⟩
                  cases ok
                  · exact hru
                  · exact .tuple (xs := [x', .bool true]) rfl (RelL.cons hru (RelL.cons (.bool _) (RelL.nil ρ))).2
  case extract x i =>
    cases hx : evalO t x with
    | none => simp [hx, exExtract] at he
    | some u =>
      have hr := read (by simp) hx
      rw [hx] at he
      cases hxv : a.eval x <;> rw [hxv] at hr <;> cases hr <;> simp only [exExtract, reduceCtorEq] at he
      rename_i cs xs hl hrr
      obtain ⟨rfl, h1⟩ := vh_some he
      rw [getN_eq] at h1
      obtain ⟨r, h2, h3⟩ := RelL.get ⟨hl, hrr⟩ h1
      refine take ⟨rfl, r, ?_, h3⟩
      rw [hxv]
      have h2' : (⟨xs⟩ : Array Value)[i]? = some r := by simpa using h2
      simp only [Instr.extract, h2']
      rfl
  case call c =>
    obtain ⟨callee, args, tys⟩ := c
    cases callee <;> try (simp at hm; done)
    rename_i b
    cases b <;> try (simp at hm; done)
    simp only [exCall, exBuiltin] at he
    unfold exLen at he
    cases hl : evalL t args.toList with
    | none => simp [hl] at he
    | some vs =>
      have hrl := evalL_sim (ρ := ρ) (a := a) (t := t) (fun y hy => ho y (by simpa [Call.operands] using hy)) hl
      cases vs with
      | nil => simp [hl] at he
      | cons u us =>
        simp only [hl] at he
        cases htl : tys.toList with
        | nil => simp [htl] at he
        | cons ty tyr =>
          simp only [htl] at he
          cases hu : P.underlying ty with
          | none => simp [hu] at he
          | some d =>
            simp only [hu] at he
            obtain ⟨x, xs, hxs, hrx, _⟩ := hrl.cons_inv
            have ha0 : (args.map a.eval)[0]? = some x := by
              have : (args.map a.eval).toList = x :: xs := by simpa using hxs
              rw [← Array.getElem?_toList, this]; rfl
            have ht0 : tys[0]? = some ty := by rw [← Array.getElem?_toList, htl]; rfl
            have run : ∀ r, (Builtin.len_ tys type (args.map a.eval)).run P w = .ok r w →
                (execOp a.eval { dst, op := .call { callee := .builtin .len, args, argTypes := tys }, type, pos, after, guard }).run P w = .ok (.value r) w := by
              intro r hr
              simp only [execOp, resolve, pure_bind, invoke, builtin]
              exact run_v hr
            have len : ∀ n : Nat, lenV h d u = some n → (Builtin.len_ tys type (args.map a.eval)).run P w = .ok (.int .i64 (n : Int)) w := by
              intro n hn
              unfold Builtin.len_
              simp only [ht0, ha0, Sem.run_bind, run_underlying hu, Result.andThen_ok]
              unfold lenV at hn
              cases hrx <;> cases d <;> simp only [reduceCtorEq, Option.some.injEq] at hn <;> first
                | (subst hn; rfl; done)
                | (subst hn; rename_i s; rw [← Bs.l_len s]; rfl; done)
                | skip
              rename_i b l hb key elem
              cases hg : h.t.get b with
              | none => simp [hg] at hn
              | some ob =>
                cases ob <;> simp only [hg, reduceCtorEq, Option.some.injEq] at hn
                subst hn
                obtain ⟨ents, clock, M⟩ := H b l _ hb hg
                simp only [Sem.run_bind, MapKept.run_getObj_map M.at_, Result.andThen_ok]
                rw [M.len]; rfl
            cases hn : lenV h d u with
            | none => simp [hn] at he
            | some n =>
              simp only [hn, Option.some.injEq, Prod.mk.injEq] at he
              obtain ⟨rfl, rfl⟩ := he
              exact ⟨rfl, _, run _ (len n hn), .int _ _⟩
theorem read_sim [OpOk P] {ρ : Rho} {a : Act} {t : Tr V} {h h' : Hp} {w : World} {o : Oper} {v : V} (H : Live P ρ w h) (ho : OpR ρ a t o.op.operands.toList) (hm : makes o = false) (he : execV P t h o.op = some (v, h')) :
    h' = h ∧ ∃ x, (execOp a.eval o).run P w = .ok (.value x) w ∧ Rel ρ v x := by
  by_cases hx : xk o.op = 0
  · rw [execV_zero hx] at he
    rw [makes_zero hx] at hm
    exact read_simC H ho hm he
  · rw [execV_ne hx] at he
    obtain ⟨as, h1, h2⟩ := execX_some he
    have hk := (xk_ne hx).2
    have h12 : Orc.kd o.op = 1 ∨ Orc.kd o.op = 2 := by
      rw [← hk]
      unfold makes at hm
      cases e : xk o.op with
      | zero => exact (hx e).elim
      | succ n =>
        cases n with
        | zero => exact .inl rfl
        | succ n =>
          cases n with
          | zero => exact .inr rfl
          | succ n => rw [e] at hm; cases hm
    obtain ⟨e, h3⟩ := OpOk.reads (P := P) _ _ _ _ _ h12 h2
    exact ⟨e, h3 ρ w a o rfl H (evalL_sim ho h1)⟩
end Go.Mid
