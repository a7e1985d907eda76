/- Operations that only read: the whole list. -/
import Derived.Test.YtgajpiaajkbilaaWMidE
set_option linter.all false
namespace Go.Mid
open Go.RowKit
variable {P : Program} [Orc]

theorem vh_some {h h' : Hp} {x : Option V} {v : V} (e : vh h x = some (v, h')) : h' = h ∧ x = some v := by
  cases x with
  | none => simp [vh] at e
  | some u => simp only [vh, Option.some.injEq, Prod.mk.injEq] at e; exact ⟨e.2.symm, by rw [e.1]⟩
theorem evalO_sim {ρ : Rho} {a : Act} {t : Tr V} {xs : List Operand} (ho : OpR ρ a t xs) {x : Operand} (hx : x ∈ xs) {v : V} (h : evalO t x = some v) : Rel ρ v (a.eval x) := ho x hx v h

theorem run_v {s : Sem Value} {x : Value} {w w' : World} (h : s.run P w = .ok x w') : (do let r ← s; pure (Next.value r) : Sem Next).run P w = .ok (.value x) w' := by
  rw [Sem.run_bind, h]; rfl
theorem run_u {s : Sem Unit} {w w' : World} (h : s.run P w = .ok () w') : (do s; pure Next.skip : Sem Next).run P w = .ok .skip w' := by
  rw [Sem.run_bind, h]; rfl

theorem slice_sim {ρ : Rho} {a : Act} {t : Tr V} {h h' : Hp} {w : World} {ty : TypeId} {x : Operand} {lo hi : Option Operand} {v : V} (H : Live P ρ w h)
    (ho : ∀ y, y = x ∨ lo = some y ∨ hi = some y → ∀ v, evalO t y = some v → Rel ρ v (a.eval y)) (he : exSlice P t h ty (evalO t x) lo hi = some (v, h')) :
    h' = h ∧ ∃ r, (Instr.sliceAt ty (a.eval x) (lo.map a.eval) (hi.map a.eval) none).run P w = .ok r w ∧ Rel ρ v r := by
  have low : ∀ {d n : Nat}, bound t d lo = some n → (lo = none ∧ n = d) ∨ ∃ y k, lo = some y ∧ a.eval y = .int k (n : Int) := fun h => bound_sim (fun y hy => ho y (.inr (.inl hy))) h
  have high : ∀ {d n : Nat}, bound t d hi = some n → (hi = none ∧ n = d) ∨ ∃ y k, hi = some y ∧ a.eval y = .int k (n : Int) := fun h => bound_sim (fun y hy => ho y (.inr (.inr hy))) h
  -- the three bounds
  have bounds : ∀ (isS : Bool) (len cap l r : Nat), bound t 0 lo = some l → bound t len hi = some r → l ≤ r → (hi = none ∨ r ≤ cap) →
      (Instr.sliceBounds isS len cap (lo.map a.eval) (hi.map a.eval) none).run P w = .ok (l, r, cap) w := by
    intro isS len cap l r hl hr hlr hcap
    rcases high hr with ⟨e1, e2⟩ | ⟨y, k, e1, e2⟩ <;> rcases low hl with ⟨f1, f2⟩ | ⟨z, k', f1, f2⟩ <;> subst e1 f1
    · subst e2 f2; rfl
    · subst e2
      simp only [Instr.sliceBounds, Option.map_none, Option.map_some, pure_bind, Sem.run_bind, run_bound f2 hlr, Result.andThen_ok, Option.isSome_none, Bool.false_eq_true, if_false, Sem.run_pure]
    · subst f2
      have hc : r ≤ cap := by rcases hcap with h | h; · cases h
                              · exact h
      simp only [Instr.sliceBounds, Option.map_none, Option.map_some, pure_bind, Sem.run_bind, run_bound e2 hc, Result.andThen_ok, Sem.run_pure]
    · have hc : r ≤ cap := by rcases hcap with h | h; · cases h
                              · exact h
      simp only [Instr.sliceBounds, Option.map_some, pure_bind, Sem.run_bind, run_bound e2 hc, run_bound f2 hlr, Result.andThen_ok, Option.isSome_none, Bool.false_eq_true, if_false, Sem.run_pure]
  cases hx : evalO t x with
  | none => simp [hx, exSlice] at he
  | some xv =>
    have hrel := ho x (.inl rfl) xv hx
    rw [hx] at he
    cases hrel' : a.eval x <;> rw [hrel'] at hrel <;> cases hrel <;> simp only [exSlice, reduceCtorEq] at he
    -- a string
    case string.str s =>
      cases hu : P.underlying ty with
      | none => simp [hu] at he
      | some d =>
        cases d <;> simp only [hu, reduceCtorEq] at he
        cases hl : bound t 0 lo with
        | none => simp [hl] at he
        | some l =>
          simp only [hl] at he
          cases hr : bound t s.length hi with
          | none => simp [hr] at he
          | some r =>
            simp only [hr, slStr] at he
            cases hb : (Nat.ble l r && Nat.ble r s.length) with
            | false => simp [hb] at he
            | true =>
              simp only [hb, cond_true, Option.some.injEq, Prod.mk.injEq] at he
              simp only [Bool.and_eq_true] at hb
              have h1 := Nat.le_of_ble_eq_true hb.1
              have h2 := Nat.le_of_ble_eq_true hb.2
              obtain ⟨rfl, rfl⟩ := he
              refine ⟨rfl, .string ((ByteArray.mk ⟨s⟩).extract l r), ?_, ?_⟩
              · have hb := bounds false (ByteArray.mk ⟨s⟩).size (ByteArray.mk ⟨s⟩).size l r hl hr h1 (.inr h2)
                simp only [Instr.sliceAt, Instr.slice, Sem.run_bind, run_underlying hu, Result.andThen_ok]
                simp only [Option.isSome_none, Bool.false_eq_true, if_false, Sem.run_bind, hb, Result.andThen_ok, Sem.run_pure]
              · have e : (ByteArray.mk ⟨s⟩).extract l r = ByteArray.mk ⟨(s.drop l).take (r - l)⟩ := by
                  apply ByteArray.ext
                  rw [ByteArray.data_extract]
                  apply Array.ext'
                  simp [List.extract_eq_take_drop]
                rw [e]; exact .str _
    case slice.nilSlice =>
      cases hu : P.underlying ty with
      | none => simp [hu] at he
      | some d =>
        cases d <;> simp only [hu, reduceCtorEq] at he
        rename_i elem
        cases hs : sz P elem with
        | none => simp [hs] at he
        | some s =>
        simp only [hs] at he
        cases hl : bound t 0 lo with
        | none => simp [hl] at he
        | some l =>
          cases l <;> simp only [hl, reduceCtorEq] at he
          cases hr : bound t 0 hi with
          | none => simp [hr] at he
          | some r =>
            cases r <;> simp only [hr, reduceCtorEq] at he
            simp only [Option.some.injEq, Prod.mk.injEq] at he
            obtain ⟨rfl, rfl⟩ := he
            have hb := bounds true 0 0 0 0 hl hr (Nat.le_refl _) (.inr (Nat.le_refl _))
            refine ⟨rfl, .slice none 0 0, ?_, .nilSlice⟩
            simp only [Instr.sliceAt, Instr.slice, Sem.run_bind, run_underlying hu, Result.andThen_ok, hb, run_sz hs]
            rfl
    case slice.sliceK =>
      rename_i len cap b l0 off hb0
      cases hu : P.underlying ty with
      | none => simp [hu] at he
      | some d =>
        cases d <;> simp only [hu, reduceCtorEq] at he
        rename_i elem
        cases hl : bound t 0 lo with
        | none => simp [hl] at he
        | some l =>
          simp only [hl] at he
          cases hr : bound t len hi with
          | none => simp [hr] at he
          | some r =>
            simp only [hr, slSl, slS] at he
            cases hs : sz P elem with
            | none => simp [hs] at he
            | some s =>
              simp only [hs] at he
              cases hlr : Nat.ble l r with
              | false => simp [hlr] at he
              | true =>
                have h1 := Nat.le_of_ble_eq_true hlr
                simp only [hlr, cond_true, cond_false] at he
                cases hrc : Nat.ble r cap with
                | false => simp [hrc] at he
                | true =>
                  have h2 := Nat.le_of_ble_eq_true hrc
                  simp only [hrc, cond_true] at he
                  injection he with he
                  injection he with he1 he2
                  subst he1 he2
                  have hbn := bounds true len cap l r hl hr h1 (.inr h2)
                  refine ⟨rfl, .slice (if cap = l then some ⟨l0.blk, l0.base + off, none⟩ else some ⟨l0.blk, l0.base + (off + l * s), none⟩) (r - l) (cap - l), ?_, ?_⟩
                  · simp only [Instr.sliceAt, Instr.slice, Sem.run_bind, run_underlying hu, Result.andThen_ok, hbn, run_sz hs, Option.map_some, add_at, Nat.add_assoc, Sem.run_pure]
                  · cases hq : Nat.beq l cap with
                    | true =>
                      have := Nat.eq_of_beq_eq_true hq; subst this
                      rw [if_pos rfl]; exact .sliceK _ _ _ hb0
                    | false =>
                      have hne : ¬ cap = l := fun e => by subst e; simp at hq
                      rw [if_neg hne]; exact .sliceK _ _ _ hb0
    case slice.sliceZ =>
      rename_i b l0 off a0 hb0 hz
      cases hu : P.underlying ty with
      | none => simp [hu] at he
      | some d =>
        cases d <;> simp only [hu, reduceCtorEq] at he
        rename_i elem
        cases hl : bound t 0 lo with
        | none => simp [hl] at he
        | some l =>
          simp only [hl] at he
          cases hr : bound t 0 hi with
          | none => simp [hr] at he
          | some r =>
            simp only [hr, slSl, slS] at he
            cases hs : sz P elem with
            | none => simp [hs] at he
            | some s =>
              simp only [hs] at he
              cases hlr : Nat.ble l r with
              | false => simp [hlr] at he
              | true =>
                have h1 := Nat.le_of_ble_eq_true hlr
                simp only [hlr, cond_true, cond_false] at he
                cases hrc : Nat.ble r 0 with
                | false => simp [hrc] at he
                | true =>
                  have h2 := Nat.le_of_ble_eq_true hrc
                  simp only [hrc, cond_true] at he
                  injection he with he
                  injection he with he1 he2
                  subst he1 he2
                  have hr0 : r = 0 := by omega
                  have hl0 : l = 0 := by omega
                  subst hr0; subst hl0
                  have hbn := bounds true 0 0 0 0 hl hr h1 (.inr h2)
                  refine ⟨rfl, .slice (some a0) 0 0, ?_, ?_⟩
                  · simp only [Instr.sliceAt, Instr.slice, Sem.run_bind, run_underlying hu, Result.andThen_ok, hbn, run_sz hs, Option.map_some, Sem.run_pure, if_true, Nat.sub_self]
                  · exact .sliceZ _ _ hb0 hz
    case slice.sliceG =>
      rename_i len b l0 off cap hb0
      cases hu : P.underlying ty with
      | none => simp [hu] at he
      | some d =>
        cases d <;> simp only [hu, reduceCtorEq] at he
        rename_i elem
        cases hl : bound t 0 lo with
        | none => simp [hl] at he
        | some l =>
          simp only [hl] at he
          cases hr : bound t len hi with
          | none => simp [hr] at he
          | some r =>
            simp only [hr, slSl, slS] at he
            cases hs : sz P elem with
            | none => simp [hs] at he
            | some s =>
              simp only [hs] at he
              cases hlr : Nat.ble l r with
              | false => simp [hlr] at he
              | true =>
               have h1 := Nat.le_of_ble_eq_true hlr
               simp only [hlr, cond_true] at he
               cases hg : h.t.get b with
               | none => simp [hg] at he
               | some ob =>
                cases ob with
                | ro _ _ => simp [hg] at he
                | map _ => simp [hg] at he
                | dead => simp [hg] at he
                | cells c m gr e =>
                  simp only [hg] at he
                  cases hcc : (Nat.ble (off + r * s) m && (Nat.beq l 0 || Nat.blt l r) && !Nat.beq s 0 && gr && Nat.beq e elem && Nat.beq off (cap * s)) with
                  | false => simp [hcc] at he
                  | true =>
                    simp only [hcc, cond_true, Option.some.injEq, Prod.mk.injEq] at he
                    obtain ⟨rfl, rfl⟩ := he
                    simp only [Bool.and_eq_true, Bool.or_eq_true, Bool.not_eq_true'] at hcc
                    obtain ⟨⟨⟨⟨⟨c1, c2⟩, c3⟩, c4⟩, c5⟩, c6⟩ := hcc
                    have c1 := Nat.le_of_ble_eq_true c1
                    have c5 := Nat.eq_of_beq_eq_true c5
                    have c6 := Nat.eq_of_beq_eq_true c6
                    have hs0 : s ≠ 0 := fun e => by subst e; simp at c3
                    subst c4 c5
                    obtain ⟨arr, C⟩ := H b l0 _ hb0 hg
                    have htop := (C.top rfl).1
                    rw [cellsOf_sz hs] at htop
                    have hrcap : cap + r ≤ l0.cap := by
                      have : (cap + r) * s ≤ l0.cap * s := by rw [Nat.add_mul]; omega
                      exact Nat.le_of_mul_le_mul_right this (Nat.pos_of_ne_zero hs0)
                    have hbn := bounds true len (l0.cap - cap) l r hl hr h1 (.inr (by omega))
                    refine ⟨rfl, .slice (if l0.cap - cap = l then some ⟨l0.blk, l0.base + off, none⟩ else some ⟨l0.blk, l0.base + (off + l * s), none⟩) (r - l) (l0.cap - cap - l), ?_, ?_⟩
                    · simp only [Instr.sliceAt, Instr.slice, Sem.run_bind, run_underlying hu, Result.andThen_ok, hbn, run_sz hs, Option.map_some, add_at, Nat.add_assoc, Sem.run_pure]
                    · have hl0 : l = 0 ∨ l < r := by
                        rcases c2 with c2 | c2
                        · exact .inl (Nat.eq_of_beq_eq_true c2)
                        · exact .inr (Nat.le_of_ble_eq_true c2)
                      have hcap : l0.cap - cap - l = l0.cap - (cap + l) := by omega
                      rw [hcap]
                      by_cases hq : l0.cap - cap = l
                      · rw [if_pos hq]
                        have : l = 0 := by omega
                        subst this
                        simp only [Nat.zero_mul, Nat.add_zero]
                        exact .sliceG _ _ _ hb0
                      · rw [if_neg hq]; exact .sliceG _ _ _ hb0
end Go.Mid
