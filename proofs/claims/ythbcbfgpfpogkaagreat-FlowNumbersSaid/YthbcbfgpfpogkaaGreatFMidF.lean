/- Operations that only read: the whole list. -/
import Derived.Test.YthbcbfgpfpogkaaGreatFMidE
set_option linter.all false
set_option warn.classDefReducibility false
namespace Go.Mid
open Go.RowKit
variable {P : Program} [Orc]

theorem vh_some {h h' : Hp} {x : Option V} {v : V} (e : vh h x = some (v, h')) : h' = h ∧ x = some v := by
  cases x with
  | none => simp [vh] at e
  | some u => simp only [vh, Option.some.injEq, Prod.mk.injEq] at e; exact ⟨e.2.symm, by rw [e.1]⟩
theorem run_v {s : Sem Value} {x : Value} {w w' : World} (h : s.run P w = .ok x w') : (do let r ← s; pure (Next.value r) : Sem Next).run P w = .ok (.value x) w' := by
  rw [Sem.run_bind, h]; rfl
theorem run_u {s : Sem Unit} {w w' : World} (h : s.run P w = .ok () w') : (do s; pure Next.skip : Sem Next).run P w = .ok .skip w' := by
  rw [Sem.run_bind, h]; rfl

theorem slice_sim {ρ : Rho} {a : Act} {t : Tr V} {h h' : Hp} {w : World} {ty : TypeId} {x : Operand} {lo hi : Option Operand} {v : V} (H : Live P ρ w h)
    (ho : ∀ y, y = x ∨ lo = some y ∨ hi = some y → ∀ v, evalO t y = some v → Rel ρ v (a.eval y)) (he : exSlice P t h ty (evalO t x) lo hi = some (v, h')) :
    h' = h ∧ ∃ r, (Instr.sliceAt ty (a.eval x) (lo.map a.eval) (hi.map a.eval) none).run P w = .ok r w ∧ Rel ρ v r := by
  have low : ∀ {d n : Nat}, bound t d lo = some n → (lo = none ∧ n = d) ∨ ∃ y k, lo = some y ∧ a.eval y = .int k (n : Int) := fun h => bound_sim (fun y hy => ho y (.inr (.inl hy))) h
  have high : ∀ {d n : Nat}, bound t d hi = some n → (hi = none ∧ n = d) ∨ ∃ y k, hi = some y ∧ a.eval y = .int k (n : Int) := fun h => bound_sim (fun y hy => ho y (.inr (.inr hy))) h
  -- the three bounds
  have bounds : ∀ (isS : Bool) (len cap l r : Nat), bound t 0 lo = some l → bound t len hi = some r → l ≤ r → (hi = none ∨ r ≤ cap) →
      (Instr.sliceBounds isS len cap (lo.map a.eval) (hi.map a.eval) none).run P w = .ok (l, r, cap) w := by
    intro isS len cap l r hl hr hlr hcap
    rcases high hr with ⟨e1, e2⟩ | ⟨y, k, e1, e2⟩ <;> rcases low hl with ⟨f1, f2⟩ | ⟨z, k', f1, f2⟩ <;> subst e1 f1
    · subst e2 f2; rfl
    · subst e2
      simp only [Instr.sliceBounds, Option.map_none, Option.map_some, pure_bind, Sem.run_bind, run_bound f2 hlr, Result.andThen_ok, Option.isSome_none, Bool.false_eq_true, if_false, Sem.run_pure]
    · subst f2
      have hc : r ≤ cap := by rcases hcap with h | h; · cases h
                              · exact h
      simp only [Instr.sliceBounds, Option.map_none, Option.map_some, pure_bind, Sem.run_bind, run_bound e2 hc, Result.andThen_ok, Sem.run_pure]
    · have hc : r ≤ cap := by rcases hcap with h | h; · cases h
                              · exact h
      simp only [Instr.sliceBounds, Option.map_some, pure_bind, Sem.run_bind, run_bound e2 hc, run_bound f2 hlr, Result.andThen_ok, Option.isSome_none, Bool.false_eq_true, if_false, Sem.run_pure]
  cases hx : evalO t x with
  | none => simp [hx, exSlice] at he
  | some xv =>
    have hrel := ho x (.inl rfl) xv hx
    rw [hx] at he
    cases hrel' : a.eval x <;> rw [hrel'] at hrel <;> cases hrel <;> simp only [exSlice, reduceCtorEq] at he
    -- a string
    case string.str s =>
      cases hu : P.underlying ty with
      | none => simp [hu] at he
      | some d =>
        cases d <;> simp only [hu, reduceCtorEq] at he
        cases hl : bound t 0 lo with
        | none => simp [hl] at he
        | some l =>
          simp only [hl] at he
          cases hr : bound t s.n hi with
          | none => simp [hr] at he
          | some r =>
            simp only [hr, slStr] at he
            cases hb : (Nat.ble l r && Nat.ble r s.n) with
            | false => simp [hb] at he
            | true =>
              simp only [hb, cond_true, Option.some.injEq, Prod.mk.injEq] at he
              simp only [Bool.and_eq_true] at hb
              have h1 := Nat.le_of_ble_eq_true hb.1
              have h2 := Nat.le_of_ble_eq_true hb.2
              obtain ⟨rfl, rfl⟩ := he
              have hcut := Bs.l_cut s h1 h2
              rw [← Bs.l_len s] at h2 hr
              refine ⟨rfl, .string ((ByteArray.mk ⟨s.l⟩).extract l r), ?_, ?_⟩
              · have hb := bounds false (ByteArray.mk ⟨s.l⟩).size (ByteArray.mk ⟨s.l⟩).size l r hl hr h1 (.inr h2)
                simp only [Instr.sliceAt, Instr.slice, Sem.run_bind, run_underlying hu, Result.andThen_ok]
                simp only [Option.isSome_none, Bool.false_eq_true, if_false, Sem.run_bind, hb, Result.andThen_ok, Sem.run_pure]
              · have e : (ByteArray.mk ⟨s.l⟩).extract l r = ByteArray.mk ⟨(s.l.drop l).take (r - l)⟩ := by
                  apply ByteArray.ext
                  rw [ByteArray.data_extract]
                  apply Array.ext'
                  simp [List.extract_eq_take_drop]
                rw [e, ← hcut]; exact .str _
    case slice.nilSlice =>
      cases hu : P.underlying ty with
      | none => simp [hu] at he
      | some d =>
        cases d <;> simp only [hu, reduceCtorEq] at he
        rename_i elem
        cases hs : sz P elem with
        | none => simp [hs] at he
        | some s =>
        simp only [hs] at he
        cases hl : bound t 0 lo with
        | none => simp [hl] at he
        | some l =>
          cases l <;> simp only [hl, reduceCtorEq] at he
          cases hr : bound t 0 hi with
          | none => simp [hr] at he
          | some r =>
            cases r <;> simp only [hr, reduceCtorEq] at he
            simp only [Option.some.injEq, Prod.mk.injEq] at he
            obtain ⟨rfl, rfl⟩ := he
            have hb := bounds true 0 0 0 0 hl hr (Nat.le_refl _) (.inr (Nat.le_refl _))
            refine ⟨rfl, .slice none 0 0, ?_, .nilSlice⟩
            simp only [Instr.sliceAt, Instr.slice, Sem.run_bind, run_underlying hu, Result.andThen_ok, hb, run_sz hs]
            rfl
    case slice.sliceK =>
      rename_i len cap b l0 off hb0
      cases hu : P.underlying ty with
      | none => simp [hu] at he
      | some d =>
        cases d <;> simp only [hu, reduceCtorEq] at he
        rename_i elem
        cases hl : bound t 0 lo with
        | none => simp [hl] at he
        | some l =>
          simp only [hl] at he
          cases hr : bound t len hi with
          | none => simp [hr] at he
          | some r =>
            simp only [hr, slSl, slS] at he
            cases hs : sz P elem with
            | none => simp [hs] at he
            | some s =>
              simp only [hs] at he
              cases hlr : Nat.ble l r with
              | false => simp [hlr] at he
              | true =>
                have h1 := Nat.le_of_ble_eq_true hlr
                simp only [hlr, cond_true, cond_false] at he
                cases hrc : Nat.ble r cap with
                | false => simp [hrc] at he
                | true =>
                  have h2 := Nat.le_of_ble_eq_true hrc
                  simp only [hrc, cond_true] at he
                  injection he with he
                  injection he with he1 he2
                  subst he1 he2
                  have hbn := bounds true len cap l r hl hr h1 (.inr h2)
                  refine ⟨rfl, .slice (if cap = l then some ⟨l0.blk, l0.base + off, none⟩ else some ⟨l0.blk, l0.base + (off + l * s), none⟩) (r - l) (cap - l), ?_, ?_⟩
                  · simp only [Instr.sliceAt, Instr.slice, Sem.run_bind, run_underlying hu, Result.andThen_ok, hbn, run_sz hs, Option.map_some, add_at, Nat.add_assoc, Sem.run_pure]
                  · cases hq : Nat.beq l cap with
                    | true =>
                      have := Nat.eq_of_beq_eq_true hq; subst this
                      rw [if_pos rfl]; exact .sliceK _ _ _ hb0
                    | false =>
                      have hne : ¬ cap = l := fun e => by subst e; simp at hq
                      rw [if_neg hne]; exact .sliceK _ _ _ hb0
    case slice.sliceZ =>
      rename_i b l0 off a0 hb0 hz
      cases hu : P.underlying ty with
      | none => simp [hu] at he
      | some d =>
        cases d <;> simp only [hu, reduceCtorEq] at he
        rename_i elem
        cases hl : bound t 0 lo with
        | none => simp [hl] at he
        | some l =>
          simp only [hl] at he
          cases hr : bound t 0 hi with
          | none => simp [hr] at he
          | some r =>
            simp only [hr, slSl, slS] at he
            cases hs : sz P elem with
            | none => simp [hs] at he
            | some s =>
              simp only [hs] at he
              cases hlr : Nat.ble l r with
              | false => simp [hlr] at he
              | true =>
                have h1 := Nat.le_of_ble_eq_true hlr
                simp only [hlr, cond_true, cond_false] at he
                cases hrc : Nat.ble r 0 with
                | false => simp [hrc] at he
                | true =>
                  have h2 := Nat.le_of_ble_eq_true hrc
                  simp only [hrc, cond_true] at he
                  injection he with he
                  injection he with he1 he2
                  subst he1 he2
                  have hr0 : r = 0 := by omega
                  have hl0 : l = 0 := by omega
                  subst hr0; subst hl0
                  have hbn := bounds true 0 0 0 0 hl hr h1 (.inr h2)
                  refine ⟨rfl, .slice (some a0) 0 0, ?_, ?_⟩
                  · simp only [Instr.sliceAt, Instr.slice, Sem.run_bind, run_underlying hu, Result.andThen_ok, hbn, run_sz hs, Option.map_some, Sem.run_pure, if_true, Nat.sub_self]
                  · exact .sliceZ _ _ hb0 hz
    case slice.sliceE =>
      rename_i b lc k ad hb0 hk
      cases hu : P.underlying ty with
      | none => simp [hu] at he
      | some d =>
        cases d <;> simp only [hu, reduceCtorEq] at he
        rename_i elem
        cases hl : bound t 0 lo with
        | none => simp [hl] at he
        | some l =>
          simp only [hl] at he
          cases hr : bound t 0 hi with
          | none => simp [hr] at he
          | some r =>
            simp only [hr, slSl, slS] at he
            cases hs : sz P elem with
            | none => simp [hs] at he
            | some s =>
              simp only [hs] at he
              have hz : ∀ q : Bool, (q && !Nat.beq s 0 && true && true && Nat.beq 0 (k * s)) = false := by
                intro q
                cases h0 : Nat.beq s 0 with
                | true => simp
                | false =>
                  have hs0 : s ≠ 0 := fun e => by subst e; simp at h0
                  have : Nat.beq 0 (k * s) = false := by
                    cases e : Nat.beq 0 (k * s) with
                    | false => rfl
                    | true =>
                      have := Nat.eq_of_beq_eq_true e
                      have := Nat.mul_ne_zero hk hs0
                      omega
                  rw [this]; simp
              cases hlr : Nat.ble l r with
              | false => simp [hlr] at he
              | true =>
               simp only [hlr, cond_true] at he
               cases hg : h.t.get b with
               | none => simp [hg] at he
               | some ob =>
                cases ob with
                | ro _ _ => simp [hg] at he
                | map _ => simp [hg] at he
                | dead => simp [hg] at he
                | cells c m gr e =>
                  simp only [hg] at he
                  have hb0' : Nat.beq s 0 = false → Nat.beq 0 (k * s) = false := by
                    intro h0
                    have := hz true
                    rw [h0] at this
                    simpa using this
                  cases h0 : Nat.beq s 0 with
                  | true => simp [h0] at he
                  | false => rw [hb0' h0] at he; simp at he
    case slice.sliceG =>
      rename_i len b l0 off cap hb0
      cases hu : P.underlying ty with
      | none => simp [hu] at he
      | some d =>
        cases d <;> simp only [hu, reduceCtorEq] at he
        rename_i elem
        cases hl : bound t 0 lo with
        | none => simp [hl] at he
        | some l =>
          simp only [hl] at he
          cases hr : bound t len hi with
          | none => simp [hr] at he
          | some r =>
            simp only [hr, slSl, slS] at he
            cases hs : sz P elem with
            | none => simp [hs] at he
            | some s =>
              simp only [hs] at he
              cases hlr : Nat.ble l r with
              | false => simp [hlr] at he
              | true =>
               have h1 := Nat.le_of_ble_eq_true hlr
               simp only [hlr, cond_true] at he
               cases hg : h.t.get b with
               | none => simp [hg] at he
               | some ob =>
                cases ob with
                | ro _ _ => simp [hg] at he
                | map _ => simp [hg] at he
                | dead => simp [hg] at he
                | cells c m gr e =>
                  simp only [hg] at he
                  cases hcc : (Nat.ble (off + r * s) m && (Nat.beq l 0 || Nat.blt l r) && !Nat.beq s 0 && gr && Nat.beq e elem && Nat.beq off (cap * s)) with
                  | false =>
                    rw [hcc, cond_false] at he
                    cases hcd : (Nat.ble (off + r * s) m && (Nat.beq l r && !Nat.beq l 0) && !Nat.beq s 0 && gr && Nat.beq e elem && Nat.beq off (cap * s)) with
                    | false => rw [hcd] at he; cases he
                    | true =>
                      rw [hcd] at he
                      simp only [cond_true, Option.some.injEq, Prod.mk.injEq] at he
                      obtain ⟨rfl, rfl⟩ := he
                      simp only [Bool.and_eq_true, Bool.not_eq_true'] at hcd
                      obtain ⟨⟨⟨⟨⟨c1, c2⟩, c3⟩, c4⟩, c5⟩, c6⟩ := hcd
                      have c1 := Nat.le_of_ble_eq_true c1
                      have c5 := Nat.eq_of_beq_eq_true c5
                      have c6 := Nat.eq_of_beq_eq_true c6
                      have c2' := Nat.eq_of_beq_eq_true c2.1
                      have hs0 : s ≠ 0 := fun e => by subst e; simp at c3
                      have hl0 : l ≠ 0 := fun e => by rw [e] at c2; simp at c2
                      subst c4 c5
                      obtain ⟨arr, C⟩ := H b l0 _ hb0 hg
                      have htop := (C.top rfl).1
                      rw [cellsOf_sz hs] at htop
                      have hrcap : cap + r ≤ l0.cap := by
                        have : (cap + r) * s ≤ l0.cap * s := by rw [Nat.add_mul]; omega
                        exact Nat.le_of_mul_le_mul_right this (Nat.pos_of_ne_zero hs0)
                      have hbn := bounds true len (l0.cap - cap) l r hl hr h1 (.inr (by omega))
                      refine ⟨rfl, .slice (if l0.cap - cap = l then some ⟨l0.blk, l0.base + off, none⟩ else some ⟨l0.blk, l0.base + (off + l * s), none⟩) (r - l) (l0.cap - cap - l), ?_, ?_⟩
                      · simp only [Instr.sliceAt, Instr.slice, Sem.run_bind, run_underlying hu, Result.andThen_ok, hbn, run_sz hs, Option.map_some, add_at, Nat.add_assoc, Sem.run_pure]
                      · have hz : r - l = 0 := by omega
                        rw [hz]
                        split <;> exact .sliceE _ _ _ hb0 hl0
                  | true =>
                    simp only [hcc, cond_true, Option.some.injEq, Prod.mk.injEq] at he
                    obtain ⟨rfl, rfl⟩ := he
                    simp only [Bool.and_eq_true, Bool.or_eq_true, Bool.not_eq_true'] at hcc
                    obtain ⟨⟨⟨⟨⟨c1, c2⟩, c3⟩, c4⟩, c5⟩, c6⟩ := hcc
                    have c1 := Nat.le_of_ble_eq_true c1
                    have c5 := Nat.eq_of_beq_eq_true c5
                    have c6 := Nat.eq_of_beq_eq_true c6
                    have hs0 : s ≠ 0 := fun e => by subst e; simp at c3
                    subst c4 c5
                    obtain ⟨arr, C⟩ := H b l0 _ hb0 hg
                    have htop := (C.top rfl).1
                    rw [cellsOf_sz hs] at htop
                    have hrcap : cap + r ≤ l0.cap := by
                      have : (cap + r) * s ≤ l0.cap * s := by rw [Nat.add_mul]; omega
                      exact Nat.le_of_mul_le_mul_right this (Nat.pos_of_ne_zero hs0)
                    have hbn := bounds true len (l0.cap - cap) l r hl hr h1 (.inr (by omega))
                    refine ⟨rfl, .slice (if l0.cap - cap = l then some ⟨l0.blk, l0.base + off, none⟩ else some ⟨l0.blk, l0.base + (off + l * s), none⟩) (r - l) (l0.cap - cap - l), ?_, ?_⟩
                    · simp only [Instr.sliceAt, Instr.slice, Sem.run_bind, run_underlying hu, Result.andThen_ok, hbn, run_sz hs, Option.map_some, add_at, Nat.add_assoc, Sem.run_pure]
                    · have hl0 : l = 0 ∨ l < r := by
                        rcases c2 with c2 | c2
                        · exact .inl (Nat.eq_of_beq_eq_true c2)
                        · exact .inr (Nat.le_of_ble_eq_true c2)
                      have hcap : l0.cap - cap - l = l0.cap - (cap + l) := by omega
                      rw [hcap]
                      by_cases hq : l0.cap - cap = l
                      · rw [if_pos hq]
                        have : l = 0 := by omega
                        subst this
                        simp only [Nat.zero_mul, Nat.add_zero]
                        exact .sliceG _ _ _ hb0
                      · rw [if_neg hq]; exact .sliceG _ _ _ hb0
def Made (P : Program) [Z : Res] (w0 : World) (r : Result Next) (v : V) (h' : Hp) (ρ : Rho) : Prop :=
  ∃ x w' ρ', (r = .ok (.value x) w' ∨ (r = .ok .skip w' ∧ x = undef)) ∧ Rel ρ' v x ∧ Ext ρ ρ' ∧ R P w0 w' h' ρ'

structure Fr (h h' : Hp) : Prop where
  low : h'.low ≤ h.low
  n : h.n ≤ h'.n
  get : ∀ b, b < h.n → b < h'.low → h'.t.get b = h.t.get b
theorem Fr.refl (h : Hp) : Fr h h := ⟨Nat.le_refl _, Nat.le_refl _, fun _ _ _ => rfl⟩
theorem Fr.trans {a b c : Hp} (x : Fr a b) (y : Fr b c) : Fr a c :=
  ⟨Nat.le_trans y.low x.low, Nat.le_trans x.n y.n, fun i h1 h2 => by rw [y.get i (Nat.lt_of_lt_of_le h1 x.n) h2, x.get i h1 (Nat.lt_of_lt_of_le h2 y.low)]⟩
theorem Fr.new (h : Hp) (o : Ob) : Fr h (h.new o) := ⟨Nat.le_refl _, Nat.le_succ _, fun i h1 _ => by simp only [Hp.new]; rw [Tr.get_set_ne _ _ (by omega)]⟩
theorem Fr.put (h : Hp) (b : Nat) (o : Ob) : Fr h (h.put b o) := by
  refine ⟨Nat.min_le_right _ _, Nat.le_refl _, fun i _ h2 => ?_⟩
  have : i < b := Nat.lt_of_lt_of_le h2 (Nat.min_le_left _ _)
  simp only [Hp.put]; rw [Tr.get_set_ne _ _ (by omega)]
theorem Fr.row (h : Hp) (e : TypeId) (cs : List V) (g : Bool) : Fr h (h.newRow e cs g) := Fr.new _ _


/-- what is known of operations from outside holds of the model. -/
class OpOk (P : Program) [Orc] : Prop where
  pure : ∀ o, Orc.kd o = 1 → ∀ as h h2, Orc.op o as h2 = (Orc.op o as h).map fun p => (p.1, h2)
  reads : ∀ o as h v h', Orc.kd o = 1 ∨ Orc.kd o = 2 → Orc.op o as h = some (v, h') → h' = h ∧ ∀ ρ w (a : Act) (oo : Oper), oo.op = o → Live P ρ w h → RelL ρ as (o.operands.toList.map a.eval) →
    ∃ x, (execOp a.eval oo).run P w = .ok (.value x) w ∧ Rel ρ v x
  make : ∀ o as h v h', Orc.op o as h = some (v, h') → Orc.kd o ≠ 0 → Fr h h' ∧ ∀ (Z : Res) w0 w ρ (a : Act) (oo : Oper), oo.op = o → R P w0 w h ρ → RelL ρ as (o.operands.toList.map a.eval) →
    Made P w0 ((execOp a.eval oo).run P w) v h' ρ
theorem xk_ne {o : Op} (h : xk o ≠ 0) : ownOp o = false ∧ xk o = Orc.kd o := by
  unfold xk at *
  cases hc : ownOp o <;> rw [hc] at h <;> simp_all
theorem xk_call {o : Op} (h : callOp o = true) : xk o = 0 := by
  have : ownOp o = true := by
    cases o <;> first | rfl | exact h
  unfold xk; rw [this]; rfl
theorem xk_store {o : Op} {ty : TypeId} {a x : Operand} (h : o = .store ty a x) : xk o = 0 := by subst h; rfl
theorem execV_zero {t : Tr V} {h : Hp} {o : Op} (hx : xk o = 0) : execV P t h o = execC P t h o := by unfold execV; rw [hx]
theorem execV_ne {t : Tr V} {h : Hp} {o : Op} (hx : xk o ≠ 0) : execV P t h o = execX t h o := by
  unfold execV
  cases e : xk o with
  | zero => exact (hx e).elim
  | succ n => rfl
theorem execX_some {t : Tr V} {h : Hp} {o : Op} {p : V × Hp} (he : execX t h o = some p) : ∃ as, evalL t o.operands.toList = some as ∧ Orc.op o as h = some p := by
  unfold execX at he
  cases e : evalL t o.operands.toList with
  | none => rw [e] at he; cases he
  | some as => rw [e] at he; exact ⟨as, rfl, he⟩
theorem makes_zero {o : Oper} (hx : xk o.op = 0) : makes o = makesC o.op := by unfold makes; rw [hx]
theorem obliv_zero {o : Op} (hx : xk o = 0) : obliv o = oblivC o := by unfold obliv; rw [hx]
theorem ldV_cases (t : Tr V) (o : Op) (v : V) : ldV t o v = undefV ∨ (xk o = 0 ∧ ∃ ty a x, o = .load ty a ∧ evalO t a = some x ∧ ldV t o v = .tuple [x, v]) := by
  unfold ldV
  cases hx : xk o with
  | succ n => exact .inl rfl
  | zero =>
    cases o <;> try exact .inl rfl
    rename_i ty a
    simp only [ldC]
    cases he : evalO t a with
    | none => exact .inl rfl
    | some x => exact .inr ⟨trivial, ty, a, x, rfl, he, rfl⟩
theorem ldV_not {t : Tr V} {o : Op} {v : V} (h : ∀ ty a, o ≠ .load ty a) : ldV t o v = undefV := by
  rcases ldV_cases t o v with h1 | ⟨_, ty, a, _, h1, _⟩
  · exact h1
  · exact (h ty a h1).elim
theorem ldV_store {t : Tr V} {o : Op} {v : V} {ty : TypeId} {a x : Operand} (h : o = .store ty a x) : ldV t o v = undefV := ldV_not fun ty a e => by rw [h] at e; cases e
theorem ldV_makes {t : Tr V} {o : Oper} {v : V} (h : makes o = true) : ldV t o.op v = undefV := by
  rcases ldV_cases t o.op v with h1 | ⟨hx, ty, a, _, h1, _⟩
  · exact h1
  · rw [makes_zero hx, h1] at h; cases h
theorem vEq0_eq {a b : V} (h : vEq0 a b = true) : a = b := by
  cases a <;> cases b <;> first | rfl | (exact absurd h (by intro h; cases h)) | skip
  · simp only [vEq0, beq_iff_eq] at h; rw [h]
  · simp only [vEq0, Bool.and_eq_true] at h
    obtain ⟨h1, h2⟩ := h
    rw [iEq_eq, beq_iff_eq] at h2
    rw [kEq_eq h1, h2]
  · simp only [vEq0] at h
    rw [Bool.and_eq_true] at h
    rename_i a b
    cases a; cases b
    simp only at h
    rw [Nat.eq_of_beq_eq_true h.1, Nat.eq_of_beq_eq_true h.2]
  · simp only [vEq0, Bool.and_eq_true] at h
    rw [Nat.eq_of_beq_eq_true h.1, Nat.eq_of_beq_eq_true h.2]
  · simp only [vEq0, Bool.and_eq_true, beq_iff_eq] at h
    obtain ⟨⟨⟨⟨h1, h2⟩, h3⟩, h4⟩, h5⟩ := h
    rw [Nat.eq_of_beq_eq_true h1, Nat.eq_of_beq_eq_true h2, Nat.eq_of_beq_eq_true h3, Nat.eq_of_beq_eq_true h4, h5]
  · simp only [vEq0] at h
    rw [Nat.eq_of_beq_eq_true h]
theorem vEq_eq {a b : V} (h : vEq a b = true) : a = b := by
  unfold vEq at h
  split at h
  · rw [Bool.and_eq_true] at h
    rw [Nat.eq_of_beq_eq_true h.1, vEq0_eq h.2]
  · exact vEq0_eq h
theorem vEqL_eq : ∀ {x y : List V}, vEqL x y = true → x = y
  | [], [], _ => rfl
  | [], _ :: _, h => by cases h
  | _ :: _, [], h => by cases h
  | a :: x, b :: y, h => by
    simp only [vEqL, Bool.and_eq_true] at h
    rw [vEq_eq h.1, vEqL_eq h.2]
theorem sameA_load {P : Program} {h h' : Hp} {ty : TypeId} {b off : Nat} {v : V} (hl : loadV P h ty b off = some v) (hs : sameA h h' (.ptr b off) (vcells v).length = true) : loadV P h' ty b off = some v := by
  simp only [sameA] at hs
  unfold loadV at hl ⊢
  cases hc : cellsT (h.t.get b) with
  | none => rw [hc] at hl; cases hl
  | some c =>
    cases hc' : cellsT (h'.t.get b) with
    | none => rw [hc, hc'] at hs; cases hs
    | some c' =>
      rw [hc, hc'] at hs
      rw [hc] at hl
      simp only at hs hl ⊢
      simp only [Bool.and_eq_true, Bool.not_eq_true'] at hs
      have hn : (vcells v).length ≠ 0 := fun e => by rw [e] at hs; simp at hs
      have heq : ∃ l, c.getL off (vcells v).length = some l ∧ c'.getL off (vcells v).length = some l := by
        have h2 := hs.2
        cases h3 : c.getL off (vcells v).length with
        | none => rw [h3] at h2; cases h2
        | some l =>
          cases h4 : c'.getL off (vcells v).length with
          | none => rw [h3, h4] at h2; cases h2
          | some l' =>
            rw [h3, h4] at h2
            exact ⟨l, rfl, by rw [vEqL_eq (x := l) (y := l') h2]⟩
      obtain ⟨l, h3, h4⟩ := heq
      cases ha : aggT P ty with
      | none => rw [ha] at hl; cases hl
      | some g =>
        rw [ha] at hl
        cases g with
        | true =>
          simp only at hl ⊢
          cases hz : sz P ty with
          | none => rw [hz] at hl; cases hl
          | some s =>
            rw [hz] at hl
            simp only at hl ⊢
            cases hg : c.getL off s with
            | none => rw [hg] at hl; cases hl
            | some m =>
              rw [hg] at hl
              simp only [Option.some.injEq] at hl; subst hl
              have hlen := (Tr.getL_spec _ _ _ _ hg).1
              simp only [vcells] at h3 h4
              rw [hlen] at h3 h4
              rw [h4]
              rw [hg] at h3
              simp only [Option.some.injEq] at h3; subst h3; rfl
        | false =>
          simp only at hl ⊢
          have g1 := (Tr.getL_spec _ _ _ _ h3).2 0 (by omega)
          have g2 := (Tr.getL_spec _ _ _ _ h4).2 0 (by omega)
          rw [Nat.add_zero] at g1 g2
          rw [← g2, g1, hl]
end Go.Mid
