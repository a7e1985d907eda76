/- Operations that only read: the whole list. -/
import Derived.Test.YtdiiilfokajddaaGreatDoorKMidC
set_option linter.all false
set_option warn.classDefReducibility false
noncomputable section
section
open Go.RowKit
namespace Go.Mid
section
variable {P : Program} [Orc]
theorem vh_some {h h' : Hp} {x : Option V} {v : V} (e : vh h x = some (v, h')) : h' = h ∧ x = some v:=by
 cases x with
 | none => simp [vh] at e
 | some u => simp only [vh, Option.some.injEq, Prod.mk.injEq] at e; exact ⟨e.2.symm, by rw [e.1]⟩
theorem run_v {s : Sem Value} {x : Value} {w w' : World} (h : s.run P w = .ok x w') : (do let r ← s; pure (Next.value r) : Sem Next).run P w = .ok (.value x) w':=by
 rw [Sem.run_bind, h]; rfl
theorem run_u {s : Sem Unit} {w w' : World} (h : s.run P w = .ok () w') : (do s; pure Next.skip : Sem Next).run P w = .ok .skip w':=by
 rw [Sem.run_bind, h]; rfl
theorem slice_sim {ρ : Rho} {a : Act} {t : Tr V} {h h' : Hp} {w : World} {ty : TypeId} {x : Operand} {lo hi : Option Operand} {v : V} (H : Live P ρ w h)
 (ho : ∀ y, y = x ∨ lo = some y ∨ hi = some y → ∀ v, evalO t y = some v → Rel ρ v (a.eval y)) (he : exSlice P t h ty (evalO t x) lo hi = some (v, h')) :
 h' = h ∧ ∃ r, (Instr.sliceAt ty (a.eval x) (lo.map a.eval) (hi.map a.eval) none).run P w = .ok r w ∧ Rel ρ v r:=by
 have low : ∀ {d n : Nat}, bound t d lo = some n → (lo = none ∧ n = d) ∨ ∃ y k, lo = some y ∧ a.eval y = .int k (n : Int):=fun h => bound_sim (fun y hy => ho y (.inr (.inl hy))) h
 have high : ∀ {d n : Nat}, bound t d hi = some n → (hi = none ∧ n = d) ∨ ∃ y k, hi = some y ∧ a.eval y = .int k (n : Int):=fun h => bound_sim (fun y hy => ho y (.inr (.inr hy))) h
 have bounds : ∀ (isS : Bool) (len cap l r : Nat), bound t 0 lo = some l → bound t len hi = some r → l ≤ r → (hi = none ∨ r ≤ cap) →
  (Instr.sliceBounds isS len cap (lo.map a.eval) (hi.map a.eval) none).run P w = .ok (l, r, cap) w:=by
  intro isS len cap l r hl hr hlr hcap
  rcases high hr with ⟨e1, e2⟩ | ⟨y, k, e1, e2⟩ <;> rcases low hl with ⟨f1, f2⟩ | ⟨z, k', f1, f2⟩ <;> subst e1 f1
  ·subst e2 f2; rfl
  ·subst e2
   simp only [Instr.sliceBounds, Option.map_none, Option.map_some, pure_bind, Sem.run_bind, run_bound f2 hlr, Result.andThen_ok, Option.isSome_none, Bool.false_eq_true, if_false, Sem.run_pure]
  ·subst f2
   have hc : r ≤ cap := by rcases hcap with h | h; · cases h
                           ·exact h
   simp only [Instr.sliceBounds, Option.map_none, Option.map_some, pure_bind, Sem.run_bind, run_bound e2 hc, Result.andThen_ok, Sem.run_pure]
  ·have hc : r ≤ cap := by rcases hcap with h | h; · cases h
                           ·exact h
   simp only [Instr.sliceBounds, Option.map_some, pure_bind, Sem.run_bind, run_bound e2 hc, run_bound f2 hlr, Result.andThen_ok, Option.isSome_none, Bool.false_eq_true, if_false, Sem.run_pure]
 cases hx : evalO t x with
 | none => simp [hx, exSlice] at he
 | some xv =>
  have hrel:=ho x (.inl rfl) xv hx
  rw [hx] at he
  cases hrel' : a.eval x <;> rw [hrel'] at hrel <;> cases hrel <;> simp only [exSlice, reduceCtorEq] at he
  case string.str s =>
   cases hu : P.underlying ty with
   | none => simp [hu] at he
   | some d =>
    cases d <;> simp only [hu, reduceCtorEq] at he
    cases hl : bound t 0 lo with
    | none => simp [hl] at he
    | some l =>
     simp only [hl] at he
     cases hr : bound t s.n hi with
     | none => simp [hr] at he
     | some r =>
      simp only [hr, slStr] at he
      cases hb : (Nat.ble l r && Nat.ble r s.n) with
      | false => simp [hb] at he
      | true =>
       simp only [hb, cond_true, Option.some.injEq, Prod.mk.injEq] at he
       simp only [Bool.and_eq_true] at hb
       have h1:=Nat.le_of_ble_eq_true hb.1
       have h2:=Nat.le_of_ble_eq_true hb.2
       obtain ⟨rfl, rfl⟩:=he
       have hcut:=Bs.l_cut s h1 h2
       rw [← Bs.l_len s] at h2 hr
       refine ⟨rfl, .string ((ByteArray.mk ⟨s.l⟩).extract l r), ?_, ?_⟩
       ·have hb := bounds false (ByteArray.mk ⟨s.l⟩).size (ByteArray.mk ⟨s.l⟩).size l r hl hr h1 (.inr h2)
        simp only [Instr.sliceAt, Instr.slice, Sem.run_bind, run_underlying hu, Result.andThen_ok]
        simp only [Option.isSome_none, Bool.false_eq_true, if_false, Sem.run_bind, hb, Result.andThen_ok, Sem.run_pure]
       ·have e : (ByteArray.mk ⟨s.l⟩).extract l r = ByteArray.mk ⟨(s.l.drop l).take (r - l)⟩:=by
         apply ByteArray.ext
         rw [ByteArray.data_extract]
         apply Array.ext'
         simp [List.extract_eq_take_drop]
        rw [e, ← hcut]; exact .str _
  case slice.nilSlice =>
   cases hu : P.underlying ty with
   | none => simp [hu] at he
   | some d =>
    cases d <;> simp only [hu, reduceCtorEq] at he
    rename_i elem
    cases hs : sz P elem with
    | none => simp [hs] at he
    | some s =>
    simp only [hs] at he
    cases hl : bound t 0 lo with
    | none => simp [hl] at he
    | some l =>
     cases l <;> simp only [hl, reduceCtorEq] at he
     cases hr : bound t 0 hi with
     | none => simp [hr] at he
     | some r =>
      cases r <;> simp only [hr, reduceCtorEq] at he
      simp only [Option.some.injEq, Prod.mk.injEq] at he
      obtain ⟨rfl, rfl⟩:=he
      have hb:=bounds true 0 0 0 0 hl hr (Nat.le_refl _) (.inr (Nat.le_refl _))
      refine ⟨rfl, .slice none 0 0, ?_, .nilSlice⟩
      simp only [Instr.sliceAt, Instr.slice, Sem.run_bind, run_underlying hu, Result.andThen_ok, hb, run_sz hs]
      rfl
  case slice.sliceK =>
   rename_i len cap b l0 off hb0
   cases hu : P.underlying ty with
   | none => simp [hu] at he
   | some d =>
    cases d <;> simp only [hu, reduceCtorEq] at he
    rename_i elem
    cases hl : bound t 0 lo with
    | none => simp [hl] at he
    | some l =>
     simp only [hl] at he
     cases hr : bound t len hi with
     | none => simp [hr] at he
     | some r =>
      simp only [hr, slSl, slS] at he
      cases hs : sz P elem with
      | none => simp [hs] at he
      | some s =>
       simp only [hs] at he
       cases hlr : Nat.ble l r with
       | false => simp [hlr] at he
       | true =>
        have h1:=Nat.le_of_ble_eq_true hlr
        simp only [hlr, cond_true, cond_false] at he
        cases hrc : Nat.ble r cap with
        | false => simp [hrc] at he
        | true =>
         have h2:=Nat.le_of_ble_eq_true hrc
         simp only [hrc, cond_true] at he
         injection he with he
         injection he with he1 he2
         subst he1 he2
         have hbn:=bounds true len cap l r hl hr h1 (.inr h2)
         refine ⟨rfl, .slice (if cap = l then some ⟨l0.blk, l0.base + off, none⟩ else some ⟨l0.blk, l0.base + (off + l * s), none⟩) (r - l) (cap - l), ?_, ?_⟩
         ·simp only [Instr.sliceAt, Instr.slice, Sem.run_bind, run_underlying hu, Result.andThen_ok, hbn, run_sz hs, Option.map_some, add_at, Nat.add_assoc, Sem.run_pure]
         ·cases hq : Nat.beq l cap with
          | true =>
           have:=Nat.eq_of_beq_eq_true hq; subst this
           rw [if_pos rfl]; exact .sliceK _ _ _ hb0
          | false =>
           have hne : ¬ cap = l:=fun e => by subst e; simp at hq
           rw [if_neg hne]; exact .sliceK _ _ _ hb0
  case slice.sliceZ =>
   rename_i b l0 off a0 hb0 hz
   cases hu : P.underlying ty with
   | none => simp [hu] at he
   | some d =>
    cases d <;> simp only [hu, reduceCtorEq] at he
    rename_i elem
    cases hl : bound t 0 lo with
    | none => simp [hl] at he
    | some l =>
     simp only [hl] at he
     cases hr : bound t 0 hi with
     | none => simp [hr] at he
     | some r =>
      simp only [hr, slSl, slS] at he
      cases hs : sz P elem with
      | none => simp [hs] at he
      | some s =>
       simp only [hs] at he
       cases hlr : Nat.ble l r with
       | false => simp [hlr] at he
       | true =>
        have h1:=Nat.le_of_ble_eq_true hlr
        simp only [hlr, cond_true, cond_false] at he
        cases hrc : Nat.ble r 0 with
        | false => simp [hrc] at he
        | true =>
         have h2:=Nat.le_of_ble_eq_true hrc
         simp only [hrc, cond_true] at he
         injection he with he
         injection he with he1 he2
         subst he1 he2
         have hr0 : r = 0:=by omega
         have hl0 : l = 0:=by omega
         subst hr0; subst hl0
         have hbn:=bounds true 0 0 0 0 hl hr h1 (.inr h2)
         refine ⟨rfl, .slice (some a0) 0 0, ?_, ?_⟩
         ·simp only [Instr.sliceAt, Instr.slice, Sem.run_bind, run_underlying hu, Result.andThen_ok, hbn, run_sz hs, Option.map_some, Sem.run_pure, if_true, Nat.sub_self]
         ·exact .sliceZ _ _ hb0 hz
  case slice.sliceE =>
   rename_i b lc k ad hb0 hk
   cases hu : P.underlying ty with
   | none => simp [hu] at he
   | some d =>
    cases d <;> simp only [hu, reduceCtorEq] at he
    rename_i elem
    cases hl : bound t 0 lo with
    | none => simp [hl] at he
    | some l =>
     simp only [hl] at he
     cases hr : bound t 0 hi with
     | none => simp [hr] at he
     | some r =>
      simp only [hr, slSl, slS] at he
      cases hs : sz P elem with
      | none => simp [hs] at he
      | some s =>
       simp only [hs] at he
       have hz : ∀ q : Bool, (q && !Nat.beq s 0 && true && true && Nat.beq 0 (k * s)) = false:=by
        intro q
        cases h0 : Nat.beq s 0 with
        | true => simp
        | false =>
         have hs0 : s ≠ 0:=fun e => by subst e; simp at h0
         have : Nat.beq 0 (k * s) = false:=by
          cases e : Nat.beq 0 (k * s) with
          | false => rfl
          | true =>
           have:=Nat.eq_of_beq_eq_true e
           have:=Nat.mul_ne_zero hk hs0
           omega
         rw [this]; simp
       cases hlr : Nat.ble l r with
       | false => simp [hlr] at he
       | true =>
        simp only [hlr, cond_true] at he
        cases hg : h.t.get b with
        | none => simp [hg] at he
        | some ob =>
         cases ob with
         | ro _ _ => simp [hg] at he
         | map _ => simp [hg] at he
         | dead => simp [hg] at he
         | cells c m gr e =>
          simp only [hg] at he
          have hb0' : Nat.beq s 0 = false → Nat.beq 0 (k * s) = false:=by
           intro h0
           have:=hz true
           rw [h0] at this
           simpa using this
          cases h0 : Nat.beq s 0 with
          | true => simp [h0] at he
          | false => rw [hb0' h0] at he; simp at he
  case slice.sliceG =>
   rename_i len b l0 off cap hb0
   cases hu : P.underlying ty with
   | none => simp [hu] at he
   | some d =>
    cases d <;> simp only [hu, reduceCtorEq] at he
    rename_i elem
    cases hl : bound t 0 lo with
    | none => simp [hl] at he
    | some l =>
     simp only [hl] at he
     cases hr : bound t len hi with
     | none => simp [hr] at he
     | some r =>
      simp only [hr, slSl, slS] at he
      cases hs : sz P elem with
      | none => simp [hs] at he
      | some s =>
       simp only [hs] at he
       cases hlr : Nat.ble l r with
       | false => simp [hlr] at he
       | true =>
        have h1:=Nat.le_of_ble_eq_true hlr
        simp only [hlr, cond_true] at he
        cases hg : h.t.get b with
        | none => simp [hg] at he
        | some ob =>
         cases ob with
         | ro _ _ => simp [hg] at he
         | map _ => simp [hg] at he
         | dead => simp [hg] at he
         | cells c m gr e =>
          simp only [hg] at he
          cases hcc : (Nat.ble (off + r * s) m && (Nat.beq l 0 || Nat.blt l r) && !Nat.beq s 0 && gr && Nat.beq e elem && Nat.beq off (cap * s)) with
          | false =>
           rw [hcc, cond_false] at he
           cases hcd : (Nat.ble (off + r * s) m && (Nat.beq l r && !Nat.beq l 0) && !Nat.beq s 0 && gr && Nat.beq e elem && Nat.beq off (cap * s)) with
           | false => rw [hcd] at he; cases he
           | true =>
            rw [hcd] at he
            simp only [cond_true, Option.some.injEq, Prod.mk.injEq] at he
            obtain ⟨rfl, rfl⟩:=he
            simp only [Bool.and_eq_true, Bool.not_eq_true'] at hcd
            obtain ⟨⟨⟨⟨⟨c1, c2⟩, c3⟩, c4⟩, c5⟩, c6⟩:=hcd
            have c1:=Nat.le_of_ble_eq_true c1
            have c5:=Nat.eq_of_beq_eq_true c5
            have c6:=Nat.eq_of_beq_eq_true c6
            have c2':=Nat.eq_of_beq_eq_true c2.1
            have hs0 : s ≠ 0:=fun e => by subst e; simp at c3
            have hl0 : l ≠ 0:=fun e => by rw [e] at c2; simp at c2
            subst c4 c5
            obtain ⟨arr, C⟩:=H b l0 _ hb0 hg
            have htop:=(C.top rfl).1
            rw [cellsOf_sz hs] at htop
            have hrcap : cap + r ≤ l0.cap:=by
             have : (cap + r) * s ≤ l0.cap * s:=by rw [Nat.add_mul]; omega
             exact Nat.le_of_mul_le_mul_right this (Nat.pos_of_ne_zero hs0)
            have hbn:=bounds true len (l0.cap - cap) l r hl hr h1 (.inr (by omega))
            refine ⟨rfl, .slice (if l0.cap - cap = l then some ⟨l0.blk, l0.base + off, none⟩ else some ⟨l0.blk, l0.base + (off + l * s), none⟩) (r - l) (l0.cap - cap - l), ?_, ?_⟩
            ·simp only [Instr.sliceAt, Instr.slice, Sem.run_bind, run_underlying hu, Result.andThen_ok, hbn, run_sz hs, Option.map_some, add_at, Nat.add_assoc, Sem.run_pure]
            ·have hz : r - l = 0 := by omega
             rw [hz]
             split <;> exact .sliceE _ _ _ hb0 hl0
          | true =>
           simp only [hcc, cond_true, Option.some.injEq, Prod.mk.injEq] at he
           obtain ⟨rfl, rfl⟩:=he
           simp only [Bool.and_eq_true, Bool.or_eq_true, Bool.not_eq_true'] at hcc
           obtain ⟨⟨⟨⟨⟨c1, c2⟩, c3⟩, c4⟩, c5⟩, c6⟩:=hcc
           have c1:=Nat.le_of_ble_eq_true c1
           have c5:=Nat.eq_of_beq_eq_true c5
           have c6:=Nat.eq_of_beq_eq_true c6
           have hs0 : s ≠ 0:=fun e => by subst e; simp at c3
           subst c4 c5
           obtain ⟨arr, C⟩:=H b l0 _ hb0 hg
           have htop:=(C.top rfl).1
           rw [cellsOf_sz hs] at htop
           have hrcap : cap + r ≤ l0.cap:=by
            have : (cap + r) * s ≤ l0.cap * s:=by rw [Nat.add_mul]; omega
            exact Nat.le_of_mul_le_mul_right this (Nat.pos_of_ne_zero hs0)
           have hbn:=bounds true len (l0.cap - cap) l r hl hr h1 (.inr (by omega))
           refine ⟨rfl, .slice (if l0.cap - cap = l then some ⟨l0.blk, l0.base + off, none⟩ else some ⟨l0.blk, l0.base + (off + l * s), none⟩) (r - l) (l0.cap - cap - l), ?_, ?_⟩
           ·simp only [Instr.sliceAt, Instr.slice, Sem.run_bind, run_underlying hu, Result.andThen_ok, hbn, run_sz hs, Option.map_some, add_at, Nat.add_assoc, Sem.run_pure]
           ·have hl0 : l = 0 ∨ l < r:=by
             rcases c2 with c2 | c2
             ·exact .inl (Nat.eq_of_beq_eq_true c2)
             ·exact .inr (Nat.le_of_ble_eq_true c2)
            have hcap : l0.cap - cap - l = l0.cap - (cap + l):=by omega
            rw [hcap]
            by_cases hq : l0.cap - cap = l
            ·rw [if_pos hq]
             have : l = 0:=by omega
             subst this
             simp only [Nat.zero_mul, Nat.add_zero]
             exact .sliceG _ _ _ hb0
            ·rw [if_neg hq]; exact .sliceG _ _ _ hb0
def Made (P : Program) [Z : Res] (w0 : World) (r : Result Next) (v : V) (h' : Hp) (ρ : Rho) : Prop :=
 ∃ x w' ρ', (r = .ok (.value x) w' ∨ (r = .ok .skip w' ∧ x = undef)) ∧ Rel ρ' v x ∧ Ext ρ ρ' ∧ R P w0 w' h' ρ'
structure Fr (h h' : Hp) : Prop where
 low : h'.low ≤ h.low
 n : h.n ≤ h'.n
 get : ∀ b, b < h.n → b < h'.low → h'.t.get b = h.t.get b
theorem Fr.refl (h : Hp) : Fr h h:=⟨Nat.le_refl _, Nat.le_refl _, fun _ _ _ => rfl⟩
theorem Fr.trans {a b c : Hp} (x : Fr a b) (y : Fr b c) : Fr a c :=
 ⟨Nat.le_trans y.low x.low, Nat.le_trans x.n y.n, fun i h1 h2 => by rw [y.get i (Nat.lt_of_lt_of_le h1 x.n) h2, x.get i h1 (Nat.lt_of_lt_of_le h2 y.low)]⟩
theorem Fr.new (h : Hp) (o : Ob) : Fr h (h.new o):=⟨Nat.le_refl _, Nat.le_succ _, fun i h1 _ => by simp only [Hp.new]; rw [Tr.get_set_ne _ _ (by omega)]⟩
theorem Fr.put (h : Hp) (b : Nat) (o : Ob) : Fr h (h.put b o):=by
 refine ⟨Nat.min_le_right _ _, Nat.le_refl _, fun i _ h2 => ?_⟩
 have : i < b:=Nat.lt_of_lt_of_le h2 (Nat.min_le_left _ _)
 simp only [Hp.put]; rw [Tr.get_set_ne _ _ (by omega)]
theorem Fr.row (h : Hp) (e : TypeId) (cs : List V) (g : Bool) : Fr h (h.newRow e cs g):=Fr.new _ _
class OpOk (P : Program) [Orc] : Prop where
 pure : ∀ o, Orc.kd o = 1 → ∀ as h h2, Orc.op o as h2 = (Orc.op o as h).map fun p => (p.1, h2)
 reads : ∀ o as h v h', Orc.kd o = 1 ∨ Orc.kd o = 2 → Orc.op o as h = some (v, h') → h' = h ∧ ∀ ρ w (a : Act) (oo : Oper), oo.op = o → Live P ρ w h → RelL ρ as (o.operands.toList.map a.eval) →
  ∃ x, (execOp a.eval oo).run P w = .ok (.value x) w ∧ Rel ρ v x
 make : ∀ o as h v h', Orc.op o as h = some (v, h') → Orc.kd o ≠ 0 → Fr h h' ∧ ∀ (Z : Res) w0 w ρ (a : Act) (oo : Oper), oo.op = o → R P w0 w h ρ → RelL ρ as (o.operands.toList.map a.eval) →
  Made P w0 ((execOp a.eval oo).run P w) v h' ρ
theorem xk_ne {o : Op} (h : xk o ≠ 0) : ownOp o = false ∧ xk o = Orc.kd o:=by
 unfold xk at *
 cases hc : ownOp o <;> rw [hc] at h <;> simp_all
theorem xk_call {o : Op} (h : callOp o = true) : xk o = 0:=by
 have : ownOp o = true:=by
  cases o <;> first | rfl | exact h
 unfold xk; rw [this]; rfl
theorem xk_store {o : Op} {ty : TypeId} {a x : Operand} (h : o = .store ty a x) : xk o = 0:=by subst h; rfl
theorem execV_zero {t : Tr V} {h : Hp} {o : Op} (hx : xk o = 0) : execV P t h o = execC P t h o:=by unfold execV; rw [hx]
theorem execV_ne {t : Tr V} {h : Hp} {o : Op} (hx : xk o ≠ 0) : execV P t h o = execX t h o:=by
 unfold execV
 cases e : xk o with
 | zero => exact (hx e).elim
 | succ n => rfl
theorem execX_some {t : Tr V} {h : Hp} {o : Op} {p : V × Hp} (he : execX t h o = some p) : ∃ as, evalL t o.operands.toList = some as ∧ Orc.op o as h = some p:=by
 unfold execX at he
 cases e : evalL t o.operands.toList with
 | none => rw [e] at he; cases he
 | some as => rw [e] at he; exact ⟨as, rfl, he⟩
theorem makes_zero {o : Oper} (hx : xk o.op = 0) : makes o = makesC o.op:=by unfold makes; rw [hx]
theorem obliv_zero {o : Op} (hx : xk o = 0) : obliv o = oblivC o:=by unfold obliv; rw [hx]
theorem ldV_cases (t : Tr V) (o : Op) (v : V) : ldV t o v = undefV ∨ (xk o = 0 ∧ ∃ ty a x, o = .load ty a ∧ evalO t a = some x ∧ ldV t o v = .tuple [x, v]):=by
 unfold ldV
 cases hx : xk o with
 | succ n => exact .inl rfl
 | zero =>
  cases o <;> try exact .inl rfl
  rename_i ty a
  simp only [ldC]
  cases he : evalO t a with
  | none => exact .inl rfl
  | some x => exact .inr ⟨trivial, ty, a, x, rfl, he, rfl⟩
theorem ldV_not {t : Tr V} {o : Op} {v : V} (h : ∀ ty a, o ≠ .load ty a) : ldV t o v = undefV:=by
 rcases ldV_cases t o v with h1 | ⟨_, ty, a, _, h1, _⟩
 ·exact h1
 ·exact (h ty a h1).elim
theorem ldV_store {t : Tr V} {o : Op} {v : V} {ty : TypeId} {a x : Operand} (h : o = .store ty a x) : ldV t o v = undefV:=ldV_not fun ty a e => by rw [h] at e; cases e
theorem ldV_makes {t : Tr V} {o : Oper} {v : V} (h : makes o = true) : ldV t o.op v = undefV:=by
 rcases ldV_cases t o.op v with h1 | ⟨hx, ty, a, _, h1, _⟩
 ·exact h1
 ·rw [makes_zero hx, h1] at h; cases h
theorem vEq0_eq {a b : V} (h : vEq0 a b = true) : a = b:=by
 cases a <;> cases b <;> first | rfl | (exact absurd h (by intro h; cases h)) | skip
 ·simp only [vEq0, beq_iff_eq] at h; rw [h]
 ·simp only [vEq0, Bool.and_eq_true] at h
  obtain ⟨h1, h2⟩:=h
  rw [iEq_eq, beq_iff_eq] at h2
  rw [kEq_eq h1, h2]
 ·simp only [vEq0] at h
  rw [Bool.and_eq_true] at h
  rename_i a b
  cases a; cases b
  simp only at h
  rw [Nat.eq_of_beq_eq_true h.1, Nat.eq_of_beq_eq_true h.2]
 ·simp only [vEq0, Bool.and_eq_true] at h
  rw [Nat.eq_of_beq_eq_true h.1, Nat.eq_of_beq_eq_true h.2]
 ·simp only [vEq0, Bool.and_eq_true, beq_iff_eq] at h
  obtain ⟨⟨⟨⟨h1, h2⟩, h3⟩, h4⟩, h5⟩:=h
  rw [Nat.eq_of_beq_eq_true h1, Nat.eq_of_beq_eq_true h2, Nat.eq_of_beq_eq_true h3, Nat.eq_of_beq_eq_true h4, h5]
 ·simp only [vEq0] at h
  rw [Nat.eq_of_beq_eq_true h]
theorem vEq_eq {a b : V} (h : vEq a b = true) : a = b:=by
 unfold vEq at h
 split at h
 ·rw [Bool.and_eq_true] at h
  rw [Nat.eq_of_beq_eq_true h.1, vEq0_eq h.2]
 ·exact vEq0_eq h
theorem vEqL_eq : ∀ {x y : List V}, vEqL x y = true → x = y
 | [], [], _ => rfl
 | [], _ :: _, h => by cases h
 | _ :: _, [], h => by cases h
 | a :: x, b :: y, h => by
  simp only [vEqL, Bool.and_eq_true] at h
  rw [vEq_eq h.1, vEqL_eq h.2]
theorem sameA_load {P : Program} {h h' : Hp} {ty : TypeId} {b off : Nat} {v : V} (hl : loadV P h ty b off = some v) (hs : sameA h h' (.ptr b off) (vcells v).length = true) : loadV P h' ty b off = some v:=by
 simp only [sameA] at hs
 unfold loadV at hl ⊢
 cases hc : cellsT (h.t.get b) with
 | none => rw [hc] at hl; cases hl
 | some c =>
  cases hc' : cellsT (h'.t.get b) with
  | none => rw [hc, hc'] at hs; cases hs
  | some c' =>
   rw [hc, hc'] at hs
   rw [hc] at hl
   simp only at hs hl ⊢
   simp only [Bool.and_eq_true, Bool.not_eq_true'] at hs
   have hn : (vcells v).length ≠ 0:=fun e => by rw [e] at hs; simp at hs
   have heq : ∃ l, c.getL off (vcells v).length = some l ∧ c'.getL off (vcells v).length = some l:=by
    have h2:=hs.2
    cases h3 : c.getL off (vcells v).length with
    | none => rw [h3] at h2; cases h2
    | some l =>
     cases h4 : c'.getL off (vcells v).length with
     | none => rw [h3, h4] at h2; cases h2
     | some l' =>
      rw [h3, h4] at h2
      exact ⟨l, rfl, by rw [vEqL_eq (x:=l) (y:=l') h2]⟩
   obtain ⟨l, h3, h4⟩:=heq
   cases ha : aggT P ty with
   | none => rw [ha] at hl; cases hl
   | some g =>
    rw [ha] at hl
    cases g with
    | true =>
     simp only at hl ⊢
     cases hz : sz P ty with
     | none => rw [hz] at hl; cases hl
     | some s =>
      rw [hz] at hl
      simp only at hl ⊢
      cases hg : c.getL off s with
      | none => rw [hg] at hl; cases hl
      | some m =>
       rw [hg] at hl
       simp only [Option.some.injEq] at hl; subst hl
       have hlen:=(Tr.getL_spec _ _ _ _ hg).1
       simp only [vcells] at h3 h4
       rw [hlen] at h3 h4
       rw [h4]
       rw [hg] at h3
       simp only [Option.some.injEq] at h3; subst h3; rfl
    | false =>
     simp only at hl ⊢
     have g1:=(Tr.getL_spec _ _ _ _ h3).2 0 (by omega)
     have g2:=(Tr.getL_spec _ _ _ _ h4).2 0 (by omega)
     rw [Nat.add_zero] at g1 g2
     rw [← g2, g1, hl]
end
section
variable {P : Program} [Orc] [Z : Res]
theorem read_simC {ρ : Rho} {a : Act} {t : Tr V} {h h' : Hp} {w : World} {o : Oper} {v : V} (H : Live P ρ w h) (ho : OpR ρ a t o.op.operands.toList) (hm : makesC o.op = false) (he : execC P t h o.op = some (v, h')) :
 h' = h ∧ ∃ x, (execOp a.eval o).run P w = .ok (.value x) w ∧ Rel ρ v x:=by
 obtain ⟨dst, op, type, pos, after, guard⟩:=o
 have take : ∀ {s : Sem Value}, (h' = h ∧ ∃ x, s.run P w = .ok x w ∧ Rel ρ v x) → h' = h ∧ ∃ x, (do let r ← s; pure (Next.value r) : Sem Next).run P w = .ok (.value x) w ∧ Rel ρ v x :=
  fun ⟨e, x, h1, h2⟩ => ⟨e, x, run_v h1, h2⟩
 have read : ∀ {x : Operand} {u : V}, x ∈ op.operands.toList → evalO t x = some u → Rel ρ u (a.eval x):=fun hx hu => ho _ hx _ hu
 cases op <;> simp only [makesC, Bool.true_eq_false] at hm <;> simp only [execC] at he <;> simp only [Op.operands] at read ho
 case move x =>
  obtain ⟨rfl, h1⟩:=vh_some he
  exact ⟨rfl, a.eval x, rfl, read (by simp) h1⟩
 case assign x =>
  obtain ⟨rfl, h1⟩:=vh_some he
  exact ⟨rfl, a.eval x, rfl, read (by simp) h1⟩
 case pick c x y =>
  unfold exPick at he
  cases hc : evalO t c with
  | none => simp [hc] at he
  | some u =>
   have hr:=read (by simp) hc
   cases u <;> simp only [hc, reduceCtorEq] at he
   rename_i b
   cases hcv : a.eval c <;> rw [hcv] at hr <;> cases hr
   cases b <;> simp only at he
   ·obtain ⟨rfl, h1⟩ := vh_some he
    exact ⟨rfl, a.eval y, by simp [execOp, hcv, asBool], read (by simp) h1⟩
   ·obtain ⟨rfl, h1⟩ := vh_some he
    exact ⟨rfl, a.eval x, by simp [execOp, hcv, asBool], read (by simp) h1⟩
 case build ty parts =>
  unfold exBuild at he
  cases hp : evalP t parts.toList with
  | none => simp [hp] at he
  | some ps =>
   simp only [hp] at he
   cases hz : zero P ty with
   | none => simp [hz] at he
   | some z =>
    simp only [hz] at he
    cases hu : P.underlying ty with
    | none => simp [hu] at he
    | some d =>
     simp only [hu] at he
     have hpr : PartR ρ ps (parts.map fun (i, x) => (i, a.eval x)).toList:=by
      have:=evalP_sim (ρ:=ρ) (a:=a) (t:=t) (xs:=parts.toList) (vs:=ps) (by simpa using ho) hp
      simpa using this
     exact take (bld_sim hpr hz hu he w)
 case load ty x =>
  cases hx : evalO t x with
  | none => simp [hx, exLoad] at he
  | some u =>
   have hr:=read (by simp) hx
   rw [hx] at he
   cases hxv : a.eval x <;> rw [hxv] at hr <;> cases hr <;> simp only [exLoad, reduceCtorEq] at he
   rename_i b l off hb
   obtain ⟨rfl, h1⟩:=vh_some he
   obtain ⟨r, h2, h3⟩:=loadV_sim H hb h1
   refine take ⟨rfl, r, ?_, h3⟩
   rw [hxv]
   exact h2
 case nilCheck x =>
  cases hx : evalO t x with
  | none => simp [hx, exNil] at he
  | some u =>
   have hr:=read (by simp) hx
   rw [hx] at he
   cases hxv : a.eval x <;> rw [hxv] at hr <;> cases hr <;> simp only [exNil, Option.some.injEq, Prod.mk.injEq, reduceCtorEq] at he <;> obtain ⟨rfl, rfl⟩ := he <;>
    refine ⟨rfl, _, by simp only [execOp]; rw [hxv]; rfl, ?_⟩ <;> constructor <;> assumption
 case binOp op ty x y ty2 =>
  unfold exBin at he
  cases hx : evalO t x with
  | none => simp [hx] at he
  | some u =>
   cases hy : evalO t y with
   | none => simp [hx, hy] at he
   | some u' =>
    simp only [hx, hy] at he
    obtain ⟨rfl, h1⟩:=vh_some he
    exact take ⟨rfl, binV_sim ty h1 (read (by simp) hx) (read (by simp) hy) x y w⟩
 case unOp op ty x =>
  cases hx : evalO t x with
  | none => simp [hx, exUn] at he
  | some u =>
   simp only [hx, exUn] at he
   obtain ⟨rfl, h1⟩:=vh_some he
   exact take ⟨rfl, unV_sim h1 (read (by simp) hx) w⟩
 case convert src dst x =>
  cases hx : evalO t x with
  | none => simp [hx, exConv] at he
  | some u =>
   have hr:=read (by simp) hx
   rw [hx] at he
   cases hxv : a.eval x <;> rw [hxv] at hr <;> cases hr <;> simp only [exConv, reduceCtorEq] at he
   ·rename_i k n
    cases hs : P.underlying src with
    | none => simp [hs] at he
    | some d =>
     simp only [hs] at he
     cases hd : P.underlying dst with
     | none => simp [hd] at he
     | some e =>
      cases e <;> simp only [hd, reduceCtorEq] at he
      simp only [Option.some.injEq, Prod.mk.injEq] at he
      obtain ⟨rfl, rfl⟩:=he
      rename_i k'
      refine take ⟨rfl, .int k' (k'.wrap n), ?_, by rw [fwrap_eq]; exact .int _ _⟩
      rw [hxv]
      simp only [convert, Sem.run_bind, run_underlying hs, run_underlying hd, Result.andThen_ok]
      cases d <;> rfl
   ·rename_i s
    cases hs : P.underlying src with
    | none => simp [hs] at he
    | some d =>
     cases d <;> simp only [hs, reduceCtorEq] at he
     cases hd : P.underlying dst with
     | none => simp [hd] at he
     | some e =>
      cases e <;> simp only [hd, reduceCtorEq] at he
      simp only [Option.some.injEq, Prod.mk.injEq] at he
      obtain ⟨rfl, rfl⟩:=he
      refine take ⟨rfl, _, ?_, .str s⟩
      rw [hxv]
      simp only [convert, Sem.run_bind, run_underlying hs, run_underlying hd, Result.andThen_ok]
      rfl
 case makeInterface ty x =>
  cases hx : evalO t x with
  | none => simp [hx, exIface] at he
  | some u =>
   simp only [hx, exIface] at he
   cases hu : P.underlying ty with
   | none => simp [hu] at he
   | some d =>
    have hr:=read (by simp) hx
    cases d <;> simp only [hu, reduceCtorEq, Option.some.injEq, Prod.mk.injEq] at he <;> obtain ⟨rfl, rfl⟩ := he <;>
     exact take ⟨rfl, .iface ty (a.eval x), by simp only [Instr.makeInterface, Sem.run_bind, run_underlying hu, Result.andThen_ok]; rfl, .iface ty hr⟩
 case makeFunc fn first cap =>
  unfold exFunc at he
  cases fn <;> simp only [reduceCtorEq] at he
  rename_i f
  cases h1 : evalL t first.toList with
  | none => simp [h1] at he
  | some as =>
   simp only [h1] at he
   cases h2 : evalL t cap.toList with
   | none => simp [h2] at he
   | some cs =>
    simp only [h2, Option.some.injEq, Prod.mk.injEq] at he
    obtain ⟨rfl, rfl⟩:=he
    have r1:=evalL_sim (ρ:=ρ) (a:=a) (t:=t) (fun y hy => ho y (by simp; exact .inl (by simpa using hy))) h1
    have r2:=evalL_sim (ρ:=ρ) (a:=a) (t:=t) (fun y hy => ho y (by simp; exact .inr (by simpa using hy))) h2
    refine take ⟨rfl, .func (.func f) ⟨first.toList.map a.eval⟩ ⟨cap.toList.map a.eval⟩, ?_, .func f r1.1 r1.2 r2.1 r2.2⟩
    have e1 : first.map a.eval = ⟨first.toList.map a.eval⟩:=by apply Array.ext'; simp
    have e2 : cap.map a.eval = ⟨cap.toList.map a.eval⟩:=by apply Array.ext'; simp
    rw [e1, e2]; rfl
 case slice ty x lo hi mx =>
  cases mx with
  | some _ => simp at he
  | none =>
   simp only at he
   exact take (slice_sim H (fun y hy => ho y (by
    rcases hy with rfl | rfl | rfl <;> simp)) he)
 case fieldAddr ty x f =>
  cases hx : evalO t x with
  | none => simp [hx, exFieldAddr] at he
  | some u =>
   have hr:=read (by simp) hx
   rw [hx] at he
   cases hxv : a.eval x <;> rw [hxv] at hr <;> cases hr <;> simp only [exFieldAddr, reduceCtorEq] at he
   rename_i b l off hb
   cases hu : P.underlying ty with
   | none => simp [hu] at he
   | some d =>
    cases d <;> simp only [hu, reduceCtorEq] at he
    rename_i fields
    cases hf : fields[f]? with
    | none => simp [hf] at he
    | some fl =>
     simp only [hf] at he
     cases hs : sz P fl.type with
     | none => simp [hs] at he
     | some s =>
      simp only [hs] at he
      cases hb0 : Nat.beq s 0 with
      | true => simp [hb0] at he
      | false =>
       have hs0 : ¬ s = 0:=fun e => by subst e; simp at hb0
       simp only [hb0, cond_false, Option.some.injEq, Prod.mk.injEq] at he
       obtain ⟨rfl, rfl⟩:=he
       refine take ⟨rfl, _, ?_, .ptr _ hb⟩
       rw [hxv]
       simp only [Instr.fieldAt, Sem.run_bind, run_underlying hu, Result.andThen_ok, hf]
       simp only [Instr.sureAddr, fieldPlace, Sem.run_bind, run_sz hs, Result.andThen_ok, Sem.run_pure, if_neg hs0, add_at, Nat.add_assoc]
 case field ty x f =>
  cases hx : evalO t x with
  | none => simp [hx, exField] at he
  | some u =>
   have hr:=read (by simp) hx
   rw [hx] at he
   cases hxv : a.eval x <;> rw [hxv] at hr <;> cases hr <;> simp only [exField, reduceCtorEq] at he
   rename_i cs xs hl hrr
   cases hu : P.underlying ty with
   | none => simp [hu] at he
   | some d =>
    cases d <;> simp only [hu, reduceCtorEq] at he
    rename_i fields
    cases hf : fields[f]? with
    | none => simp [hf] at he
    | some fl =>
     simp only [hf] at he
     obtain ⟨rfl, h1⟩:=vh_some he
     obtain ⟨r, h2, h3⟩:=partV_sim (P:=P) ⟨hl, hrr⟩ h1 w
     refine take ⟨rfl, r, ?_, h3⟩
     rw [hxv]
     simp only [Instr.field, Sem.run_bind, run_underlying hu, Result.andThen_ok, hf]
     simpa [asAgg] using h2
 case indexAddr ty x ix =>
  unfold exIndexAddr at he
  cases hix : natA (evalO t ix) with
  | none => simp [hix] at he
  | some i =>
   obtain ⟨k, hk⟩:=natA_spec hix
   have hri:=read (x:=ix) (by simp) hk
   simp only [hix] at he
   cases hiv : a.eval ix <;> rw [hiv] at hri <;> cases hri
   cases hx : evalO t x with
   | none => simp [hx] at he
   | some u =>
    have hr:=read (x:=x) (by simp) hx
    rw [hx] at he
    cases hxv : a.eval x <;> rw [hxv] at hr <;> cases hr <;> simp only [reduceCtorEq] at he
    case pointer.ptr =>
     rename_i b l off hb
     cases hu : P.underlying ty with
     | none => simp [hu] at he
     | some d =>
      cases d <;> simp only [hu, reduceCtorEq] at he
      rename_i len elem
      cases hs : sz P elem with
      | none => simp [hs] at he
      | some s =>
       simp only [hs] at he
       cases hb0 : Nat.blt i len with
       | false => simp [hb0] at he
       | true =>
        have hlt : i < len:=Nat.le_of_ble_eq_true hb0
        simp only [hb0, cond_true, Option.some.injEq, Prod.mk.injEq] at he
        obtain ⟨rfl, rfl⟩:=he
        refine take ⟨rfl, _, ?_, .ptr _ hb⟩
        rw [hxv, hiv]
        simp only [Instr.indexAt, asIntOf, Sem.run_bind, Sem.run_pure, run_underlying hu, Result.andThen_ok, Instr.sureAddr]
        rw [if_pos (by omega)]
        simp [run_sz hs, add_at, Nat.add_assoc]
    all_goals
     cases hu : P.underlying ty with
     | none => simp [hu] at he
     | some d =>
      cases d <;> simp only [hu, reduceCtorEq] at he
      rename_i elem
      cases hs : sz P elem with
      | none => simp [hs] at he
      | some s =>
       simp only [hs] at he
       simp only [Bool.cond_eq_ite, Option.ite_none_right_eq_some, Option.some.injEq, Prod.mk.injEq] at he
       obtain ⟨hlt0, rfl, rfl⟩:=he
       have hlt:=Nat.le_of_ble_eq_true hlt0
       first
       | (exfalso; omega)
       | (refine take ⟨rfl, _, ?_, .ptr _ (by assumption)⟩
          rw [hxv, hiv]
          simp only [Instr.indexAt, asIntOf, Sem.run_bind, Sem.run_pure, run_underlying hu, Result.andThen_ok]
          rw [if_pos (by omega)]
          simp [run_sz hs, add_at, Nat.add_assoc])
 case index ty x ix =>
  unfold exIndex at he
  cases hix : natA (evalO t ix) with
  | none => simp [hix] at he
  | some i =>
   obtain ⟨k, hk⟩:=natA_spec hix
   have hri:=read (x:=ix) (by simp) hk
   simp only [hix] at he
   cases hiv : a.eval ix <;> rw [hiv] at hri <;> cases hri
   cases hx : evalO t x with
   | none => simp [hx] at he
   | some u =>
    have hr:=read (x:=x) (by simp) hx
    rw [hx] at he
    cases hxv : a.eval x <;> rw [hxv] at hr <;> cases hr <;> simp only [reduceCtorEq] at he
    case string.str =>
     rename_i s
     cases hu : P.underlying ty with
     | none => simp [hu] at he
     | some d =>
      cases d <;> simp only [hu, reduceCtorEq] at he
      rw [Bs.get_eq] at he
      cases hg : s.l[i]? with
      | none => simp [hg] at he
      | some b =>
       simp only [hg, Option.map_some, Option.some.injEq, Prod.mk.injEq] at he
       obtain ⟨rfl, rfl⟩:=he
       refine take ⟨rfl, _, ?_, .int .u8 _⟩
       rw [hxv, hiv]
       have hgb : (ByteArray.mk ⟨s.l⟩)[i]? = some b:=by
        have hlt : i < s.l.length:=by
         rcases Nat.lt_or_ge i s.l.length with h1 | h1
         ·exact h1
         ·rw [List.getElem?_eq_none h1] at hg; cases hg
        rw [List.getElem?_eq_getElem hlt] at hg
        have hlt' : i < (ByteArray.mk ⟨s.l⟩).size:=hlt
        rw [getElem?_pos (ByteArray.mk ⟨s.l⟩) i hlt']
        exact hg
       simp only [Instr.index, asIntOf, Sem.run_bind, Sem.run_pure, run_underlying hu, Result.andThen_ok]
       rw [if_pos (by omega), Int.toNat_natCast, hgb]
       rfl
    case agg.agg =>
     rename_i cs xs hl hrr
     cases hu : P.underlying ty with
     | none => simp [hu] at he
     | some d =>
      cases d <;> simp only [hu, reduceCtorEq] at he
      rename_i len elem
      cases hs : sz P elem with
      | none => simp [hs] at he
      | some s =>
       simp only [hs] at he
       cases hb0 : Nat.blt i len with
       | false => simp [hb0] at he
       | true =>
        have hlt : i < len:=Nat.le_of_ble_eq_true hb0
        simp only [hb0, cond_true] at he
        obtain ⟨rfl, h1⟩:=vh_some he
        obtain ⟨r, h2, h3⟩:=partV_sim (P:=P) ⟨hl, hrr⟩ h1 w
        refine take ⟨rfl, r, ?_, h3⟩
        rw [hxv, hiv]
        simp only [Instr.index, asIntOf, Sem.run_bind, Sem.run_pure, run_underlying hu, Result.andThen_ok]
        rw [if_pos (by omega)]
        simp only [Sem.run_bind, run_sz hs, Result.andThen_ok, Int.toNat_natCast]
        exact h2
 case lookup ty x ix ok =>
  unfold exLookup at he
  cases hu : P.underlying ty with
  | none => simp [hu] at he
  | some d =>
   cases d <;> simp only [hu, reduceCtorEq] at he
   rename_i key elem
   cases hk : evalO t ix with
   | none => simp [hk] at he
   | some k =>
    have hrk:=read (x:=ix) (by simp) hk
    simp only [hk] at he
    cases hok : keyOk (P.underlying key) k with
    | false => simp [hok] at he
    | true =>
     simp only [hok, cond_true] at he
     cases hkd : P.underlying key with
     | none => rw [hkd] at hok; simp [keyOk] at hok
     | some kd =>
      rw [hkd] at hok
      cases hm : mapOf h (evalO t x) with
      | none => simp [hm] at he
      | some es =>
       simp only [hm] at he
       have hmap : ∃ ents : List MapEntry, ((a.eval x = .map none ∧ ents = []) ∨ ∃ r clock, a.eval x = .map (some r) ∧ w.heap[r]? = some (.map ⟨ents⟩ clock)) ∧ es.length = ents.length ∧
        ∀ (i : Nat) a b e, es[i]? = some (a, b) → ents[i]? = some e → Rel ρ a e.key ∧ Rel ρ b e.val:=by
        cases hx : evalO t x with
        | none => simp [hx, mapOf] at hm
        | some u =>
         have hr:=read (x:=x) (by simp) hx
         rw [hx] at hm
         cases hxv : a.eval x <;> rw [hxv] at hr <;> cases hr <;> simp only [mapOf, reduceCtorEq, Option.some.injEq] at hm
         ·rename_i b l hb
          cases hg : h.t.get b with
          | none => simp [hg] at hm
          | some ob =>
           cases ob <;> simp only [hg, reduceCtorEq, Option.some.injEq] at hm
           subst hm
           obtain ⟨ents, clock, M⟩:=H b l _ hb hg
           exact ⟨ents, .inr ⟨_, clock, rfl, M.at_⟩, M.len, M.get⟩
         ·subst hm
          exact ⟨[], .inl ⟨rfl, rfl⟩, rfl, fun i a b e h => by simp at h⟩
       obtain ⟨ents, e1, e2, e3⟩:=hmap
       cases hg : mapGet k es with
       | none => simp [hg, lookIn, lookZ] at he
       | some r =>
        rw [hg] at he
        have hfind:=mapGet_sim hrk hok 0 e2 e3 hg
        have hck:=run_checkKey (P:=P) hrk hkd hok
        have start : ∀ (f : Option (Nat × Value)) (x' : Value), Instr.findNow kd (a.eval ix) ents 0 = some f →
         ((match f with | some (_, v) => pure (v, true) | none => do pure (← zeroValue elem, false) : Sem (Value × Bool)).run P w = .ok (x', f.isSome) w) →
         (Instr.lookup ty (a.eval x) (a.eval ix) ok).run P w = .ok (if ok then .tuple #[x', .bool f.isSome] else x') w:=by
         intro f x' hf hz
         have hfk : (Instr.findKey key (a.eval ix) ents).run P w = .ok f w:=by
          simp only [Instr.findKey, Sem.run_bind, run_underlying hkd, Result.andThen_ok, hf]
          rfl
         have fin : ∀ b, (do
          Instr.checkKey b 10000 key (a.eval ix)
          match ← Instr.findKey key (a.eval ix) ents with
           | some (_, v) => pure (if ok = true then Value.tuple #[v, Value.bool true] else v)
           | none => do
            let z ← zeroValue elem
            pure (if ok = true then Value.tuple #[z, Value.bool false] else z) : Sem Value).run P w = .ok (if ok then .tuple #[x', .bool f.isSome] else x') w:=by
          intro b
          simp only [Sem.run_bind, hck, Result.andThen_ok, hfk]
          have hz':=hz
          cases f with
          | none =>
           simp only [Sem.run_bind] at hz' ⊢
           cases hzz : (zeroValue elem).run P w with
           | halt q w' => rw [hzz] at hz'; cases hz'
           | ok z w' =>
            rw [hzz] at hz'
            simp only [Result.andThen_ok, Sem.run_pure, Result.ok.injEq, Prod.mk.injEq] at hz' ⊢
            obtain ⟨⟨rfl, _⟩, rfl⟩:=hz'
            exact ⟨rfl, rfl⟩
          | some p =>
           obtain ⟨i, v⟩:=p
           simp only [Sem.run_pure, Result.ok.injEq, Prod.mk.injEq] at hz'
           obtain ⟨⟨rfl, _⟩, _⟩:=hz'
           rfl
         unfold Instr.lookup
         simp only [Sem.run_bind, run_underlying hu, Result.andThen_ok]
         rcases e1 with ⟨e1, rfl⟩ | ⟨r', clock, e1, e1'⟩
         ·rw [e1]
          simp only [pure_bind]
          exact fin _
         ·rw [e1]
          simp only [Sem.run_bind, MapKept.run_getObj_map e1', Result.andThen_ok]
          simp only [← Sem.run_bind, pure_bind]
          exact fin _
        rcases hfind with ⟨rfl, hf⟩ | ⟨u, x', i, rfl, hf, hru, _⟩
        ·simp only [lookIn, lookZ] at he
         cases hz : zero P elem with
         | none => simp [hz] at he
         | some z =>
          simp only [hz, Option.some.injEq, Prod.mk.injEq] at he
          obtain ⟨rfl, rfl⟩:=he
          obtain ⟨ie, zx, hi, hzx, hrz⟩:=info_of_zero (ρ:=ρ) hz
          refine take ⟨rfl, _, start none zx hf (by simp [run_zero hi hzx]), ?_⟩
          cases ok
          ·exact hrz
          ·exact .tuple (xs := [zx, .bool false]) rfl (RelL.cons hrz (RelL.cons (.bool _) (RelL.nil ρ))).2
        ·simp only [lookIn, lookZ, Option.some.injEq, Prod.mk.injEq] at he
         obtain ⟨rfl, rfl⟩:=he
         refine take ⟨rfl, _, start _ x' hf rfl, ?_⟩
         cases ok
         ·exact hru
         ·exact .tuple (xs := [x', .bool true]) rfl (RelL.cons hru (RelL.cons (.bool _) (RelL.nil ρ))).2
 case extract x i =>
  cases hx : evalO t x with
  | none => simp [hx, exExtract] at he
  | some u =>
   have hr:=read (by simp) hx
   rw [hx] at he
   cases hxv : a.eval x <;> rw [hxv] at hr <;> cases hr <;> simp only [exExtract, reduceCtorEq] at he
   rename_i cs xs hl hrr
   obtain ⟨rfl, h1⟩:=vh_some he
   rw [getN_eq] at h1
   obtain ⟨r, h2, h3⟩:=RelL.get ⟨hl, hrr⟩ h1
   refine take ⟨rfl, r, ?_, h3⟩
   rw [hxv]
   have h2' : (⟨xs⟩ : Array Value)[i]? = some r:=by simpa using h2
   simp only [Instr.extract, h2']
   rfl
 case call c =>
  obtain ⟨callee, args, tys⟩:=c
  cases callee <;> try (simp at hm; done)
  rename_i b
  cases b <;> try (simp at hm; done)
  simp only [exCall, exBuiltin] at he
  unfold exLen at he
  cases hl : evalL t args.toList with
  | none => simp [hl] at he
  | some vs =>
   have hrl:=evalL_sim (ρ:=ρ) (a:=a) (t:=t) (fun y hy => ho y (by simpa [Call.operands] using hy)) hl
   cases vs with
   | nil => simp [hl] at he
   | cons u us =>
    simp only [hl] at he
    cases htl : tys.toList with
    | nil => simp [htl] at he
    | cons ty tyr =>
     simp only [htl] at he
     cases hu : P.underlying ty with
     | none => simp [hu] at he
     | some d =>
      simp only [hu] at he
      obtain ⟨x, xs, hxs, hrx, _⟩:=hrl.cons_inv
      have ha0 : (args.map a.eval)[0]? = some x:=by
       have : (args.map a.eval).toList = x :: xs:=by simpa using hxs
       rw [← Array.getElem?_toList, this]; rfl
      have ht0 : tys[0]? = some ty:=by rw [← Array.getElem?_toList, htl]; rfl
      have run : ∀ r, (Builtin.len_ tys type (args.map a.eval)).run P w = .ok r w →
       (execOp a.eval { dst, op:=.call { callee:=.builtin .len, args, argTypes:=tys }, type, pos, after, guard }).run P w = .ok (.value r) w:=by
       intro r hr
       simp only [execOp, resolve, pure_bind, invoke, builtin]
       exact run_v hr
      have len : ∀ n : Nat, lenV h d u = some n → (Builtin.len_ tys type (args.map a.eval)).run P w = .ok (.int .i64 (n : Int)) w:=by
       intro n hn
       unfold Builtin.len_
       simp only [ht0, ha0, Sem.run_bind, run_underlying hu, Result.andThen_ok]
       unfold lenV at hn
       cases hrx <;> cases d <;> simp only [reduceCtorEq, Option.some.injEq] at hn <;> first
        | (subst hn; rfl; done)
        | (subst hn; rename_i s; rw [← Bs.l_len s]; rfl; done)
        | skip
       rename_i b l hb key elem
       cases hg : h.t.get b with
       | none => simp [hg] at hn
       | some ob =>
        cases ob <;> simp only [hg, reduceCtorEq, Option.some.injEq] at hn
        subst hn
        obtain ⟨ents, clock, M⟩:=H b l _ hb hg
        simp only [Sem.run_bind, MapKept.run_getObj_map M.at_, Result.andThen_ok]
        rw [M.len]; rfl
      cases hn : lenV h d u with
      | none => simp [hn] at he
      | some n =>
       simp only [hn, Option.some.injEq, Prod.mk.injEq] at he
       obtain ⟨rfl, rfl⟩:=he
       exact ⟨rfl, _, run _ (len n hn), .int _ _⟩
theorem read_sim [OpOk P] {ρ : Rho} {a : Act} {t : Tr V} {h h' : Hp} {w : World} {o : Oper} {v : V} (H : Live P ρ w h) (ho : OpR ρ a t o.op.operands.toList) (hm : makes o = false) (he : execV P t h o.op = some (v, h')) :
 h' = h ∧ ∃ x, (execOp a.eval o).run P w = .ok (.value x) w ∧ Rel ρ v x:=by
 by_cases hx : xk o.op = 0
 ·rw [execV_zero hx] at he
  rw [makes_zero hx] at hm
  exact read_simC H ho hm he
 ·rw [execV_ne hx] at he
  obtain ⟨as, h1, h2⟩:=execX_some he
  have hk:=(xk_ne hx).2
  have h12 : Orc.kd o.op = 1 ∨ Orc.kd o.op = 2:=by
   rw [← hk]
   unfold makes at hm
   cases e : xk o.op with
   | zero => exact (hx e).elim
   | succ n =>
    cases n with
    | zero => exact .inl rfl
    | succ n =>
     cases n with
     | zero => exact .inr rfl
     | succ n => rw [e] at hm; cases hm
  obtain ⟨e, h3⟩:=OpOk.reads (P:=P) _ _ _ _ _ h12 h2
  exact ⟨e, h3 ρ w a o rfl H (evalL_sim ho h1)⟩
end
end Go.Mid
end
