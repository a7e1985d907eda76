/- Operations more: maps whose keys are structs of numbers, entries taken away, maps emptied. -/
import Derived.Test.YtdiiilfokajddaaGreatDoorKMidHH
import Derived.WideKeyRuns
import Derived.Test.YtdiiilfokajddaaGreatDoorKMidBB
set_option linter.all false
set_option warn.classDefReducibility false
noncomputable section
section
open Go.RowKit
namespace Go.Mid
section
inductive Kd where
 | leaf (d : TypeDesc)
 | struct (l : List (Nat × TypeDesc))
section
variable (P : Program)
end
variable {P : Program}
end
section
variable {P : Program}
variable [Orc] [Z : Res]

end
section
variable {P : Program}

end
section
section
variable (P : Program)
end
variable {P : Program}
end
section
section
variable (P : Program)
def rowT (t : TypeId) : Bool := match P.underlying t with
 | some (.slice _) => true
 | some .string => true
 | _ => false
def kdLn (o : Op) : Nat :=
 match o with
 | .call c => (match c.callee with
  | .builtin .len => (match c.argTypes.toList with
   | t :: _ => bif rowT P t then 1 else 0
   | [] => 0)
  | _ => 0)
 | _ => 0
def lenT (d : Option TypeDesc) (x : V) (h : Hp) : VH := match d with
 | some (.slice _) => lenSl x fun v => some (v, h)
 | some .string => lenStr x fun v => some (v, h)
 | _ => none
def opLn (o : Op) (as : List V) (h : Hp) : Option (V × Hp) :=
 match o with
 | .call c => (match c.callee with
  | .builtin .len => (match c.argTypes.toList, as with
   | t :: _, [x] => lenT (P.underlying t) x h
   | _, _ => none)
  | _ => none)
 | _ => none
end
variable {P : Program}
theorem lnops : OpsOk P (kdLn P) (opLn P):=by
 intro ng fn inv itr
 letI : Orc:=⟨ng, fn, kdLn P, opLn P, inv, itr⟩
 have shape : ∀ {o : Op}, kdLn P o ≠ 0 → ∃ c t l, o = .call c ∧ c.callee = .builtin .len ∧ c.argTypes.toList = t :: l:=by
  intro o hk
  cases o <;> try (simp [kdLn] at hk; done)
  rename_i c
  simp only [kdLn] at hk
  split at hk <;> try (simp at hk; done)
  rename_i hc
  split at hk <;> try (simp at hk; done)
  rename_i t l ht
  exact ⟨c, t, l, rfl, hc, ht⟩
 have lens : ∀ {d : Option TypeDesc} {x : V} {h h' : Hp} {v : V}, lenT d x h = some (v, h') → h' = h ∧ ∃ n : Nat, v = .int .i64 (.ofNat n) ∧ ∀ h2, lenT d x h2 = some (v, h2):=by
  intro d x h h' v e
  unfold lenT at e
  split at e <;> try (cases e; done)
  ·cases x <;> try (cases e; done)
   ·obtain ⟨rfl, rfl⟩ := Prod.mk.inj (Option.some.inj e); exact ⟨rfl, _, rfl, fun _ => rfl⟩
   ·obtain ⟨rfl, rfl⟩ := Prod.mk.inj (Option.some.inj e); exact ⟨rfl, _, rfl, fun _ => rfl⟩
  ·cases x <;> try (cases e; done)
   obtain ⟨rfl, rfl⟩:=Prod.mk.inj (Option.some.inj e); exact ⟨rfl, _, rfl, fun _ => rfl⟩
 have one : ∀ {o : Op} {as : List V} {h h' : Hp} {v : V}, kdLn P o ≠ 0 → opLn P o as h = some (v, h') → h' = h ∧ ∀ ρ w (a : Act) (oo : Oper), oo.op = o → RelL ρ as (o.operands.toList.map a.eval) →
  ∃ x, (execOp a.eval oo).run P w = .ok (.value x) w ∧ Rel ρ v x:=by
  intro o as h h' v hk he
  obtain ⟨c, t, l, rfl, hc, ht⟩:=shape hk
  obtain ⟨callee, args, tys⟩:=c
  simp only at hc ht
  subst hc
  simp only [opLn, ht] at he
  split at he <;> try (cases he; done)
  rename_i x t' l' y ht'
  simp only [List.cons.injEq] at ht'
  obtain ⟨rfl, rfl⟩:=ht'
  obtain ⟨rfl, n, rfl, _⟩:=lens he
  refine ⟨rfl, fun ρ w act oo hoo hr => ?_⟩
  obtain ⟨u, hu1, r1⟩:=rel_one (xs:=args.toList.map act.eval) (by simpa [Op.operands, Call.operands] using hr)
  have ht0 : tys[0]? = some t:=by rw [← Array.getElem?_toList, ht]; rfl
  have ha0 : args.map act.eval = #[u]:=by
   apply Array.ext'; simpa using hu1
  refine ⟨.int .i64 n, ?_, .int _ _⟩
  unfold execOp; rw [hoo]
  simp only [resolve, pure_bind, invoke, builtin]
  rw [ha0]
  refine run_v ?_
  unfold lenT at he
  split at he <;> try (cases he; done)
  ·rename_i e hu
   cases r1 <;> try (cases he; done)
   all_goals
    obtain ⟨h1, _⟩:=Prod.mk.inj (Option.some.inj he)
    simp only [V.int.injEq, true_and] at h1
    have h1:=Int.ofNat.inj h1
    subst h1
    unfold Builtin.len_
    simp only [ht0, show ∀ y : Value, (#[y] : Array Value)[0]? = some y from fun _ => rfl, Sem.run_bind, run_underlying hu, Result.andThen_ok]
    rfl
  ·rename_i hu
   cases r1 <;> try (cases he; done)
   obtain ⟨h1, _⟩:=Prod.mk.inj (Option.some.inj he)
   simp only [V.int.injEq, true_and] at h1
   have h1:=Int.ofNat.inj h1
   subst h1
   unfold Builtin.len_
   simp only [ht0, show ∀ y : Value, (#[y] : Array Value)[0]? = some y from fun _ => rfl, Sem.run_bind, run_underlying hu, Result.andThen_ok]
   rw [← Bs.l_len]; rfl
 refine @OpOk.mk P ⟨ng, fn, kdLn P, opLn P, inv, itr⟩ (fun o hk as h h2 => ?_) (fun o as h v h' hk he => ?_) (fun o as h v h' he hn => ?_)
 ·change kdLn P o = 1 at hk
  change opLn P o as h2 = (opLn P o as h).map _
  obtain ⟨c, t, l, rfl, hc, ht⟩:=shape (by rw [hk]; decide)
  simp only [opLn, hc, ht]
  split
  ·rename_i t' l' x ht'
   have key : ∀ d, lenT d x h2 = (lenT d x h).map fun p => (p.1, h2):=by
    intro d
    cases e : lenT d x h with
    | none =>
     cases e2 : lenT d x h2 with
     | none => rfl
     | some p =>
      obtain ⟨v, h'⟩:=p
      obtain ⟨_, n, _, e3⟩:=lens e2
      rw [e3 h] at e; cases e
    | some p =>
     obtain ⟨v, h'⟩:=p
     obtain ⟨_, n, _, e3⟩:=lens e
     rw [e3 h2]; rfl
   exact key _
  ·rfl
 ·have hn : kdLn P o ≠ 0:=by
   rcases hk with hk | hk
   ·change kdLn P o = 1 at hk; rw [hk]; decide
   ·change kdLn P o = 2 at hk; rw [hk]; decide
  obtain ⟨rfl, h1⟩:=one hn he
  exact ⟨rfl, fun ρ w a oo hoo _ hr => h1 ρ w a oo hoo hr⟩
 ·obtain ⟨rfl, h1⟩ := one hn he
  refine ⟨Fr.refl _, fun Z w0 w ρ a oo hoo H hr => ?_⟩
  obtain ⟨x, h2, h3⟩:=h1 ρ w a oo hoo hr
  exact ⟨x, w, ρ, .inl h2, h3, Ext.refl _, H⟩
end
end Go.Mid
end
