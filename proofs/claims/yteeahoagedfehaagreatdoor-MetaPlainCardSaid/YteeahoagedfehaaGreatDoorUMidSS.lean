/- The operations on maps as a layer. -/
import Derived.Test.YteeahoagedfehaaGreatDoorUMidQQ
import Derived.Test.YteeahoagedfehaaGreatDoorUMidBB
set_option linter.all false
set_option warn.classDefReducibility false
noncomputable section
section
open Go.RowKit
namespace Go.Mid
section
variable {P : Program}
theorem unit_rel (ρ : Rho) : Rel ρ unitV undef:=.tuple (cs:=[]) (xs:=[]) rfl fun i v x h => by simp at h
theorem kSet_fr [Orc] {q : Kd} {h h' : Hp} {m k x v : V} (he : kSet q h m k x = some (v, h')) : Fr h h':=by
 unfold kSet at he
 cases hf : keyFit q k <;> rw [hf] at he
 ·cases he
 simp only [cond_true] at he
 (repeat' split at he) <;> first | (cases he; done) | (simp only [Option.some.injEq, Prod.mk.injEq] at he; obtain ⟨_, rfl⟩:=he; exact Fr.put _ _ _)
theorem kDel_fr [Orc] {q : Kd} {h h' : Hp} {m k v : V} (he : kDel q h m k = some (v, h')) : Fr h h':=by
 unfold kDel at he
 cases hf : keyFit q k <;> rw [hf] at he
 ·cases he
 simp only [cond_true] at he
 (repeat' split at he) <;> first | (cases he; done) | (simp only [Option.some.injEq, Prod.mk.injEq] at he; obtain ⟨_, rfl⟩:=he; first | exact Fr.put _ _ _ | exact Fr.refl _)
theorem kClear_fr [Orc] {h h' : Hp} {m v : V} (he : kClear h m = some (v, h')) : Fr h h':=by
 unfold kClear at he
 (repeat' split at he) <;> first | (cases he; done) | (simp only [Option.some.injEq, Prod.mk.injEq] at he; obtain ⟨_, rfl⟩:=he; first | exact Fr.put _ _ _ | exact Fr.refl _)
theorem doClr_fr [Orc] {h h' : Hp} {ty : TypeId} {m v : V} (he : doClr P h ty m = some (v, h')) : Fr h h':=by
 unfold doClr at he
 split at he <;> try (cases he; done)
 ·exact kClear_fr he
 ·split at he <;> try (cases he; done)
  unfold kZero at he
  simp only [Bool.cond_eq_ite] at he
  (repeat' split at he) <;> first | (cases he; done) | (simp only [Option.some.injEq, Prod.mk.injEq] at he; obtain ⟨_, rfl⟩:=he; first | exact Fr.put _ _ _ | exact Fr.refl _)
theorem kdQQ_two {o : Op} (hk : kdQQ P o = 1 ∨ kdQQ P o = 2) : ∃ ty x ix ok, o = .lookup ty x ix ok:=by
 cases o <;> try (simp [kdQQ] at hk; done)
 case lookup ty x ix ok => exact ⟨ty, x, ix, ok, rfl⟩
 case mapUpdate ty m k x => simp only [kdQQ] at hk; cases hw : wideT P ty <;> rw [hw] at hk <;> simp at hk
 case insert ty m k x => simp only [kdQQ] at hk; cases hw : isMapT P ty <;> rw [hw] at hk <;> simp at hk
 case call c =>
  exfalso
  simp only [kdQQ] at hk
  unfold kdClr at hk
  (repeat' split at hk) <;> simp at hk
theorem mops : OpsOk P (kdQQ P) (opQQ P):=by
 intro ng fn inv itr
 letI : Orc:=⟨ng, fn, kdQQ P, opQQ P, inv, itr⟩
 have one : ∀ {o : Op} {as : List V} {h h' : Hp} {v : V}, (kdQQ P o = 1 ∨ kdQQ P o = 2) → opQQ P o as h = some (v, h') → h' = h ∧ ∀ ρ w (a : Act) (oo : Oper), oo.op = o → Live P ρ w h → RelL ρ as (o.operands.toList.map a.eval) →
  ∃ x, (execOp a.eval oo).run P w = .ok (.value x) w ∧ Rel ρ v x:=by
  intro o as h h' v hk he
  obtain ⟨ty, x, ix, ok, rfl⟩:=kdQQ_two hk
  simp only [opQQ] at he
  split at he <;> try (cases he; done)
  rename_i xv kv
  obtain ⟨key, elem, q, hu, hq, he⟩:=onKd_some he
  obtain ⟨rfl, he⟩:=vh_some he
  refine ⟨rfl, fun ρ w a oo hoo H hr => ?_⟩
  obtain ⟨u, v', huv, r1, r2⟩:=rel_two (xs:=[a.eval x, a.eval ix]) (by simpa [Op.operands] using hr)
  simp only [List.cons.injEq, and_true] at huv
  obtain ⟨rfl, rfl⟩:=huv
  obtain ⟨r, h1, h2⟩:=kLook_sim H hu hq r1 r2 he
  refine ⟨r, ?_, h2⟩
  unfold execOp; rw [hoo]
  exact run_v h1
 refine @OpOk.mk P ⟨ng, fn, kdQQ P, opQQ P, inv, itr⟩ (fun o hk as h h2 => ?_) (fun o as h v h' hk he => ?_) (fun o as h v h' he hn => ?_)
 ·change kdQQ P o = 1 at hk
  obtain ⟨ty, x, ix, ok, rfl⟩:=kdQQ_two (.inl hk)
  exfalso
  simp only [kdQQ] at hk
  cases hw : wideT P ty <;> rw [hw] at hk <;> simp at hk
 ·exact one hk he
 ·change opQQ P o as h = some (v, h') at he
  change kdQQ P o ≠ 0 at hn
  by_cases h12 : kdQQ P o = 1 ∨ kdQQ P o = 2
  ·obtain ⟨rfl, h1⟩ := one h12 he
   refine ⟨Fr.refl _, fun Z w0 w ρ a oo hoo H hr => ?_⟩
   obtain ⟨x, h2, h3⟩:=h1 ρ w a oo hoo (@R.live ⟨ng, fn, kdQQ P, opQQ P, inv, itr⟩ Z P w0 w _ ρ H) hr
   exact ⟨x, w, ρ, .inl h2, h3, Ext.refl _, H⟩
  ·cases o <;> try (simp [kdQQ] at hn; done)
   case lookup ty x ix ok =>
    exfalso
    simp only [kdQQ] at hn h12
    cases hw : wideT P ty <;> rw [hw] at hn h12 <;> simp at hn h12
   case mapUpdate ty m k x =>
    simp only [opQQ] at he
    split at he <;> try (cases he; done)
    rename_i mv kv xv
    obtain ⟨key, elem, q, hu, hq, he⟩:=onKd_some he
    refine ⟨kSet_fr he, fun Z w0 w ρ a oo hoo H hr => ?_⟩
    obtain ⟨u1, u2, u3, huv, r1, r2, r3⟩:=rel_three (xs:=[a.eval m, a.eval k, a.eval x]) (by simpa [Op.operands] using hr)
    simp only [List.cons.injEq, and_true] at huv
    obtain ⟨rfl, rfl, rfl⟩:=huv
    obtain ⟨rfl, w', h1, h2⟩:=kSet_sim H hu hq r1 r2 r3 he
    refine ⟨undef, w', ρ, .inr ⟨?_, rfl⟩, unit_rel ρ, Ext.refl _, h2⟩
    unfold execOp; rw [hoo]
    exact run_u h1
   case insert ty m k x =>
    simp only [opQQ] at he
    split at he <;> try (cases he; done)
    rename_i mv kv xv
    obtain ⟨key, elem, q, hu, hq, he⟩:=onKd_some he
    refine ⟨kSet_fr he, fun Z w0 w ρ a oo hoo H hr => ?_⟩
    obtain ⟨u1, u2, u3, huv, r1, r2, r3⟩:=rel_three (xs:=[a.eval m, a.eval k, a.eval x]) (by simpa [Op.operands] using hr)
    simp only [List.cons.injEq, and_true] at huv
    obtain ⟨rfl, rfl, rfl⟩:=huv
    obtain ⟨rfl, w', h1, h2⟩:=kSet_sim H hu hq r1 r2 r3 he
    refine ⟨undef, w', ρ, .inr ⟨?_, rfl⟩, unit_rel ρ, Ext.refl _, h2⟩
    unfold execOp; rw [hoo]
    exact run_u h1
   case call c =>
    obtain ⟨callee, args, tys⟩:=c
    cases callee <;> try (simp [kdQQ] at hn; done)
    rename_i b
    cases b <;> try (simp [kdQQ] at hn; done)
    ·simp only [opQQ] at he
     split at he <;> try (cases he; done)
     rename_i ty tyr mv hty
     refine ⟨doClr_fr he, fun Z w0 w ρ a oo hoo H hr => ?_⟩
     obtain ⟨u1, huv, r1⟩:=rel_one (xs:=args.toList.map a.eval) (by simpa [Op.operands, Call.operands] using hr)
     have ht0 : tys[0]? = some ty:=by rw [← Array.getElem?_toList, hty]; rfl
     obtain ⟨rfl, w', h1, h2⟩:=doClr_sim H r1 he tys ht0 oo.type
     refine ⟨undef, w', ρ, .inl ?_, unit_rel ρ, Ext.refl _, h2⟩
     unfold execOp; rw [hoo]
     simp only [resolve, pure_bind, invoke, builtin]
     have ha0 : args.map a.eval = #[u1]:=by
      apply Array.ext'; simpa using huv
     rw [ha0]
     exact run_v h1
    ·simp only [opQQ] at he
     split at he <;> try (cases he; done)
     rename_i ty tyr mv kv hty
     obtain ⟨key, elem, q, hu, hq, he⟩:=onKd_some he
     refine ⟨kDel_fr he, fun Z w0 w ρ a oo hoo H hr => ?_⟩
     obtain ⟨u1, u2, huv, r1, r2⟩:=rel_two (xs:=args.toList.map a.eval) (by simpa [Op.operands, Call.operands] using hr)
     have ht0 : tys[0]? = some ty:=by rw [← Array.getElem?_toList, hty]; rfl
     obtain ⟨rfl, w', h1, h2⟩:=kDel_sim H hu hq r1 r2 he tys ht0 oo.type
     refine ⟨undef, w', ρ, .inl ?_, unit_rel ρ, Ext.refl _, h2⟩
     unfold execOp; rw [hoo]
     simp only [resolve, pure_bind, invoke, builtin]
     have ha0 : args.map a.eval = #[u1, u2]:=by
      apply Array.ext'; simpa using huv
     rw [ha0]
     exact run_v h1
end
section
def taOk (ok : Bool) (v : V) : V:=bif ok then .tuple [v, .bool true] else v
def taNo (ok : Bool) (z : Option V) : Option V := bif ok then (match z with
 | some z => some (.tuple [z, .bool false])
 | none => none) else none
def taV (asserted : TypeId) (z : Option V) (ok : Bool) (x : V) : Option V :=
 match x with
 | .nilIface => taNo ok z
 | .iface t v => bif Nat.beq t asserted then some (taOk ok v) else taNo ok z
 | _ => none
section
variable (P : Program)
def kdTA (o : Op) : Nat :=
 match o with
 | .typeAssert _ _ a _ => (match P.underlying a with
  | some (.interface _) => 0
  | some _ => 1
  | none => 0)
 | _ => 0
def opTA (o : Op) (as : List V) (h : Hp) : Option (V × Hp) :=
 match o with
 | .typeAssert _ _ a ok => (match as with
  | [x] => vh h (taV a (zero P a) ok x)
  | _ => none)
 | _ => none
def kdA : Op → Nat:=kdOr (kdW P) (kdOr (kdQQ P) (kdTA P))
def opA : Op → List V → Hp → Option (V × Hp):=opLay (kdW P) (opW P) (opLay (kdQQ P) (opQQ P) (opTA P))
end
variable {P : Program}
theorem taNo_sim [Orc] {ρ : Rho} {a : TypeId} {ok : Bool} {v : V} (h : taNo ok (zero P a) = some v) (w : World) (st dy : Option TypeId) (ms : String) :
 ∃ r, ((if ok then do pure (.tuple #[← zeroValue a, .bool false]) else runtimePanic (.typeAssertion st dy a ms) : Sem Value)).run P w = .ok r w ∧ Rel ρ v r:=by
 unfold taNo at h
 cases ok with
 | false => cases h
 | true =>
  simp only [cond_true] at h
  cases hz : zero P a with
  | none => rw [hz] at h; cases h
  | some z =>
   rw [hz] at h
   simp only [Option.some.injEq] at h; subst h
   obtain ⟨ie, zx, hi, hzx, hrz⟩:=info_of_zero (ρ:=ρ) hz
   refine ⟨.tuple #[zx, .bool false], ?_, .tuple (xs:=[zx, .bool false]) rfl (RelL.cons hrz (RelL.cons (.bool _) (RelL.nil ρ))).2⟩
   simp [run_zero hi hzx]
theorem taV_sim [Orc] {ρ : Rho} {xt a : TypeId} {d : TypeDesc} (hu : P.underlying a = some d) (hd : ∀ m, d ≠ .interface m) {ok : Bool} {x v : V} {xx : Value} (hx : Rel ρ x xx) (h : taV a (zero P a) ok x = some v) (w : World) :
 ∃ r, (Instr.typeAssert xx xt a ok).run P w = .ok r w ∧ Rel ρ v r:=by
 cases hx <;> simp only [taV, reduceCtorEq] at h
 ·rename_i t u y hr
  cases ht : Nat.beq t a with
  | true =>
   have:=Nat.eq_of_beq_eq_true ht
   subst this
   rw [ht] at h
   simp only [cond_true, Option.some.injEq] at h; subst h
   refine ⟨if ok then .tuple #[y, .bool true] else y, ?_, ?_⟩
   ·unfold Instr.typeAssert
    simp only [Sem.run_bind, run_underlying hu, Result.andThen_ok]
    cases d <;> first | (exact absurd rfl (hd _)) | simp
   ·unfold taOk
    cases ok
    ·exact hr
    ·exact .tuple (xs := [y, .bool true]) rfl (RelL.cons hr (RelL.cons (.bool _) (RelL.nil ρ))).2
  | false =>
   rw [ht] at h
   have hne : t ≠ a:=fun e => by subst e; rw [Nat.beq_refl] at ht; cases ht
   obtain ⟨r, h1, h2⟩:=taNo_sim (ρ:=ρ) h w (some xt) (some t) ""
   refine ⟨r, ?_, h2⟩
   unfold Instr.typeAssert
   simp only [Sem.run_bind, run_underlying hu, Result.andThen_ok]
   cases d <;> first | (exact absurd rfl (hd _)) | (simp only [hne, if_false]; exact h1)
 ·obtain ⟨r, h1, h2⟩ := taNo_sim (ρ := ρ) h w (some xt) none ""
  refine ⟨r, ?_, h2⟩
  unfold Instr.typeAssert
  simp only [Sem.run_bind, run_underlying hu, Result.andThen_ok]
  cases d <;> first | (exact absurd rfl (hd _)) | exact h1
theorem tops : OpsOk P (kdTA P) (opTA P):=by
 intro ng fn inv itr
 letI : Orc:=⟨ng, fn, kdTA P, opTA P, inv, itr⟩
 have shape : ∀ {o : Op}, kdTA P o ≠ 0 → ∃ x xt a ok d, o = .typeAssert x xt a ok ∧ P.underlying a = some d ∧ ∀ m, d ≠ .interface m:=by
  intro o hk
  cases o <;> try (simp [kdTA] at hk; done)
  rename_i x xt a ok
  simp only [kdTA] at hk
  cases hu : P.underlying a with
  | none => rw [hu] at hk; simp at hk
  | some d =>
   refine ⟨x, xt, a, ok, d, rfl, hu, fun m e => ?_⟩
   subst e
   rw [hu] at hk; simp at hk
 have one : ∀ {o : Op} {as : List V} {h h' : Hp} {v : V}, kdTA P o ≠ 0 → opTA P o as h = some (v, h') → h' = h ∧ ∀ ρ w (a : Act) (oo : Oper), oo.op = o → RelL ρ as (o.operands.toList.map a.eval) →
  ∃ x, (execOp a.eval oo).run P w = .ok (.value x) w ∧ Rel ρ v x:=by
  intro o as h h' v hk he
  obtain ⟨x, xt, a, ok, d, rfl, hu, hd⟩:=shape hk
  simp only [opTA] at he
  split at he <;> try (cases he; done)
  obtain ⟨rfl, hv⟩:=vh_some he
  refine ⟨rfl, fun ρ w act oo hoo hr => ?_⟩
  obtain ⟨u, hu1, r1⟩:=rel_one (xs:=[act.eval x]) (by simpa [Op.operands] using hr)
  simp only [List.cons.injEq, and_true] at hu1
  subst hu1
  obtain ⟨r, h1, h2⟩:=taV_sim (xt:=xt) hu hd r1 hv w
  refine ⟨r, ?_, h2⟩
  unfold execOp; rw [hoo]
  exact run_v h1
 refine @OpOk.mk P ⟨ng, fn, kdTA P, opTA P, inv, itr⟩ (fun o hk as h h2 => ?_) (fun o as h v h' hk he => ?_) (fun o as h v h' he hn => ?_)
 ·change kdTA P o = 1 at hk
  change opTA P o as h2 = (opTA P o as h).map _
  obtain ⟨x, xt, a, ok, d, rfl, hu, hd⟩:=shape (by rw [hk]; decide)
  simp only [opTA]
  split
  ·exact vh_map' _ _ _
  ·rfl
 ·have hn : kdTA P o ≠ 0:=by
   rcases hk with hk | hk
   ·change kdTA P o = 1 at hk; rw [hk]; decide
   ·change kdTA P o = 2 at hk; rw [hk]; decide
  obtain ⟨rfl, h1⟩:=one hn he
  exact ⟨rfl, fun ρ w a oo hoo _ hr => h1 ρ w a oo hoo hr⟩
 ·obtain ⟨rfl, h1⟩ := one hn he
  refine ⟨Fr.refl _, fun Z w0 w ρ a oo hoo H hr => ?_⟩
  obtain ⟨x, h2, h3⟩:=h1 ρ w a oo hoo hr
  exact ⟨x, w, ρ, .inl h2, h3, Ext.refl _, H⟩
theorem aops : OpsOk P (kdA P) (opA P):=wops.or (mops.or tops)
end
section
section
variable (P : Program)
def rowT (t : TypeId) : Bool := match P.underlying t with
 | some (.slice _) => true
 | some .string => true
 | _ => false
def kdLn (o : Op) : Nat :=
 match o with
 | .call c => (match c.callee with
  | .builtin .len => (match c.argTypes.toList with
   | t :: _ => bif rowT P t then 1 else 0
   | [] => 0)
  | _ => 0)
 | _ => 0
def lenT (d : Option TypeDesc) (x : V) (h : Hp) : VH := match d with
 | some (.slice _) => lenSl x fun v => some (v, h)
 | some .string => lenStr x fun v => some (v, h)
 | _ => none
def opLn (o : Op) (as : List V) (h : Hp) : Option (V × Hp) :=
 match o with
 | .call c => (match c.callee with
  | .builtin .len => (match c.argTypes.toList, as with
   | t :: _, [x] => lenT (P.underlying t) x h
   | _, _ => none)
  | _ => none)
 | _ => none
def kdB2 : Op → Nat:=kdOr (kdA P) (kdLn P)
def opB2 : Op → List V → Hp → Option (V × Hp):=opLay (kdA P) (opA P) (opLn P)
end
variable {P : Program}
theorem lnops : OpsOk P (kdLn P) (opLn P):=by
 intro ng fn inv itr
 letI : Orc:=⟨ng, fn, kdLn P, opLn P, inv, itr⟩
 have shape : ∀ {o : Op}, kdLn P o ≠ 0 → ∃ c t l, o = .call c ∧ c.callee = .builtin .len ∧ c.argTypes.toList = t :: l:=by
  intro o hk
  cases o <;> try (simp [kdLn] at hk; done)
  rename_i c
  simp only [kdLn] at hk
  split at hk <;> try (simp at hk; done)
  rename_i hc
  split at hk <;> try (simp at hk; done)
  rename_i t l ht
  exact ⟨c, t, l, rfl, hc, ht⟩
 have lens : ∀ {d : Option TypeDesc} {x : V} {h h' : Hp} {v : V}, lenT d x h = some (v, h') → h' = h ∧ ∃ n : Nat, v = .int .i64 (.ofNat n) ∧ ∀ h2, lenT d x h2 = some (v, h2):=by
  intro d x h h' v e
  unfold lenT at e
  split at e <;> try (cases e; done)
  ·cases x <;> try (cases e; done)
   ·obtain ⟨rfl, rfl⟩ := Prod.mk.inj (Option.some.inj e); exact ⟨rfl, _, rfl, fun _ => rfl⟩
   ·obtain ⟨rfl, rfl⟩ := Prod.mk.inj (Option.some.inj e); exact ⟨rfl, _, rfl, fun _ => rfl⟩
  ·cases x <;> try (cases e; done)
   obtain ⟨rfl, rfl⟩:=Prod.mk.inj (Option.some.inj e); exact ⟨rfl, _, rfl, fun _ => rfl⟩
 have one : ∀ {o : Op} {as : List V} {h h' : Hp} {v : V}, kdLn P o ≠ 0 → opLn P o as h = some (v, h') → h' = h ∧ ∀ ρ w (a : Act) (oo : Oper), oo.op = o → RelL ρ as (o.operands.toList.map a.eval) →
  ∃ x, (execOp a.eval oo).run P w = .ok (.value x) w ∧ Rel ρ v x:=by
  intro o as h h' v hk he
  obtain ⟨c, t, l, rfl, hc, ht⟩:=shape hk
  obtain ⟨callee, args, tys⟩:=c
  simp only at hc ht
  subst hc
  simp only [opLn, ht] at he
  split at he <;> try (cases he; done)
  rename_i x t' l' y ht'
  simp only [List.cons.injEq] at ht'
  obtain ⟨rfl, rfl⟩:=ht'
  obtain ⟨rfl, n, rfl, _⟩:=lens he
  refine ⟨rfl, fun ρ w act oo hoo hr => ?_⟩
  obtain ⟨u, hu1, r1⟩:=rel_one (xs:=args.toList.map act.eval) (by simpa [Op.operands, Call.operands] using hr)
  have ht0 : tys[0]? = some t:=by rw [← Array.getElem?_toList, ht]; rfl
  have ha0 : args.map act.eval = #[u]:=by
   apply Array.ext'; simpa using hu1
  refine ⟨.int .i64 n, ?_, .int _ _⟩
  unfold execOp; rw [hoo]
  simp only [resolve, pure_bind, invoke, builtin]
  rw [ha0]
  refine run_v ?_
  unfold lenT at he
  split at he <;> try (cases he; done)
  ·rename_i e hu
   cases r1 <;> try (cases he; done)
   all_goals
    obtain ⟨h1, _⟩:=Prod.mk.inj (Option.some.inj he)
    simp only [V.int.injEq, true_and] at h1
    have h1:=Int.ofNat.inj h1
    subst h1
    unfold Builtin.len_
    simp only [ht0, show ∀ y : Value, (#[y] : Array Value)[0]? = some y from fun _ => rfl, Sem.run_bind, run_underlying hu, Result.andThen_ok]
    rfl
  ·rename_i hu
   cases r1 <;> try (cases he; done)
   obtain ⟨h1, _⟩:=Prod.mk.inj (Option.some.inj he)
   simp only [V.int.injEq, true_and] at h1
   have h1:=Int.ofNat.inj h1
   subst h1
   unfold Builtin.len_
   simp only [ht0, show ∀ y : Value, (#[y] : Array Value)[0]? = some y from fun _ => rfl, Sem.run_bind, run_underlying hu, Result.andThen_ok]
   rw [← Bs.l_len]; rfl
 refine @OpOk.mk P ⟨ng, fn, kdLn P, opLn P, inv, itr⟩ (fun o hk as h h2 => ?_) (fun o as h v h' hk he => ?_) (fun o as h v h' he hn => ?_)
 ·change kdLn P o = 1 at hk
  change opLn P o as h2 = (opLn P o as h).map _
  obtain ⟨c, t, l, rfl, hc, ht⟩:=shape (by rw [hk]; decide)
  simp only [opLn, hc, ht]
  split
  ·rename_i t' l' x ht'
   have key : ∀ d, lenT d x h2 = (lenT d x h).map fun p => (p.1, h2):=by
    intro d
    cases e : lenT d x h with
    | none =>
     cases e2 : lenT d x h2 with
     | none => rfl
     | some p =>
      obtain ⟨v, h'⟩:=p
      obtain ⟨_, n, _, e3⟩:=lens e2
      rw [e3 h] at e; cases e
    | some p =>
     obtain ⟨v, h'⟩:=p
     obtain ⟨_, n, _, e3⟩:=lens e
     rw [e3 h2]; rfl
   exact key _
  ·rfl
 ·have hn : kdLn P o ≠ 0:=by
   rcases hk with hk | hk
   ·change kdLn P o = 1 at hk; rw [hk]; decide
   ·change kdLn P o = 2 at hk; rw [hk]; decide
  obtain ⟨rfl, h1⟩:=one hn he
  exact ⟨rfl, fun ρ w a oo hoo _ hr => h1 ρ w a oo hoo hr⟩
 ·obtain ⟨rfl, h1⟩ := one hn he
  refine ⟨Fr.refl _, fun Z w0 w ρ a oo hoo H hr => ?_⟩
  obtain ⟨x, h2, h3⟩:=h1 ρ w a oo hoo hr
  exact ⟨x, w, ρ, .inl h2, h3, Ext.refl _, H⟩
theorem bops : OpsOk P (kdB2 P) (opB2 P):=aops.or lnops
end
end Go.Mid
end
