/- Operations more: maps whose keys are structs of numbers, entries taken away, maps emptied. -/
import Derived.Test.YteeahoagedfehaaGreatDoorUMidHH
import Derived.WideKeyRuns
set_option linter.all false
set_option warn.classDefReducibility false
noncomputable section
section
open Go.RowKit
namespace Go.Mid
section
inductive Kd where
 | leaf (d : TypeDesc)
 | struct (l : List (Nat × TypeDesc))
def allInts : List V → List V → Bool
 | [], [] => true
 | .int k a :: x, .int k' b :: y => (kEq k k' && iEq a b) && allInts x y
 | _, _ => false
def intsV (a b : V) : Bool :=
 match a, b with
 | .agg x, .agg y => allInts x y
 | _, _ => false
def keyEq (q : Kd) (x y : V) : Option Bool :=
 match q with
 | .leaf d => eqLeaf d x y
 | .struct l => match cmpV l x y with
  | some true => bif intsV x y then some true else none
  | r => r
def kFind (q : Kd) (k : V) : List (V × V) → Nat → Option (Option (Nat × V))
 | [], _ => some none
 | (k', v) :: es, i => match keyEq q k k' with
  | some true => some (some (i, v))
  | some false => kFind q k es (i + 1)
  | none => none
def keyFit (q : Kd) (k : V) : Bool :=
 match q, k with
 | .leaf (.int _), .int _ _ => true
 | .leaf .string, .str _ => true
 | .leaf .bool, .bool _ => true
 | .struct l, .agg xs => (cmpL l xs xs).isSome
 | _, _ => false
def delAt : List (V × V) → Nat → List (V × V)
 | [], _ => []
 | _ :: es, 0 => es
 | e :: es, i + 1 => e :: delAt es i
def putAt : List (V × V) → Nat → V × V → List (V × V)
 | [], _, _ => []
 | _ :: es, 0, e => e :: es
 | x :: es, i + 1, e => x :: putAt es i e
def kLook (h : Hp) (q : Kd) (z : Option V) (ok : Bool) (x k : V) : Option V :=
 bif keyFit q k then (match mapOf h (some x) with
  | some es => (match kFind q k es 0 with
   | some (some (_, v)) => some (bif ok then .tuple [v, .bool true] else v)
   | some none => (match z with
    | some z => some (bif ok then .tuple [z, .bool false] else z)
    | none => none)
   | none => none)
  | none => none) else none
def kSet (q : Kd) (h : Hp) (m k v : V) : Option (V × Hp) :=
 bif keyFit q k then (match m with
  | .map b => (match h.t.get b with
   | some (.map es) => (match kFind q k es 0 with
    | some (some (i, _)) => some (unitV, h.put b (.map (putAt es i (k, v))))
    | some none => some (unitV, h.put b (.map (es ++ [(k, v)])))
    | none => none)
   | _ => none)
  | _ => none) else none
def kDel (q : Kd) (h : Hp) (m k : V) : Option (V × Hp) :=
 bif keyFit q k then (match m with
  | .nilMap => some (unitV, h)
  | .map b => (match h.t.get b with
   | some (.map es) => (match kFind q k es 0 with
    | some (some (i, _)) => some (unitV, h.put b (.map (delAt es i)))
    | some none => some (unitV, h)
    | none => none)
   | _ => none)
  | _ => none) else none
def kClear (h : Hp) (m : V) : Option (V × Hp) :=
 match m with
 | .nilMap => some (unitV, h)
 | .map b => (match h.t.get b with
  | some (.map _) => some (unitV, h.put b (.map []))
  | _ => none)
 | _ => none
def kZero (h : Hp) (s : Nat) (z : Option V) (x : V) : Option (V × Hp) :=
 match x with
 | .nilSlice => some (unitV, h)
 | .slice b o n _ _ => bif Nat.beq n 0 then some (unitV, h) else (match z with
  | some z => (match h.t.get b with
   | some (.cells c w g e) => bif Nat.beq (vcells z).length s && (allOne (mulz (vcells z) n) && Nat.ble (o + n * s) w) then some (unitV, h.put b (.cells (c.setL o (mulz (vcells z) n)) w g e)) else none
   | _ => none)
  | none => none)
 | _ => none
section
variable (P : Program)
def kdOf (key : TypeId) : Option Kd :=
 match P.underlying key with
 | some (.struct fs) => bif P.stoodInHeld key then none else (match leafL P fs.toList with
  | some l => some (.struct l)
  | none => none)
 | some d => bif leafD d then some (.leaf d) else none
 | none => none
def isMapT (t : TypeId) : Bool := match P.underlying t with
 | some (.map _ _) => true
 | _ => false
def kdClr (t : TypeId) : Nat := match P.underlying t with
 | some (.map _ _) => 3
 | some (.slice _) => 3
 | _ => 0
def doClr (h : Hp) (t : TypeId) (x : V) : Option (V × Hp) := match P.underlying t with
 | some (.map _ _) => kClear h x
 | some (.slice e) => (match sz P e with
  | some s => kZero h s (zero P e) x
  | none => none)
 | _ => none
def wideT (t : TypeId) : Bool := match P.underlying t with
 | some (.map k _) => (match P.underlying k with
  | some (.struct _) => true
  | _ => false)
 | _ => false
def kdQQ (o : Op) : Nat :=
 match o with
 | .lookup ty _ _ _ => bif wideT P ty then 2 else 0
 | .mapUpdate ty _ _ _ => bif wideT P ty then 3 else 0
 | .insert ty _ _ _ => bif isMapT P ty then 3 else 0
 | .call c => (match c.callee with
  | .builtin .delete => 3
  | .builtin .clear => (match c.argTypes.toList with
   | t :: _ => kdClr P t
   | [] => 0)
  | _ => 0)
 | _ => 0
def onKd (ty : TypeId) (f : Kd → TypeId → Option (V × Hp)) : Option (V × Hp) :=
 match P.underlying ty with
 | some (.map k e) => (match kdOf P k with
  | some q => f q e
  | none => none)
 | _ => none
def opQQ (o : Op) (as : List V) (h : Hp) : Option (V × Hp) :=
 match o with
 | .lookup ty _ _ ok => (match as with
  | [x, k] => onKd P ty fun q e => vh h (kLook h q (zero P e) ok x k)
  | _ => none)
 | .mapUpdate ty _ _ _ => (match as with
  | [m, k, v] => onKd P ty fun q _ => kSet q h m k v
  | _ => none)
 | .insert ty _ _ _ => (match as with
  | [m, k, v] => onKd P ty fun q _ => kSet q h m k v
  | _ => none)
 | .call c => (match c.callee with
  | .builtin .delete => (match c.argTypes.toList, as with
   | ty :: _, [m, k] => onKd P ty fun q _ => kDel q h m k
   | _, _ => none)
  | .builtin .clear => (match c.argTypes.toList, as with
   | ty :: _, [m] => doClr P h ty m
   | _, _ => none)
  | _ => none)
 | _ => none
end
variable {P : Program}
theorem allInts_same {ρ : Rho} : ∀ {a b : List V} {xs ys : List Value}, allInts a b = true → RelL ρ a xs → RelL ρ b ys → xs = ys ∧ ∀ n, ((ys.zip xs).all fun (x, y) => Instr.sameBits n x y) = true
 | [], [], xs, ys, _, ha, hb => by
  rw [ha.nil_inv, hb.nil_inv]; exact ⟨rfl, fun _ => rfl⟩
 | u :: a, v :: b, xs, ys, h, ha, hb => by
  obtain ⟨x, xs', rfl, hx, ha'⟩:=ha.cons_inv
  obtain ⟨y, ys', rfl, hy, hb'⟩:=hb.cons_inv
  cases u <;> cases v <;> simp only [allInts, Bool.false_eq_true] at h
  simp only [Bool.and_eq_true] at h
  obtain ⟨⟨h1, h2⟩, h3⟩:=h
  have:=kEq_eq h1; subst this
  rw [iEq_eq] at h2
  have:=eq_of_beq h2; subst this
  cases hx; cases hy
  obtain ⟨rfl, h4⟩:=allInts_same h3 ha' hb'
  exact ⟨rfl, fun n => by simp only [List.zip_cons_cons, List.all_cons, h4 n, Bool.and_true]; cases n <;> simp [Instr.sameBits]⟩
 | [], _ :: _, _, _, h, _, _ => by cases h
 | u :: _, [], _, _, h, _, _ => by cases u <;> cases h
theorem checkFields {ρ : Rho} {em : Bool} {n : Nat} {w : World} : ∀ {fs : List Field} {l : List (Nat × TypeDesc)} {cs : List V} {xs : List Value}, leafL P fs = some l → RelL ρ cs xs → (cmpL l cs cs).isSome = true →
 (forIn fs PUnit.unit fun (f : Field) (_ : PUnit) => (if f.name ≠ "_" then (do
   let x ← part f.type ⟨xs⟩ f.offset
   Instr.checkKey em (n + 1) f.type x
   pure (ForInStep.yield PUnit.unit)) else pure (ForInStep.yield PUnit.unit) : Sem (ForInStep PUnit))).run P w = .ok PUnit.unit w
 | [], l, cs, xs, _, _, _ => by simp
 | f :: fs, l, cs, xs, hl, hc, h => by
  simp only [leafL] at hl
  cases hu : P.underlying f.type with
  | none => rw [hu] at hl; cases hl
  | some d =>
   rw [hu] at hl
   simp only at hl
   cases hb : ((f.name == "_") || !leafD d) with
   | true => rw [hb] at hl; cases hl
   | false =>
    rw [hb] at hl
    simp only [cond_false] at hl
    simp only [Bool.or_eq_false_iff, Bool.not_eq_false'] at hb
    have hname : f.name ≠ "_":=by simpa using hb.1
    cases hl' : leafL P fs with
    | none => rw [hl'] at hl; cases hl
    | some l' =>
     rw [hl'] at hl
     simp only [Option.some.injEq] at hl; subst hl
     simp only [cmpL, getN_eq] at h
     cases hx : cs[f.offset]? with
     | none => rw [hx] at h; cases h
     | some u =>
      rw [hx] at h
      simp only at h
      obtain ⟨x, hx1, hx2⟩:=hc.get hx
      have hp:=run_part hu hb.2 (xs:=⟨xs⟩) (by simpa using hx1) w
      have hk : (Instr.checkKey em (n + 1) f.type x).run P w = .ok () w:=by
       have hb2:=hb.2
       cases d <;> simp only [leafD, Bool.false_eq_true] at hb2 <;> cases hx2 <;> simp [Instr.checkKey, run_underlying hu]
      have hq : eqLeaf d u u = some true ∨ eqLeaf d u u = none ∨ eqLeaf d u u = some false:=by
       cases eqLeaf d u u with
       | none => exact .inr (.inl rfl)
       | some b => cases b <;> simp
      simp only [List.forIn_cons, Sem.run_bind, hname, ne_eq, not_false_eq_true, if_true, Result.andThen_ok, hp, hk, Sem.run_pure]
      refine checkFields hl' hc ?_
      rcases hq with hq | hq | hq
      ·rw [hq] at h; exact h
      ·rw [hq] at h; cases h
      ·exfalso
       cases d <;> cases u <;> simp only [eqLeaf, reduceCtorEq, Option.some.injEq] at hq
       ·simp at hq
       ·rename_i k a
        cases hkk : kEq k k <;> rw [hkk] at hq
        ·cases hq
        ·simp only [cond_true, Option.some.injEq] at hq; rw [iEq_eq] at hq; simp at hq
       ·rw [Bs.eq_eq] at hq; simp at hq
theorem key_check [Orc] {ρ : Rho} {key : TypeId} {q : Kd} (hq : kdOf P key = some q) {k : V} {kx : Value} (hk : Rel ρ k kx) (hf : keyFit q k = true) (em : Bool) (w : World) : (Instr.checkKey em 10000 key kx).run P w = .ok () w:=by
 unfold kdOf at hq
 cases hu : P.underlying key with
 | none => rw [hu] at hq; cases hq
 | some d =>
  rw [hu] at hq
  have leaf : ∀ d', P.underlying key = some d' → q = .leaf d' → (Instr.checkKey em 10000 key kx).run P w = .ok () w:=by
   intro d' hd' e
   subst e
   have : keyOk (some d') k = true:=by
    cases d' <;> simp only [keyFit, Bool.false_eq_true] at hf <;> cases k <;> simp only [keyFit, Bool.false_eq_true] at hf <;> rfl
   exact run_checkKey hk hd' this em w
  cases d
  case struct fs =>
   simp only at hq
   cases hs : P.stoodInHeld key with
   | true => rw [hs] at hq; cases hq
   | false =>
    rw [hs] at hq
    simp only [cond_false] at hq
    cases hl : leafL P fs.toList with
    | none => rw [hl] at hq; cases hq
    | some l =>
     rw [hl] at hq
     simp only [Option.some.injEq] at hq; subst hq
     cases hk <;> simp only [keyFit, Bool.false_eq_true] at hf
     rename_i cs xs h1 h2
     show (Instr.checkKey em (9998 + 1 + 1) key _).run P w = _
     rw [Instr.checkKey]
     simp only [Sem.run_bind, run_underlying hu, Result.andThen_ok]
     rw [← Array.forIn_toList]
     rw [checkFields (n:=9998) hl ⟨h1, h2⟩ hf]
     rfl
  all_goals
   simp only at hq
   first
   | (simp only [leafD, cond_false, reduceCtorEq] at hq; done)
   | (simp only [leafD, cond_true, Option.some.injEq] at hq; exact leaf _ hu hq.symm)
theorem key_equal {ρ : Rho} {key : TypeId} {q : Kd} (hq : kdOf P key = some q) {k k' : V} {x y : Value} (hk : Rel ρ k x) (hk' : Rel ρ k' y) {r : Bool} (h : keyEq q k k' = some r) (w : World) :
 (Op.equal key x y).run P w = .ok r w ∧ (r = true → Instr.sameBits 10000 y x = true):=by
 unfold kdOf at hq
 cases hu : P.underlying key with
 | none => rw [hu] at hq; cases hq
 | some d =>
  rw [hu] at hq
  have leaf : ∀ d', P.underlying key = some d' → q = .leaf d' → (Op.equal key x y).run P w = .ok r w ∧ (r = true → Instr.sameBits 10000 y x = true):=by
   intro d' hd' e
   subst e
   refine ⟨eqLeaf_sim h hk hk' hd' 9999 w, fun hr => ?_⟩
   subst hr
   cases d' <;> cases hk <;> simp only [keyEq, eqLeaf, reduceCtorEq] at h <;> cases hk' <;> simp only [eqLeaf, Option.some.injEq, reduceCtorEq] at h
   ·simp only [beq_iff_eq] at h; subst h; simp [Instr.sameBits]
   ·rename_i a m b n
    cases hkk : kEq a b with
    | false => rw [hkk] at h; cases h
    | true =>
     have:=kEq_eq hkk; subst this
     rw [hkk] at h
     simp only [cond_true, Option.some.injEq] at h
     rw [iEq_eq] at h
     have:=eq_of_beq h; subst this
     simp [Instr.sameBits]
   ·rename_i a b
    have e:=(Bs.eq_iff a b).1 h
    rw [e]; simp only [Instr.sameBits]; rw [beq_toListBytes]; simp
  cases d
  case struct fs =>
   simp only at hq
   cases hs : P.stoodInHeld key with
   | true => rw [hs] at hq; cases hq
   | false =>
    rw [hs] at hq
    simp only [cond_false] at hq
    cases hl : leafL P fs.toList with
    | none => rw [hl] at hq; cases hq
    | some l =>
     rw [hl] at hq
     simp only [Option.some.injEq] at hq; subst hq
     have hc : cmpV l k k' = some r ∧ (r = true → intsV k k' = true):=by
      simp only [keyEq] at h
      cases he : cmpV l k k' with
      | none => rw [he] at h; cases h
      | some b =>
       rw [he] at h
       cases b with
       | false => simp only [Option.some.injEq] at h; subst h; exact ⟨rfl, fun e => by cases e⟩
       | true =>
        simp only at h
        cases hi : intsV k k' with
        | false => rw [hi] at h; cases h
        | true => rw [hi] at h; simp only [cond_true, Option.some.injEq] at h; subst h; exact ⟨rfl, fun _ => rfl⟩
     obtain ⟨hc, hi⟩:=hc
     cases hk <;> simp only [cmpV, reduceCtorEq] at hc
     cases hk' <;> simp only [cmpV, reduceCtorEq] at hc
     rename_i cs xs h1 h2 ds ys h3 h4
     have hf : P.fieldsOf key = fs:=by unfold Program.fieldsOf; rw [hu]
     refine ⟨?_, fun hr => ?_⟩
     ·show (Op.equalIn (9998 + 1 + 1) key _ _).run P w = _
      rw [run_equalIn_struct w (9998 + 1) key _ _ (by rw [hf]; exact hu) hs, hf]
      exact cmpL_sim hl ⟨h1, h2⟩ ⟨h3, h4⟩ hc
     ·have := hi hr
      simp only [intsV] at this
      obtain ⟨e1, e2⟩:=allInts_same this ⟨h1, h2⟩ ⟨h3, h4⟩
      subst e1
      show Instr.sameBits (9999 + 1) _ _ = true
      simp only [Instr.sameBits, beq_self_eq_true, Bool.true_and]
      exact e2 9999
  all_goals
   simp only at hq
   first
   | (simp only [leafD, cond_false, reduceCtorEq] at hq; done)
   | (simp only [leafD, cond_true, Option.some.injEq] at hq; exact leaf _ hu hq.symm)
theorem find_sim {ρ : Rho} {key : TypeId} {q : Kd} (hq : kdOf P key = some q) {k : V} {kx : Value} (hk : Rel ρ k kx) (w : World) : ∀ {es : List (V × V)} {ents : List MapEntry} {r : Option (Nat × V)} (n : Nat), es.length = ents.length →
 (∀ (i : Nat) a b e, es[i]? = some (a, b) → ents[i]? = some e → Rel ρ a e.key ∧ Rel ρ b e.val) → kFind q k es n = some r →
 (r = none ∧ (Instr.findAsking key kx ents n).run P w = .ok none w) ∨
 ∃ i e k' v, r = some (n + i, v) ∧ es[i]? = some (k', v) ∧ ents[i]? = some e ∧ (Instr.findAsking key kx ents n).run P w = .ok (some (n + i, e.val)) w ∧ Instr.sameBits 10000 e.key kx = true
 | [], ents, r, n, hl, _, h => by
  have : ents = []:=List.eq_nil_of_length_eq_zero hl.symm
  subst this
  simp only [kFind, Option.some.injEq] at h
  exact .inl ⟨h.symm, rfl⟩
 | (k', u) :: es, [], r, n, hl, _, h => by simp at hl
 | (k', u) :: es, e :: ents, r, n, hl, hr, h => by
  have hl' : es.length = ents.length:=by simpa using hl
  obtain ⟨h1, h2⟩:=hr 0 k' u e rfl rfl
  have hr' : ∀ (i : Nat) a b e, es[i]? = some (a, b) → ents[i]? = some e → Rel ρ a e.key ∧ Rel ρ b e.val:=fun i a b e x y => hr (i + 1) a b e (by simpa using x) (by simpa using y)
  simp only [kFind] at h
  cases he : keyEq q k k' with
  | none => rw [he] at h; cases h
  | some b =>
   rw [he] at h
   obtain ⟨hrun, hsb⟩:=key_equal hq hk h1 he w
   cases b with
   | true =>
    simp only [Option.some.injEq] at h
    exact .inr ⟨0, e, k', u, h.symm, rfl, rfl, by simp only [Instr.findAsking, Sem.run_bind, hrun, Result.andThen_ok, if_true, Sem.run_pure, Nat.add_zero], hsb rfl⟩
   | false =>
    simp only at h
    have hf : (Instr.findAsking key kx (e :: ents) n).run P w = (Instr.findAsking key kx ents (n + 1)).run P w:=by
     simp only [Instr.findAsking, Sem.run_bind, hrun, Result.andThen_ok, Bool.false_eq_true, if_false]
    rw [hf]
    rcases find_sim hq hk w (n + 1) hl' hr' h with ⟨a, b⟩ | ⟨i, e', k2, v, a, b, c, d, g⟩
    ·exact .inl ⟨a, b⟩
    ·exact .inr ⟨i + 1, e', k2, v, by rw [a]; congr 2; omega, by simpa using b, by simpa using c, by rw [d, show n + 1 + i = n + (i + 1) by omega], g⟩
theorem findNow_leaf {ρ : Rho} {key : TypeId} {d : TypeDesc} (hu : P.underlying key = some d) (hq : kdOf P key = some (.leaf d)) {k : V} {kx : Value} (hk : Rel ρ k kx) (w : World) : ∀ {es : List (V × V)} {ents : List MapEntry} {r : Option (Nat × V)} (n : Nat), es.length = ents.length →
 (∀ (i : Nat) a b e, es[i]? = some (a, b) → ents[i]? = some e → Rel ρ a e.key ∧ Rel ρ b e.val) → kFind (.leaf d) k es n = some r → ∃ f, Instr.findNow d kx ents n = some f ∧ (Instr.findAsking key kx ents n).run P w = .ok f w
 | [], ents, r, n, hl, _, h => by
  have : ents = []:=List.eq_nil_of_length_eq_zero hl.symm
  subst this
  exact ⟨none, rfl, rfl⟩
 | (k', u) :: es, [], r, n, hl, _, h => by simp at hl
 | (k', u) :: es, e :: ents, r, n, hl, hr, h => by
  have hl' : es.length = ents.length:=by simpa using hl
  obtain ⟨h1, h2⟩:=hr 0 k' u e rfl rfl
  have hr' : ∀ (i : Nat) a b e, es[i]? = some (a, b) → ents[i]? = some e → Rel ρ a e.key ∧ Rel ρ b e.val:=fun i a b e x y => hr (i + 1) a b e (by simpa using x) (by simpa using y)
  simp only [kFind] at h
  cases he : keyEq (.leaf d) k k' with
  | none => rw [he] at h; cases h
  | some b =>
   rw [he] at h
   obtain ⟨hrun, hsb⟩:=key_equal hq hk h1 he w
   have hs : Instr.sameNow d kx e.key = some b:=by
    have hkey : ∃ ek, ek = e.key:=⟨_, rfl⟩
    obtain ⟨ek, hek⟩:=hkey
    rw [← hek] at h1 ⊢
    cases d <;> cases hk <;> simp only [keyEq, eqLeaf, reduceCtorEq] at he <;> cases h1 <;> simp only [eqLeaf, Option.some.injEq, reduceCtorEq] at he
    ·subst he; rfl
    ·rename_i a m c x
     cases hkk : kEq a c with
     | false => rw [hkk] at he; cases he
     | true =>
      have:=kEq_eq hkk; subst this
      rw [hkk] at he
      simp only [cond_true, Option.some.injEq] at he
      subst he
      rw [iEq_eq]; simp [Instr.sameNow]
    ·subst he
     simp only [Instr.sameNow]
     rw [beq_toListBytes, ByteArray.toList_eq, ByteArray.toList_eq, Bs.eq_eq]
   cases b with
   | true => exact ⟨some (n, e.val), by simp only [Instr.findNow, hs], by simp only [Instr.findAsking, Sem.run_bind, hrun, Result.andThen_ok, if_true, Sem.run_pure]⟩
   | false =>
    simp only at h
    obtain ⟨f, f1, f2⟩:=findNow_leaf hu hq hk w (n + 1) hl' hr' h
    exact ⟨f, by simp only [Instr.findNow, hs]; exact f1, by simp only [Instr.findAsking, Sem.run_bind, hrun, Result.andThen_ok, Bool.false_eq_true, if_false]; exact f2⟩
theorem findKey_sim {ρ : Rho} {key : TypeId} {q : Kd} (hq : kdOf P key = some q) {k : V} {kx : Value} (hk : Rel ρ k kx) (w : World) {es : List (V × V)} {ents : List MapEntry} {r : Option (Nat × V)} (hl : es.length = ents.length)
 (hr : ∀ (i : Nat) a b e, es[i]? = some (a, b) → ents[i]? = some e → Rel ρ a e.key ∧ Rel ρ b e.val) (h : kFind q k es 0 = some r) :
 (r = none ∧ (Instr.findKey key kx ents).run P w = .ok none w) ∨
 ∃ i e k' v, r = some (i, v) ∧ es[i]? = some (k', v) ∧ ents[i]? = some e ∧ (Instr.findKey key kx ents).run P w = .ok (some (i, e.val)) w ∧ Instr.sameBits 10000 e.key kx = true:=by
 have hrun : (Instr.findKey key kx ents).run P w = (Instr.findAsking key kx ents).run P w:=by
  have hq':=hq
  unfold kdOf at hq'
  cases hu : P.underlying key with
  | none => rw [hu] at hq'; cases hq'
  | some d =>
   rw [hu] at hq'
   cases d
   case struct fs => exact run_findKey_eq w (by rw [hu]) kx ents
   all_goals
    simp only at hq'
    first
    | (simp only [leafD, cond_false, reduceCtorEq] at hq'; done)
    | (simp only [leafD, cond_true, Option.some.injEq] at hq'
       subst hq'
       obtain ⟨f, f1, f2⟩:=findNow_leaf hu hq hk w 0 hl hr h
       rw [f2]
       simp only [Instr.findKey, Sem.run_bind, run_underlying hu, Result.andThen_ok, f1, Sem.run_pure])
 rw [hrun]
 rcases find_sim hq hk w 0 hl hr h with h | ⟨i, e, k', v, a, b, c, d, g⟩
 ·exact .inl h
 ·exact .inr ⟨i, e, k', v, by simpa using a, b, c, by simpa using d, g⟩
end
section
variable {P : Program}
theorem delAt_get : ∀ (es : List (V × V)) (i j : Nat), (delAt es i)[j]? = if j < i then es[j]? else es[j + 1]?
 | [], i, j => by simp [delAt]
 | e :: es, 0, j => by simp [delAt]
 | e :: es, i + 1, 0 => by simp [delAt]
 | e :: es, i + 1, j + 1 => by
  simp only [delAt, List.getElem?_cons_succ, delAt_get es i j]
  by_cases h : j < i
  ·rw [if_pos h, if_pos (by omega)]
  ·rw [if_neg h, if_neg (by omega)]
theorem delAt_len : ∀ (es : List (V × V)) (i : Nat), i < es.length → (delAt es i).length = es.length - 1
 | [], i, h => by simp at h
 | e :: es, 0, h => by simp [delAt]
 | e :: es, i + 1, h => by
  have h' : i < es.length:=by simpa using h
  simp only [delAt, List.length_cons, delAt_len es i h']; omega
theorem putAt_set : ∀ (es : List (V × V)) (i : Nat) (e : V × V), putAt es i e = es.set i e
 | [], i, e => by cases i <;> rfl
 | x :: es, 0, e => rfl
 | x :: es, i + 1, e => by simp only [putAt, List.set_cons_succ, putAt_set es i e]
variable [Orc] [Z : Res]
theorem onKd_some {ty : TypeId} {f : Kd → TypeId → Option (V × Hp)} {p : V × Hp} (h : onKd P ty f = some p) : ∃ key elem q, P.underlying ty = some (.map key elem) ∧ kdOf P key = some q ∧ f q elem = some p:=by
 unfold onKd at h
 split at h <;> try (cases h; done)
 rename_i k e hu
 split at h <;> try (cases h; done)
 rename_i q hq
 exact ⟨k, e, q, hu, hq, h⟩
theorem kLook_sim {w : World} {h : Hp} {ρ : Rho} (H : Live P ρ w h) {ty key elem : TypeId} {q : Kd} (hu : P.underlying ty = some (.map key elem)) (hq : kdOf P key = some q) {ok : Bool} {x k v : V} {xx kx : Value} (hx : Rel ρ x xx) (hk : Rel ρ k kx)
 (he : kLook h q (zero P elem) ok x k = some v) : ∃ r, (Instr.lookup ty xx kx ok).run P w = .ok r w ∧ Rel ρ v r:=by
 unfold kLook at he
 cases hf : keyFit q k with
 | false => rw [hf] at he; cases he
 | true =>
  rw [hf] at he
  simp only [cond_true] at he
  cases hm : mapOf h (some x) with
  | none => rw [hm] at he; cases he
  | some es =>
   rw [hm] at he
   simp only at he
   have hmap : ∃ ents : List MapEntry, ((xx = .map none ∧ ents = []) ∨ ∃ r clock, xx = .map (some r) ∧ w.heap[r]? = some (.map ⟨ents⟩ clock)) ∧ es.length = ents.length ∧
    ∀ (i : Nat) a b e, es[i]? = some (a, b) → ents[i]? = some e → Rel ρ a e.key ∧ Rel ρ b e.val:=by
    cases hx <;> simp only [mapOf, reduceCtorEq, Option.some.injEq] at hm
    ·rename_i b l hb
     cases hg : h.t.get b with
     | none => simp [hg] at hm
     | some ob =>
      cases ob <;> simp only [hg, reduceCtorEq, Option.some.injEq] at hm
      subst hm
      obtain ⟨ents, clock, M⟩:=H b l _ hb hg
      exact ⟨ents, .inr ⟨_, clock, rfl, M.at_⟩, M.len, M.get⟩
    ·subst hm
     exact ⟨[], .inl ⟨rfl, rfl⟩, rfl, fun i a b e h => by simp at h⟩
   obtain ⟨ents, e1, e2, e3⟩:=hmap
   cases hkf : kFind q k es 0 with
   | none => rw [hkf] at he; cases he
   | some r =>
    rw [hkf] at he
    have hck:=fun em => key_check hq hk hf em w
    have start : ∀ (f : Option (Nat × Value)) (x' : Value), (Instr.findKey key kx ents).run P w = .ok f w →
     ((match f with | some (_, v) => pure (v, true) | none => do pure (← zeroValue elem, false) : Sem (Value × Bool)).run P w = .ok (x', f.isSome) w) →
     (Instr.lookup ty xx kx ok).run P w = .ok (if ok then .tuple #[x', .bool f.isSome] else x') w:=by
     intro f x' hfk hz
     have fin : ∀ b, (do
      Instr.checkKey b 10000 key kx
      match ← Instr.findKey key kx ents with
       | some (_, v) => pure (if ok = true then Value.tuple #[v, Value.bool true] else v)
       | none => do
        let z ← zeroValue elem
        pure (if ok = true then Value.tuple #[z, Value.bool false] else z) : Sem Value).run P w = .ok (if ok then .tuple #[x', .bool f.isSome] else x') w:=by
      intro b
      simp only [Sem.run_bind, hck, Result.andThen_ok, hfk]
      have hz':=hz
      cases f with
      | none =>
       simp only [Sem.run_bind] at hz' ⊢
       cases hzz : (zeroValue elem).run P w with
       | halt q w' => rw [hzz] at hz'; cases hz'
       | ok z w' =>
        rw [hzz] at hz'
        simp only [Result.andThen_ok, Sem.run_pure, Result.ok.injEq, Prod.mk.injEq] at hz' ⊢
        obtain ⟨⟨rfl, _⟩, rfl⟩:=hz'
        exact ⟨rfl, rfl⟩
      | some p =>
       obtain ⟨i, v⟩:=p
       simp only [Sem.run_pure, Result.ok.injEq, Prod.mk.injEq] at hz'
       obtain ⟨⟨rfl, _⟩, _⟩:=hz'
       rfl
     unfold Instr.lookup
     simp only [Sem.run_bind, run_underlying hu, Result.andThen_ok]
     rcases e1 with ⟨e1, rfl⟩ | ⟨r', clock, e1, e1'⟩
     ·rw [e1]
      simp only [pure_bind]
      exact fin _
     ·rw [e1]
      simp only [Sem.run_bind, MapKept.run_getObj_map e1', Result.andThen_ok]
      simp only [← Sem.run_bind, pure_bind]
      exact fin _
    rcases findKey_sim hq hk w e2 e3 hkf with ⟨rfl, hfr⟩ | ⟨i, e, k', u, rfl, g1, g2, hfr, _⟩
    ·simp only at he
     cases hz : zero P elem with
     | none => simp [hz] at he
     | some z =>
      simp only [hz, Option.some.injEq] at he
      subst he
      obtain ⟨ie, zx, hi, hzx, hrz⟩:=info_of_zero (ρ:=ρ) hz
      refine ⟨_, start none zx hfr (by simp [run_zero hi hzx]), ?_⟩
      cases ok
      ·exact hrz
      ·exact .tuple (xs := [zx, .bool false]) rfl (RelL.cons hrz (RelL.cons (.bool _) (RelL.nil ρ))).2
    ·simp only [Option.some.injEq] at he
     subst he
     have hru:=(e3 i k' u e g1 g2).2
     refine ⟨_, start _ e.val hfr rfl, ?_⟩
     cases ok
     ·exact hru
     ·exact .tuple (xs := [e.val, .bool true]) rfl (RelL.cons hru (RelL.cons (.bool _) (RelL.nil ρ))).2
theorem map_get {w0 w : World} {h : Hp} {ρ : Rho} (H : R P w0 w h ρ) {b : Nat} {l : Lc} (hb : ρ b = some l) {es : List (V × V)} (hg : h.t.get b = some (.map es)) : ∃ ents clock, MapR ρ w l es ents clock:=H.live b l _ hb hg
theorem map_put {w0 w : World} {h : Hp} {ρ : Rho} (H : R P w0 w h ρ) {b : Nat} {l : Lc} (hb : ρ b = some l) {es : List (V × V)} (hg : h.t.get b = some (.map es)) {ents : List MapEntry} {clock : Nat} (M : MapR ρ w l es ents clock)
 {es' : List (V × V)} {ents' : List MapEntry} (clock' : Nat) (hl : es'.length = ents'.length) (hr : ∀ (i : Nat) k v e, es'[i]? = some (k, v) → ents'[i]? = some e → Rel ρ k e.key ∧ Rel ρ v e.val) :
 (setObj l.blk (.map ⟨ents'⟩ clock')).run P w = .ok () { w with heap:=w.heap.setIfInBounds l.blk (.map ⟨ents'⟩ clock') } ∧ R P w0 { w with heap:=w.heap.setIfInBounds l.blk (.map ⟨ents'⟩ clock') } (h.put b (.map es')) ρ:=by
 have hlt : l.blk < w.heap.size:=H.lt hb ⟨_, hg, by simp⟩
 have hupd : ∀ O : Obj, Upd w { w with heap:=w.heap.setIfInBounds l.blk O } l.blk O:=fun O => ⟨rfl, rfl, rfl, by simp, fun j hj => by simp [Ne.symm hj], by simp [hlt]⟩
 exact ⟨MapKept.run_setObj_map _ M.at_, H.upd (O:=.map ⟨ents'⟩ clock') hb ⟨_, hg, by simp⟩ (Hp.not_still hg (by simp)) (.map es') trivial (hupd _) ⟨_, _, (hupd _).at_, hl, hr⟩⟩
theorem lt_of_get {α : Type} {l : List α} {i : Nat} {x : α} (h : l[i]? = some x) : i < l.length:=(List.getElem?_eq_some_iff.1 h).1
theorem kSet_sim {w0 w : World} {h h' : Hp} {ρ : Rho} (H : R P w0 w h ρ) {ty key elem : TypeId} {q : Kd} (hu : P.underlying ty = some (.map key elem)) (hq : kdOf P key = some q) {m k x v : V} {mx kx xx : Value} (hm : Rel ρ m mx) (hk : Rel ρ k kx) (hx : Rel ρ x xx)
 (he : kSet q h m k x = some (v, h')) : v = unitV ∧ ∃ w', (Instr.mapUpdate ty mx kx xx).run P w = .ok () w' ∧ R P w0 w' h' ρ:=by
 unfold kSet at he
 cases hf : keyFit q k with
 | false => rw [hf] at he; cases he
 | true =>
  rw [hf] at he
  simp only [cond_true] at he
  cases hm <;> simp only [reduceCtorEq] at he
  rename_i b l hb
  cases hg : h.t.get b with
  | none => rw [hg] at he; cases he
  | some ob =>
   cases ob <;> simp only [hg, reduceCtorEq] at he
   rename_i es
   cases hkf : kFind q k es 0 with
   | none => rw [hkf] at he; cases he
   | some r =>
    rw [hkf] at he
    obtain ⟨ents, clock, M⟩:=map_get H hb hg
    have hck:=key_check hq hk hf false w
    rcases findKey_sim hq hk w M.len M.get hkf with ⟨rfl, hfr⟩ | ⟨i, e, k', u, rfl, g1, g2, hfr, hsb⟩
    ·simp only [Option.some.injEq, Prod.mk.injEq] at he
     obtain ⟨rfl, rfl⟩:=he
     obtain ⟨s1, s2⟩ := map_put H hb hg M (es' := es ++ [(k, x)]) (ents' := ents ++ [{ key := kx, val := xx, born := clock }]) (clock + 1) (by simp [M.len]) (fun j k' v' e' h1 h2 => by
      rcases Nat.lt_or_ge j es.length with hj | hj
      ·rw [List.getElem?_append_left hj] at h1
       rw [List.getElem?_append_left (by rw [← M.len]; exact hj)] at h2
       exact M.get j k' v' e' h1 h2
      ·rw [List.getElem?_append_right hj] at h1
       rw [List.getElem?_append_right (by rw [← M.len]; exact hj)] at h2
       rw [← M.len] at h2
       cases hj0 : j - es.length with
       | zero =>
        rw [hj0] at h1 h2
        simp only [List.getElem?_cons_zero, Option.some.injEq, Prod.mk.injEq] at h1 h2
        obtain ⟨rfl, rfl⟩:=h1
        subst h2
        exact ⟨hk, hx⟩
       | succ q => rw [hj0] at h1; simp at h1)
     refine ⟨rfl, _, ?_, s2⟩
     simp only [Instr.mapUpdate, Sem.run_bind, run_underlying hu, Result.andThen_ok, MapKept.run_getObj_map M.at_, hck, hfr]
     simpa using s1
    ·simp only [Option.some.injEq, Prod.mk.injEq] at he
     obtain ⟨rfl, rfl⟩:=he
     obtain ⟨s1, s2⟩ := map_put H hb hg M (es' := putAt es i (k, x)) (ents' := ents.set i { e with key := kx, val := xx }) clock (by rw [putAt_set]; simp [M.len]) (fun j k' v' e' h1 h2 => by
      rw [putAt_set] at h1
      rw [List.getElem?_set] at h1 h2
      by_cases hij : i = j
      ·subst hij
       rw [if_pos rfl] at h1 h2
       split at h1
       ·split at h2
        ·simp only [Option.some.injEq, Prod.mk.injEq] at h1 h2
         obtain ⟨rfl, rfl⟩:=h1
         subst h2
         exact ⟨hk, hx⟩
        ·cases h2
       ·cases h1
      ·rw [if_neg hij] at h1 h2
       exact M.get j k' v' e' h1 h2)
     refine ⟨rfl, _, ?_, s2⟩
     simp only [Instr.mapUpdate, Sem.run_bind, run_underlying hu, Result.andThen_ok, MapKept.run_getObj_map M.at_, hck, hfr]
     have hei' : (⟨ents⟩ : Array MapEntry)[i]? = some e:=by simpa using g2
     simp only [hei', Option.map_some, Option.getD_some, Instr.keyThatStays, hsb, if_true, Sem.run_pure, Result.andThen_ok]
     have emod : (⟨ents⟩ : Array MapEntry).modify i (fun e => { e with key := kx, val := xx }) = ⟨ents.set i { e with key := kx, val := xx }⟩ := by
      apply Array.ext'
      apply List.ext_getElem?
      intro j
      simp only [Array.toList_modify, List.getElem?_modify, List.getElem?_set]
      by_cases hij : i = j
      ·subst hij
       rw [g2]
       simp [lt_of_get g2]
      ·simp [hij]
     rw [emod]; exact s1
theorem kDel_sim {w0 w : World} {h h' : Hp} {ρ : Rho} (H : R P w0 w h ρ) {ty key elem : TypeId} {q : Kd} (hu : P.underlying ty = some (.map key elem)) (hq : kdOf P key = some q) {m k v : V} {mx kx : Value} (hm : Rel ρ m mx) (hk : Rel ρ k kx)
 (he : kDel q h m k = some (v, h')) (tys : Array TypeId) (ht : tys[0]? = some ty) (rt : TypeId) : v = unitV ∧ ∃ w', (Builtin.delete_ tys rt #[mx, kx]).run P w = .ok (.tuple #[]) w' ∧ R P w0 w' h' ρ:=by
 unfold kDel at he
 cases hf : keyFit q k with
 | false => rw [hf] at he; cases he
 | true =>
  rw [hf] at he
  simp only [cond_true] at he
  cases hm <;> simp only [reduceCtorEq] at he
  ·rename_i b l hb
   cases hg : h.t.get b with
   | none => rw [hg] at he; cases he
   | some ob =>
    cases ob <;> simp only [hg, reduceCtorEq] at he
    rename_i es
    cases hkf : kFind q k es 0 with
    | none => rw [hkf] at he; cases he
    | some r =>
     rw [hkf] at he
     obtain ⟨ents, clock, M⟩:=map_get H hb hg
     have hck:=fun em => key_check hq hk hf em w
     rcases findKey_sim hq hk w M.len M.get hkf with ⟨rfl, hfr⟩ | ⟨i, e, k', u, rfl, g1, g2, hfr, hsb⟩
     ·simp only [Option.some.injEq, Prod.mk.injEq] at he
      obtain ⟨rfl, rfl⟩:=he
      have hlt : l.blk < w.heap.size:=H.lt hb ⟨_, hg, by simp⟩
      have hsame : w.heap.setIfInBounds l.blk (.map ⟨ents⟩ clock) = w.heap:=by
       apply Array.ext (by simp)
       intro j h1 h2
       rw [Array.getElem_setIfInBounds]
       split
       ·rename_i hj
        subst hj
        have:=M.at_
        rw [Array.getElem?_eq_getElem h2] at this
        exact (Option.some.inj this).symm
       ·rfl
      refine ⟨rfl, w, ?_, H⟩
      unfold Builtin.delete_
      simp only [ht, show (#[Value.map (some l.blk), kx] : Array Value)[0]? = some (.map (some l.blk)) from rfl, show (#[Value.map (some l.blk), kx] : Array Value)[1]? = some kx from rfl, Sem.run_bind, run_underlying hu, Result.andThen_ok, MapKept.run_getObj_map M.at_, hck, hfr,
       MapKept.run_setObj_map _ M.at_, Sem.run_pure]
      rw [hsame]
     ·simp only [Option.some.injEq, Prod.mk.injEq] at he
      obtain ⟨rfl, rfl⟩:=he
      have hi : i < ents.length:=lt_of_get g2
      obtain ⟨s1, s2⟩ := map_put H hb hg M (es' := delAt es i) (ents' := ents.eraseIdx i) clock (by rw [delAt_len _ _ (by rw [M.len]; exact hi), List.length_eraseIdx_of_lt hi, M.len]) (fun j k' v' e' h1 h2 => by
       rw [delAt_get] at h1
       rw [List.getElem?_eraseIdx] at h2
       by_cases hj : j < i
       ·rw [if_pos hj] at h1 h2; exact M.get _ _ _ _ h1 h2
       ·rw [if_neg hj] at h1 h2; exact M.get _ _ _ _ h1 h2)
      refine ⟨rfl, _, ?_, s2⟩
      unfold Builtin.delete_
      have hera : (⟨ents⟩ : Array MapEntry).eraseIdxIfInBounds i = ⟨ents.eraseIdx i⟩:=by
       unfold Array.eraseIdxIfInBounds
       rw [dif_pos (by simpa using hi)]
       apply Array.ext'
       simp
      simp only [ht, show (#[Value.map (some l.blk), kx] : Array Value)[0]? = some (.map (some l.blk)) from rfl, show (#[Value.map (some l.blk), kx] : Array Value)[1]? = some kx from rfl, Sem.run_bind, run_underlying hu, Result.andThen_ok, MapKept.run_getObj_map M.at_, hck, hfr, hera, s1, Sem.run_pure]
  ·simp only [Option.some.injEq, Prod.mk.injEq] at he
   obtain ⟨rfl, rfl⟩:=he
   refine ⟨rfl, w, ?_, H⟩
   unfold Builtin.delete_
   simp only [ht, show (#[Value.map none, kx] : Array Value)[0]? = some (.map none) from rfl, show (#[Value.map none, kx] : Array Value)[1]? = some kx from rfl, Sem.run_bind, run_underlying hu, Result.andThen_ok, key_check hq hk hf true w, Sem.run_pure]
theorem kClear_sim {w0 w : World} {h h' : Hp} {ρ : Rho} (H : R P w0 w h ρ) {ty : TypeId} (hu : isMapT P ty = true) {m v : V} {mx : Value} (hm : Rel ρ m mx) (he : kClear h m = some (v, h')) (tys : Array TypeId) (ht : tys[0]? = some ty) (rt : TypeId) :
 v = unitV ∧ ∃ w', (Builtin.clear_ tys rt #[mx]).run P w = .ok (.tuple #[]) w' ∧ R P w0 w' h' ρ:=by
 obtain ⟨kt, et, hu⟩ : ∃ kt et, P.underlying ty = some (.map kt et):=by
  unfold isMapT at hu
  split at hu
  ·rename_i kt et heq; exact ⟨kt, et, heq⟩
  ·cases hu
 cases hm <;> simp only [kClear, reduceCtorEq] at he
 ·rename_i b l hb
  cases hg : h.t.get b with
  | none => rw [hg] at he; cases he
  | some ob =>
   cases ob <;> simp only [hg, reduceCtorEq, Option.some.injEq, Prod.mk.injEq] at he
   obtain ⟨rfl, rfl⟩:=he
   obtain ⟨ents, clock, M⟩:=map_get H hb hg
   obtain ⟨s1, s2⟩:=map_put H hb hg M (es':=[]) (ents':=[]) clock rfl (fun j k' v' e' h1 h2 => by simp at h1)
   refine ⟨rfl, _, ?_, s2⟩
   unfold Builtin.clear_
   simp only [ht, show (#[Value.map (some l.blk)] : Array Value)[0]? = some (.map (some l.blk)) from rfl, Sem.run_bind, run_underlying hu, Result.andThen_ok, MapKept.run_getObj_map M.at_, s1, Sem.run_pure]
 ·simp only [Option.some.injEq, Prod.mk.injEq] at he
  obtain ⟨rfl, rfl⟩:=he
  refine ⟨rfl, w, ?_, H⟩
  unfold Builtin.clear_
  simp only [ht, show (#[Value.map none] : Array Value)[0]? = some (.map none) from rfl, Sem.run_bind, run_underlying hu, Result.andThen_ok, Sem.run_pure]
theorem kZero_sim {w0 w : World} {h h' : Hp} {ρ : Rho} (H : R P w0 w h ρ) {ty e : TypeId} {s : Nat} (hu : P.underlying ty = some (.slice e)) (hs : sz P e = some s) {x v : V} {xx : Value} (hx : Rel ρ x xx) (he : kZero h s (zero P e) x = some (v, h')) (tys : Array TypeId) (ht : tys[0]? = some ty) (rt : TypeId) :
 v = unitV ∧ ∃ w', (Builtin.clear_ tys rt #[xx]).run P w = .ok (.tuple #[]) w' ∧ R P w0 w' h' ρ:=by
 have zeroN : ∀ (a : Option Addr) c, (Builtin.clear_ tys rt #[.slice a 0 c]).run P w = .ok (.tuple #[]) w:=by
  intro a c
  unfold Builtin.clear_
  simp only [ht, show ∀ y : Value, (#[y] : Array Value)[0]? = some y from fun _ => rfl, Sem.run_bind, run_underlying hu, Result.andThen_ok]
  cases a <;> rfl
 have go : ∀ {b o n : Nat} {l : Lc} {c : Nat}, ρ b = some l → xx = .slice (some ⟨l.blk, l.base + o, none⟩) n c → (n ≠ 0) → kZero h s (zero P e) (.slice b o n 0 false) = some (v, h') → v = unitV ∧ ∃ w', (Builtin.clear_ tys rt #[xx]).run P w = .ok (.tuple #[]) w' ∧ R P w0 w' h' ρ:=by
  intro b o n l c hb hxx hn he
  simp only [kZero] at he
  cases hn0 : Nat.beq n 0 with
  | true => exact (hn (Nat.eq_of_beq_eq_true hn0)).elim
  | false =>
   rw [hn0] at he
   simp only [cond_false] at he
   cases hz : zero P e with
   | none => rw [hz] at he; cases he
   | some z =>
    rw [hz] at he
    simp only at he
    cases hg : h.t.get b with
    | none => rw [hg] at he; cases he
    | some ob =>
     rw [hg] at he
     cases ob <;> simp only [reduceCtorEq] at he
     rename_i ct wd gr el
     cases hc : (Nat.beq (vcells z).length s && (allOne (mulz (vcells z) n) && Nat.ble (o + n * s) wd)) with
     | false => rw [hc] at he; cases he
     | true =>
      rw [hc] at he
      simp only [cond_true, Option.some.injEq, Prod.mk.injEq] at he
      obtain ⟨rfl, rfl⟩:=he
      simp only [Bool.and_eq_true] at hc
      obtain ⟨c1, c2, c3⟩:=hc
      have c1:=Nat.eq_of_beq_eq_true c1
      have c3:=Nat.le_of_ble_eq_true c3
      obtain ⟨ie, zx, hi, hzx, hrz⟩:=info_of_zero (ρ:=ρ) hz
      have hm:=mulz_rel hrz.cells n
      have hlen : (mulz (vcells z) n).length = n * s:=by
       have h1:=hm.1
       have h2:=hrz.cells.1
       simp only [Array.length_toList, Array.size_map, Array.size_range] at h1 h2
       rw [h1, ← h2, c1]
      obtain ⟨w', h1, h2⟩:=H.write hb hg hm (allOne_mem hm c2) (by rw [hlen]; exact c3)
      refine ⟨rfl, w', ?_, h2⟩
      subst hxx
      unfold Builtin.clear_
      simp only [ht, show ∀ y : Value, (#[y] : Array Value)[0]? = some y from fun _ => rfl, Sem.run_bind, run_underlying hu, Result.andThen_ok]
      cases n with
      | zero => exact (hn rfl).elim
      | succ n =>
       simp only [Sem.run_bind, run_zero hi hzx, Result.andThen_ok, Builtin.zeroCells]
       rw [h1]
       rfl
 cases hx <;> simp only [kZero, reduceCtorEq] at he
 ·rename_i b l o len cap hb
  by_cases hn : len = 0
  ·subst hn
   simp only [Nat.beq_refl, cond_true, Option.some.injEq, Prod.mk.injEq] at he
   obtain ⟨rfl, rfl⟩:=he
   exact ⟨rfl, w, zeroN _ _, H⟩
  ·exact go hb rfl hn he
 ·simp only [Nat.beq_refl, cond_true, Option.some.injEq, Prod.mk.injEq] at he
  obtain ⟨rfl, rfl⟩:=he
  exact ⟨rfl, w, zeroN _ _, H⟩
 ·simp only [Nat.beq_refl, cond_true, Option.some.injEq, Prod.mk.injEq] at he
  obtain ⟨rfl, rfl⟩:=he
  exact ⟨rfl, w, zeroN _ _, H⟩
 ·rename_i b l o len k hb
  by_cases hn : len = 0
  ·subst hn
   simp only [Nat.beq_refl, cond_true, Option.some.injEq, Prod.mk.injEq] at he
   obtain ⟨rfl, rfl⟩:=he
   exact ⟨rfl, w, zeroN _ _, H⟩
  ·exact go hb rfl hn he
 ·simp only [Option.some.injEq, Prod.mk.injEq] at he
  obtain ⟨rfl, rfl⟩:=he
  exact ⟨rfl, w, zeroN _ _, H⟩
theorem doClr_sim {w0 w : World} {h h' : Hp} {ρ : Rho} (H : R P w0 w h ρ) {ty : TypeId} {x v : V} {xx : Value} (hx : Rel ρ x xx) (he : doClr P h ty x = some (v, h')) (tys : Array TypeId) (ht : tys[0]? = some ty) (rt : TypeId) :
 v = unitV ∧ ∃ w', (Builtin.clear_ tys rt #[xx]).run P w = .ok (.tuple #[]) w' ∧ R P w0 w' h' ρ:=by
 unfold doClr at he
 split at he <;> try (cases he; done)
 ·rename_i kt et hu
  exact kClear_sim H (by unfold isMapT; rw [hu]) hx he tys ht rt
 ·rename_i e hu
  split at he <;> try (cases he; done)
  rename_i s hs
  exact kZero_sim H hu hs hx he tys ht rt
end
end Go.Mid
end
