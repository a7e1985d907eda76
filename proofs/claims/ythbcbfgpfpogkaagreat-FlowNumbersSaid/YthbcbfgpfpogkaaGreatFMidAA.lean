import Derived.Test.YthbcbfgpfpogkaaGreatFMidR
set_option linter.all false
set_option warn.classDefReducibility false
/- Calls whose arguments are plain values, reckoned from an empty heap: known answers for larger runs. -/
section
namespace Go.Mid
open Go.RowKit
variable {P : Program}

/-- a value that points nowhere. -/
def plain : V → Bool
  | .bool _ | .int _ _ | .str _ | .nilPtr | .nilSlice | .nilMap | .nilFunc | .nilIface => true
  | _ => false
theorem Rel.plain {ρ ρ' : Rho} {v : V} {x : Value} (hp : plain v = true) (h : Rel ρ v x) : Rel ρ' v x := by
  cases h <;> first | (cases hp; done) | constructor
theorem RelL.plain {ρ ρ' : Rho} {vs : List V} {xs : List Value} (hp : vs.all Mid.plain = true) (h : RelL ρ vs xs) : RelL ρ' vs xs :=
  ⟨h.1, fun i v x h1 h2 => (h.2 i v x h1 h2).plain (List.all_eq_true.1 hp v (List.mem_of_getElem? h1))⟩
/-- where a call with plain arguments begins: the package variables alone. -/
def Begins (P : Program) [Orc] (h0 : Hp) (w : World) : Prop := ∃ ρ0, R P w w h0 ρ0
theorem closed_call [Orc] [OrcOk P] (hmix : P.follows .mixedOrders = true) (hN : Named P) {labs : Tr Lab} {f : FuncId} {vs : List V} {v : V} {h0 h' : Hp}
    (hp : vs.all plain = true) (hv : plain v = true) (he : lim P labs (2 * f) vs h0 = some (v, h')) {ρ : Rho} {xs : List Value} (ha : RelL ρ vs xs) {w : World} (H : Begins P h0 w) :
    CallR P f ⟨xs⟩ w fun e w' => ∃ x, e = .returned x ∧ Rel ρ v x ∧ Below w.heap.size w w' := by
  obtain ⟨fuel, hrun⟩ := lim_F.1 he
  obtain ⟨ρ0, H⟩ := H
  refine (call_sim (run_sim hmix hN fuel).1 H (ha.plain (ρ' := ρ0) hp) hrun).mono ?_
  rintro e w' ⟨x, ρ', rfl, h2, _, h3⟩
  exact ⟨x, rfl, h2.plain hv, h3.below⟩
/-- a call's answer is known, in whatever world in which it may begin. -/
def Known (P : Program) (I : World → Prop) (f : FuncId) (vs : List V) (v : V) : Prop := ∀ (ρ : Rho) (xs : List Value), RelL ρ vs xs → ∀ w : World, I w →
  CallR P f ⟨xs⟩ w fun e w' => ∃ x, e = .returned x ∧ Rel ρ v x ∧ Below w.heap.size w w'
theorem known_of [Orc] [OrcOk P] (hmix : P.follows .mixedOrders = true) (hN : Named P) {labs : Tr Lab} {f : FuncId} {vs : List V} {v : V} {h0 h' : Hp} {I : World → Prop} (hI : ∀ w, I w → Begins P h0 w)
    (hp : vs.all plain = true) (hv : plain v = true) (he : lim P labs (2 * f) vs h0 = some (v, h')) : Known P I f vs v :=
  fun _ _ ha w hw => closed_call hmix hN hp hv he ha (hI w hw)
/-- some answers more. -/
@[reducible] def moreOrc (O : Orc) (kn : FuncId → List V → Option V) : Orc := { O with fn := fun f vs h => match kn f vs with
  | some v => some (v, h)
  | none => O.fn f vs h }
theorem R.more {O : Orc} {kn : FuncId → List V → Option V} {Z : Res} {w0 w : World} {h : Hp} {ρ : Rho} : @R O Z P w0 w h ρ ↔ @R (moreOrc O kn) Z P w0 w h ρ :=
  ⟨fun H => @R.mk (moreOrc O kn) Z P w0 w h ρ (@R.below O Z P w0 w h ρ H) (@R.bnd O Z P w0 w h ρ H) (@R.live O Z P w0 w h ρ H) (@R.inj O Z P w0 w h ρ H) (@R.fresh O Z P w0 w h ρ H) (@R.glob O Z P w0 w h ρ H) (@R.base O Z P w0 w h ρ H) (@R.rs O Z P w0 w h ρ H) (@R.pn O Z P w0 w h ρ H),
   fun H => @R.mk O Z P w0 w h ρ (@R.below (moreOrc O kn) Z P w0 w h ρ H) (@R.bnd (moreOrc O kn) Z P w0 w h ρ H) (@R.live (moreOrc O kn) Z P w0 w h ρ H) (@R.inj (moreOrc O kn) Z P w0 w h ρ H) (@R.fresh (moreOrc O kn) Z P w0 w h ρ H) (@R.glob (moreOrc O kn) Z P w0 w h ρ H) (@R.base (moreOrc O kn) Z P w0 w h ρ H) (@R.rs (moreOrc O kn) Z P w0 w h ρ H) (@R.pn (moreOrc O kn) Z P w0 w h ρ H)⟩
theorem known_ok (O : Orc) [OrcOk P] {kn : FuncId → List V → Option V} (hI : ∀ w w', Orc.inv w → Below w.heap.size w w' → Orc.inv w') (hk : ∀ f vs v, kn f vs = some v → Known P Orc.inv f vs v) : @OrcOk P (moreOrc O kn) :=
  letI : Orc := moreOrc O kn
  { pure := @OpOk.pure P O _
    reads := @OpOk.reads P O _
    make := fun o as h v h' e hn => by
      obtain ⟨h1, h2⟩ := @OpOk.make P O _ o as h v h' e hn
      refine ⟨h1, fun Z w0 w ρ a oo ho H ha => ?_⟩
      obtain ⟨x, w', ρ', k1, k2, k3, k4⟩ := h2 Z w0 w ρ a oo ho (R.more.2 H) ha
      exact ⟨x, w', ρ', k1, k2, k3, R.more.1 k4⟩
    itr := @OrcOk.itr P O _
    fr := fun f vs h v h' e => by
      change (match kn f vs with | some v => some (v, h) | none => O.fn f vs h) = some (v, h') at e
      split at e
      · simp only [Option.some.injEq, Prod.mk.injEq] at e; obtain ⟨_, rfl⟩ := e; exact Fr.refl _
      · exact @OrcFr.fr P O _ f vs h v h' e
    sound := fun f vs h v h' e Z w0 w ρ xs H ha => by
      change (match kn f vs with | some v => some (v, h) | none => O.fn f vs h) = some (v, h') at e
      split at e
      · rename_i v1 hv1
        simp only [Option.some.injEq, Prod.mk.injEq] at e
        obtain ⟨rfl, rfl⟩ := e
        refine (hk f vs v1 hv1 ρ xs ha w (hI w0 w H.base H.below)).mono ?_
        rintro e w' ⟨x, rfl, hx, hB⟩
        exact ⟨x, ρ, rfl, hx, Ext.refl _, H.later (h2 := h) (ρ2 := ρ) hB⟩
      · refine (@OrcOk.sound P O _ f vs h v h' e Z w0 w ρ xs (R.more.2 H) ha).mono ?_
        rintro e w' ⟨x, ρ', rfl, hx, hE, HR⟩
        exact ⟨x, ρ', rfl, hx, hE, R.more.1 HR⟩ }
end Go.Mid

end
/- Operations more, taken as from outside: structs and interfaces compared, bits turned, bytes as a string, capacities, copies, arrays cut. -/
section
namespace Go.Mid
open Go.RowKit

/-! definitions -/
noncomputable def leafD : TypeDesc → Bool
  | .int _ | .string | .bool => true
  | _ => false
noncomputable def eqLeaf (d : TypeDesc) (x y : V) : Option Bool :=
  match d, x, y with
  | .int _, .int k a, .int k' b => bif kEq k k' then some (iEq a b) else none
  | .string, .str a, .str b => some (a.eq b)
  | .bool, .bool a, .bool b => some (a == b)
  | _, _, _ => none
noncomputable def cmpL : List (Nat × TypeDesc) → List V → List V → Option Bool
  | [], _, _ => some true
  | (i, d) :: l, xs, ys => match getN xs i with
    | none => none
    | some x => match getN ys i with
      | none => none
      | some y => match eqLeaf d x y with
        | some true => cmpL l xs ys
        | some false => some false
        | none => none
noncomputable def cmpV (l : List (Nat × TypeDesc)) (a b : V) : Option Bool :=
  match a, b with
  | .agg xs, .agg ys => cmpL l xs ys
  | _, _ => none
noncomputable def bytesV : List V → Option (List UInt8)
  | [] => some []
  | .int .u8 n :: l => (match bytesV l with
    | some r => some (UInt8.ofNat n.toNat :: r)
    | none => none)
  | _ => none
noncomputable def b2s (h : Hp) (x : V) : Option V :=
  match x with
  | .nilSlice => some (.str (pack []))
  | .slice b o n _ _ => (match cellsT (h.t.get b) with
    | some c => (match c.getL o n with
      | some l => (match bytesV l with
        | some r => some (.str (pack r))
        | none => none)
      | none => none)
    | none => none)
  | _ => none
noncomputable def xorV (x : V) : Option V :=
  match x with
  | .int k n => some (.int k (k.wrap (BitVec.ofInt k.bits (if k.signed then -1 else k.max) ^^^ BitVec.ofInt k.bits n).toNat))
  | _ => none
noncomputable def capV (x : V) : Option V :=
  match x with
  | .nilSlice => some (.int .i64 0)
  | .slice _ _ _ c false => some (.int .i64 (.ofNat c))
  | _ => none
noncomputable def maxV (x y : V) : Option V :=
  match x, y with
  | .int k a, .int k' b => bif kEq k k' then some (.int k (bif iLt a b then b else a)) else none
  | _, _ => none
noncomputable def minV (x y : V) : Option V :=
  match x, y with
  | .int k a, .int k' b => bif kEq k k' then some (.int k (bif iLt b a then b else a)) else none
  | _, _ => none
noncomputable def min3 (x y z : V) : Option V :=
  match minV x y with
  | some m => minV m z
  | none => none
noncomputable def cutA (n s : Nat) (x : V) (l r : Option Nat) : Option V :=
  match x with
  | .ptr b o => (match l with
    | some l => (match r with
      | some r => bif Nat.ble l r && Nat.ble r n then some (.slice b (bif Nat.beq n l then o else o + l * s) (r - l) (n - l) false) else none
      | none => none)
    | none => none)
  | _ => none
noncomputable def cutX (k : Nat) : V → V
  | .slice b o _ c g => .slice b o k c g
  | .str s => .str (s.cut 0 (Nat.min k s.n))
  | v => v
noncomputable def lenX : V → Option Nat
  | .slice _ _ n _ _ => some n
  | .nilSlice => some 0
  | .str s => some s.n
  | _ => none
noncomputable def lenS : V → Option Nat
  | .slice _ _ n _ _ => some n
  | .nilSlice => some 0
  | _ => none
noncomputable def cpTo (h : Hp) (size : Nat) (d : V) : Option (Nat × List V) → Option (V × Hp)
  | none => none
  | some (k, new) => bif Nat.beq k 0 then some (.int .i64 0, h) else (match d with
    | .slice b o _ _ _ => (match h.t.get b with
      | some (.cells c w g e) => bif allOne new && Nat.ble (o + k * size) w then some (.int .i64 (.ofNat k), h.put b (.cells (c.setL o new) w g e)) else none
      | _ => none)
    | _ => none)
noncomputable def cpN (h : Hp) (size : Nat) (d x : V) : Option (V × Hp) :=
  match lenX x with
  | none => none
  | some m => match lenS d with
    | none => none
    | some n => cpTo h size d (newCells h size (cutX (Nat.min m n) x))

noncomputable def isK : Operand → Bool
  | .const _ => true
  | _ => false

section
variable (P : Program)
noncomputable def leafL : List Field → Option (List (Nat × TypeDesc))
  | [] => some []
  | f :: fs => match P.underlying f.type with
    | some d => bif (f.name == "_") || !leafD d then none else (match leafL fs with
      | some l => some ((f.offset, d) :: l)
      | none => none)
    | none => none
/-- two values of one type that may be compared. -/
noncomputable def cmpD (t : TypeId) (x y : V) : Option Bool :=
  match P.info? t with
  | some i => bif i.comparable then (match P.underlying t with
    | some d => bif leafD d then eqLeaf d x y else none
    | none => none) else none
  | none => none
noncomputable def cmpI (c : Bool) (a b : V) : Option Bool :=
  match a, b with
  | .nilIface, .nilIface => bif c then some true else none
  | .nilIface, .iface _ _ => some false
  | .iface _ _, .nilIface => some false
  | .iface t x, .iface t' y => bif Nat.beq t t' then cmpD P t x y else some false
  | _, _ => none
noncomputable def eqX (ty : TypeId) (c : Bool) (a b : V) : Option Bool :=
  match P.underlying ty with
  | some (.struct fs) => bif P.eqGuardType P.depth ty || P.stoodInHeld ty then none else (match leafL P fs.toList with
    | some l => cmpV l a b
    | none => none)
  | some (.interface _) => cmpI P c a b
  | _ => none
noncomputable def kdEq (op : BinOp) (ty : TypeId) : Nat :=
  match op with
  | .eql | .neq => (match P.underlying ty with
    | some (.struct _) => 1
    | some (.interface _) => 1
    | _ => 0)
  | _ => 0
noncomputable def kdB : Builtin → Nat
  | .cap | .max | .min => 1
  | .copy => 3
  | _ => 0
noncomputable def kdP (o : Op) : Nat :=
  match o with
  | .binOp op ty _ _ _ => kdEq P op ty
  | .unOp .xor _ _ => 1
  | .convert s _ _ => (match P.underlying s with
    | some (.slice _) => 2
    | _ => 0)
  | .slice ty _ _ _ none => (match P.underlying ty with
    | some (.array _ _) => 1
    | _ => 0)
  | .call c => (match c.callee with
    | .builtin b => kdB b
    | _ => 0)
  | _ => 0
noncomputable def convX (s d : TypeId) (h : Hp) (x : V) : Option V :=
  match P.underlying s with
  | some (.slice e) => (match P.underlying e with
    | some (.int .u8) => (match P.underlying d with
      | some .string => b2s h x
      | _ => none)
    | _ => none)
  | _ => none
noncomputable def bndX (lo : Bool) (d : Nat) : List V → Option Nat × List V
  | [] => (bif lo then none else some d, [])
  | v :: l => bif lo then (natA (some v), l) else (some d, v :: l)
noncomputable def sliceX (ty : TypeId) (lo hi : Bool) (x : V) (as : List V) : Option V :=
  match P.underlying ty with
  | some (.array n e) => (match sz P e with
    | some s => cutA n s x (bndX lo 0 as).1 (bndX hi n (bndX lo 0 as).2).1
    | none => none)
  | _ => none
noncomputable def builtX (b : Builtin) (tys : List TypeId) (as : List V) (h : Hp) : Option (V × Hp) :=
  match b with
  | .cap => (match tys, as with
    | ty :: _, [x] => (match P.underlying ty with
      | some (.slice _) => vh h (capV x)
      | _ => none)
    | _, _ => none)
  | .max => (match as with
    | [x, y] => vh h (maxV x y)
    | _ => none)
  | .min => (match as with
    | [x, y] => vh h (minV x y)
    | [x, y, z] => vh h (min3 x y z)
    | _ => none)
  | .copy => (match tys, as with
    | ty :: _, [d, x] => (match P.underlying ty with
      | some (.slice e) => (match sz P e with
        | some s => cpN h s d x
        | none => none)
      | _ => none)
    | _, _ => none)
  | _ => none
noncomputable def opP (o : Op) (as : List V) (h : Hp) : Option (V × Hp) :=
  match o with
  | .binOp op ty x y _ => (match as with
    | [a, b] => bif Nat.beq (kdEq P op ty) 1 then vh h (eqOp op (eqX P ty (isK x || isK y) a b)) else none
    | _ => none)
  | .unOp .xor _ _ => (match as with
    | [a] => vh h (xorV a)
    | _ => none)
  | .convert s d _ => (match as with
    | [a] => vh h (convX P s d h a)
    | _ => none)
  | .slice ty _ lo hi none => (match as with
    | x :: as => vh h (sliceX P ty lo.isSome hi.isSome x as)
    | _ => none)
  | .call c => (match c.callee with
    | .builtin b => builtX P b c.argTypes.toList as h
    | _ => none)
  | _ => none
end
end Go.Mid

end
/- The operations of MidBB are the model's. -/
section
namespace Go.Mid
open Go.RowKit
variable {P : Program}

theorem typeInfo_run {t : TypeId} {i : TypeInfo} (h : P.info? t = some i) (w : World) : (typeInfo t).run P w = .ok i w := by
  simp only [typeInfo, Sem.run_bind, run_program, Result.andThen_ok, h, Sem.run_pure]
theorem eqLeaf_sim {ρ : Rho} {d : TypeDesc} {a b : V} {x y : Value} {r : Bool} (h : eqLeaf d a b = some r) (ha : Rel ρ a x) (hb : Rel ρ b y) {t : TypeId} (hu : P.underlying t = some d) (n : Nat) (w : World) :
    (Op.equalIn (n + 1) t x y).run P w = .ok r w := by
  cases d <;> cases ha <;> simp only [eqLeaf, reduceCtorEq] at h <;> cases hb <;> simp only [eqLeaf, Option.some.injEq, reduceCtorEq] at h
  · subst h; exact run_equalIn_bool' w n t _ _ hu
  · rename_i k a k' b
    cases hk : kEq k k' with
    | false => rw [hk] at h; cases h
    | true =>
      have := kEq_eq hk; subst this
      rw [hk] at h
      simp only [cond_true, Option.some.injEq] at h
      subst h
      rw [iEq_eq]
      exact run_equalIn_int w n t _ _ _ _ hu
  · subst h
    rw [Bs.eq_eq]
    rw [run_equalIn_string w n t _ _ hu, ByteArray.toList_eq, ByteArray.toList_eq]
theorem run_part {t : TypeId} {d : TypeDesc} (hu : P.underlying t = some d) (hd : leafD d = true) {xs : Array Value} {i : Nat} {x : Value} (hx : xs[i]? = some x) (w : World) : (part t xs i).run P w = .ok x w := by
  cases d <;> simp only [leafD, Bool.false_eq_true] at hd <;>
    simp only [part, isAgg, Sem.run_bind, run_underlying hu, Result.andThen_ok, Sem.run_pure, Bool.false_eq_true, if_false, hx]
theorem cmpL_sim {ρ : Rho} {n : Nat} {w : World} : ∀ {fs : List Field} {l : List (Nat × TypeDesc)} {cs ds : List V} {xs ys : List Value} {r : Bool}, leafL P fs = some l → RelL ρ cs xs → RelL ρ ds ys → cmpL l cs ds = some r →
    (Op.eqFields (n + 1) ⟨xs⟩ ⟨ys⟩ fs).run P w = .ok r w
  | [], l, cs, ds, xs, ys, r, hl, _, _, h => by
    simp only [leafL, Option.some.injEq] at hl; subst hl
    simp only [cmpL, Option.some.injEq] at h; subst h
    rfl
  | f :: fs, l, cs, ds, xs, ys, r, hl, hc, hd, h => by
    simp only [leafL] at hl
    cases hu : P.underlying f.type with
    | none => rw [hu] at hl; cases hl
    | some d =>
      rw [hu] at hl
      simp only at hl
      cases hb : ((f.name == "_") || !leafD d) with
      | true => rw [hb] at hl; cases hl
      | false =>
        rw [hb] at hl
        simp only [cond_false] at hl
        simp only [Bool.or_eq_false_iff, Bool.not_eq_false'] at hb
        have hname : f.name ≠ "_" := by simpa using hb.1
        cases hl' : leafL P fs with
        | none => rw [hl'] at hl; cases hl
        | some l' =>
          rw [hl'] at hl
          simp only [Option.some.injEq] at hl; subst hl
          simp only [cmpL, getN_eq] at h
          cases hx : cs[f.offset]? with
          | none => rw [hx] at h; cases h
          | some u =>
            cases hy : ds[f.offset]? with
            | none => rw [hx, hy] at h; cases h
            | some v =>
              rw [hx, hy] at h
              simp only at h
              obtain ⟨x, hx1, hx2⟩ := hc.get hx
              obtain ⟨y, hy1, hy2⟩ := hd.get hy
              simp only [Op.eqFields, if_pos hname, Sem.run_bind]
              rw [run_part hu hb.2 (xs := ⟨xs⟩) (by simpa using hx1), Result.andThen_ok, run_part hu hb.2 (xs := ⟨ys⟩) (by simpa using hy1), Result.andThen_ok]
              cases he : eqLeaf d u v with
              | none => rw [he] at h; cases h
              | some q =>
                rw [he] at h
                rw [eqLeaf_sim he hx2 hy2 hu n w, Result.andThen_ok]
                cases q with
                | false =>
                  simp only [Option.some.injEq] at h; subst h
                  rfl
                | true =>
                  simp only at h
                  have := cmpL_sim (ρ := ρ) (n := n) (w := w) hl' hc hd h
                  simpa using this
theorem binEq_run {op : BinOp} {q : Bool} {v : V} {t : TypeId} {x y : Value} {w : World} (h : eqOp op (some q) = some v) (he : (Op.equal t x y).run P w = .ok q w) (hx : (∃ c, x = .agg c) ∨ x = .nilIface ∨ ∃ t z, x = .iface t z) {ρ : Rho} :
    ∃ r, (binOp op t x y).run P w = .ok r w ∧ Rel ρ v r := by
  have e : (op = .eql → (binOp op t x y).run P w = ((Op.equal t x y).run P w).andThen fun b w => .ok (.bool b) w) ∧ (op = .neq → (binOp op t x y).run P w = ((Op.equal t x y).run P w).andThen fun b w => .ok (.bool (!b)) w) := by
    rcases hx with ⟨c, rfl⟩ | rfl | ⟨t', z, rfl⟩
    all_goals exact ⟨fun e => by subst e; cases y <;> simp only [binOp, Sem.run_bind, Sem.run_pure], fun e => by subst e; cases y <;> simp only [binOp, Sem.run_bind, Sem.run_pure]⟩
  cases op <;> simp only [eqOp, Option.some.injEq, reduceCtorEq] at h <;> subst h
  · refine ⟨.bool q, ?_, .bool _⟩
    rw [e.1 rfl, he]; rfl
  · refine ⟨.bool (!q), ?_, .bool _⟩
    rw [e.2 rfl, he]; rfl
theorem eqX_sim {ρ : Rho} {op : BinOp} {ty : TypeId} {a b v : V} {x y : Value} {ox oy : Operand} (h : eqOp op (eqX P ty (isK ox || isK oy) a b) = some v) (ha : Rel ρ a x) (hb : Rel ρ b y) (w : World) :
    ∃ r, (do eqGuard op ty ox oy x y; binOp op ty x y : Sem Value).run P w = .ok r w ∧ Rel ρ v r := by
  have hne : ∃ q, eqX P ty (isK ox || isK oy) a b = some q := by
    cases he : eqX P ty (isK ox || isK oy) a b with
    | none => rw [he] at h; cases op <;> cases h
    | some q => exact ⟨q, rfl⟩
  obtain ⟨q, hq⟩ := hne
  rw [hq] at h
  unfold eqX at hq
  cases hu : P.underlying ty with
  | none => rw [hu] at hq; cases hq
  | some d =>
    rw [hu] at hq
    cases d <;> simp only [reduceCtorEq] at hq
    case interface ms =>
      have plain : ∀ q', (∀ n, (Op.equalIn (n + 1) ty x y).run P w = .ok q' w) → (Op.equal ty x y).run P w = .ok q' w := fun q' e => e 9999
      cases ha <;> simp only [cmpI, reduceCtorEq] at hq <;> cases hb <;> simp only [cmpI, Option.some.injEq, reduceCtorEq] at hq
      · rename_i t1 v1 x1 h1 t2 v2 x2 h2
        cases ht : Nat.beq t1 t2 with
        | true =>
          rw [ht] at hq
          have := Nat.eq_of_beq_eq_true ht; subst this
          simp only [cond_true, cmpD] at hq
          cases hi : P.info? t1 with
          | none => rw [hi] at hq; cases hq
          | some i =>
            rw [hi] at hq
            simp only at hq
            cases hcm : i.comparable with
            | false => rw [hcm] at hq; cases hq
            | true =>
              rw [hcm] at hq
              simp only [cond_true] at hq
              cases hd : P.underlying t1 with
              | none => rw [hd] at hq; cases hq
              | some d =>
                rw [hd] at hq
                simp only at hq
                cases hlf : leafD d with
                | false => rw [hlf] at hq; cases hq
                | true =>
                  rw [hlf] at hq
                  simp only [cond_true] at hq
                  rw [Sem.run_bind, run_guard ty ox oy _ _ w (by simp) (by simp), Result.andThen_ok]
                  refine binEq_run h ?_ (.inr (.inr ⟨_, _, rfl⟩))
                  show (Op.equalIn (9998 + 1 + 1) ty _ _).run P w = _
                  rw [Op.equalIn]
                  simp only [Sem.run_bind, run_underlying hu, Result.andThen_ok, ne_eq, not_true_eq_false, if_false, typeInfo_run hi w, hcm, Bool.not_true, Bool.false_eq_true]
                  exact eqLeaf_sim hq h1 h2 hd 9998 w
        | false =>
          rw [ht] at hq
          simp only [cond_false, Option.some.injEq] at hq; subst hq
          have hne : t1 ≠ t2 := fun e => by subst e; simp at ht
          rw [Sem.run_bind, run_guard ty ox oy _ _ w (by simp) (by simp), Result.andThen_ok]
          exact binEq_run h (plain false fun n => by simp only [Op.equalIn, Sem.run_bind, run_underlying hu, Result.andThen_ok, if_pos hne, Sem.run_pure]) (.inr (.inr ⟨_, _, rfl⟩))
      · subst hq
        rw [Sem.run_bind, run_guard ty ox oy _ _ w (by simp) (by simp), Result.andThen_ok]
        exact binEq_run h (plain false fun n => by simp only [Op.equalIn, Sem.run_bind, run_underlying hu, Result.andThen_ok, Sem.run_pure]) (.inr (.inr ⟨_, _, rfl⟩))
      · subst hq
        rw [Sem.run_bind, run_guard ty ox oy _ _ w (by simp) (by simp), Result.andThen_ok]
        exact binEq_run h (plain false fun n => by simp only [Op.equalIn, Sem.run_bind, run_underlying hu, Result.andThen_ok, Sem.run_pure]) (.inr (.inl rfl))
      · cases hk : (isK ox || isK oy) with
        | false => rw [hk] at hq; cases hq
        | true =>
          rw [hk] at hq
          simp only [cond_true, Option.some.injEq] at hq; subst hq
          have hg : (eqGuard op ty ox oy .nilIface .nilIface).run P w = .ok () w := by
            unfold eqGuard
            cases op <;> cases ox <;> cases oy <;> first | rfl | (simp [isK] at hk; done)
          rw [Sem.run_bind, hg, Result.andThen_ok]
          exact binEq_run h (plain true fun n => by simp only [Op.equalIn, Sem.run_bind, run_underlying hu, Result.andThen_ok, Sem.run_pure]) (.inr (.inl rfl))
    case struct fs =>
      cases hg : (P.eqGuardType P.depth ty || P.stoodInHeld ty) with
      | true => rw [hg] at hq; cases hq
      | false =>
        rw [hg] at hq
        simp only [cond_false] at hq
        simp only [Bool.or_eq_false_iff] at hg
        cases hl : leafL P fs.toList with
        | none => rw [hl] at hq; cases hq
        | some l =>
          rw [hl] at hq
          simp only at hq
          cases ha <;> simp only [cmpV, reduceCtorEq] at hq
          cases hb <;> simp only [cmpV, reduceCtorEq] at hq
          rename_i cs xs h1 h2 ds ys h3 h4
          rw [Sem.run_bind, run_eqGuard_agg w op ty ox oy _ _ hg.1, Result.andThen_ok]
          have hf : P.fieldsOf ty = fs := by unfold Program.fieldsOf; rw [hu]
          refine binEq_run h ?_ (.inl ⟨_, rfl⟩)
          show (Op.equalIn (9998 + 1 + 1) ty _ _).run P w = _
          rw [run_equalIn_struct w (9998 + 1) ty _ _ (by rw [hf]; exact hu) hg.2, hf]
          exact cmpL_sim hl ⟨h1, h2⟩ ⟨h3, h4⟩ hq
theorem xorV_sim {ρ : Rho} {a v : V} {x : Value} (h : xorV a = some v) (ha : Rel ρ a x) (w : World) : ∃ r, (Op.unary .xor x).run P w = .ok r w ∧ Rel ρ v r := by
  cases ha <;> simp only [xorV, Option.some.injEq, reduceCtorEq] at h
  subst h
  exact ⟨_, rfl, .int _ _⟩
theorem capV_sim {ρ : Rho} {a v : V} {x : Value} (h : capV a = some v) (ha : Rel ρ a x) {ty e : TypeId} (hu : P.underlying ty = some (.slice e)) {tys : Array TypeId} (ht : tys[0]? = some ty) {xs : Array Value} (hx : xs[0]? = some x) (rt : TypeId) (w : World) :
    ∃ r, (Builtin.cap_ tys rt xs).run P w = .ok r w ∧ Rel ρ v r := by
  unfold Builtin.cap_
  cases ha <;> simp only [capV, Option.some.injEq, reduceCtorEq] at h <;> subst h <;>
    (simp only [ht, hx, Sem.run_bind, run_underlying hu, Result.andThen_ok]; exact ⟨_, rfl, .int _ _⟩)
theorem maxV_sim {ρ : Rho} {a b v : V} {x y : Value} (h : maxV a b = some v) (ha : Rel ρ a x) (hb : Rel ρ b y) (tys : Array TypeId) (rt : TypeId) (w : World) : ∃ r, (Builtin.max_ tys rt #[x, y]).run P w = .ok r w ∧ Rel ρ v r := by
  cases ha <;> simp only [maxV, reduceCtorEq] at h <;> cases hb <;> simp only [maxV, reduceCtorEq] at h
  rename_i k a k' b
  cases hk : kEq k k' with
  | false => rw [hk] at h; cases h
  | true =>
    rw [hk] at h
    simp only [cond_true, Option.some.injEq] at h
    subst h
    refine ⟨.int k (if b > a then b else a), rfl, ?_⟩
    rw [iLt_eq]
    by_cases hab : a < b
    · rw [if_pos hab]; simp only [hab, decide_true, cond_true]; exact .int _ _
    · rw [if_neg hab]; simp only [hab, decide_false, cond_false]; exact .int _ _
theorem minV_sim {ρ : Rho} {a b v : V} {x y : Value} (h : minV a b = some v) (ha : Rel ρ a x) (hb : Rel ρ b y) (tys : Array TypeId) (rt : TypeId) (w : World) : ∃ r, (Builtin.min_ tys rt #[x, y]).run P w = .ok r w ∧ Rel ρ v r := by
  cases ha <;> simp only [minV, reduceCtorEq] at h <;> cases hb <;> simp only [minV, reduceCtorEq] at h
  rename_i k a k' b
  cases hk : kEq k k' with
  | false => rw [hk] at h; cases h
  | true =>
    rw [hk] at h
    simp only [cond_true, Option.some.injEq] at h
    subst h
    refine ⟨.int k (if b < a then b else a), rfl, ?_⟩
    rw [iLt_eq]
    by_cases hab : b < a
    · rw [if_pos hab]; simp only [hab, decide_true, cond_true]; exact .int _ _
    · rw [if_neg hab]; simp only [hab, decide_false, cond_false]; exact .int _ _
theorem min3_sim {ρ : Rho} {a b c v : V} {x y z : Value} (h : min3 a b c = some v) (ha : Rel ρ a x) (hb : Rel ρ b y) (hc : Rel ρ c z) (tys : Array TypeId) (rt : TypeId) (w : World) : ∃ r, (Builtin.min_ tys rt #[x, y, z]).run P w = .ok r w ∧ Rel ρ v r := by
  unfold min3 at h
  cases hm : minV a b with
  | none => rw [hm] at h; cases h
  | some m =>
    rw [hm] at h
    obtain ⟨r1, h1, h2⟩ := minV_sim (P := P) hm ha hb tys rt w
    obtain ⟨r2, h3, h4⟩ := minV_sim (P := P) h h2 hc tys rt w
    refine ⟨r2, ?_, h4⟩
    have e1 : Builtin.min_ tys rt #[x, y, z] = Builtin.min_ tys rt #[x, y] >>= fun m => Builtin.min_ tys rt #[m, z] := by
      simp [Builtin.min_, List.foldlM]
    rw [e1]
    simp only [Sem.run_bind]
    rw [h1]
    exact h3
theorem bytesV_sim {ρ : Rho} : ∀ {cs : List V} {xs : List Value} {l : List UInt8}, bytesV cs = some l → RelL ρ cs xs → xs.length = l.length ∧ ∀ (i : Nat) x, xs[i]? = some x → ∃ n, x = .int .u8 n ∧ l[i]? = some (UInt8.ofNat n.toNat)
  | [], xs, l, h, hr => by
    simp only [bytesV, Option.some.injEq] at h; subst h
    rw [hr.nil_inv]
    exact ⟨rfl, fun i x h => by simp at h⟩
  | v :: cs, xs, l, h, hr => by
    obtain ⟨x, xs', rfl, h1, h2⟩ := hr.cons_inv
    cases h1 <;> try (simp only [bytesV, reduceCtorEq] at h; done)
    rename_i k n
    cases k <;> try (simp only [bytesV, reduceCtorEq] at h; done)
    simp only [bytesV] at h
    cases hb : bytesV cs with
    | none => rw [hb] at h; cases h
    | some r =>
      rw [hb] at h
      simp only [Option.some.injEq] at h; subst h
      obtain ⟨h3, h4⟩ := bytesV_sim hb h2
      refine ⟨by simp [h3], fun i x hx => ?_⟩
      cases i with
      | zero => simp only [List.getElem?_cons_zero, Option.some.injEq] at hx; subst hx; exact ⟨n, rfl, rfl⟩
      | succ i => simpa using h4 i x (by simpa using hx)
end Go.Mid

end
