/- Operations more, taken as from outside: structs and interfaces compared, bits turned, bytes as a string, capacities, copies, arrays cut. -/
import Derived.Test.YtdiiilfokajddaaGreatDoorKMidZ
import Derived.Laws.BytesString
set_option linter.all false
set_option warn.classDefReducibility false
noncomputable section
section
open Go.RowKit
namespace Go.Mid
section
def leafD : TypeDesc → Bool
 | .int _ | .string | .bool => true
 | _ => false
def eqLeaf (d : TypeDesc) (x y : V) : Option Bool :=
 match d, x, y with
 | .int _, .int k a, .int k' b => bif kEq k k' then some (iEq a b) else none
 | .string, .str a, .str b => some (a.eq b)
 | .bool, .bool a, .bool b => some (a == b)
 | _, _, _ => none
def cmpL : List (Nat × TypeDesc) → List V → List V → Option Bool
 | [], _, _ => some true
 | (i, d) :: l, xs, ys => match getN xs i with
  | none => none
  | some x => match getN ys i with
   | none => none
   | some y => match eqLeaf d x y with
    | some true => cmpL l xs ys
    | some false => some false
    | none => none
def cmpV (l : List (Nat × TypeDesc)) (a b : V) : Option Bool :=
 match a, b with
 | .agg xs, .agg ys => cmpL l xs ys
 | _, _ => none
def bytesV : List V → Option (List UInt8)
 | [] => some []
 | .int .u8 n :: l => (match bytesV l with
  | some r => some (UInt8.ofNat n.toNat :: r)
  | none => none)
 | _ => none
def b2s (h : Hp) (x : V) : Option V :=
 match x with
 | .nilSlice => some (.str (pack []))
 | .slice b o n _ _ => (match cellsT (h.t.get b) with
  | some c => (match c.getL o n with
   | some l => (match bytesV l with
    | some r => some (.str (pack r))
    | none => none)
   | none => none)
  | none => none)
 | _ => none
def xorV (x : V) : Option V :=
 match x with
 | .int k n => some (.int k (k.wrap (BitVec.ofInt k.bits (if k.signed then -1 else k.max) ^^^ BitVec.ofInt k.bits n).toNat))
 | _ => none
def capV (x : V) : Option V :=
 match x with
 | .nilSlice => some (.int .i64 0)
 | .slice _ _ _ c false => some (.int .i64 (.ofNat c))
 | _ => none
def maxV (x y : V) : Option V :=
 match x, y with
 | .int k a, .int k' b => bif kEq k k' then some (.int k (bif iLt a b then b else a)) else none
 | _, _ => none
def minV (x y : V) : Option V :=
 match x, y with
 | .int k a, .int k' b => bif kEq k k' then some (.int k (bif iLt b a then b else a)) else none
 | _, _ => none
def min3 (x y z : V) : Option V :=
 match minV x y with
 | some m => minV m z
 | none => none
def cutA (n s : Nat) (x : V) (l r : Option Nat) : Option V :=
 match x with
 | .ptr b o => (match l with
  | some l => (match r with
   | some r => bif Nat.ble l r && Nat.ble r n then some (.slice b (bif Nat.beq n l then o else o + l * s) (r - l) (n - l) false) else none
   | none => none)
  | none => none)
 | _ => none
def cutX (k : Nat) : V → V
 | .slice b o _ c g => .slice b o k c g
 | .str s => .str (s.cut 0 (Nat.min k s.n))
 | v => v
def lenX : V → Option Nat
 | .slice _ _ n _ _ => some n
 | .nilSlice => some 0
 | .str s => some s.n
 | _ => none
def lenS : V → Option Nat
 | .slice _ _ n _ _ => some n
 | .nilSlice => some 0
 | _ => none
def cpTo (h : Hp) (size : Nat) (d : V) : Option (Nat × List V) → Option (V × Hp)
 | none => none
 | some (k, new) => bif Nat.beq k 0 then some (.int .i64 0, h) else (match d with
  | .slice b o _ _ _ => (match h.t.get b with
   | some (.cells c w g e) => bif allOne new && Nat.ble (o + k * size) w then some (.int .i64 (.ofNat k), h.put b (.cells (c.setL o new) w g e)) else none
   | _ => none)
  | _ => none)
def cpN (h : Hp) (size : Nat) (d x : V) : Option (V × Hp) :=
 match lenX x with
 | none => none
 | some m => match lenS d with
  | none => none
  | some n => cpTo h size d (newCells h size (cutX (Nat.min m n) x))
def isK : Operand → Bool
 | .const _ => true
 | _ => false
section
variable (P : Program)
def leafL : List Field → Option (List (Nat × TypeDesc))
 | [] => some []
 | f :: fs => match P.underlying f.type with
  | some d => bif (f.name == "_") || !leafD d then none else (match leafL fs with
   | some l => some ((f.offset, d) :: l)
   | none => none)
  | none => none
def cmpD (t : TypeId) (x y : V) : Option Bool :=
 match P.info? t with
 | some i => bif i.comparable then (match P.underlying t with
  | some d => bif leafD d then eqLeaf d x y else none
  | none => none) else none
 | none => none
def cmpI (c : Bool) (a b : V) : Option Bool :=
 match a, b with
 | .nilIface, .nilIface => bif c then some true else none
 | .nilIface, .iface _ _ => some false
 | .iface _ _, .nilIface => some false
 | .iface t x, .iface t' y => bif Nat.beq t t' then cmpD P t x y else some false
 | _, _ => none
def eqX (ty : TypeId) (c : Bool) (a b : V) : Option Bool :=
 match P.underlying ty with
 | some (.struct fs) => bif P.eqGuardType P.depth ty || P.stoodInHeld ty then none else (match leafL P fs.toList with
  | some l => cmpV l a b
  | none => none)
 | some (.interface _) => cmpI P c a b
 | _ => none
def kdEq (op : BinOp) (ty : TypeId) : Nat :=
 match op with
 | .eql | .neq => (match P.underlying ty with
  | some (.struct _) => 1
  | some (.interface _) => 1
  | _ => 0)
 | _ => 0
def kdB : Builtin → Nat
 | .cap | .max | .min => 1
 | .copy => 3
 | _ => 0
def kdP (o : Op) : Nat :=
 match o with
 | .binOp op ty _ _ _ => kdEq P op ty
 | .unOp .xor _ _ => 1
 | .convert s _ _ => (match P.underlying s with
  | some (.slice _) => 2
  | _ => 0)
 | .slice ty _ _ _ none => (match P.underlying ty with
  | some (.array _ _) => 1
  | _ => 0)
 | .call c => (match c.callee with
  | .builtin b => kdB b
  | _ => 0)
 | _ => 0
def convX (s d : TypeId) (h : Hp) (x : V) : Option V :=
 match P.underlying s with
 | some (.slice e) => (match P.underlying e with
  | some (.int .u8) => (match P.underlying d with
   | some .string => b2s h x
   | _ => none)
  | _ => none)
 | _ => none
def bndX (lo : Bool) (d : Nat) : List V → Option Nat × List V
 | [] => (bif lo then none else some d, [])
 | v :: l => bif lo then (natA (some v), l) else (some d, v :: l)
def sliceX (ty : TypeId) (lo hi : Bool) (x : V) (as : List V) : Option V :=
 match P.underlying ty with
 | some (.array n e) => (match sz P e with
  | some s => cutA n s x (bndX lo 0 as).1 (bndX hi n (bndX lo 0 as).2).1
  | none => none)
 | _ => none
def builtX (b : Builtin) (tys : List TypeId) (as : List V) (h : Hp) : Option (V × Hp) :=
 match b with
 | .cap => (match tys, as with
  | ty :: _, [x] => (match P.underlying ty with
   | some (.slice _) => vh h (capV x)
   | _ => none)
  | _, _ => none)
 | .max => (match as with
  | [x, y] => vh h (maxV x y)
  | _ => none)
 | .min => (match as with
  | [x, y] => vh h (minV x y)
  | [x, y, z] => vh h (min3 x y z)
  | _ => none)
 | .copy => (match tys, as with
  | ty :: _, [d, x] => (match P.underlying ty with
   | some (.slice e) => (match sz P e with
    | some s => cpN h s d x
    | none => none)
   | _ => none)
  | _, _ => none)
 | _ => none
def opP (o : Op) (as : List V) (h : Hp) : Option (V × Hp) :=
 match o with
 | .binOp op ty x y _ => (match as with
  | [a, b] => bif Nat.beq (kdEq P op ty) 1 then vh h (eqOp op (eqX P ty (isK x || isK y) a b)) else none
  | _ => none)
 | .unOp .xor _ _ => (match as with
  | [a] => vh h (xorV a)
  | _ => none)
 | .convert s d _ => (match as with
  | [a] => vh h (convX P s d h a)
  | _ => none)
 | .slice ty _ lo hi none => (match as with
  | x :: as => vh h (sliceX P ty lo.isSome hi.isSome x as)
  | _ => none)
 | .call c => (match c.callee with
  | .builtin b => builtX P b c.argTypes.toList as h
  | _ => none)
 | _ => none
end
end
section
variable {P : Program}
theorem typeInfo_run {t : TypeId} {i : TypeInfo} (h : P.info? t = some i) (w : World) : (typeInfo t).run P w = .ok i w:=by
 simp only [typeInfo, Sem.run_bind, run_program, Result.andThen_ok, h, Sem.run_pure]
theorem eqLeaf_sim {ρ : Rho} {d : TypeDesc} {a b : V} {x y : Value} {r : Bool} (h : eqLeaf d a b = some r) (ha : Rel ρ a x) (hb : Rel ρ b y) {t : TypeId} (hu : P.underlying t = some d) (n : Nat) (w : World) :
 (Op.equalIn (n + 1) t x y).run P w = .ok r w:=by
 cases d <;> cases ha <;> simp only [eqLeaf, reduceCtorEq] at h <;> cases hb <;> simp only [eqLeaf, Option.some.injEq, reduceCtorEq] at h
 ·subst h; exact run_equalIn_bool' w n t _ _ hu
 ·rename_i k a k' b
  cases hk : kEq k k' with
  | false => rw [hk] at h; cases h
  | true =>
   have:=kEq_eq hk; subst this
   rw [hk] at h
   simp only [cond_true, Option.some.injEq] at h
   subst h
   rw [iEq_eq]
   exact run_equalIn_int w n t _ _ _ _ hu
 ·subst h
  rw [Bs.eq_eq]
  rw [run_equalIn_string w n t _ _ hu, ByteArray.toList_eq, ByteArray.toList_eq]
theorem run_part {t : TypeId} {d : TypeDesc} (hu : P.underlying t = some d) (hd : leafD d = true) {xs : Array Value} {i : Nat} {x : Value} (hx : xs[i]? = some x) (w : World) : (part t xs i).run P w = .ok x w:=by
 cases d <;> simp only [leafD, Bool.false_eq_true] at hd <;>
  simp only [part, isAgg, Sem.run_bind, run_underlying hu, Result.andThen_ok, Sem.run_pure, Bool.false_eq_true, if_false, hx]
theorem cmpL_sim {ρ : Rho} {n : Nat} {w : World} : ∀ {fs : List Field} {l : List (Nat × TypeDesc)} {cs ds : List V} {xs ys : List Value} {r : Bool}, leafL P fs = some l → RelL ρ cs xs → RelL ρ ds ys → cmpL l cs ds = some r →
 (Op.eqFields (n + 1) ⟨xs⟩ ⟨ys⟩ fs).run P w = .ok r w
 | [], l, cs, ds, xs, ys, r, hl, _, _, h => by
  simp only [leafL, Option.some.injEq] at hl; subst hl
  simp only [cmpL, Option.some.injEq] at h; subst h
  rfl
 | f :: fs, l, cs, ds, xs, ys, r, hl, hc, hd, h => by
  simp only [leafL] at hl
  cases hu : P.underlying f.type with
  | none => rw [hu] at hl; cases hl
  | some d =>
   rw [hu] at hl
   simp only at hl
   cases hb : ((f.name == "_") || !leafD d) with
   | true => rw [hb] at hl; cases hl
   | false =>
    rw [hb] at hl
    simp only [cond_false] at hl
    simp only [Bool.or_eq_false_iff, Bool.not_eq_false'] at hb
    have hname : f.name ≠ "_":=by simpa using hb.1
    cases hl' : leafL P fs with
    | none => rw [hl'] at hl; cases hl
    | some l' =>
     rw [hl'] at hl
     simp only [Option.some.injEq] at hl; subst hl
     simp only [cmpL, getN_eq] at h
     cases hx : cs[f.offset]? with
     | none => rw [hx] at h; cases h
     | some u =>
      cases hy : ds[f.offset]? with
      | none => rw [hx, hy] at h; cases h
      | some v =>
       rw [hx, hy] at h
       simp only at h
       obtain ⟨x, hx1, hx2⟩:=hc.get hx
       obtain ⟨y, hy1, hy2⟩:=hd.get hy
       simp only [Op.eqFields, if_pos hname, Sem.run_bind]
       rw [run_part hu hb.2 (xs:=⟨xs⟩) (by simpa using hx1), Result.andThen_ok, run_part hu hb.2 (xs:=⟨ys⟩) (by simpa using hy1), Result.andThen_ok]
       cases he : eqLeaf d u v with
       | none => rw [he] at h; cases h
       | some q =>
        rw [he] at h
        rw [eqLeaf_sim he hx2 hy2 hu n w, Result.andThen_ok]
        cases q with
        | false =>
         simp only [Option.some.injEq] at h; subst h
         rfl
        | true =>
         simp only at h
         have:=cmpL_sim (ρ:=ρ) (n:=n) (w:=w) hl' hc hd h
         simpa using this
theorem binEq_run {op : BinOp} {q : Bool} {v : V} {t : TypeId} {x y : Value} {w : World} (h : eqOp op (some q) = some v) (he : (Op.equal t x y).run P w = .ok q w) (hx : (∃ c, x = .agg c) ∨ x = .nilIface ∨ ∃ t z, x = .iface t z) {ρ : Rho} :
 ∃ r, (binOp op t x y).run P w = .ok r w ∧ Rel ρ v r:=by
 have e : (op = .eql → (binOp op t x y).run P w = ((Op.equal t x y).run P w).andThen fun b w => .ok (.bool b) w) ∧ (op = .neq → (binOp op t x y).run P w = ((Op.equal t x y).run P w).andThen fun b w => .ok (.bool (!b)) w):=by
  rcases hx with ⟨c, rfl⟩ | rfl | ⟨t', z, rfl⟩
  all_goals exact ⟨fun e => by subst e; cases y <;> simp only [binOp, Sem.run_bind, Sem.run_pure], fun e => by subst e; cases y <;> simp only [binOp, Sem.run_bind, Sem.run_pure]⟩
 cases op <;> simp only [eqOp, Option.some.injEq, reduceCtorEq] at h <;> subst h
 ·refine ⟨.bool q, ?_, .bool _⟩
  rw [e.1 rfl, he]; rfl
 ·refine ⟨.bool (!q), ?_, .bool _⟩
  rw [e.2 rfl, he]; rfl
theorem eqX_sim {ρ : Rho} {op : BinOp} {ty : TypeId} {a b v : V} {x y : Value} {ox oy : Operand} (h : eqOp op (eqX P ty (isK ox || isK oy) a b) = some v) (ha : Rel ρ a x) (hb : Rel ρ b y) (w : World) :
 ∃ r, (do eqGuard op ty ox oy x y; binOp op ty x y : Sem Value).run P w = .ok r w ∧ Rel ρ v r:=by
 have hne : ∃ q, eqX P ty (isK ox || isK oy) a b = some q:=by
  cases he : eqX P ty (isK ox || isK oy) a b with
  | none => rw [he] at h; cases op <;> cases h
  | some q => exact ⟨q, rfl⟩
 obtain ⟨q, hq⟩:=hne
 rw [hq] at h
 unfold eqX at hq
 cases hu : P.underlying ty with
 | none => rw [hu] at hq; cases hq
 | some d =>
  rw [hu] at hq
  cases d <;> simp only [reduceCtorEq] at hq
  case interface ms =>
   have plain : ∀ q', (∀ n, (Op.equalIn (n + 1) ty x y).run P w = .ok q' w) → (Op.equal ty x y).run P w = .ok q' w:=fun q' e => e 9999
   cases ha <;> simp only [cmpI, reduceCtorEq] at hq <;> cases hb <;> simp only [cmpI, Option.some.injEq, reduceCtorEq] at hq
   ·rename_i t1 v1 x1 h1 t2 v2 x2 h2
    cases ht : Nat.beq t1 t2 with
    | true =>
     rw [ht] at hq
     have:=Nat.eq_of_beq_eq_true ht; subst this
     simp only [cond_true, cmpD] at hq
     cases hi : P.info? t1 with
     | none => rw [hi] at hq; cases hq
     | some i =>
      rw [hi] at hq
      simp only at hq
      cases hcm : i.comparable with
      | false => rw [hcm] at hq; cases hq
      | true =>
       rw [hcm] at hq
       simp only [cond_true] at hq
       cases hd : P.underlying t1 with
       | none => rw [hd] at hq; cases hq
       | some d =>
        rw [hd] at hq
        simp only at hq
        cases hlf : leafD d with
        | false => rw [hlf] at hq; cases hq
        | true =>
         rw [hlf] at hq
         simp only [cond_true] at hq
         rw [Sem.run_bind, run_guard ty ox oy _ _ w (by simp) (by simp), Result.andThen_ok]
         refine binEq_run h ?_ (.inr (.inr ⟨_, _, rfl⟩))
         show (Op.equalIn (9998 + 1 + 1) ty _ _).run P w = _
         rw [Op.equalIn]
         simp only [Sem.run_bind, run_underlying hu, Result.andThen_ok, ne_eq, not_true_eq_false, if_false, typeInfo_run hi w, hcm, Bool.not_true, Bool.false_eq_true]
         exact eqLeaf_sim hq h1 h2 hd 9998 w
    | false =>
     rw [ht] at hq
     simp only [cond_false, Option.some.injEq] at hq; subst hq
     have hne : t1 ≠ t2:=fun e => by subst e; simp at ht
     rw [Sem.run_bind, run_guard ty ox oy _ _ w (by simp) (by simp), Result.andThen_ok]
     exact binEq_run h (plain false fun n => by simp only [Op.equalIn, Sem.run_bind, run_underlying hu, Result.andThen_ok, if_pos hne, Sem.run_pure]) (.inr (.inr ⟨_, _, rfl⟩))
   ·subst hq
    rw [Sem.run_bind, run_guard ty ox oy _ _ w (by simp) (by simp), Result.andThen_ok]
    exact binEq_run h (plain false fun n => by simp only [Op.equalIn, Sem.run_bind, run_underlying hu, Result.andThen_ok, Sem.run_pure]) (.inr (.inr ⟨_, _, rfl⟩))
   ·subst hq
    rw [Sem.run_bind, run_guard ty ox oy _ _ w (by simp) (by simp), Result.andThen_ok]
    exact binEq_run h (plain false fun n => by simp only [Op.equalIn, Sem.run_bind, run_underlying hu, Result.andThen_ok, Sem.run_pure]) (.inr (.inl rfl))
   ·cases hk : (isK ox || isK oy) with
    | false => rw [hk] at hq; cases hq
    | true =>
     rw [hk] at hq
     simp only [cond_true, Option.some.injEq] at hq; subst hq
     have hg : (eqGuard op ty ox oy .nilIface .nilIface).run P w = .ok () w:=by
      unfold eqGuard
      cases op <;> cases ox <;> cases oy <;> first | rfl | (simp [isK] at hk; done)
     rw [Sem.run_bind, hg, Result.andThen_ok]
     exact binEq_run h (plain true fun n => by simp only [Op.equalIn, Sem.run_bind, run_underlying hu, Result.andThen_ok, Sem.run_pure]) (.inr (.inl rfl))
  case struct fs =>
   cases hg : (P.eqGuardType P.depth ty || P.stoodInHeld ty) with
   | true => rw [hg] at hq; cases hq
   | false =>
    rw [hg] at hq
    simp only [cond_false] at hq
    simp only [Bool.or_eq_false_iff] at hg
    cases hl : leafL P fs.toList with
    | none => rw [hl] at hq; cases hq
    | some l =>
     rw [hl] at hq
     simp only at hq
     cases ha <;> simp only [cmpV, reduceCtorEq] at hq
     cases hb <;> simp only [cmpV, reduceCtorEq] at hq
     rename_i cs xs h1 h2 ds ys h3 h4
     rw [Sem.run_bind, run_eqGuard_agg w op ty ox oy _ _ hg.1, Result.andThen_ok]
     have hf : P.fieldsOf ty = fs:=by unfold Program.fieldsOf; rw [hu]
     refine binEq_run h ?_ (.inl ⟨_, rfl⟩)
     show (Op.equalIn (9998 + 1 + 1) ty _ _).run P w = _
     rw [run_equalIn_struct w (9998 + 1) ty _ _ (by rw [hf]; exact hu) hg.2, hf]
     exact cmpL_sim hl ⟨h1, h2⟩ ⟨h3, h4⟩ hq
theorem xorV_sim {ρ : Rho} {a v : V} {x : Value} (h : xorV a = some v) (ha : Rel ρ a x) (w : World) : ∃ r, (Op.unary .xor x).run P w = .ok r w ∧ Rel ρ v r:=by
 cases ha <;> simp only [xorV, Option.some.injEq, reduceCtorEq] at h
 subst h
 exact ⟨_, rfl, .int _ _⟩
theorem capV_sim {ρ : Rho} {a v : V} {x : Value} (h : capV a = some v) (ha : Rel ρ a x) {ty e : TypeId} (hu : P.underlying ty = some (.slice e)) {tys : Array TypeId} (ht : tys[0]? = some ty) {xs : Array Value} (hx : xs[0]? = some x) (rt : TypeId) (w : World) :
 ∃ r, (Builtin.cap_ tys rt xs).run P w = .ok r w ∧ Rel ρ v r:=by
 unfold Builtin.cap_
 cases ha <;> simp only [capV, Option.some.injEq, reduceCtorEq] at h <;> subst h <;>
  (simp only [ht, hx, Sem.run_bind, run_underlying hu, Result.andThen_ok]; exact ⟨_, rfl, .int _ _⟩)
theorem maxV_sim {ρ : Rho} {a b v : V} {x y : Value} (h : maxV a b = some v) (ha : Rel ρ a x) (hb : Rel ρ b y) (tys : Array TypeId) (rt : TypeId) (w : World) : ∃ r, (Builtin.max_ tys rt #[x, y]).run P w = .ok r w ∧ Rel ρ v r:=by
 cases ha <;> simp only [maxV, reduceCtorEq] at h <;> cases hb <;> simp only [maxV, reduceCtorEq] at h
 rename_i k a k' b
 cases hk : kEq k k' with
 | false => rw [hk] at h; cases h
 | true =>
  rw [hk] at h
  simp only [cond_true, Option.some.injEq] at h
  subst h
  refine ⟨.int k (if b > a then b else a), rfl, ?_⟩
  rw [iLt_eq]
  by_cases hab : a < b
  ·rw [if_pos hab]; simp only [hab, decide_true, cond_true]; exact .int _ _
  ·rw [if_neg hab]; simp only [hab, decide_false, cond_false]; exact .int _ _
theorem minV_sim {ρ : Rho} {a b v : V} {x y : Value} (h : minV a b = some v) (ha : Rel ρ a x) (hb : Rel ρ b y) (tys : Array TypeId) (rt : TypeId) (w : World) : ∃ r, (Builtin.min_ tys rt #[x, y]).run P w = .ok r w ∧ Rel ρ v r:=by
 cases ha <;> simp only [minV, reduceCtorEq] at h <;> cases hb <;> simp only [minV, reduceCtorEq] at h
 rename_i k a k' b
 cases hk : kEq k k' with
 | false => rw [hk] at h; cases h
 | true =>
  rw [hk] at h
  simp only [cond_true, Option.some.injEq] at h
  subst h
  refine ⟨.int k (if b < a then b else a), rfl, ?_⟩
  rw [iLt_eq]
  by_cases hab : b < a
  ·rw [if_pos hab]; simp only [hab, decide_true, cond_true]; exact .int _ _
  ·rw [if_neg hab]; simp only [hab, decide_false, cond_false]; exact .int _ _
theorem min3_sim {ρ : Rho} {a b c v : V} {x y z : Value} (h : min3 a b c = some v) (ha : Rel ρ a x) (hb : Rel ρ b y) (hc : Rel ρ c z) (tys : Array TypeId) (rt : TypeId) (w : World) : ∃ r, (Builtin.min_ tys rt #[x, y, z]).run P w = .ok r w ∧ Rel ρ v r:=by
 unfold min3 at h
 cases hm : minV a b with
 | none => rw [hm] at h; cases h
 | some m =>
  rw [hm] at h
  obtain ⟨r1, h1, h2⟩:=minV_sim (P:=P) hm ha hb tys rt w
  obtain ⟨r2, h3, h4⟩:=minV_sim (P:=P) h h2 hc tys rt w
  refine ⟨r2, ?_, h4⟩
  have e1 : Builtin.min_ tys rt #[x, y, z] = Builtin.min_ tys rt #[x, y] >>= fun m => Builtin.min_ tys rt #[m, z]:=by
   simp [Builtin.min_, List.foldlM]
  rw [e1]
  simp only [Sem.run_bind]
  rw [h1]
  exact h3
theorem bytesV_sim {ρ : Rho} : ∀ {cs : List V} {xs : List Value} {l : List UInt8}, bytesV cs = some l → RelL ρ cs xs → xs.length = l.length ∧ ∀ (i : Nat) x, xs[i]? = some x → ∃ n, x = .int .u8 n ∧ l[i]? = some (UInt8.ofNat n.toNat)
 | [], xs, l, h, hr => by
  simp only [bytesV, Option.some.injEq] at h; subst h
  rw [hr.nil_inv]
  exact ⟨rfl, fun i x h => by simp at h⟩
 | v :: cs, xs, l, h, hr => by
  obtain ⟨x, xs', rfl, h1, h2⟩:=hr.cons_inv
  cases h1 <;> try (simp only [bytesV, reduceCtorEq] at h; done)
  rename_i k n
  cases k <;> try (simp only [bytesV, reduceCtorEq] at h; done)
  simp only [bytesV] at h
  cases hb : bytesV cs with
  | none => rw [hb] at h; cases h
  | some r =>
   rw [hb] at h
   simp only [Option.some.injEq] at h; subst h
   obtain ⟨h3, h4⟩:=bytesV_sim hb h2
   refine ⟨by simp [h3], fun i x hx => ?_⟩
   cases i with
   | zero => simp only [List.getElem?_cons_zero, Option.some.injEq] at hx; subst hx; exact ⟨n, rfl, rfl⟩
   | succ i => simpa using h4 i x (by simpa using hx)
theorem push_all : ∀ (ns : List Int) (r : ByteArray), ns.foldl (fun r n => r.push (UInt8.ofNat n.toNat)) r = ⟨⟨r.data.toList ++ ns.map fun n => UInt8.ofNat n.toNat⟩⟩
 | [], r => by simp
 | n :: ns, r => by
  rw [List.foldl_cons, push_all ns]
  simp [ByteArray.push]
theorem b2s_sim [Orc] {ρ : Rho} {h : Hp} {a v : V} {x : Value} {w : World} (H : Live P ρ w h) (hb : b2s h a = some v) (ha : Rel ρ a x) : ∃ r, (Conv.bytesToString x).run P w = .ok r w ∧ Rel ρ v r:=by
 cases ha <;> simp only [b2s, reduceCtorEq] at hb
 case nilSlice =>
  simp only [Option.some.injEq] at hb; subst hb
  exact ⟨_, rfl, .packed []⟩
 case sliceZ b l o a hr hz =>
  split at hb <;> try (cases hb; done)
  split at hb <;> try (cases hb; done)
  rename_i vs hl
  have e0 : vs = []:=by simpa [Tr.getL_zero, Tr.getL_succ] using hl.symm
  subst e0
  simp only [bytesV, Option.some.injEq] at hb; subst hb
  exact ⟨_, run_bytesToString w a 0 0 [] (by rfl), by exact .packed []⟩
 case sliceE b l k a c hr hk =>
  split at hb <;> try (cases hb; done)
  split at hb <;> try (cases hb; done)
  rename_i vs hl
  have e0 : vs = []:=by simpa [Tr.getL_zero, Tr.getL_succ] using hl.symm
  subst e0
  simp only [bytesV, Option.some.injEq] at hb; subst hb
  exact ⟨_, run_bytesToString w a 0 c [] (by rfl), by exact .packed []⟩
 all_goals
  rename_i hρ
  split at hb <;> try (cases hb; done)
  rename_i c hg
  split at hb <;> try (cases hb; done)
  rename_i vs hl
  split at hb <;> try (cases hb; done)
  rename_i l hv
  simp only [Option.some.injEq] at hb; subst hb
  obtain ⟨arr, e, fz, C1, C2⟩:=H.cellsT hρ hg
  obtain ⟨xs, h1, h2, h3⟩:=getL_cells' C1 C2 hl
  obtain ⟨h4, h5⟩:=bytesV_sim hv h2
  have hns : ∃ ns : List Int, xs = ns.map (Value.int .u8) ∧ ns.map (fun n => UInt8.ofNat n.toNat) = l:=by
   clear h3 hl C1 C2 hg
   have : ∀ (xs : List Value) (l : List UInt8), xs.length = l.length → (∀ (i : Nat) x, xs[i]? = some x → ∃ n, x = .int .u8 n ∧ l[i]? = some (UInt8.ofNat n.toNat)) → ∃ ns : List Int, xs = ns.map (Value.int .u8) ∧ ns.map (fun n => UInt8.ofNat n.toNat) = l:=by
    intro xs
    induction xs with
    | nil => intro l hl _; exact ⟨[], rfl, by simpa using (List.eq_nil_of_length_eq_zero hl.symm).symm⟩
    | cons x xs ih =>
     intro l hl hx
     cases l with
     | nil => simp at hl
     | cons y l =>
      obtain ⟨n, rfl, hn⟩:=hx 0 x rfl
      obtain ⟨ns, rfl, h2⟩:=ih l (by simpa using hl) fun i z hz => by simpa using hx (i + 1) z (by simpa using hz)
      simp only [List.getElem?_cons_zero, Option.some.injEq] at hn
      exact ⟨n :: ns, rfl, by simp [h2, hn]⟩
   exact this xs l h4 h5
  obtain ⟨ns, rfl, hl2⟩:=hns
  refine ⟨_, run_bytesToString w _ _ _ ns ?_, ?_⟩
  ·rw [← h1, h2.1]
   exact run_loadCells_list w _ _ h3
  ·rw [push_all]
   simp only [hl2]
   exact .packed l
theorem convX_sim [Orc] {ρ : Rho} {h : Hp} {a v : V} {x : Value} {w : World} {s d : TypeId} (H : Live P ρ w h) (hb : convX P s d h a = some v) (ha : Rel ρ a x) : ∃ r, (convert s d x).run P w = .ok r w ∧ Rel ρ v r:=by
 unfold convX at hb
 cases hs : P.underlying s with
 | none => rw [hs] at hb; cases hb
 | some ds =>
  rw [hs] at hb
  cases ds <;> simp only [reduceCtorEq] at hb
  rename_i e
  cases he : P.underlying e with
  | none => rw [he] at hb; cases hb
  | some de =>
   rw [he] at hb
   cases de <;> try (cases hb; done)
   rename_i k
   cases k <;> try (cases hb; done)
   cases hd : P.underlying d with
   | none => rw [hd] at hb; cases hb
   | some dd =>
    rw [hd] at hb
    cases dd <;> simp only [reduceCtorEq] at hb
    obtain ⟨r, h1, h2⟩:=b2s_sim H hb ha
    refine ⟨r, ?_, h2⟩
    have key : ∀ y, (y = x) → (convert s d y).run P w = (Conv.bytesToString y).run P w:=by
     intro y hy
     subst hy
     cases ha <;> simp only [b2s, reduceCtorEq] at hb <;> simp only [convert, Sem.run_bind, run_underlying hs, run_underlying hd, run_underlying he, Result.andThen_ok]
    rw [key x rfl]; exact h1
theorem cutA_sim [Orc] {ρ : Rho} {n s : Nat} {a v : V} {x : Value} {l r : Option Nat} (h : cutA n s a l r = some v) (ha : Rel ρ a x) :
 ∃ b o l' r' , x = .pointer (some ⟨b, o, none⟩) ∧ l = some l' ∧ r = some r' ∧ l' ≤ r' ∧ r' ≤ n ∧ Rel ρ v (.slice (some (if n = l' then ⟨b, o, none⟩ else (⟨b, o, none⟩ : Addr).add (l' * s))) (r' - l') (n - l')):=by
 cases ha <;> simp only [cutA, reduceCtorEq] at h
 rename_i b lc o hb
 cases l with
 | none => cases h
 | some l =>
  cases r with
  | none => cases h
  | some r =>
   simp only at h
   cases hc : (Nat.ble l r && Nat.ble r n) with
   | false => rw [hc] at h; cases h
   | true =>
    rw [hc] at h
    simp only [cond_true, Option.some.injEq] at h; subst h
    simp only [Bool.and_eq_true] at hc
    have h1:=Nat.le_of_ble_eq_true hc.1
    have h2:=Nat.le_of_ble_eq_true hc.2
    refine ⟨_, _, l, r, rfl, rfl, rfl, h1, h2, ?_⟩
    by_cases hn : n = l
    ·subst hn
     rw [if_pos rfl]
     simp only [Nat.beq_refl, cond_true]
     exact .sliceK _ _ _ hb
    ·rw [if_neg hn]
     have : Nat.beq n l = false:=by
      cases e : Nat.beq n l with
      | false => rfl
      | true => exact (hn (Nat.eq_of_beq_eq_true e)).elim
     rw [this, add_at, Nat.add_assoc]
     exact .sliceK _ _ _ hb
def cutVal (k : Nat) : Value → Value
 | .slice a _ c => .slice a k c
 | .string s => .string ⟨⟨s.data.toList.take k⟩⟩
 | v => v
theorem first_cut {size k : Nat} (x : Value) : Builtin.firstCells size k (cutVal k x) = Builtin.firstCells size k x:=by
 cases x <;> try rfl
 ·rename_i s
  simp only [cutVal, Builtin.firstCells]
  congr 2
  rw [ByteArray.data_extract, ByteArray.data_extract]
  apply Array.ext'
  simp [List.take_take]
 ·rename_i a n c
  cases a <;> rfl
theorem rel_cut {ρ : Rho} {a : V} {x : Value} (h : Rel ρ a x) {k n : Nat} (hn : lenX a = some n) (hk : k ≤ n) : Rel ρ (cutX k a) (cutVal k x):=by
 cases h <;> simp only [lenX, Option.some.injEq, reduceCtorEq] at hn
 ·rename_i s
  subst hn
  have:=Rel.str (ρ:=ρ) (s.cut 0 (Nat.min k s.n))
  have hm : Nat.min k s.n = k:=Nat.min_eq_left hk
  rw [Bs.l_cut s (Nat.zero_le _) (Nat.min_le_right _ _), List.drop_zero, Nat.sub_zero] at this
  show Rel ρ (.str (s.cut 0 (Nat.min k s.n))) (.string ⟨⟨s.l.take k⟩⟩)
  rw [hm] at this ⊢
  simp only [Nat.min_eq_left hk] at this
  exact this
 ·exact .sliceK _ _ _ (by assumption)
 ·subst hn
  have : k = 0:=by omega
  subst this
  exact .sliceZ _ _ (by assumption) (by assumption)
 ·subst hn
  have : k = 0:=by omega
  subst this
  exact .sliceE _ _ _ (by assumption) (by assumption)
 ·exact .sliceG _ _ _ (by assumption)
 ·subst hn
  have : k = 0:=by omega
  subst this
  exact .nilSlice
theorem len_cut {ρ : Rho} {a : V} {x : Value} (h : Rel ρ a x) {n : Nat} (hn : lenX a = some n) : Builtin.lenOf x = pure n:=by
 cases h <;> simp only [lenX, Option.some.injEq, reduceCtorEq] at hn <;> subst hn <;> first
  | rfl
  | (rename_i s; rw [← Bs.l_len s]; rfl)
theorem newCells_len {h : Hp} {size k n m : Nat} {a : V} {new : List V} (hn : lenX a = some n) (hk : k ≤ n) (he : newCells h size (cutX k a) = some (m, new)) : m = k:=by
 cases a <;> simp only [lenX, Option.some.injEq, reduceCtorEq] at hn
 ·simp only [cutX, newCells] at he
  cases hb : Nat.beq size 1 <;> rw [hb] at he
  ·cases he
  ·simp only [cond_true, Option.some.injEq, Prod.mk.injEq] at he
   subst hn
   rw [← he.1]
   show Nat.min k _ - 0 = k
   rw [Nat.sub_zero]
   exact Nat.min_eq_left hk
 ·simp only [cutX, newCells] at he
  split at he <;> try (cases he; done)
  split at he <;> try (cases he; done)
  simp only [Option.some.injEq, Prod.mk.injEq] at he
  exact he.1.symm
 ·subst hn
  simp only [cutX, newCells, Option.some.injEq, Prod.mk.injEq] at he
  omega
theorem cp_sim [Orc] [Res] {ρ : Rho} {w0 w : World} {h h' : Hp} (H : R P w0 w h ρ) {size : Nat} {d x v : V} {dv xv : Value} (he : cpN h size d x = some (v, h')) (hd : Rel ρ d dv) (hx : Rel ρ x xv)
 {ty e : TypeId} (hu : P.underlying ty = some (.slice e)) (hs : sz P e = some size) {tys : Array TypeId} (ht : tys[0]? = some ty) (rt : TypeId) :
 ∃ r w', (Builtin.copy_ tys rt #[dv, xv]).run P w = .ok r w' ∧ Rel ρ v r ∧ R P w0 w' h' ρ:=by
 unfold cpN at he
 cases hm : lenX x with
 | none => rw [hm] at he; cases he
 | some m =>
  rw [hm] at he
  cases hn : lenS d with
  | none => rw [hn] at he; cases he
  | some n =>
   rw [hn] at he
   simp only at he
   cases hc : newCells h size (cutX (Nat.min m n) x) with
   | none => rw [hc] at he; cases he
   | some q =>
    obtain ⟨k, new⟩:=q
    have hk : k = Nat.min m n:=newCells_len hm (Nat.min_le_left m n) hc
    obtain ⟨news, hl, hf, hr, hlen⟩:=newCells_sim H.live (rel_cut hx hm (Nat.min_le_left m n)) hc
    rw [hc] at he
    simp only [cpTo] at he
    obtain ⟨base, dl, dc, hdv, hdl⟩ : ∃ base dl dc, dv = .slice base dl dc ∧ dl = n:=by
     cases hd <;> simp only [lenS, Option.some.injEq, reduceCtorEq] at hn <;> exact ⟨_, _, _, rfl, hn⟩
    subst hdl hdv
    have hrun : (Builtin.copy_ tys rt #[.slice base dl dc, xv]).run P w = ((Builtin.firstCells size k xv).run P w).andThen fun cells w1 =>
     ((match base with | some a => storeCells a cells.toList | none => pure ()) : Sem Unit).run P w1 |>.andThen fun _ w2 => .ok (goInt (k : Int)) w2:=by
     unfold Builtin.copy_
     have e0 : (#[Value.slice base dl dc, xv] : Array Value)[0]? = some (.slice base dl dc):=rfl
     have e1 : (#[Value.slice base dl dc, xv] : Array Value)[1]? = some xv:=rfl
     simp only [ht, e0, e1, Sem.run_bind, run_underlying hu, Result.andThen_ok, len_cut hx hm, Sem.run_pure, run_sz hs]
     rw [← hk]
     congr 1
     funext cells w1
     cases base <;> simp only [Sem.run_bind, Sem.run_pure] <;> rfl
    have hfc : (Builtin.firstCells size k xv).run P w = .ok ⟨news⟩ w:=by
     rw [← first_cut (size:=size) (k:=k) xv, hk, ← hk]
     have:=hf w rfl
     rw [hk] at this ⊢
     exact this
    rw [hrun, hfc, Result.andThen_ok]
    cases hz : Nat.beq k 0 with
    | true =>
     have hk0 : k = 0:=Nat.eq_of_beq_eq_true hz
     rw [hz] at he
     simp only [cond_true, Option.some.injEq, Prod.mk.injEq] at he
     obtain ⟨rfl, rfl⟩:=he
     have hnew : news = []:=by
      apply List.eq_nil_of_length_eq_zero
      rw [← hr.1, hlen, hk0]; simp
     subst hnew
     refine ⟨goInt (k : Int), w, ?_, by rw [hk0]; exact .int _ _, H⟩
     cases base <;> rfl
    | false =>
     rw [hz] at he
     simp only [cond_false] at he
     cases d <;> simp only [reduceCtorEq] at he
     rename_i b o len cap g
     cases hg : h.t.get b with
     | none => rw [hg] at he; cases he
     | some ob =>
      rw [hg] at he
      cases ob <;> simp only [reduceCtorEq] at he
      rename_i c wd gr el
      cases hb : (allOne new && Nat.ble (o + k * size) wd) with
      | false => rw [hb] at he; cases he
      | true =>
       rw [hb] at he
       simp only [cond_true, Option.some.injEq, Prod.mk.injEq] at he
       obtain ⟨rfl, rfl⟩:=he
       simp only [Bool.and_eq_true] at hb
       have hfit:=Nat.le_of_ble_eq_true hb.2
       obtain ⟨l, hρ, ha⟩ : ∃ l, ρ b = some l ∧ (base = some ⟨l.blk, l.base + o, none⟩ ∨ dl = 0):=by
        cases hd
        ·exact ⟨_, by assumption, .inl rfl⟩
        ·exact ⟨_, by assumption, .inr rfl⟩
        ·exact ⟨_, by assumption, .inr rfl⟩
        ·exact ⟨_, by assumption, .inl rfl⟩
       have hk0 : k ≠ 0:=fun e => by rw [e] at hz; cases hz
       rcases ha with rfl | rfl
       ·obtain ⟨w', h1, h2⟩ := H.write hρ hg hr (allOne_mem hr hb.1) (by rw [hlen]; exact hfit)
        refine ⟨_, w', ?_, .int _ _, h2⟩
        simp only
        rw [h1]; rfl
       ·exact (hk0 (by rw [hk]; exact Nat.min_eq_right (Nat.zero_le _))).elim
theorem vh_map' (h h2 : Hp) (x : Option V) : vh h2 x = (vh h x).map fun p => (p.1, h2):=by cases x <;> rfl
theorem rel_one [Orc] {ρ : Rho} {a : V} {xs : List Value} (h : RelL ρ [a] xs) : ∃ x, xs = [x] ∧ Rel ρ a x:=by
 obtain ⟨x, xs', rfl, h1, h2⟩:=h.cons_inv
 rw [h2.nil_inv]; exact ⟨x, rfl, h1⟩
theorem rel_two [Orc] {ρ : Rho} {a b : V} {xs : List Value} (h : RelL ρ [a, b] xs) : ∃ x y, xs = [x, y] ∧ Rel ρ a x ∧ Rel ρ b y:=by
 obtain ⟨x, xs', rfl, h1, h2⟩:=h.cons_inv
 obtain ⟨y, rfl, h3⟩:=rel_one h2
 exact ⟨x, y, rfl, h1, h3⟩
theorem rel_three [Orc] {ρ : Rho} {a b c : V} {xs : List Value} (h : RelL ρ [a, b, c] xs) : ∃ x y z, xs = [x, y, z] ∧ Rel ρ a x ∧ Rel ρ b y ∧ Rel ρ c z:=by
 obtain ⟨x, xs', rfl, h1, h2⟩:=h.cons_inv
 obtain ⟨y, z, rfl, h3, h4⟩:=rel_two h2
 exact ⟨x, y, z, rfl, h1, h3, h4⟩
theorem bound_nat [Orc] {ρ : Rho} {v : V} {x : Value} (h : Rel ρ v x) {n : Nat} (hn : natA (some v) = some n) : ∃ k, x = .int k (n : Int):=by
 cases h <;> simp only [natA, reduceCtorEq] at hn
 rename_i k m
 cases m <;> simp only [natA, Option.some.injEq, reduceCtorEq] at hn
 subst hn; exact ⟨k, rfl⟩
theorem slice_run [Orc] {x : Value} {b o n s : Nat} {ty e : TypeId} (hx : x = .pointer (some ⟨b, o, none⟩)) (hu : P.underlying ty = some (.array n e)) (hs : sz P e = some s) {lo hi : Option Value} {l r : Nat}
 (hl : (lo = none ∧ l = 0) ∨ ∃ k, lo = some (.int k (l : Int))) (hr : (hi = none ∧ r = n) ∨ ∃ k, hi = some (.int k (r : Int))) (h1 : l ≤ r) (h2 : r ≤ n) (w : World) :
 (Instr.sliceAt ty x lo hi none).run P w = .ok (.slice (some (if n = l then ⟨b, o, none⟩ else (⟨b, o, none⟩ : Addr).add (l * s))) (r - l) (n - l)) w:=by
 subst hx
 have hb : (Instr.sliceBounds false n n lo hi none).run P w = .ok (l, r, n) w:=by
  rcases hr with ⟨rfl, rfl⟩ | ⟨k, rfl⟩ <;> rcases hl with ⟨rfl, rfl⟩ | ⟨k', rfl⟩
  ·rfl
  ·simp only [Instr.sliceBounds, pure_bind, Sem.run_bind, run_bound rfl h1, Result.andThen_ok, Option.isSome_none, Bool.false_eq_true, if_false, Sem.run_pure]
  ·simp only [Instr.sliceBounds, pure_bind, Sem.run_bind, run_bound rfl h2, Result.andThen_ok, Sem.run_pure]
  ·simp only [Instr.sliceBounds, pure_bind, Sem.run_bind, run_bound rfl h2, run_bound rfl h1, Result.andThen_ok, Option.isSome_none, Bool.false_eq_true, if_false, Sem.run_pure]
 have hsz:=run_sz (w:=w) hs
 simp only [Instr.sliceAt, Sem.run_bind, run_underlying hu, Result.andThen_ok, Instr.sureAddr, pure_bind, Sem.run_pure, hb, hsz]
theorem sliceX_sim [Orc] {ρ : Rho} {ty : TypeId} {lo hi : Option Operand} {a : V} {as : List V} {v : V} {x : Operand} {ev : Operand → Value} (h : sliceX P ty lo.isSome hi.isSome a as = some v) (hr : RelL ρ (a :: as) ((x :: (lo.toList ++ hi.toList)).map ev)) (w : World) :
 ∃ r, (Instr.sliceAt ty (ev x) (lo.map ev) (hi.map ev) none).run P w = .ok r w ∧ Rel ρ v r:=by
 unfold sliceX at h
 cases hu : P.underlying ty with
 | none => rw [hu] at h; cases h
 | some d =>
  rw [hu] at h
  cases d <;> simp only [reduceCtorEq] at h
  ·rename_i n e
   cases hs : sz P e with
   | none => rw [hs] at h; cases h
   | some s =>
    rw [hs] at h
    simp only at h
    simp only [List.map_cons] at hr
    obtain ⟨x0, xs0, hx0, hrx, hrs⟩:=hr.cons_inv
    simp only [List.cons.injEq] at hx0
    obtain ⟨rfl, rfl⟩:=hx0
    obtain ⟨b, o, l', r', hx, hl, hr', h1, h2, h3⟩:=cutA_sim h hrx
    refine ⟨_, slice_run hx hu hs ?_ ?_ h1 h2 w, h3⟩
    ·cases lo with
     | none =>
      refine .inl ⟨rfl, ?_⟩
      cases as <;> simp [bndX] at hl <;> omega
     | some y =>
      refine .inr ?_
      cases as with
      | nil => simp [bndX] at hl
      | cons u as =>
       simp only [Option.isSome_some, bndX, cond_true] at hl
       obtain ⟨z, zs, hz, h4, _⟩:=hrs.cons_inv
       simp only [Option.toList_some, List.cons_append, List.nil_append, List.map_cons, List.cons.injEq] at hz
       obtain ⟨rfl, _⟩:=hz
       obtain ⟨k, hk⟩:=bound_nat h4 hl
       exact ⟨k, by rw [Option.map_some, hk]⟩
    ·cases hi with
     | none =>
      refine .inl ⟨rfl, ?_⟩
      cases hq : (bndX lo.isSome 0 as).2 with
      | nil => rw [hq] at hr'; simp [bndX] at hr'; omega
      | cons u us => rw [hq] at hr'; simp [bndX] at hr'; omega
     | some y =>
      refine .inr ?_
      have key : ∀ (as : List V), RelL ρ as [ev y] → (bndX true n as).1 = some r' → ∃ k, some (ev y) = some (.int k (r' : Int)):=by
       intro as hrs hh
       obtain ⟨u, rfl⟩ : ∃ u, as = [u]:=by
        have:=hrs.1
        cases as with
        | nil => simp at this
        | cons u us => cases us with
         | nil => exact ⟨u, rfl⟩
         | cons => simp at this
       simp only [bndX, cond_true] at hh
       obtain ⟨z, hz, h4⟩:=rel_one hrs
       simp only [List.cons.injEq, and_true] at hz
       subst hz
       obtain ⟨k, hk⟩:=bound_nat h4 hh
       exact ⟨k, by rw [hk]⟩
      cases lo with
      | none =>
       simp only [Option.toList_none, List.nil_append, Option.toList_some, List.map_cons, List.map_nil] at hrs
       refine key as hrs ?_
       cases as with
       | nil => have:=hrs.1; simp at this
       | cons u us => simpa [bndX] using hr'
      | some z =>
       simp only [Option.toList_some, List.cons_append, List.nil_append, List.map_cons, List.map_nil] at hrs
       cases as with
       | nil => have:=hrs.1; simp at this
       | cons u us =>
        obtain ⟨z0, zs, hz, h4, h5⟩:=hrs.cons_inv
        simp only [List.cons.injEq] at hz
        obtain ⟨_, rfl⟩:=hz
        exact key us h5 (by simpa [bndX] using hr')
theorem opP_reads [Orc] {o : Op} (hk : kdP P o = 1 ∨ kdP P o = 2) {as : List V} {h h' : Hp} {v : V} (he : opP P o as h = some (v, h')) : h' = h ∧ ∀ ρ w (a : Act) (oo : Oper), oo.op = o → Live P ρ w h → RelL ρ as (o.operands.toList.map a.eval) →
 ∃ x, (execOp a.eval oo).run P w = .ok (.value x) w ∧ Rel ρ v x:=by
 have take : ∀ {w : World} {ρ : Rho} {s : Sem Value}, (∃ x, s.run P w = .ok x w ∧ Rel ρ v x) → ∃ x, (do let r ← s; pure (Go.Next.value r) : Sem Go.Next).run P w = .ok (.value x) w ∧ Rel ρ v x :=
  fun ⟨x, h1, h2⟩ => ⟨x, run_v h1, h2⟩
 cases o <;> try (simp [kdP] at hk; done)
 case binOp op ty x y pre =>
  simp only [opP] at he
  split at he <;> try (cases he; done)
  rename_i a b
  cases hq : Nat.beq (kdEq P op ty) 1 <;> rw [hq] at he
  ·cases he
  ·simp only [cond_true] at he
   obtain ⟨rfl, h1⟩:=vh_some he
   refine ⟨rfl, fun ρ w act oo ho _ hr => ?_⟩
   obtain ⟨u, v', huv, r1, r2⟩:=rel_two (xs:=[act.eval x, act.eval y]) (by simpa [Op.operands] using hr)
   simp only [List.cons.injEq, and_true] at huv
   obtain ⟨rfl, rfl⟩:=huv
   unfold execOp; rw [ho]
   exact take (eqX_sim h1 r1 r2 w)
 case unOp op ty x =>
  cases op <;> try (simp [kdP] at hk; done)
  simp only [opP] at he
  split at he <;> try (cases he; done)
  obtain ⟨rfl, h1⟩:=vh_some he
  refine ⟨rfl, fun ρ w act oo ho _ hr => ?_⟩
  obtain ⟨u, hu, r1⟩:=rel_one (xs:=[act.eval x]) (by simpa [Op.operands] using hr)
  simp only [List.cons.injEq, and_true] at hu
  subst hu
  unfold execOp; rw [ho]
  exact take (xorV_sim h1 r1 w)
 case convert s d x =>
  simp only [opP] at he
  split at he <;> try (cases he; done)
  obtain ⟨rfl, h1⟩:=vh_some he
  refine ⟨rfl, fun ρ w act oo ho H hr => ?_⟩
  obtain ⟨u, hu, r1⟩:=rel_one (xs:=[act.eval x]) (by simpa [Op.operands] using hr)
  simp only [List.cons.injEq, and_true] at hu
  subst hu
  unfold execOp; rw [ho]
  exact take (convX_sim H h1 r1)
 case slice ty x lo hi mx =>
  cases mx <;> try (simp [kdP] at hk; done)
  simp only [opP] at he
  split at he <;> try (cases he; done)
  obtain ⟨rfl, h1⟩:=vh_some he
  refine ⟨rfl, fun ρ w act oo ho H hr => ?_⟩
  unfold execOp; rw [ho]
  exact take (sliceX_sim h1 (x:=x) (by simpa [Op.operands] using hr) w)
 case call c =>
  obtain ⟨callee, args, tys⟩:=c
  cases callee <;> try (simp [kdP] at hk; done)
  rename_i b
  simp only [opP] at he
  cases b <;> try (simp [kdP, kdB] at hk; done)
  ·simp only [builtX] at he
   split at he <;> try (cases he; done)
   rename_i ty tyr x hty
   split at he <;> try (cases he; done)
   rename_i e hu
   obtain ⟨rfl, h1⟩:=vh_some he
   refine ⟨rfl, fun ρ w act oo ho H hr => ?_⟩
   obtain ⟨u, hu1, r1⟩:=rel_one (xs:=args.toList.map act.eval) (by simpa [Op.operands, Call.operands] using hr)
   unfold execOp; rw [ho]
   simp only [resolve, pure_bind, invoke, builtin]
   have ha0 : (args.map act.eval)[0]? = some u:=by
    have : (args.map act.eval).toList = [u]:=by simpa using hu1
    rw [← Array.getElem?_toList, this]; rfl
   have ht0 : tys[0]? = some ty:=by rw [← Array.getElem?_toList, hty]; rfl
   exact take (capV_sim h1 r1 hu ht0 ha0 _ w)
  ·simp only [builtX] at he
   split at he <;> try (cases he; done)
   obtain ⟨rfl, h1⟩:=vh_some he
   refine ⟨rfl, fun ρ w act oo ho H hr => ?_⟩
   obtain ⟨u, v', huv, r1, r2⟩:=rel_two (xs:=args.toList.map act.eval) (by simpa [Op.operands, Call.operands] using hr)
   unfold execOp; rw [ho]
   simp only [resolve, pure_bind, invoke, builtin]
   have ha0 : args.map act.eval = #[u, v']:=by
    apply Array.ext'; simpa using huv
   rw [ha0]
   exact take (maxV_sim h1 r1 r2 _ _ w)
  ·simp only [builtX] at he
   split at he <;> try (cases he; done)
   ·obtain ⟨rfl, h1⟩ := vh_some he
    refine ⟨rfl, fun ρ w act oo ho H hr => ?_⟩
    obtain ⟨u, v', huv, r1, r2⟩:=rel_two (xs:=args.toList.map act.eval) (by simpa [Op.operands, Call.operands] using hr)
    unfold execOp; rw [ho]
    simp only [resolve, pure_bind, invoke, builtin]
    have ha0 : args.map act.eval = #[u, v']:=by
     apply Array.ext'; simpa using huv
    rw [ha0]
    exact take (minV_sim h1 r1 r2 _ _ w)
   ·obtain ⟨rfl, h1⟩ := vh_some he
    refine ⟨rfl, fun ρ w act oo ho H hr => ?_⟩
    obtain ⟨u, v', z, huv, r1, r2, r3⟩:=rel_three (xs:=args.toList.map act.eval) (by simpa [Op.operands, Call.operands] using hr)
    unfold execOp; rw [ho]
    simp only [resolve, pure_bind, invoke, builtin]
    have ha0 : args.map act.eval = #[u, v', z]:=by
     apply Array.ext'; simpa using huv
    rw [ha0]
    exact take (min3_sim h1 r1 r2 r3 _ _ w)
theorem opP_pure {o : Op} (hk : kdP P o = 1) (as : List V) (h h2 : Hp) : opP P o as h2 = (opP P o as h).map fun p => (p.1, h2):=by
 cases o <;> try (simp [kdP] at hk; done)
 case binOp op ty x y pre =>
  simp only [opP]
  split
  ·cases Nat.beq (kdEq P op ty) 1
   ·rfl
   ·exact vh_map' _ _ _
  ·rfl
 case unOp op ty x =>
  cases op <;> try (simp [kdP] at hk; done)
  simp only [opP]
  split
  ·exact vh_map' _ _ _
  ·rfl
 case convert s d x =>
  simp only [kdP] at hk
  split at hk <;> cases hk
 case slice ty x lo hi mx =>
  cases mx <;> try (simp [kdP] at hk; done)
  simp only [opP]
  split
  ·exact vh_map' _ _ _
  ·rfl
 case call c =>
  obtain ⟨callee, args, tys⟩:=c
  cases callee <;> try (simp [kdP] at hk; done)
  rename_i b
  cases b <;> try (simp [kdP, kdB] at hk; done)
  all_goals
   simp only [opP, builtX]
   repeat' split
   all_goals first | exact vh_map' _ _ _ | rfl
theorem xops [Orc] (hk : ∀ o, Orc.kd o = kdP P o) (ho : ∀ o as h, Orc.op o as h = opP P o as h) : OpOk P where
 pure o h1 as h h2:=by rw [ho, ho]; exact opP_pure (by rw [← hk]; exact h1) as h h2
 reads o as h v h' h1 he:=opP_reads (by rw [← hk]; exact h1) (by rw [← ho]; exact he)
 make o as h v h' he hn:=by
  rw [ho] at he
  rw [hk] at hn
  by_cases h12 : kdP P o = 1 ∨ kdP P o = 2
  ·obtain ⟨rfl, h1⟩ := opP_reads h12 he
   refine ⟨Fr.refl _, fun Z w0 w ρ a oo hoo H hr => ?_⟩
   obtain ⟨x, h2, h3⟩:=h1 ρ w a oo hoo H.live hr
   exact ⟨x, w, ρ, .inl h2, h3, Ext.refl _, H⟩
  ·cases o <;> try (simp [kdP] at hn; done)
   case binOp op ty x y pre =>
    exfalso
    simp only [kdP] at hn h12
    unfold kdEq at hn h12
    split at hn <;> first | (split at hn <;> simp_all) | simp_all
   case unOp op ty x => cases op <;> simp [kdP] at hn h12
   case convert s d x =>
    exfalso
    simp only [kdP] at hn h12
    split at hn <;> simp_all
   case slice ty x lo hi mx =>
    exfalso
    cases mx <;> try (simp [kdP] at hn; done)
    simp only [kdP] at hn h12
    split at hn <;> simp_all
   case call c =>
    obtain ⟨callee, args, tys⟩:=c
    cases callee <;> try (simp [kdP] at hn; done)
    rename_i b
    cases b <;> try (simp [kdP, kdB] at hn h12; done)
    simp only [opP, builtX] at he
    split at he <;> try (cases he; done)
    rename_i ty tyr d x hty
    split at he <;> try (cases he; done)
    rename_i e hu
    split at he <;> try (cases he; done)
    rename_i s hs
    refine ⟨?_, fun Z w0 w ρ a oo hoo H hr => ?_⟩
    ·unfold cpN at he
     split at he <;> try (cases he; done)
     split at he <;> try (cases he; done)
     unfold cpTo at he
     split at he <;> try (cases he; done)
     simp only [Bool.cond_eq_ite] at he
     (repeat' split at he) <;> first | (cases he; done) | (simp only [Option.some.injEq, Prod.mk.injEq] at he; obtain ⟨_, rfl⟩:=he; first | exact Fr.refl _ | exact Fr.put _ _ _)
    ·obtain ⟨u, v', huv, r1, r2⟩ := rel_two (xs := args.toList.map a.eval) (by simpa [Op.operands, Call.operands] using hr)
     have ht0 : tys[0]? = some ty:=by rw [← Array.getElem?_toList, hty]; rfl
     obtain ⟨r, w', h1, h2, h3⟩:=cp_sim H he r1 r2 hu hs ht0 oo.type
     refine ⟨r, w', ρ, .inl ?_, h2, Ext.refl _, h3⟩
     unfold execOp; rw [hoo]
     simp only [resolve, pure_bind, invoke, builtin]
     have ha0 : args.map a.eval = #[u, v']:=by
      apply Array.ext'; simpa using huv
     rw [ha0]
     exact run_v h1
end
end Go.Mid
end
