/- Operations more, taken as from outside: structs and interfaces compared, bits turned, bytes as a string, capacities, copies, arrays cut. -/
import Derived.Test.YtdiiilfokajddaaGreatDoorLMidAA
set_option linter.all false
namespace Go.Mid
open Go.RowKit

/-! definitions -/
noncomputable def leafD : TypeDesc → Bool
  | .int _ | .string | .bool => true
  | _ => false
noncomputable def eqLeaf (d : TypeDesc) (x y : V) : Option Bool :=
  match d, x, y with
  | .int _, .int k a, .int k' b => bif kEq k k' then some (iEq a b) else none
  | .string, .str a, .str b => some (sEq a b)
  | .bool, .bool a, .bool b => some (a == b)
  | _, _, _ => none
noncomputable def cmpL : List (Nat × TypeDesc) → List V → List V → Option Bool
  | [], _, _ => some true
  | (i, d) :: l, xs, ys => match getN xs i with
    | none => none
    | some x => match getN ys i with
      | none => none
      | some y => match eqLeaf d x y with
        | some true => cmpL l xs ys
        | some false => some false
        | none => none
noncomputable def cmpV (l : List (Nat × TypeDesc)) (a b : V) : Option Bool :=
  match a, b with
  | .agg xs, .agg ys => cmpL l xs ys
  | _, _ => none
noncomputable def bytesV : List V → Option (List UInt8)
  | [] => some []
  | .int .u8 n :: l => (match bytesV l with
    | some r => some (UInt8.ofNat n.toNat :: r)
    | none => none)
  | _ => none
noncomputable def b2s (h : Hp) (x : V) : Option V :=
  match x with
  | .nilSlice => some (.str [])
  | .slice b o n _ _ => (match cellsT (h.t.get b) with
    | some c => (match c.getL o n with
      | some l => (match bytesV l with
        | some r => some (.str r)
        | none => none)
      | none => none)
    | none => none)
  | _ => none
noncomputable def xorV (x : V) : Option V :=
  match x with
  | .int k n => some (.int k (k.wrap (BitVec.ofInt k.bits (if k.signed then -1 else k.max) ^^^ BitVec.ofInt k.bits n).toNat))
  | _ => none
noncomputable def capV (x : V) : Option V :=
  match x with
  | .nilSlice => some (.int .i64 0)
  | .slice _ _ _ c false => some (.int .i64 (.ofNat c))
  | _ => none
noncomputable def maxV (x y : V) : Option V :=
  match x, y with
  | .int k a, .int k' b => bif kEq k k' then some (.int k (bif iLt a b then b else a)) else none
  | _, _ => none
noncomputable def minV (x y : V) : Option V :=
  match x, y with
  | .int k a, .int k' b => bif kEq k k' then some (.int k (bif iLt b a then b else a)) else none
  | _, _ => none
noncomputable def cutA (n s : Nat) (x : V) (l r : Option Nat) : Option V :=
  match x with
  | .ptr b o => (match l with
    | some l => (match r with
      | some r => bif Nat.ble l r && Nat.ble r n then some (.slice b (bif Nat.beq n l then o else o + l * s) (r - l) (n - l) false) else none
      | none => none)
    | none => none)
  | _ => none
noncomputable def cutX (k : Nat) : V → V
  | .slice b o _ c g => .slice b o k c g
  | .str s => .str (s.take k)
  | v => v
noncomputable def lenX : V → Option Nat
  | .slice _ _ n _ _ => some n
  | .nilSlice => some 0
  | .str s => some s.length
  | _ => none
noncomputable def lenS : V → Option Nat
  | .slice _ _ n _ _ => some n
  | .nilSlice => some 0
  | _ => none
noncomputable def cpTo (h : Hp) (size : Nat) (d : V) : Option (Nat × List V) → Option (V × Hp)
  | none => none
  | some (k, new) => bif Nat.beq k 0 then some (.int .i64 0, h) else (match d with
    | .slice b o _ _ _ => (match h.t.get b with
      | some (.cells c w g e) => bif allOne new && Nat.ble (o + k * size) w then some (.int .i64 (.ofNat k), h.put b (.cells (c.setL o new) w g e)) else none
      | _ => none)
    | _ => none)
noncomputable def cpN (h : Hp) (size : Nat) (d x : V) : Option (V × Hp) :=
  match lenX x with
  | none => none
  | some m => match lenS d with
    | none => none
    | some n => cpTo h size d (newCells h size (cutX (Nat.min m n) x))

noncomputable def isK : Operand → Bool
  | .const _ => true
  | _ => false

section
variable (P : Program)
noncomputable def leafL : List Field → Option (List (Nat × TypeDesc))
  | [] => some []
  | f :: fs => match P.underlying f.type with
    | some d => bif (f.name == "_") || !leafD d then none else (match leafL fs with
      | some l => some ((f.offset, d) :: l)
      | none => none)
    | none => none
/-- two values of one type that may be compared. -/
noncomputable def cmpD (t : TypeId) (x y : V) : Option Bool :=
  match P.info? t with
  | some i => bif i.comparable then (match P.underlying t with
    | some d => bif leafD d then eqLeaf d x y else none
    | none => none) else none
  | none => none
noncomputable def cmpI (c : Bool) (a b : V) : Option Bool :=
  match a, b with
  | .nilIface, .nilIface => bif c then some true else none
  | .nilIface, .iface _ _ => some false
  | .iface _ _, .nilIface => some false
  | .iface t x, .iface t' y => bif Nat.beq t t' then cmpD P t x y else some false
  | _, _ => none
noncomputable def eqX (ty : TypeId) (c : Bool) (a b : V) : Option Bool :=
  match P.underlying ty with
  | some (.struct fs) => bif P.eqGuardType P.depth ty || P.stoodInHeld ty then none else (match leafL P fs.toList with
    | some l => cmpV l a b
    | none => none)
  | some (.interface _) => cmpI P c a b
  | _ => none
noncomputable def kdEq (op : BinOp) (ty : TypeId) : Nat :=
  match op with
  | .eql | .neq => (match P.underlying ty with
    | some (.struct _) => 1
    | some (.interface _) => 1
    | _ => 0)
  | _ => 0
noncomputable def kdB : Builtin → Nat
  | .cap | .max | .min => 1
  | .copy => 3
  | _ => 0
noncomputable def kdP (o : Op) : Nat :=
  match o with
  | .binOp op ty _ _ _ => kdEq P op ty
  | .unOp .xor _ _ => 1
  | .convert s _ _ => (match P.underlying s with
    | some (.slice _) => 2
    | _ => 0)
  | .slice ty _ _ _ none => (match P.underlying ty with
    | some (.array _ _) => 1
    | _ => 0)
  | .call c => (match c.callee with
    | .builtin b => kdB b
    | _ => 0)
  | _ => 0
noncomputable def convX (s d : TypeId) (h : Hp) (x : V) : Option V :=
  match P.underlying s with
  | some (.slice e) => (match P.underlying e with
    | some (.int .u8) => (match P.underlying d with
      | some .string => b2s h x
      | _ => none)
    | _ => none)
  | _ => none
noncomputable def bndX (lo : Bool) (d : Nat) : List V → Option Nat × List V
  | [] => (bif lo then none else some d, [])
  | v :: l => bif lo then (natA (some v), l) else (some d, v :: l)
noncomputable def sliceX (ty : TypeId) (lo hi : Bool) (x : V) (as : List V) : Option V :=
  match P.underlying ty with
  | some (.array n e) => (match sz P e with
    | some s => cutA n s x (bndX lo 0 as).1 (bndX hi n (bndX lo 0 as).2).1
    | none => none)
  | _ => none
noncomputable def builtX (b : Builtin) (tys : List TypeId) (as : List V) (h : Hp) : Option (V × Hp) :=
  match b with
  | .cap => (match tys, as with
    | ty :: _, [x] => (match P.underlying ty with
      | some (.slice _) => vh h (capV x)
      | _ => none)
    | _, _ => none)
  | .max => (match as with
    | [x, y] => vh h (maxV x y)
    | _ => none)
  | .min => (match as with
    | [x, y] => vh h (minV x y)
    | _ => none)
  | .copy => (match tys, as with
    | ty :: _, [d, x] => (match P.underlying ty with
      | some (.slice e) => (match sz P e with
        | some s => cpN h s d x
        | none => none)
      | _ => none)
    | _, _ => none)
  | _ => none
noncomputable def opP (o : Op) (as : List V) (h : Hp) : Option (V × Hp) :=
  match o with
  | .binOp op ty x y _ => (match as with
    | [a, b] => bif Nat.beq (kdEq P op ty) 1 then vh h (eqOp op (eqX P ty (isK x || isK y) a b)) else none
    | _ => none)
  | .unOp .xor _ _ => (match as with
    | [a] => vh h (xorV a)
    | _ => none)
  | .convert s d _ => (match as with
    | [a] => vh h (convX P s d h a)
    | _ => none)
  | .slice ty _ lo hi none => (match as with
    | x :: as => vh h (sliceX P ty lo.isSome hi.isSome x as)
    | _ => none)
  | .call c => (match c.callee with
    | .builtin b => builtX P b c.argTypes.toList as h
    | _ => none)
  | _ => none
end
end Go.Mid
