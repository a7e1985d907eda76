/- A small machine over abstract values: the definitions. A run of it is reckoned by the kernel; MidB.. show that the model's run answers as it does. -/
import Derived.Calls
import Derived.Orders
set_option linter.all false
namespace Go.Mid

/-! tries: numbers to values -/
inductive Tr (α : Type) where
  | nil
  | node (l : Tr α) (v : Option α) (r : Tr α)

namespace Tr
-- tries by paths, on the recursors themselves: what the kernel reckons fastest
noncomputable def pathF (n : Nat) : Nat → List Bool :=
  Nat.rec (motive := fun _ => Nat → List Bool) (fun _ => []) (fun _ ih i => Bool.rec (motive := fun _ => List Bool)
    (List.cons (Nat.beq (Nat.mod i 2) 1) (ih (Bool.rec (motive := fun _ => Nat) (Nat.pred (Nat.div i 2)) (Nat.div i 2) (Nat.beq (Nat.mod i 2) 1)))) [] (Nat.beq i 0)) n
noncomputable def path (i : Nat) : List Bool := pathF (Nat.succ i) i
noncomputable def getP {α : Type} (p : List Bool) : Tr α → Option α :=
  List.rec (motive := fun _ => Tr α → Option α) (fun t => Tr.rec (motive := fun _ => Option α) none (fun _ v _ _ _ => v) t)
    (fun b _ ih t => Tr.rec (motive := fun _ => Option α) none (fun l _ r _ _ => ih (Bool.rec (motive := fun _ => Tr α) r l b)) t) p
noncomputable def setP {α : Type} (x : α) (p : List Bool) : Tr α → Tr α :=
  List.rec (motive := fun _ => Tr α → Tr α) (fun t => Tr.rec (motive := fun _ => Tr α) (.node .nil (some x) .nil) (fun l _ r _ _ => .node l (some x) r) t)
    (fun b _ ih t => Tr.rec (motive := fun _ => Tr α) (Bool.rec (motive := fun _ => Tr α) (.node .nil none (ih .nil)) (.node (ih .nil) none .nil) b)
      (fun l v r _ _ => Bool.rec (motive := fun _ => Tr α) (.node l v (ih r)) (.node (ih l) v r) b) t) p
noncomputable def get {α : Type} (t : Tr α) (i : Nat) : Option α := getP (path i) t
noncomputable def set {α : Type} (t : Tr α) (i : Nat) (x : α) : Tr α := setP x (path i) t
noncomputable def setL {α : Type} : Tr α → Nat → List α → Tr α
  | t, _, [] => t
  | t, i, x :: xs => setL (t.set i x) (i + 1) xs
noncomputable def getL {α : Type} (t : Tr α) (i : Nat) : Nat → Option (List α)
  | 0 => some []
  | n + 1 => match t.get i with
    | none => none
    | some x => match t.getL (i + 1) n with
      | none => none
      | some l => some (x :: l)
end Tr

/-! values -/
inductive V where
  | bool (b : Bool)
  | int (k : IntKind) (n : Int)
  | str (s : List UInt8)
  | ptr (b o : Nat)
  | nilPtr
  | slice (b o len cap : Nat) (grow : Bool)
  | nilSlice
  | map (b : Nat)
  | nilMap
  | func (f : FuncId) (first captured : List V)
  | nilFunc
  | iface (t : TypeId) (v : V)
  | nilIface
  | agg (cs : List V)
  | tuple (vs : List V)
  deriving Inhabited

mutual
noncomputable def absV : Value → Option V
  | .bool b => some (.bool b)
  | .int k n => some (.int k n)
  | .string s => some (.str s.data.toList)
  | .pointer none => some .nilPtr
  | .slice none 0 0 => some .nilSlice
  | .map none => some .nilMap
  | .nilFunc => some .nilFunc
  | .nilIface => some .nilIface
  | .agg ⟨l⟩ => match absL l with
    | some cs => some (.agg cs)
    | none => none
  | .tuple ⟨l⟩ => match absL l with
    | some cs => some (.tuple cs)
    | none => none
  | .iface t v => match absV v with
    | some x => some (.iface t x)
    | none => none
  | _ => none
noncomputable def absL : List Value → Option (List V)
  | [] => some []
  | v :: vs => match absV v with
    | none => none
    | some x => match absL vs with
      | none => none
      | some l => some (x :: l)
end

/-! the heap -/
inductive Ob where
  | cells (t : Tr V) (n : Nat) (grow : Bool) (e : TypeId)
  | ro (t : Tr V) (e : TypeId)
  | map (es : List (V × V))
  | dead

/-- the cells of a block, if it has any. -/
noncomputable def cellsT : Option Ob → Option (Tr V)
  | some (.cells c _ _ _) => some c
  | some (.ro c _) => some c
  | _ => none

structure Hp where
  t : Tr Ob
  n : Nat
  low : Nat

noncomputable def Hp.new (h : Hp) (o : Ob) : Hp := ⟨h.t.set h.n o, h.n + 1, h.low⟩
noncomputable def Hp.put (h : Hp) (b : Nat) (o : Ob) : Hp := ⟨h.t.set b o, h.n, Nat.min b h.low⟩
noncomputable def Hp.newRow (h : Hp) (e : TypeId) (cs : List V) (g : Bool) : Hp := h.new (.cells (Tr.nil.setL 0 cs) cs.length g e)

/-- what is taken from outside: how many package variables have a block (block g is variable g's), and functions whose answers are known. -/
class Orc where
  ng : Nat
  fn : FuncId → List V → Hp → Option (V × Hp)
  /-- operations whose answers are taken from outside: 0 none, 1 looks at its operands alone, 2 reads memory, 3 makes or writes. -/
  kd : Op → Nat
  op : Op → List V → Hp → Option (V × Hp)
  /-- what holds of the world in which all begins. -/
  inv : World → Prop

/-! numbers -/
noncomputable def iLt : Int → Int → Bool
  | .ofNat a, .ofNat b => Nat.blt a b
  | .ofNat _, .negSucc _ => false
  | .negSucc _, .ofNat _ => true
  | .negSucc a, .negSucc b => Nat.blt b a
noncomputable def iEq : Int → Int → Bool
  | .ofNat a, .ofNat b => Nat.beq a b
  | .negSucc a, .negSucc b => Nat.beq a b
  | _, _ => false
noncomputable def kTop : IntKind → Nat
  | .i8 => 127 | .i16 => 32767 | .i32 => 2147483647 | .i64 => 9223372036854775807
  | .u8 => 255 | .u16 => 65535 | .u32 => 4294967295 | .u64 => 18446744073709551615
noncomputable def kSigned : IntKind → Bool
  | .i8 | .i16 | .i32 | .i64 => true
  | _ => false
noncomputable def fwrap (k : IntKind) (n : Int) : Int :=
  match n with
  | .ofNat m => bif Nat.ble m (kTop k) then .ofNat m else k.wrap (.ofNat m)
  | .negSucc m => bif kSigned k && Nat.ble m (kTop k) then .negSucc m else k.wrap (.negSucc m)

noncomputable def kEq (a b : IntKind) : Bool :=
  match a, b with
  | .i8, .i8 | .i16, .i16 | .i32, .i32 | .i64, .i64 | .u8, .u8 | .u16, .u16 | .u32, .u32 | .u64, .u64 => true
  | _, _ => false

noncomputable def sEq : List UInt8 → List UInt8 → Bool
  | [], [] => true
  | a :: x, b :: y => Nat.beq a.toNat b.toNat && sEq x y
  | _, _ => false

noncomputable def sLt : List UInt8 → List UInt8 → Bool
  | _, [] => false
  | [], _ :: _ => true
  | a :: x, b :: y => bif Nat.blt a.toNat b.toNat then true else bif Nat.beq a.toNat b.toNat then sLt x y else false

noncomputable def getN {α : Type} : List α → Nat → Option α
  | [], _ => none
  | x :: _, 0 => some x
  | _ :: xs, n + 1 => getN xs n

/-! operations on values -/
noncomputable def intOp (op : BinOp) (k : IntKind) (x y : Int) : Option V :=
  match op with
  | .add => some (.int k (fwrap k (x + y)))
  | .sub => some (.int k (fwrap k (x - y)))
  | .mul => some (.int k (fwrap k (x * y)))
  | .quo => bif iEq y 0 then none else some (.int k (fwrap k (x.tdiv y)))
  | .rem => bif iEq y 0 then none else some (.int k (x.tmod y))
  | .and => some (.int k (k.wrap (BitVec.ofInt k.bits x &&& BitVec.ofInt k.bits y).toNat))
  | .or => some (.int k (k.wrap (BitVec.ofInt k.bits x ||| BitVec.ofInt k.bits y).toNat))
  | .xor => some (.int k (k.wrap (BitVec.ofInt k.bits x ^^^ BitVec.ofInt k.bits y).toNat))
  | .andNot => some (.int k (k.wrap (BitVec.ofInt k.bits x &&& ~~~ (BitVec.ofInt k.bits y)).toNat))
  | .eql => some (.bool (iEq x y))
  | .neq => some (.bool (!iEq x y))
  | .lss => some (.bool (iLt x y))
  | .leq => some (.bool (!iLt y x))
  | .gtr => some (.bool (iLt y x))
  | .geq => some (.bool (!iLt x y))
  | _ => none
noncomputable def shOp (op : BinOp) (k : IntKind) (x y : Int) : Option V :=
  bif iLt y 0 then none else
    match op with
    | .shl => some (.int k (k.wrap (x * 2 ^ (min y.toNat k.bits))))
    | .shr => some (.int k (x.fdiv (2 ^ (min y.toNat k.bits))))
    | _ => none
noncomputable def strOp (op : BinOp) (x y : List UInt8) : Option V :=
  match op with
  | .add => bif Nat.ble (x.length + y.length) 4611686018427387904 then some (.str (x ++ y)) else none
  | .eql => some (.bool (sEq x y))
  | .neq => some (.bool (!sEq x y))
  | .lss => some (.bool (sLt x y))
  | .leq => some (.bool (!sLt y x))
  | .gtr => some (.bool (sLt y x))
  | .geq => some (.bool (!sLt x y))
  | _ => none
noncomputable def eqD (d : TypeDesc) (x y : V) : Option Bool :=
  match d, x, y with
  | .bool, .bool a, .bool b => some (a == b)
  | .pointer _, .nilPtr, .nilPtr => some true
  | .pointer _, .nilPtr, .ptr _ _ => some false
  | .pointer _, .ptr _ _, .nilPtr => some false
  | .slice _, .nilSlice, .nilSlice => some true
  | .slice _, .nilSlice, .slice _ _ _ _ _ => some false
  | .slice _, .slice _ _ _ _ _, .nilSlice => some false
  | .map _ _, .nilMap, .nilMap => some true
  | .map _ _, .nilMap, .map _ => some false
  | .map _ _, .map _, .nilMap => some false
  | .func _ _ _, .nilFunc, .nilFunc => some true
  | .func _ _ _, .nilFunc, .func _ _ _ => some false
  | .func _ _ _, .func _ _ _, .nilFunc => some false
  | _, _, _ => none
noncomputable def eqOp (op : BinOp) (b : Option Bool) : Option V :=
  match op, b with
  | .eql, some b => some (.bool b)
  | .neq, some b => some (.bool (!b))
  | _, _ => none
noncomputable def eqAny (d : Option TypeDesc) (op : BinOp) (x y : V) : Option V :=
  match d with
  | some d => eqOp op (eqD d x y)
  | none => none
noncomputable def shiftB : BinOp → Bool
  | .shl | .shr => true
  | _ => false
noncomputable def binV (d : Option TypeDesc) (op : BinOp) (x y : V) : Option V :=
  match x with
  | .int k a => (match y with
    | .int k' b => bif shiftB op then shOp op k a b else bif kEq k k' then intOp op k a b else none
    | _ => none)
  | .str a => (match y with
    | .str b => strOp op a b
    | _ => none)
  | x => eqAny d op x y
noncomputable def unV (op : UnOp) (x : V) : Option V :=
  match op, x with
  | .not, .bool b => some (.bool (!b))
  | .neg, .int k n => some (.int k (fwrap k (0 - n)))
  | _, _ => none

noncomputable def oneCell : V → Bool
  | .agg _ | .tuple _ => false
  | _ => true
noncomputable def allOne : List V → Bool
  | [] => true
  | v :: vs => oneCell v && allOne vs

structure Ctx where
  P : Program

section
variable (P : Program)

noncomputable def undl (t : TypeId) : Option TypeDesc := P.underlying t
noncomputable def sz (t : TypeId) : Option Nat := match P.info? t with
  | some i => some i.size
  | none => none
noncomputable def zero (t : TypeId) : Option V := match P.info? t with
  | some i => match i.zero with
    | some v => absV v
    | none => none
  | none => none
noncomputable def aggT (t : TypeId) : Option Bool := match P.underlying t with
  | some (.struct _) => some true
  | some (.array _ _) => some true
  | some _ => some false
  | none => none
noncomputable def vcells : V → List V
  | .agg cs => cs
  | v => [v]

noncomputable def loadV (h : Hp) (t : TypeId) (b o : Nat) : Option V :=
  match cellsT (h.t.get b) with
  | some c =>
    match aggT P t with
    | some true => match sz P t with
      | some n => match c.getL o n with
        | some l => some (.agg l)
        | none => none
      | none => none
    | some false => c.get o
    | none => none
  | _ => none

noncomputable def storeO (h : Hp) (t : TypeId) (b o : Nat) (v : V) : Option Ob :=
  match h.t.get b with
  | some (.cells c n g e) =>
    match sz P t with
    | some s => bif Nat.beq (vcells v).length s && Nat.ble (o + s) n && allOne (vcells v) then some (.cells (c.setL o (vcells v)) n g e) else none
    | none => none
  | _ => none
noncomputable def storeV (h : Hp) (t : TypeId) (b o : Nat) (v : V) : Option Hp :=
  match storeO P h t b o v with
  | some ob => some (h.put b ob)
  | none => none

noncomputable def rep {α : Type} : Nat → List α → List α → List α
  | 0, _, acc => acc
  | n + 1, l, acc => rep n l (l ++ acc)

/-- places of a struct's fields, filled. -/
noncomputable def splice : List V → Nat → List V → Option (List V)
  | cs, 0, [] => some cs
  | _ :: cs, 0, x :: xs => match splice cs 0 xs with
    | some r => some (x :: r)
    | none => none
  | [], 0, _ :: _ => none
  | c :: cs, n + 1, xs => match splice cs n xs with
    | some r => some (c :: r)
    | none => none
  | [], _ + 1, _ => none
noncomputable def fillV (place : Nat → Option (Nat × Nat)) : List V → List (Nat × V) → Option (List V)
  | cs, [] => some cs
  | cs, (i, v) :: rest => match place i with
    | some (off, s) => bif Nat.beq (vcells v).length s then (match splice cs off (vcells v) with
        | some cs' => fillV place cs' rest
        | none => none) else none
    | none => none

noncomputable def mapGet (k : V) : List (V × V) → Option (Option V)
  | [] => some none
  | (k', v) :: es => match k, k' with
    | .int a x, .int b y => bif kEq a b then (bif iEq x y then some (some v) else mapGet k es) else none
    | .str x, .str y => bif sEq x y then some (some v) else mapGet k es
    | .bool x, .bool y => bif x == y then some (some v) else mapGet k es
    | _, _ => none
noncomputable def mapSet (k v : V) : List (V × V) → List (V × V)
  | [] => [(k, v)]
  | (k', u) :: es => match k, k' with
    | .int _ x, .int _ y => bif iEq x y then (k, v) :: es else (k', u) :: mapSet k v es
    | .str x, .str y => bif sEq x y then (k, v) :: es else (k', u) :: mapSet k v es
    | .bool x, .bool y => bif x == y then (k, v) :: es else (k', u) :: mapSet k v es
    | _, _ => (k', u) :: mapSet k v es
noncomputable def keyOk (d : Option TypeDesc) (k : V) : Bool :=
  match d, k with
  | some (.int _), .int _ _ => true
  | some .string, .str _ => true
  | some .bool, .bool _ => true
  | _, _ => false

section ops
variable [Orc] (t : Tr V)
noncomputable def evalO : Operand → Option V
  | .tmp i => t.get i
  | .const v => absV v
  | .global g => bif Nat.blt g Orc.ng then some (.ptr g 0) else none
  | .func f => some (.func f [] [])
noncomputable def evalL : List Operand → Option (List V)
  | [] => some []
  | x :: xs => match evalO t x with
    | none => none
    | some v => match evalL xs with
      | none => none
      | some l => some (v :: l)
noncomputable def evalP : List (Nat × Operand) → Option (List (Nat × V))
  | [] => some []
  | (i, x) :: xs => match evalO t x with
    | none => none
    | some v => match evalP xs with
      | none => none
      | some l => some ((i, v) :: l)
end ops

noncomputable def roomB (n : Nat) : Bool := Nat.ble n 1073741824

noncomputable def newCells (h : Hp) (size : Nat) : V → Option (Nat × List V)
  | .slice b o n _ _ => (match cellsT (h.t.get b) with
    | some c => (match c.getL o (n * size) with
      | some l => some (n, l)
      | none => none)
    | none => none)
  | .nilSlice => some (0, [])
  | .str l => bif Nat.beq size 1 then some (l.length, l.map fun b => V.int .u8 (Int.ofNat b.toNat)) else none
  | _ => none
noncomputable def appNil (h : Hp) (elem bytes n : Nat) (new : List V) : Option (V × Hp) :=
  bif Nat.beq n 0 then some (.nilSlice, h)
  else bif roomB (n * bytes) && roomB n then some (.slice h.n 0 n 0 true, h.newRow elem new true) else none
noncomputable def appIn (h : Hp) (b len cap n size : Nat) (g gr : Bool) (e m : Nat) (c : Tr V) (new : List V) : Option (V × Hp) :=
  some (.slice b 0 (len + n) cap g, bif Nat.beq n 0 then h else h.put b (.cells (c.setL (len * size) new) m gr e))
noncomputable def appGrow (h : Hp) (b len n cap size e : Nat) (c : Tr V) (new : List V) : Option (V × Hp) :=
  some (.slice h.n 0 (len + n) cap true, (h.put b .dead).new (.cells (c.setL (len * size) new) ((len + n) * size) true e))
noncomputable def appNew (h : Hp) (len n size elem : Nat) (c : Tr V) (new : List V) : Option (V × Hp) :=
  match c.getL 0 (len * size) with
  | some old => some (.slice h.n 0 (len + n) 0 true, h.newRow elem (old ++ new) true)
  | none => none
noncomputable def appSl (h : Hp) (elem bytes size b o len cap : Nat) (g : Bool) (n : Nat) (new : List V) : Option (V × Hp) :=
  match h.t.get b with
  | some (.cells c m gr e) =>
    bif roomB ((len + n) * bytes) && roomB (len + n) && Nat.beq o 0 && Nat.beq e elem && !Nat.beq size 0 && (!g || (gr && Nat.beq cap 0 && Nat.ble (len * size) m)) then
      (bif Nat.ble ((len + n) * size) m && (g || Nat.ble (len + n) cap) then appIn h b len cap n size g gr e m c new
      else bif g then appGrow h b len n cap size e c new
      else bif Nat.blt cap (len + n) then appNew h len n size elem c new else none)
    else none
  | _ => none
noncomputable def appGo (h : Hp) (elem bytes size : Nat) (s : V) : Option (Nat × List V) → Option (V × Hp)
  | none => none
  | some (n, new) => bif allOne new then (match s with
    | .nilSlice => appNil h elem bytes n new
    | .slice b o len cap g => appSl h elem bytes size b o len cap g n new
    | _ => none) else none
noncomputable def appendV (h : Hp) (elem : TypeId) (s x : V) : Option (V × Hp) :=
  match P.info? elem with
  | none => none
  | some info => match zero P elem with
    | some z => bif Nat.beq (vcells z).length info.size then appGo h elem info.bytes info.size s (newCells h info.size x) else none
    | none => none

noncomputable def mulz (z : List V) (n : Nat) : List V := rep n z []

abbrev VH := Option (V × Hp)
noncomputable def vh (h : Hp) : Option V → VH
  | some v => some (v, h)
  | none => none
noncomputable def bnd {α β : Type} (x : Option α) (f : α → Option β) : Option β :=
  match x with
  | some a => f a
  | none => none
noncomputable def unitV : V := .tuple []

section
variable [Orc]
noncomputable def exPick (t : Tr V) (h : Hp) (c a b : Operand) : VH :=
  match evalO t c with
  | some (.bool true) => vh h (evalO t a)
  | some (.bool false) => vh h (evalO t b)
  | _ => none
noncomputable def exAlloc (h : Hp) (e : TypeId) : VH := match zero P e with
  | some z => some (.ptr h.n 0, h.newRow e (vcells z) false)
  | none => none
noncomputable def exBox (h : Hp) (e : TypeId) : Option V → VH
  | some v => some (.ptr h.n 0, h.newRow e (vcells v) false)
  | none => none
noncomputable def placesL : List Field → Option (List (Nat × Nat))
  | [] => some []
  | f :: fs => match sz P f.type with
    | none => none
    | some s => match placesL fs with
      | none => none
      | some l => some ((f.offset, s) :: l)
noncomputable def bldStruct (h : Hp) (ps : List (Nat × V)) (z : V) : Option (List (Nat × Nat)) → VH
  | some pl => (match fillV (getN pl) (vcells z) ps with
    | some cs => some (.agg cs, h)
    | none => none)
  | none => none
noncomputable def bldArr (h : Hp) (ps : List (Nat × V)) (z : V) (s : Nat) : VH :=
  match fillV (fun i => some (i * s, s)) (vcells z) ps with
  | some cs => some (.agg cs, h)
  | none => none
noncomputable def bld (h : Hp) (ps : List (Nat × V)) (z : V) : TypeDesc → VH
  | .struct fields => bldStruct h ps z (placesL P fields.toList)
  | .array _ elem => match sz P elem with
    | some s => bldArr h ps z s
    | none => none
  | _ => none
noncomputable def exBuild (t : Tr V) (h : Hp) (ty : TypeId) (parts : List (Nat × Operand)) : VH :=
  match evalP t parts with
  | none => none
  | some ps => match zero P ty with
    | none => none
    | some z => match P.underlying ty with
      | none => none
      | some d => bld P h ps z d
noncomputable def bldSl (h : Hp) (ps : List (Nat × V)) (elem : TypeId) (len s : Nat) (z : V) : VH :=
  bif Nat.ble (len * s) 65536 && Nat.beq (vcells z).length s then
    (match fillV (fun i => some (i * s, s)) (mulz (vcells z) len) ps with
    | some cs => some (.slice h.n 0 len len false, h.newRow elem cs false)
    | none => none) else none
noncomputable def exBuildSlice (t : Tr V) (h : Hp) (ty : TypeId) (len : Nat) (parts : List (Nat × Operand)) : VH :=
  match evalP t parts with
  | none => none
  | some ps => match P.underlying ty with
    | some (.slice elem) => (match sz P elem with
      | none => none
      | some s => match zero P elem with
        | none => none
        | some z => bldSl h ps elem len s z)
    | _ => none
noncomputable def exLoad (h : Hp) (ty : TypeId) : Option V → VH
  | some (.ptr b off) => vh h (loadV P h ty b off)
  | _ => none
noncomputable def exStore (h : Hp) (ty : TypeId) (a x : Option V) : VH :=
  match a with
  | some (.ptr b off) => (match x with
    | some v => (match storeV P h ty b off v with
      | some h' => some (unitV, h')
      | none => none)
    | none => none)
  | _ => none
noncomputable def exNil (h : Hp) : Option V → VH
  | some (.ptr b off) => some (.ptr b off, h)
  | some (.func f a c) => some (.func f a c, h)
  | some (.iface ty v) => some (.iface ty v, h)
  | _ => none
noncomputable def exBin (h : Hp) (d : Option TypeDesc) (op : BinOp) (x y : Option V) : VH :=
  match x with
  | some a => (match y with
    | some b => vh h (binV d op a b)
    | none => none)
  | none => none
noncomputable def exUn (h : Hp) (op : UnOp) : Option V → VH
  | some a => vh h (unV op a)
  | none => none
noncomputable def exConv (h : Hp) (src dst : TypeId) : Option V → VH
  | some (.int _ n) => (match P.underlying src with
    | some _ => (match P.underlying dst with
      | some (.int k) => some (.int k (fwrap k n), h)
      | _ => none)
    | none => none)
  | some (.str s) => (match P.underlying src with
    | some .string => (match P.underlying dst with
      | some .string => some (.str s, h)
      | _ => none)
    | _ => none)
  | _ => none
noncomputable def exIface (h : Hp) (ty : TypeId) : Option V → VH
  | some v => (match P.underlying ty with
    | some (.interface _) => none
    | some _ => some (.iface ty v, h)
    | none => none)
  | none => none
noncomputable def exFunc (t : Tr V) (h : Hp) (fn : Fn) (first cap : List Operand) : VH :=
  match fn with
  | .func f => (match evalL t first with
    | some a => (match evalL t cap with
      | some c => some (.func f a c, h)
      | none => none)
    | none => none)
  | _ => none
noncomputable def mkSl (h : Hp) (elem bytes size : Nat) (z : V) (l c : Nat) : VH :=
  bif Nat.ble l c && roomB c && roomB (c * bytes) && Nat.beq (vcells z).length size then some (.slice h.n 0 l c false, h.newRow elem (mulz (vcells z) c) false) else none
noncomputable def exMakeSlice (h : Hp) (ty : TypeId) (l c : Nat) : VH :=
  match P.underlying ty with
  | some (.slice elem) => (match P.info? elem with
    | some info => (match zero P elem with
      | some z => mkSl h elem info.bytes info.size z l c
      | none => none)
    | none => none)
  | _ => none
noncomputable def natV : Option V → Option Nat
  | some (.int .i64 (.ofNat n)) => some n
  | _ => none
noncomputable def natA : Option V → Option Nat
  | some (.int _ (.ofNat n)) => some n
  | _ => none
noncomputable def exMake (h : Hp) (ty : TypeId) (l c : Option V) : VH :=
  match natV l with
  | some l => (match natV c with
    | some c => exMakeSlice P h ty l c
    | none => none)
  | none => none
noncomputable def bound (t : Tr V) (d : Nat) : Option Operand → Option Nat
  | none => some d
  | some y => natA (evalO t y)
noncomputable def slStr (h : Hp) (s : List UInt8) (l r : Nat) : VH :=
  bif Nat.ble l r && Nat.ble r s.length then some (.str ((s.drop l).take (r - l)), h) else none
noncomputable def slS (h : Hp) (elem s b off cap : Nat) (g : Bool) (l r : Nat) : VH :=
  bif Nat.ble l r then
    (bif g then (match h.t.get b with
      | some (.cells _ m gr e) =>
        (bif Nat.ble (off + r * s) m && (Nat.beq l 0 || Nat.blt l r) && !Nat.beq s 0 && gr && Nat.beq e elem && Nat.beq off (cap * s) then some (.slice b (off + l * s) (r - l) (cap + l) true, h)
        else bif Nat.ble (off + r * s) m && (Nat.beq l r && !Nat.beq l 0) && !Nat.beq s 0 && gr && Nat.beq e elem && Nat.beq off (cap * s) then some (.slice b 0 0 l true, h) else none)
      | _ => none)
    else bif Nat.ble r cap then some (.slice b (bif Nat.beq l cap then off else off + l * s) (r - l) (cap - l) false, h) else none)
  else none
noncomputable def slSl (h : Hp) (elem : TypeId) (b off cap : Nat) (g : Bool) (l r : Nat) : VH :=
  match sz P elem with
  | none => none
  | some s => slS h elem s b off cap g l r
noncomputable def exSlice (t : Tr V) (h : Hp) (ty : TypeId) (x : Option V) (lo hi : Option Operand) : VH :=
  match x with
  | some (.str s) => (match P.underlying ty with
    | some .string => (match bound t 0 lo with
      | some l => (match bound t s.length hi with
        | some r => slStr h s l r
        | none => none)
      | none => none)
    | _ => none)
  | some (.slice b off len cap g) => (match P.underlying ty with
    | some (.slice elem) => (match bound t 0 lo with
      | some l => (match bound t len hi with
        | some r => slSl P h elem b off cap g l r
        | none => none)
      | none => none)
    | _ => none)
  | some .nilSlice => (match P.underlying ty with
    | some (.slice elem) => (match sz P elem with
      | some _ => (match bound t 0 lo with
        | some 0 => (match bound t 0 hi with
          | some 0 => some (.nilSlice, h)
          | _ => none)
        | _ => none)
      | none => none)
    | _ => none)
  | _ => none
noncomputable def exFieldAddr (h : Hp) (ty : TypeId) (f : Nat) : Option V → VH
  | some (.ptr b off) => (match P.underlying ty with
    | some (.struct fields) => (match fields[f]? with
      | some fl => (match sz P fl.type with
        | some s => bif Nat.beq s 0 then none else some (.ptr b (off + fl.offset), h)
        | none => none)
      | none => none)
    | _ => none)
  | _ => none
noncomputable def partV (cs : List V) (t : TypeId) (off : Nat) : Option V :=
  match aggT P t with
  | some true => (match sz P t with
    | some s => some (.agg ((cs.drop off).take s))
    | none => none)
  | some false => getN cs off
  | none => none
noncomputable def exField (h : Hp) (ty : TypeId) (f : Nat) : Option V → VH
  | some (.agg cs) => (match P.underlying ty with
    | some (.struct fields) => (match fields[f]? with
      | some fl => vh h (partV P cs fl.type fl.offset)
      | none => none)
    | _ => none)
  | _ => none
noncomputable def exIndexAddr (h : Hp) (ty : TypeId) (x : Option V) (ix : Option Nat) : VH :=
  match ix with
  | none => none
  | some i => match x with
    | some (.slice b off len _ _) => (match P.underlying ty with
      | some (.slice elem) => (match sz P elem with
        | some s => bif Nat.blt i len then some (.ptr b (off + i * s), h) else none
        | none => none)
      | _ => none)
    | some (.ptr b off) => (match P.underlying ty with
      | some (.array len elem) => (match sz P elem with
        | some s => bif Nat.blt i len then some (.ptr b (off + i * s), h) else none
        | none => none)
      | _ => none)
    | _ => none
noncomputable def exIndex (h : Hp) (ty : TypeId) (x : Option V) (ix : Option Nat) : VH :=
  match ix with
  | none => none
  | some i => match x with
    | some (.str s) => (match P.underlying ty with
      | some .string => (match getN s i with
        | some b => some (.int .u8 (Int.ofNat b.toNat), h)
        | none => none)
      | _ => none)
    | some (.agg cs) => (match P.underlying ty with
      | some (.array len elem) => (match sz P elem with
        | some s => bif Nat.blt i len then vh h (partV P cs elem (i * s)) else none
        | none => none)
      | _ => none)
    | _ => none
noncomputable def mapOf (h : Hp) : Option V → Option (List (V × V))
  | some .nilMap => some []
  | some (.map b) => (match h.t.get b with
    | some (.map es) => some es
    | _ => none)
  | _ => none
noncomputable def lookZ (h : Hp) (z : Option V) (ok : Bool) : Option (Option V) → VH
  | some (some v) => some (bif ok then .tuple [v, .bool true] else v, h)
  | some none => (match z with
    | some z => some (bif ok then .tuple [z, .bool false] else z, h)
    | none => none)
  | none => none
noncomputable def lookIn (h : Hp) (elem : TypeId) (ok : Bool) (r : Option (Option V)) : VH := lookZ h (zero P elem) ok r
noncomputable def exLookup (h : Hp) (ty : TypeId) (ok : Bool) (x k : Option V) : VH :=
  match P.underlying ty with
  | some (.map key elem) => (match k with
    | some k => bif keyOk (P.underlying key) k then
        (match mapOf h x with
        | some es => lookIn P h elem ok (mapGet k es)
        | none => none) else none
    | none => none)
  | _ => none
noncomputable def mapPut (h : Hp) (b : Nat) (k v : V) : VH :=
  match h.t.get b with
  | some (.map es) => (match mapGet k es with
    | some _ => some (unitV, h.put b (.map (mapSet k v es)))
    | none => none)
  | _ => none
noncomputable def exMapUpdate (h : Hp) (ty : TypeId) (m k x : Option V) : VH :=
  match P.underlying ty with
  | some (.map key _) => (match m with
    | some (.map b) => (match k with
      | some k => bif keyOk (P.underlying key) k then
          (match x with
          | some v => mapPut h b k v
          | none => none) else none
      | none => none)
    | _ => none)
  | _ => none
noncomputable def exExtract (h : Hp) (i : Nat) : Option V → VH
  | some (.tuple vs) => vh h (getN vs i)
  | _ => none
noncomputable def lenV (h : Hp) (d : TypeDesc) (x : V) : Option Nat :=
  match d, x with
  | .string, .str s => some s.length
  | .array n _, _ => some n
  | .slice _, .slice _ _ n _ _ => some n
  | .slice _, .nilSlice => some 0
  | .map _ _, .nilMap => some 0
  | .map _ _, .map r => (match h.t.get r with
    | some (.map es) => some es.length
    | _ => none)
  | _, _ => none
noncomputable def exLen (h : Hp) (args : Option (List V)) (tys : List TypeId) : VH :=
  match args with
  | some (x :: _) => (match tys with
    | ty :: _ => (match P.underlying ty with
      | some d => (match lenV h d x with
        | some n => some (.int .i64 (Int.ofNat n), h)
        | none => none)
      | none => none)
    | [] => none)
  | _ => none
noncomputable def exAppend (h : Hp) (args : Option (List V)) (tys : List TypeId) : VH :=
  match args with
  | some [s, x] => (match tys with
    | ty :: ty2 :: _ => (match P.underlying ty with
      | some (.slice elem) => (match P.underlying ty2 with
        | some (.slice _) => appendV P h elem s x
        | some .string => appendV P h elem s x
        | _ => none)
      | _ => none)
    | _ => none)
  | _ => none
noncomputable def exBuiltin (t : Tr V) (h : Hp) (b : Builtin) (args : List Operand) (tys : List TypeId) : VH :=
  match b with
  | .len => exLen P h (evalL t args) tys
  | .append => exAppend P h (evalL t args) tys
  | _ => none
noncomputable def exCall (t : Tr V) (h : Hp) (c : Call) : VH :=
  match c.callee with
  | .builtin b => exBuiltin P t h b c.args.toList c.argTypes.toList
  | _ => none

/-- an operation that calls nobody, of the machine's own list. -/
noncomputable def execC (t : Tr V) (h : Hp) (o : Op) : VH :=
  match o with
  | .move x => vh h (evalO t x)
  | .assign x => vh h (evalO t x)
  | .pick c a b => exPick t h c a b
  | .alloc e => exAlloc P h e
  | .box e x => exBox h e (evalO t x)
  | .build ty parts => exBuild P t h ty parts.toList
  | .buildSlice ty len parts => exBuildSlice P t h ty len parts.toList
  | .load ty a => exLoad P h ty (evalO t a)
  | .store ty a x => exStore P h ty (evalO t a) (evalO t x)
  | .nilCheck x => exNil h (evalO t x)
  | .binOp op ty x y _ => exBin h (P.underlying ty) op (evalO t x) (evalO t y)
  | .unOp op _ x => exUn h op (evalO t x)
  | .convert src dst x => exConv P h src dst (evalO t x)
  | .makeInterface ty x => exIface P h ty (evalO t x)
  | .makeFunc fn first cap => exFunc t h fn first.toList cap.toList
  | .makeMap _ none => some (.map h.n, h.new (.map []))
  | .makeSlice ty l c => exMake P h ty (evalO t l) (evalO t c)
  | .slice ty x lo hi none => exSlice P t h ty (evalO t x) lo hi
  | .fieldAddr ty x f => exFieldAddr P h ty f (evalO t x)
  | .field ty x f => exField P h ty f (evalO t x)
  | .indexAddr ty x ix => exIndexAddr P h ty (evalO t x) (natA (evalO t ix))
  | .index ty x ix => exIndex P h ty (evalO t x) (natA (evalO t ix))
  | .lookup ty x ix ok => exLookup P h ty ok (evalO t x) (evalO t ix)
  | .mapUpdate ty m k x => exMapUpdate P h ty (evalO t m) (evalO t k) (evalO t x)
  | .extract x i => exExtract h i (evalO t x)
  | .call c => exCall P t h c
  | _ => none

/-- does an operation call a function? -/
noncomputable def callOp : Op → Bool
  | .call { callee := .value _, .. } => true
  | _ => false
/-- calls and stores are the machine's own. -/
noncomputable def ownOp : Op → Bool
  | .store .. => true
  | o => callOp o
/-- of which sort of the operations from outside? -/
noncomputable def xk (o : Op) : Nat := bif ownOp o then 0 else Orc.kd o
noncomputable def execX (t : Tr V) (h : Hp) (o : Op) : VH :=
  match evalL t o.operands.toList with
  | some as => Orc.op o as h
  | none => none
/-- an operation that calls nobody. -/
noncomputable def execV (t : Tr V) (h : Hp) (o : Op) : VH :=
  match xk o with
  | 0 => execC P t h o
  | _ + 1 => execX t h o

/-- whom an operation calls, and with what. -/
noncomputable def calleeV (t : Tr V) (o : Oper) : Option (FuncId × List V) :=
  match o.op with
  | .call { callee := .value f, args := ⟨args⟩, .. } => match evalO t f, evalL t args with
    | some (.func g first cap), some as => some (g, first ++ as ++ cap)
    | _, _ => none
  | _ => none

noncomputable def isCall (o : Oper) : Bool := callOp o.op

/-- does an operation make or write memory? -/
noncomputable def makesC (o : Op) : Bool :=
  match o with
  | .move _ | .assign _ | .pick .. | .build .. | .load .. | .nilCheck _ | .binOp .. | .unOp .. | .convert .. | .makeInterface .. | .makeFunc .. | .slice .. | .fieldAddr .. | .field ..
  | .indexAddr .. | .index .. | .lookup .. | .extract .. => false
  | .call { callee := .builtin .len, .. } => false
  | _ => true
noncomputable def makes (o : Oper) : Bool :=
  match xk o.op with
  | 0 => makesC o.op
  | 1 => false
  | 2 => false
  | _ + 3 => true

/-! the run -/
inductive Ex where
  | normal | exit (id : Nat) | ret

inductive Out where
  | ok (e : Ex) (t : Tr V) (h : Hp)
  | no

inductive Tk where
  | code (c : Code)
  | ops (all : Array Oper) (l : List Oper)

noncomputable def wantO (all : Array Oper) (t : Tr V) (o : Oper) : Option Bool :=
  match o.guard with
  | none => some true
  | some (j, want) => match all[j]? with
    | some o' => match o'.dst with
      | some d => match t.get d with
        | some (.bool b) => some (bif want then b else !b)
        | some (.tuple []) => some false
        | _ => none
      | none => none
    | none => none

noncomputable def putO (t : Tr V) (d : Option Tmp) (v : V) : Tr V :=
  match d with
  | some d => t.set d v
  | none => t

noncomputable def undefV : V := .tuple []

noncomputable def resOne (h : Hp) (t : Tr V) : ResultVar → Option V
  | .tmp i => t.get i
  | .cell a ty => (match t.get a with
    | some (.ptr b off) => loadV P h ty b off
    | _ => none)
noncomputable def resV (h : Hp) (t : Tr V) : List ResultVar → Option (List V)
  | [] => some []
  | r :: rs => match resOne P h t r with
    | none => none
    | some v => match resV h t rs with
      | none => none
      | some l => some (v :: l)
noncomputable def one : List V → V
  | [v] => v
  | l => .tuple l

/-- which operations of a region stand ahead of which (a number's bits). -/
noncomputable def maskOf (ms : Tr Nat) : List Edge → Nat
  | [] => 0
  | e :: es => bif Region.binds .any e then Nat.lor (Nat.lor (2 ^ e.on) (match ms.get e.on with
      | some m => m
      | none => 0)) (maskOf ms es) else maskOf ms es
noncomputable def masksF : List Oper → Nat → Tr Nat → Tr Nat
  | [], _, ms => ms
  | o :: l, i, ms => masksF l (i + 1) (ms.set i (maskOf ms o.after.toList))
noncomputable def masks (ops : Array Oper) : Tr Nat := masksF ops.toList 0 .nil
noncomputable def anc (ms : Tr Nat) (i j : Nat) : Bool := match ms.get i with
  | some m => Nat.testBit m j
  | none => false
/-- does the operation at place i stand behind all that stand ahead of it? -/
noncomputable def behind (ms : Tr Nat) (i : Nat) : Bool := (List.range i).all (anc ms i)
/-- how many of a region's operations there are up to the last that does not stand behind all others ahead of it. -/
noncomputable def tailFrom (ms : Tr Nat) : List Oper → Nat → Nat → Nat
  | [], _, last => last
  | _ :: l, i, last => tailFrom ms l (i + 1) (bif behind ms i then last else i + 1)
noncomputable def headLen (ops : Array Oper) : Nat := tailFrom (masks ops) ops.toList 0 0

noncomputable def maxNeed (need : Tr Nat) : List Edge → Nat
  | [] => 0
  | e :: es => bif Region.binds .any e then (match need.get e.on with
      | some n => Nat.max n (maxNeed need es)
      | none => maxNeed need es) else maxNeed need es

noncomputable def big : Nat := 1000000000000

abbrev Rn := Tk → Tr V → Hp → Out
noncomputable def thenCode (r : Rn) (b : Code) : Out → Out
  | .ok .normal t h => r (.code b) t h
  | x => x
noncomputable def inBlk (id : Nat) : Out → Out
  | .ok (.exit j) t h => bif Nat.beq j id then .ok .normal t h else .ok (.exit j) t h
  | x => x
noncomputable def ifCode (r : Rn) (a b : Code) (t : Tr V) (h : Hp) : Option V → Out
  | some (.bool true) => r (.code a) t h
  | some (.bool false) => r (.code b) t h
  | _ => .no
/-- the callee's body has been run: its results. -/
noncomputable def backV (rs : List ResultVar) : Out → VH
  | .ok (.exit _) _ _ => none
  | .ok _ t h => (match resV P h t rs with
    | some vs => some (one vs, h)
    | none => none)
  | .no => none
noncomputable def dstOk (n : Nat) : List Oper → Bool
  | [] => true
  | o :: l => (match o.dst with
    | some d => Nat.blt d n
    | none => true) && dstOk n l
noncomputable def okCode (n : Nat) : Code → Bool
  | .region _ ops _ => dstOk n ops.toList
  | .seq a b => okCode n a && okCode n b
  | .cond _ a b => okCode n a && okCode n b
  | .block _ c => okCode n c
  | .loop c => okCode n c
  | .rangeFunc _ _ _ _ => false
  | .scope c => okCode n c
  | _ => true
noncomputable def bodyV (r : Rn) (h : Hp) (as : List V) (fn : Func) : VH :=
  match fn.body with
  | some c => bif Nat.ble as.length fn.ntmps && okCode fn.ntmps c then backV P fn.results.toList (r (.code c) (Tr.nil.setL 0 as) h) else none
  | none => none
noncomputable def enterB (r : Rn) (h : Hp) (f : FuncId) (as : List V) : VH := match P.funcs[f]? with
  | some fn => bodyV P r h as fn
  | none => none
noncomputable def enterO (r : Rn) (h : Hp) (f : FuncId) (as : List V) : VH → VH
  | some p => some p
  | none => enterB P r h f as
noncomputable def enterV (r : Rn) (h : Hp) : Option (FuncId × List V) → VH
  | some (f, as) => enterO P r h f as (Orc.fn f as h)
  | none => none
/-- one operation, its answer and the heap behind it. -/
noncomputable def opV (r : Rn) (t : Tr V) (h : Hp) (o : Oper) : VH :=
  bif isCall o then enterV P r h (calleeV t o) else execV P t h o.op
noncomputable def goOps (r : Rn) (all : Array Oper) (l : List Oper) (t : Tr V) (d : Option Tmp) : VH → Out
  | some (v, h) => r (.ops all l) (putO t d v) h
  | none => .no
noncomputable def stepOps (r : Rn) (all : Array Oper) (o : Oper) (l : List Oper) (t : Tr V) (h : Hp) : Option Bool → Out
  | some true => goOps r all l t o.dst (opV P r t h o)
  | some false => r (.ops all l) (putO t o.dst undefV) h
  | none => .no
/-! the head of a region that draws its order -/
/-- does an operation neither look at what memory holds nor write it? (It may make a new block.) -/
noncomputable def oblivC : Op → Bool
  | .move _ | .assign _ | .pick .. | .build .. | .nilCheck _ | .binOp .. | .unOp .. | .convert .. | .makeInterface .. | .makeFunc .. | .fieldAddr .. | .field .. | .indexAddr .. | .index .. | .extract ..
  | .alloc _ | .box .. | .buildSlice .. | .makeSlice .. | .makeMap .. => true
  | _ => false
noncomputable def obliv (o : Op) : Bool :=
  match xk o with
  | 0 => oblivC o
  | 1 => true
  | _ + 2 => false
structure Hd where
  c : Nat
  hs : Tr Hp
  need : Tr Nat
  t : Tr V
  st : List (Nat × Ob)
  nob : List (Nat × V)
noncomputable def stores : List (Nat × Ob) → Hp → Hp
  | [], h => h
  | (b, ob) :: l, h => stores l (h.put b ob)
noncomputable def hdSkip (s : Hd) (o : Oper) (i m : Nat) : Hd := ⟨s.c, s.hs, s.need.set i m, putO s.t o.dst undefV, s.st, s.nob⟩
/-- where a load looks, and what it found. -/
noncomputable def ldC (t : Tr V) (o : Op) (v : V) : V :=
  match o with
  | .load _ a => (match evalO t a with
    | some x => .tuple [x, v]
    | none => undefV)
  | _ => undefV
noncomputable def ldV (t : Tr V) (o : Op) (v : V) : V :=
  match xk o with
  | 0 => ldC t o v
  | _ + 1 => undefV
/-- does an address lie in another block? -/
noncomputable def offP (v : V) (b : Nat) : Bool :=
  match v with
  | .ptr b' _ => !(Nat.beq b' b)
  | _ => false
noncomputable def okV (b : Nat) (x : V) : Bool :=
  match x with
  | .bool p => p
  | .tuple [a, _] => offP a b
  | .agg (a :: _) => offP a b
  | _ => false
noncomputable def markV (x : V) : Bool :=
  match x with
  | .bool _ => true
  | _ => false
noncomputable def freeV (x : V) : Bool :=
  match x with
  | .bool p => p
  | _ => true
noncomputable def vEq (a b : V) : Bool :=
  match a, b with
  | .bool x, .bool y => x == y
  | .int k x, .int k' y => kEq k k' && iEq x y
  | .str x, .str y => sEq x y
  | .ptr b o, .ptr b' o' => Nat.beq b b' && Nat.beq o o'
  | .nilPtr, .nilPtr => true
  | .slice b o n c g, .slice b' o' n' c' g' => Nat.beq b b' && Nat.beq o o' && Nat.beq n n' && Nat.beq c c' && (g == g')
  | .nilSlice, .nilSlice => true
  | .map b, .map b' => Nat.beq b b'
  | .nilMap, .nilMap => true
  | .nilFunc, .nilFunc => true
  | .nilIface, .nilIface => true
  | _, _ => false
noncomputable def vEqL : List V → List V → Bool
  | [], [] => true
  | a :: x, b :: y => vEq a b && vEqL x y
  | _, _ => false
noncomputable def vEqO (x y : Option (List V)) : Bool :=
  match x, y with
  | some l, some m => vEqL l m
  | _, _ => false
/-- are so many cells as they were? -/
noncomputable def sameA (h h' : Hp) (a : V) (n : Nat) : Bool :=
  match a with
  | .ptr b off => (match cellsT (h.t.get b), cellsT (h'.t.get b) with
    | some c, some c' => !(Nat.beq n 0) && vEqO (c.getL off n) (c'.getL off n)
    | _, _ => false)
  | _ => false
/-- is a try just another one? -/
noncomputable def vIs (a b : Option V) : Bool :=
  match a, b with
  | none, none => true
  | some x, some y => vEq x y
  | _, _ => false
noncomputable def trIs : Tr V → Tr V → Bool
  | .nil, .nil => true
  | .node l v r, .node l' v' r' => vIs v v' && (trIs l l' && trIs r r')
  | _, _ => false
/-- is a block a new row still? -/
noncomputable def isRow (o : Option Ob) (e : Nat) (cs : List V) : Bool :=
  match o with
  | some (.cells t n g e') => Nat.beq n cs.length && (!g && (Nat.beq e' e && trIs t (Tr.nil.setL 0 cs)))
  | _ => false
/-- a block that was made ahead of its time: where it lies, its type, its cells. -/
noncomputable def fent (p : V) (e : Nat) (cs : List V) : V := .agg [p, .int .i64 (.ofNat e), .agg cs]
noncomputable def floOk (h' : Hp) (p : V) (e : Nat) (cs : List V) : Bool :=
  match p with
  | .ptr b _ => Nat.blt b h'.low || isRow (h'.t.get b) e cs
  | _ => false
noncomputable def sameLd (h h' : Hp) (x : V) : Bool :=
  match x with
  | .tuple [a, v] => sameA h h' a (vcells v).length
  | .agg [p, .int .i64 (.ofNat e), .agg cs] => floOk h' p e cs
  | _ => false
/-- the block that was made ahead of its time for an operation. -/
noncomputable def floOf : List (Nat × V) → Nat → Option V
  | [], _ => none
  | (j, x) :: l, i => match x with
    | .agg (p :: _) => bif Nat.beq j i then some p else floOf l i
    | _ => floOf l i
noncomputable def flo0 : List Oper → Nat → Hp → Hp × List (Nat × V)
  | [], _, h => (h, [])
  | o :: l, i, h => match o.op, o.guard with
    | .alloc ty, none => (match (bif obliv o.op then zero P ty else none) with
      | some z => ((flo0 l (i + 1) (h.newRow ty (vcells z) false)).1, (i, fent (.ptr h.n 0) ty (vcells z)) :: (flo0 l (i + 1) (h.newRow ty (vcells z) false)).2)
      | none => flo0 l (i + 1) h)
    | _, _ => flo0 l (i + 1) h
noncomputable def pureB (h h' : Hp) : Bool := Nat.ble h.n h'.low
noncomputable def hdNob (s : Hd) (o : Oper) (i : Nat) (v : V) : List (Nat × V) := bif obliv o.op then s.nob else (i, ldV s.t o.op v) :: s.nob
noncomputable def hdRead (s : Hd) (o : Oper) (i m : Nat) : VH → Option Hd
  | some (v, _) => some ⟨s.c, s.hs, s.need.set i m, putO s.t o.dst v, s.st, hdNob s o i v⟩
  | none => none
noncomputable def behindW (ms : Tr Nat) (i : Nat) (l : List (Nat × V)) : Bool := l.all fun x => anc ms i x.1 || freeV x.2
noncomputable def hdWrote (ms : Tr Nat) (s : Hd) (o : Oper) (i : Nat) (h : Hp) : VH → Option Hd
  | some (v, h') => bif s.nob.all (fun x => (anc ms i x.1 || markV x.2) || (pureB h h' || sameLd h h' x.2)) then
      some ⟨s.c + 1, s.hs.set (s.c + 1) ⟨h'.t, h'.n, Nat.min h.low h'.low⟩, s.need.set i (s.c + 1), putO s.t o.dst v, s.st, (i, .bool (pureB h h')) :: (i, undefV) :: s.nob⟩ else none
  | none => none
noncomputable def hdMade (s : Hd) (o : Oper) (i : Nat) (h : Hp) : VH → Option Hd
  | some (v, h') => bif Nat.ble h.n h'.low then some ⟨s.c + 1, s.hs.set (s.c + 1) ⟨h'.t, h'.n, h.low⟩, s.need.set i (s.c + 1), putO s.t o.dst v, s.st, hdNob s o i v⟩ else none
  | none => none
noncomputable def hdPut (ms : Tr Nat) (s : Hd) (o : Oper) (i m b : Nat) : Option Ob → Option Hd
  | some ob => bif s.nob.all (fun x => anc ms i x.1 || okV b x.2) then some ⟨s.c, s.hs, s.need.set i m, putO s.t o.dst unitV, s.st ++ [(b, ob)], (i, undefV) :: s.nob⟩ else none
  | none => none
noncomputable def hdStore (ms : Tr Nat) (s : Hd) (o : Oper) (i m : Nat) (h : Hp) (ty : TypeId) (a x : Option V) : Option Hd :=
  match a with
  | some (.ptr b off) => (match x with
    | some v => hdPut ms s o i m b (storeO P (stores s.st h) ty b off v)
    | none => none)
  | _ => none
noncomputable def isNil {α : Type} : List α → Bool
  | [] => true
  | _ => false
noncomputable def hdMk (ms : Tr Nat) (r : Rn) (s : Hd) (o : Oper) (i : Nat) (h : Hp) : Option Hd :=
  bif obliv o.op then hdMade s o i h (opV P r s.t ⟨h.t, h.n, h.n⟩ o) else hdWrote ms s o i h (opV P r s.t ⟨h.t, h.n, h.n⟩ o)
noncomputable def freeM (ms : Tr Nat) (i : Nat) (s : Hd) : Bool := isNil s.st && behindW ms i s.nob
noncomputable def hdPlain (ms : Tr Nat) (r : Rn) (s : Hd) (o : Oper) (i m : Nat) (h : Hp) : Option Hd :=
  bif obliv o.op || freeM ms i s then
    (bif makes o then (bif Nat.beq m s.c then hdMk P ms r s o i h else none)
    else hdRead s o i m (execV P s.t h o.op))
  else none
noncomputable def hdFlo (ms : Tr Nat) (r : Rn) (s : Hd) (o : Oper) (i m : Nat) (h : Hp) : Option V → Option Hd
  | none => hdPlain P ms r s o i m h
  | some p => some ⟨s.c, s.hs, s.need.set i m, putO s.t o.dst p, s.st, s.nob⟩
noncomputable def hdDo (ms : Tr Nat) (r : Rn) (s : Hd) (o : Oper) (i m : Nat) : Option Hp → Option Hd
  | none => none
  | some h => (match o.op with
    | .store ty a x => hdStore P ms s o i m h ty (evalO s.t a) (evalO s.t x)
    | .alloc _ => hdFlo P ms r s o i m h (floOf s.nob i)
    | _ => hdPlain P ms r s o i m h)
noncomputable def hdOne (ms : Tr Nat) (r : Rn) (s : Hd) (o : Oper) (i : Nat) : Option Bool → Option Hd
  | none => none
  | some false => some (hdSkip s o i (maxNeed s.need o.after.toList))
  | some true => hdDo P ms r s o i (maxNeed s.need o.after.toList) (s.hs.get (maxNeed s.need o.after.toList))
noncomputable def hdAll (ms : Tr Nat) (r : Rn) (all : Array Oper) : List Oper → Nat → Option Hd → Option Hd
  | _, _, none => none
  | [], _, some s => some s
  | o :: l, i, some s => hdAll ms r all l (i + 1) (hdOne P ms r s o i (wantO all s.t o))

noncomputable def tmpsIn : List Operand → List Tmp
  | [] => []
  | .tmp t :: l => t :: tmpsIn l
  | _ :: l => tmpsIn l
noncomputable def memN : Nat → List Nat → Bool
  | _, [] => false
  | n, m :: l => Nat.beq n m || memN n l
/-- which slots an operation looks at or writes. -/
noncomputable def looks (all : Array Oper) (o : Oper) : List Tmp :=
  (match o.dst with
  | some d => [d]
  | none => []) ++ (match o.guard with
  | some (j, _) => (match all[j]? with
    | some o' => (match o'.dst with
      | some d => [d]
      | none => [])
    | none => [])
  | none => []) ++ tmpsIn o.op.operands.toList
/-- two operations of the head (the first ahead of the second): does neither write what the other looks at, or does the second stand behind the first? -/
noncomputable def pairOk (ms : Tr Nat) (all : Array Oper) (x : Oper) (i : Nat) (y : Oper) (j : Nat) : Bool :=
  (match x.dst with
  | some d => !(match y.dst with
    | some d' => Nat.beq d d'
    | none => false) && (!memN d (looks all y) || anc ms j i)
  | none => true) &&
  (match y.dst with
  | some d => !memN d (looks all x) || anc ms j i
  | none => true)
noncomputable def pairsWith (ms : Tr Nat) (all : Array Oper) (x : Oper) (i : Nat) : List Oper → Nat → Bool
  | [], _ => true
  | y :: l, j => pairOk ms all x i y j && pairsWith ms all x i l (j + 1)
noncomputable def pairsOk (ms : Tr Nat) (all : Array Oper) : List Oper → Nat → Bool
  | [], _ => true
  | x :: l, i => pairsWith ms all x i l (i + 1) && pairsOk ms all l (i + 1)
noncomputable def edgesBack : List Oper → Nat → Bool
  | [], _ => true
  | o :: l, i => (o.after.toList.all fun e => !(Region.binds .any e) || Nat.blt e.on i) && edgesBack l (i + 1)
noncomputable def okDraw (ops : Array Oper) : Bool := edgesBack ops.toList 0 && pairsOk (masks ops) ops (ops.toList.take (headLen ops)) 0

noncomputable def tailCode (r : Rn) (ops : Array Oper) : Option Hd → Out
  | some s => (match s.hs.get s.c with
    | some h => r (.ops ops (ops.toList.drop (headLen ops))) s.t (stores s.st h)
    | none => .no)
  | none => .no
noncomputable def drawCode (r : Rn) (ops : Array Oper) (t : Tr V) (h : Hp) : Out :=
  bif okDraw ops then tailCode r ops (hdAll P (masks ops) r ops (ops.toList.take (headLen ops)) 0 (some ⟨0, Tr.nil.set 0 (flo0 P (ops.toList.take (headLen ops)) 0 h).1, .nil, t, [], (flo0 P (ops.toList.take (headLen ops)) 0 h).2⟩)) else .no
noncomputable def regCode (r : Rn) (ops : Array Oper) (t : Tr V) (h : Hp) : Bool → Out
  | false => r (.ops ops ops.toList) t h
  | true => drawCode P r ops t h
noncomputable def stepCode (r : Rn) (c : Code) (t : Tr V) (h : Hp) : Out :=
  match c with
  | .skip => .ok .normal t h
  | .region _ ops d => regCode P r ops t h d
  | .seq a b => thenCode r b (r (.code a) t h)
  | .cond c a b => ifCode r a b t h (evalO t c)
  | .block id c => inBlk id (r (.code c) t h)
  | .loop c => thenCode r (.loop c) (r (.code c) t h)
  | .exit id => .ok (.exit id) t h
  | .ret => .ok .ret t h
  | .scope c => r (.code c) t h
  | .label _ => .ok .normal t h
  | _ => .no
noncomputable def step (r : Rn) (k : Tk) (t : Tr V) (h : Hp) : Out :=
  match k with
  | .code c => stepCode P r c t h
  | .ops all l => (match l with
    | [] => .ok .normal t h
    | o :: l => stepOps P r all o l t h (wantO all t o))

noncomputable def run (n : Nat) : Tk → Tr V → Hp → Out := Nat.rec (motive := fun _ => Tk → Tr V → Hp → Out) (fun _ _ _ => .no) (fun _ ih => step P ih) n

/-- a call from a heap. -/
noncomputable def callV (fuel : Nat) (f : FuncId) (as : List V) (h : Hp) : VH := enterV P (run P fuel) h (some (f, as))

noncomputable def saysTrue (fuel : Nat) (f : FuncId) : Bool :=
  match callV P fuel f [] ⟨.nil, 0, big⟩ with
  | some (.bool true, _) => true
  | _ => false
end
end
end Go.Mid
