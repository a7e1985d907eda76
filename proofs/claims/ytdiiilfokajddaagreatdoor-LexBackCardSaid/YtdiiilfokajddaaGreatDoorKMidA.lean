/- A small machine over abstract values: the definitions. A run of it is reckoned by the kernel; MidB.. show that the model's run answers as it does. -/
import Derived.Calls
import Derived.Orders
import Derived.Below
import Derived.Laws.Sem
import Derived.Laws.Rows
import Derived.Laws.Append
set_option linter.all false
set_option warn.classDefReducibility false
noncomputable section
section
namespace Go.Mid
section
inductive Dg where
 | a | b | c | d
 deriving DecidableEq
inductive Tr (α : Type) where
 | nil
 | node (v : Option α) (a b c d : Tr α)
namespace Tr
def dig (k : Nat) : Dg:=Nat.rec (motive:=fun _ => Dg) .a (fun k _ => Nat.rec (motive:=fun _ => Dg) .b (fun k _ => Nat.rec (motive:=fun _ => Dg) .c (fun _ _ => .d) k) k) k
def pathF (n : Nat) : Nat → List Dg :=
 Nat.rec (motive:=fun _ => Nat → List Dg) (fun _ => []) (fun _ ih i => Nat.rec (motive:=fun _ => List Dg) [] (fun m _ => List.cons (dig (Nat.mod m 4)) (ih (Nat.div m 4))) i) n
def path (i : Nat) : List Dg:=pathF (Nat.succ i) i
def kid {α : Type} (q : Dg) (a b c d : Tr α) : Tr α := match q with
 | .a => a
 | .b => b
 | .c => c
 | .d => d
def getP {α : Type} : List Dg → Tr α → Option α
 | _, .nil => none
 | [], .node v _ _ _ _ => v
 | q :: p, .node _ a b c d => getP p (kid q a b c d)
def setK {α : Type} (f : Tr α → Tr α) (q : Dg) (v : Option α) (a b c d : Tr α) : Tr α := match q with
 | .a => .node v (f a) b c d
 | .b => .node v a (f b) c d
 | .c => .node v a b (f c) d
 | .d => .node v a b c (f d)
def setP {α : Type} (x : α) : List Dg → Tr α → Tr α
 | [], .nil => .node (some x) .nil .nil .nil .nil
 | [], .node _ a b c d => .node (some x) a b c d
 | q :: p, .nil => setK (setP x p) q none .nil .nil .nil .nil
 | q :: p, .node v a b c d => setK (setP x p) q v a b c d
structure GG (α : Type) where
 run : Tr α → Option α
structure SS (α : Type) where
 run : α → Tr α → Tr α
def gKa {α : Type} (g : GG α) : GG α:=⟨Tr.rec (motive:=fun _ => Option α) none (fun _ a _ _ _ _ _ _ _ => GG.run g a)⟩
def gKb {α : Type} (g : GG α) : GG α:=⟨Tr.rec (motive:=fun _ => Option α) none (fun _ _ b _ _ _ _ _ _ => GG.run g b)⟩
def gKc {α : Type} (g : GG α) : GG α:=⟨Tr.rec (motive:=fun _ => Option α) none (fun _ _ _ c _ _ _ _ _ => GG.run g c)⟩
def gKd {α : Type} (g : GG α) : GG α:=⟨Tr.rec (motive:=fun _ => Option α) none (fun _ _ _ _ d _ _ _ _ => GG.run g d)⟩
def gV {α : Type} : GG α:=⟨Tr.rec (motive:=fun _ => Option α) none (fun v _ _ _ _ _ _ _ _ => v)⟩
def sKa {α : Type} (g : SS α) : SS α:=⟨fun x => Tr.rec (motive:=fun _ => Tr α) (.node none (SS.run g x .nil) .nil .nil .nil) (fun v a b c d _ _ _ _ => .node v (SS.run g x a) b c d)⟩
def sKb {α : Type} (g : SS α) : SS α:=⟨fun x => Tr.rec (motive:=fun _ => Tr α) (.node none .nil (SS.run g x .nil) .nil .nil) (fun v a b c d _ _ _ _ => .node v a (SS.run g x b) c d)⟩
def sKc {α : Type} (g : SS α) : SS α:=⟨fun x => Tr.rec (motive:=fun _ => Tr α) (.node none .nil .nil (SS.run g x .nil) .nil) (fun v a b c d _ _ _ _ => .node v a b (SS.run g x c) d)⟩
def sKd {α : Type} (g : SS α) : SS α:=⟨fun x => Tr.rec (motive:=fun _ => Tr α) (.node none .nil .nil .nil (SS.run g x .nil)) (fun v a b c d _ _ _ _ => .node v a b c (SS.run g x d))⟩
def sV {α : Type} : SS α:=⟨fun x => Tr.rec (motive:=fun _ => Tr α) (.node (some x) .nil .nil .nil .nil) (fun _ a b c d _ _ _ _ => .node (some x) a b c d)⟩
def gP {α : Type} (p : List Dg) : GG α:=List.rec (motive:=fun _ => GG α) gV (fun q _ ih => Dg.rec (motive:=fun _ => GG α → GG α) gKa gKb gKc gKd q ih) p
def sP {α : Type} (p : List Dg) : SS α:=List.rec (motive:=fun _ => SS α) sV (fun q _ ih => Dg.rec (motive:=fun _ => SS α → SS α) sKa sKb sKc sKd q ih) p
def gQ {α : Type} (m : Nat) : GG α:=gP (path (Nat.succ m))
def sQ {α : Type} (m : Nat) : SS α:=sP (path (Nat.succ m))
def get {α : Type} (t : Tr α) (i : Nat) : Option α:=Nat.rec (motive:=fun _ => Option α) (GG.run gV t) (fun m _ => GG.run (gQ m) t) i
def set {α : Type} (t : Tr α) (i : Nat) (x : α) : Tr α:=Nat.rec (motive:=fun _ => Tr α) (SS.run sV x t) (fun m _ => SS.run (sQ m) x t) i
theorem gP_run {α : Type} : ∀ (p : List Dg) (t : Tr α), GG.run (gP p) t = getP p t
 | [], t => by cases t <;> rfl
 | q :: p, t => by
  cases t with
  | nil => cases q <;> rfl
  | node v a b c d => cases q <;> exact gP_run p _
theorem sP_run {α : Type} (x : α) : ∀ (p : List Dg) (t : Tr α), SS.run (sP p) x t = setP x p t
 | [], t => by cases t <;> rfl
 | q :: p, t => by
  have ih:=sP_run x p
  cases t with
  | nil =>
   cases q
   ·show Tr.node none (SS.run (sP p) x .nil) .nil .nil .nil = Tr.node none (setP x p .nil) .nil .nil .nil; rw [ih]
   ·show Tr.node none .nil (SS.run (sP p) x .nil) .nil .nil = Tr.node none .nil (setP x p .nil) .nil .nil; rw [ih]
   ·show Tr.node none .nil .nil (SS.run (sP p) x .nil) .nil = Tr.node none .nil .nil (setP x p .nil) .nil; rw [ih]
   ·show Tr.node none .nil .nil .nil (SS.run (sP p) x .nil) = Tr.node none .nil .nil .nil (setP x p .nil); rw [ih]
  | node v a b c d =>
   cases q
   ·show Tr.node v (SS.run (sP p) x a) b c d = Tr.node v (setP x p a) b c d; rw [ih]
   ·show Tr.node v a (SS.run (sP p) x b) c d = Tr.node v a (setP x p b) c d; rw [ih]
   ·show Tr.node v a b (SS.run (sP p) x c) d = Tr.node v a b (setP x p c) d; rw [ih]
   ·show Tr.node v a b c (SS.run (sP p) x d) = Tr.node v a b c (setP x p d); rw [ih]
theorem get_eq {α : Type} (t : Tr α) (i : Nat) : get t i = getP (path i) t:=by
 cases i with
 | zero => exact gP_run [] t
 | succ m => exact gP_run (path (Nat.succ m)) t
theorem set_eq {α : Type} (t : Tr α) (i : Nat) (x : α) : set t i x = setP x (path i) t:=by
 cases i with
 | zero => exact sP_run x [] t
 | succ m => exact sP_run x (path (Nat.succ m)) t
def setL {α : Type} (t : Tr α) (i : Nat) (l : List α) : Tr α :=
 List.rec (motive:=fun _ => Tr α → Nat → Tr α) (fun t _ => t) (fun x _ ih t i => ih (t.set i x) (Nat.succ i)) l t i
def consO {α : Type} (x : α) (l : Option (List α)) : Option (List α):=Option.rec (motive:=fun _ => Option (List α)) none (fun l => some (List.cons x l)) l
def getL {α : Type} (t : Tr α) (i : Nat) (n : Nat) : Option (List α) :=
 Nat.rec (motive:=fun _ => Nat → Option (List α)) (fun _ => some []) (fun _ ih i => Option.rec (motive:=fun _ => Option (List α)) none (fun x => consO x (ih (Nat.succ i))) (t.get i)) n i
theorem setL_nil {α : Type} (t : Tr α) (i : Nat) : t.setL i [] = t:=rfl
theorem setL_cons {α : Type} (t : Tr α) (i : Nat) (x : α) (xs : List α) : t.setL i (x :: xs) = (t.set i x).setL (i + 1) xs:=rfl
theorem getL_zero {α : Type} (t : Tr α) (i : Nat) : t.getL i 0 = some []:=rfl
theorem getL_succ {α : Type} (t : Tr α) (i n : Nat) : t.getL i (n + 1) = match t.get i with
 | none => none
 | some x => match t.getL (i + 1) n with
  | none => none
  | some l => some (x :: l):=by
 show Option.rec (motive:=fun _ => Option (List α)) none (fun x => consO x (t.getL (i + 1) n)) (t.get i) = _
 cases t.get i with
 | none => rfl
 | some x =>
  show consO x (t.getL (i + 1) n) = _
  cases t.getL (i + 1) n <;> rfl
end Tr
structure Bs where
 n : Nat
 b : Nat
 deriving Inhabited
namespace Bs
def bytesF (n : Nat) : Nat → List UInt8:=Nat.rec (motive:=fun _ => Nat → List UInt8) (fun _ => []) (fun _ ih b => List.cons (UInt8.ofNat (Nat.mod b 256)) (ih (Nat.div b 256))) n
def l (s : Bs) : List UInt8:=bytesF s.n s.b
def byte (s : Bs) (i : Nat) : Nat:=Nat.mod (Nat.shiftRight s.b (Nat.mul 8 i)) 256
def get (s : Bs) (i : Nat) : Option Nat:=Bool.rec (motive:=fun _ => Option Nat) none (some (s.byte i)) (Nat.ble (Nat.succ i) s.n)
def cat (x y : Bs) : Bs:=⟨Nat.add x.n y.n, Nat.add (Nat.mod x.b (Nat.pow 2 (Nat.mul 8 x.n))) (Nat.shiftLeft y.b (Nat.mul 8 x.n))⟩
def cut (s : Bs) (l r : Nat) : Bs:=⟨Nat.sub r l, Nat.mod (Nat.shiftRight s.b (Nat.mul 8 l)) (Nat.pow 2 (Nat.mul 8 (Nat.sub r l)))⟩
def eq (x y : Bs) : Bool:=Bool.rec (motive:=fun _ => Bool) false (Nat.beq (Nat.mod x.b (Nat.pow 2 (Nat.mul 8 x.n))) (Nat.mod y.b (Nat.pow 2 (Nat.mul 8 y.n)))) (Nat.beq x.n y.n)
def packF (l : List UInt8) : Nat:=List.rec (motive:=fun _ => Nat) 0 (fun a _ ih => Nat.add a.toNat (Nat.mul 256 ih)) l
def lenF (l : List UInt8) : Nat:=List.rec (motive:=fun _ => Nat) 0 (fun _ _ ih => Nat.succ ih) l
end Bs
def pack (l : List UInt8) : Bs:=⟨Bs.lenF l, Bs.packF l⟩
inductive V where
 | bool (b : Bool)
 | int (k : IntKind) (n : Int)
 | str (s : Bs)
 | ptr (b o : Nat)
 | nilPtr
 | slice (b o len cap : Nat) (grow : Bool)
 | nilSlice
 | map (b : Nat)
 | nilMap
 | func (f : FuncId) (first captured : List V)
 | nilFunc
 | iface (t : TypeId) (v : V)
 | nilIface
 | agg (cs : List V)
 | tuple (vs : List V)
 deriving Inhabited
mutual
def absV : Value → Option V
 | .bool b => some (.bool b)
 | .int k n => some (.int k n)
 | .string s => some (.str (pack s.data.toList))
 | .pointer none => some .nilPtr
 | .slice none 0 0 => some .nilSlice
 | .map none => some .nilMap
 | .nilFunc => some .nilFunc
 | .nilIface => some .nilIface
 | .agg ⟨l⟩ => match absL l with
  | some cs => some (.agg cs)
  | none => none
 | .tuple ⟨l⟩ => match absL l with
  | some cs => some (.tuple cs)
  | none => none
 | .iface t v => match absV v with
  | some x => some (.iface t x)
  | none => none
 | _ => none
def absL : List Value → Option (List V)
 | [] => some []
 | v :: vs => match absV v with
  | none => none
  | some x => match absL vs with
   | none => none
   | some l => some (x :: l)
end
inductive Ob where
 | cells (t : Tr V) (n : Nat) (grow : Bool) (e : TypeId)
 | ro (t : Tr V) (e : TypeId)
 | map (es : List (V × V))
 | dead
def cellsT : Option Ob → Option (Tr V)
 | some (.cells c _ _ _) => some c
 | some (.ro c _) => some c
 | _ => none
structure Hp where
 t : Tr Ob
 n : Nat
 low : Nat
def Hp.new (h : Hp) (o : Ob) : Hp:=⟨h.t.set h.n o, h.n + 1, h.low⟩
def Hp.put (h : Hp) (b : Nat) (o : Ob) : Hp:=⟨h.t.set b o, h.n, Nat.min b h.low⟩
def Hp.newRow (h : Hp) (e : TypeId) (cs : List V) (g : Bool) : Hp:=h.new (.cells (Tr.nil.setL 0 cs) cs.length g e)
structure It where
 ts : TypeId
 te : TypeId
 ti : TypeId
 tb : TypeId
 s : Nat
 ag : Bool
class Orc where
 ng : Nat
 fn : FuncId → List V → Hp → Option (V × Hp)
 kd : Op → Nat
 op : Op → List V → Hp → Option (V × Hp)
 inv : World → Prop
 itr : FuncId → Option It
def iLt (a b : Int) : Bool :=
 Int.rec (motive := fun _ => Int → Bool) (fun a b => Int.rec (motive := fun _ => Bool) (fun b => Nat.ble (Nat.succ a) b) (fun _ => false) b)
  (fun a b => Int.rec (motive:=fun _ => Bool) (fun _ => true) (fun b => Nat.ble (Nat.succ b) a) b) a b
def iEq (a b : Int) : Bool :=
 Int.rec (motive := fun _ => Int → Bool) (fun a b => Int.rec (motive := fun _ => Bool) (fun b => Nat.beq a b) (fun _ => false) b)
  (fun a b => Int.rec (motive:=fun _ => Bool) (fun _ => false) (fun b => Nat.beq a b) b) a b
def kTop (k : IntKind) : Nat:=IntKind.rec (motive:=fun _ => Nat) 127 32767 2147483647 9223372036854775807 255 65535 4294967295 18446744073709551615 k
def kSigned (k : IntKind) : Bool:=IntKind.rec (motive:=fun _ => Bool) true true true true false false false false k
def kNum (k : IntKind) : Nat:=IntKind.rec (motive:=fun _ => Nat) 0 1 2 3 4 5 6 7 k
def fwrap (k : IntKind) (n : Int) : Int :=
 Int.rec (motive := fun _ => IntKind → Int) (fun m k => Bool.rec (motive := fun _ => Int) (k.wrap (.ofNat m)) (.ofNat m) (Nat.ble m (kTop k)))
  (fun m k => Bool.rec (motive:=fun _ => Int) (k.wrap (.negSucc m)) (.negSucc m) (Bool.rec (motive:=fun _ => Bool) false (Nat.ble m (kTop k)) (kSigned k))) n k
def addF (a b : Int) : Int :=
 Int.rec (motive:=fun _ => Int → Int) (fun a b => Int.rec (motive:=fun _ => Int) (fun b => .ofNat (Nat.add a b)) (fun b => Int.add (.ofNat a) (.negSucc b)) b) (fun a b => Int.add (.negSucc a) b) a b
def subF (a b : Int) : Int :=
 Int.rec (motive:=fun _ => Int → Int) (fun a b => Int.rec (motive:=fun _ => Int) (fun b => Bool.rec (motive:=fun _ => Int) (Int.sub (.ofNat a) (.ofNat b)) (.ofNat (Nat.sub a b)) (Nat.ble b a)) (fun b => Int.sub (.ofNat a) (.negSucc b)) b) (fun a b => Int.sub (.negSucc a) b) a b
def kEq (a b : IntKind) : Bool:=Nat.beq (kNum a) (kNum b)
theorem addF_eq (a b : Int) : addF a b = a + b:=by cases a <;> cases b <;> rfl
theorem subF_eq (a b : Int) : subF a b = a - b:=by
 cases a <;> cases b <;> try rfl
 rename_i a b
 show (Bool.rec (motive:=fun _ => Int) (Int.sub (.ofNat a) (.ofNat b)) (.ofNat (Nat.sub a b)) (Nat.ble b a)) = _
 cases h : Nat.ble b a with
 | false => rfl
 | true =>
  have:=Nat.le_of_ble_eq_true h
  show Int.ofNat (a - b) = _
  show ((a - b : Nat) : Int) = (a : Int) - (b : Int)
  omega
def sLt : List UInt8 → List UInt8 → Bool
 | _, [] => false
 | [], _ :: _ => true
 | a :: x, b :: y => bif Nat.blt a.toNat b.toNat then true else bif Nat.beq a.toNat b.toNat then sLt x y else false
def getN {α : Type} : List α → Nat → Option α
 | [], _ => none
 | x :: _, 0 => some x
 | _ :: xs, n + 1 => getN xs n
def opAdd (k : IntKind) (x y : Int) : Option V:=some (.int k (fwrap k (addF x y)))
def opSub (k : IntKind) (x y : Int) : Option V:=some (.int k (fwrap k (subF x y)))
def opMul (k : IntKind) (x y : Int) : Option V:=some (.int k (fwrap k (x * y)))
def opQuo (k : IntKind) (x y : Int) : Option V:=bif iEq y 0 then none else some (.int k (fwrap k (x.tdiv y)))
def opRem (k : IntKind) (x y : Int) : Option V:=bif iEq y 0 then none else some (.int k (x.tmod y))
def opAnd (k : IntKind) (x y : Int) : Option V:=some (.int k (k.wrap (BitVec.ofInt k.bits x &&& BitVec.ofInt k.bits y).toNat))
def opOr (k : IntKind) (x y : Int) : Option V:=some (.int k (k.wrap (BitVec.ofInt k.bits x ||| BitVec.ofInt k.bits y).toNat))
def opXor (k : IntKind) (x y : Int) : Option V:=some (.int k (k.wrap (BitVec.ofInt k.bits x ^^^ BitVec.ofInt k.bits y).toNat))
def opAndNot (k : IntKind) (x y : Int) : Option V:=some (.int k (k.wrap (BitVec.ofInt k.bits x &&& ~~~ (BitVec.ofInt k.bits y)).toNat))
def opEql (_ : IntKind) (x y : Int) : Option V:=some (.bool (iEq x y))
def opNeq (_ : IntKind) (x y : Int) : Option V:=some (.bool (Bool.not (iEq x y)))
def opLss (_ : IntKind) (x y : Int) : Option V:=some (.bool (iLt x y))
def opLeq (_ : IntKind) (x y : Int) : Option V:=some (.bool (Bool.not (iLt y x)))
def opGtr (_ : IntKind) (x y : Int) : Option V:=some (.bool (iLt y x))
def opGeq (_ : IntKind) (x y : Int) : Option V:=some (.bool (Bool.not (iLt x y)))
def opNo (_ : IntKind) (_ _ : Int) : Option V:=none
def intOp (op : BinOp) (k : IntKind) (x y : Int) : Option V :=
 BinOp.rec (motive:=fun _ => IntKind → Int → Int → Option V) opAdd opSub opMul opQuo opRem opAnd opOr opXor opNo opNo opAndNot opEql opNeq opLss opLeq opGtr opGeq op k x y
def shOp (op : BinOp) (k : IntKind) (x y : Int) : Option V :=
 bif iLt y 0 then none else
  match op with
  | .shl => some (.int k (k.wrap (x * 2 ^ (min y.toNat k.bits))))
  | .shr => some (.int k (x.fdiv (2 ^ (min y.toNat k.bits))))
  | _ => none
def stAdd (x y : Bs) : Option V:=bif Nat.ble (x.n + y.n) 4611686018427387904 then some (.str (x.cat y)) else none
def stEql (x y : Bs) : Option V:=some (.bool (x.eq y))
def stNeq (x y : Bs) : Option V:=some (.bool (Bool.not (x.eq y)))
def stLss (x y : Bs) : Option V:=some (.bool (sLt x.l y.l))
def stLeq (x y : Bs) : Option V:=some (.bool (!sLt y.l x.l))
def stGtr (x y : Bs) : Option V:=some (.bool (sLt y.l x.l))
def stGeq (x y : Bs) : Option V:=some (.bool (!sLt x.l y.l))
def stNo (_ _ : Bs) : Option V:=none
def strOp (op : BinOp) (x y : Bs) : Option V :=
 BinOp.rec (motive:=fun _ => Bs → Bs → Option V) stAdd stNo stNo stNo stNo stNo stNo stNo stNo stNo stNo stEql stNeq stLss stLeq stGtr stGeq op x y
def eqD (d : TypeDesc) (x y : V) : Option Bool :=
 match d, x, y with
 | .bool, .bool a, .bool b => some (a == b)
 | .pointer _, .nilPtr, .nilPtr => some true
 | .pointer _, .nilPtr, .ptr _ _ => some false
 | .pointer _, .ptr _ _, .nilPtr => some false
 | .slice _, .nilSlice, .nilSlice => some true
 | .slice _, .nilSlice, .slice _ _ _ _ _ => some false
 | .slice _, .slice _ _ _ _ _, .nilSlice => some false
 | .map _ _, .nilMap, .nilMap => some true
 | .map _ _, .nilMap, .map _ => some false
 | .map _ _, .map _, .nilMap => some false
 | .func _ _ _, .nilFunc, .nilFunc => some true
 | .func _ _ _, .nilFunc, .func _ _ _ => some false
 | .func _ _ _, .func _ _ _, .nilFunc => some false
 | _, _, _ => none
def eqOp (op : BinOp) (b : Option Bool) : Option V :=
 match op, b with
 | .eql, some b => some (.bool b)
 | .neq, some b => some (.bool (!b))
 | _, _ => none
def eqAny (d : Option TypeDesc) (op : BinOp) (x y : V) : Option V :=
 match d with
 | some d => eqOp op (eqD d x y)
 | none => none
def shiftB : BinOp → Bool
 | .shl | .shr => true
 | _ => false
def binV (d : Option TypeDesc) (op : BinOp) (x y : V) : Option V :=
 match x with
 | .int k a => (match y with
  | .int k' b => bif shiftB op then shOp op k a b else bif kEq k k' then intOp op k a b else none
  | _ => none)
 | .str a => (match y with
  | .str b => strOp op a b
  | _ => none)
 | x => eqAny d op x y
def unV (op : UnOp) (x : V) : Option V :=
 match op, x with
 | .not, .bool b => some (.bool (!b))
 | .neg, .int k n => some (.int k (fwrap k (0 - n)))
 | _, _ => none
def oneCell : V → Bool
 | .agg _ | .tuple _ => false
 | _ => true
def allOne : List V → Bool
 | [] => true
 | v :: vs => oneCell v && allOne vs
structure Ctx where
 P : Program
section
variable (P : Program)
def sz (t : TypeId) : Option Nat := match P.info? t with
 | some i => some i.size
 | none => none
def zero (t : TypeId) : Option V := match P.info? t with
 | some i => match i.zero with
  | some v => absV v
  | none => none
 | none => none
def aggT (t : TypeId) : Option Bool := match P.underlying t with
 | some (.struct _) => some true
 | some (.array _ _) => some true
 | some _ => some false
 | none => none
def vcells : V → List V
 | .agg cs => cs
 | v => [v]
def loadV (h : Hp) (t : TypeId) (b o : Nat) : Option V :=
 match cellsT (h.t.get b) with
 | some c =>
  match aggT P t with
  | some true => match sz P t with
   | some n => match c.getL o n with
    | some l => some (.agg l)
    | none => none
   | none => none
  | some false => c.get o
  | none => none
 | _ => none
def storeO (h : Hp) (t : TypeId) (b o : Nat) (v : V) : Option Ob :=
 match h.t.get b with
 | some (.cells c n g e) =>
  match sz P t with
  | some s => bif Nat.beq (vcells v).length s && Nat.ble (o + s) n && allOne (vcells v) then some (.cells (c.setL o (vcells v)) n g e) else none
  | none => none
 | _ => none
def storeV (h : Hp) (t : TypeId) (b o : Nat) (v : V) : Option Hp :=
 match storeO P h t b o v with
 | some ob => some (h.put b ob)
 | none => none
def rep {α : Type} : Nat → List α → List α → List α
 | 0, _, acc => acc
 | n + 1, l, acc => rep n l (l ++ acc)
def splice : List V → Nat → List V → Option (List V)
 | cs, 0, [] => some cs
 | _ :: cs, 0, x :: xs => match splice cs 0 xs with
  | some r => some (x :: r)
  | none => none
 | [], 0, _ :: _ => none
 | c :: cs, n + 1, xs => match splice cs n xs with
  | some r => some (c :: r)
  | none => none
 | [], _ + 1, _ => none
def fillV (place : Nat → Option (Nat × Nat)) : List V → List (Nat × V) → Option (List V)
 | cs, [] => some cs
 | cs, (i, v) :: rest => match place i with
  | some (off, s) => bif Nat.beq (vcells v).length s then (match splice cs off (vcells v) with
   | some cs' => fillV place cs' rest
   | none => none) else none
  | none => none
def mapGet (k : V) : List (V × V) → Option (Option V)
 | [] => some none
 | (k', v) :: es => match k, k' with
  | .int a x, .int b y => bif kEq a b then (bif iEq x y then some (some v) else mapGet k es) else none
  | .str x, .str y => bif x.eq y then some (some v) else mapGet k es
  | .bool x, .bool y => bif x == y then some (some v) else mapGet k es
  | _, _ => none
def mapSet (k v : V) : List (V × V) → List (V × V)
 | [] => [(k, v)]
 | (k', u) :: es => match k, k' with
  | .int _ x, .int _ y => bif iEq x y then (k, v) :: es else (k', u) :: mapSet k v es
  | .str x, .str y => bif x.eq y then (k, v) :: es else (k', u) :: mapSet k v es
  | .bool x, .bool y => bif x == y then (k, v) :: es else (k', u) :: mapSet k v es
  | _, _ => (k', u) :: mapSet k v es
def keyOk (d : Option TypeDesc) (k : V) : Bool :=
 match d, k with
 | some (.int _), .int _ _ => true
 | some .string, .str _ => true
 | some .bool, .bool _ => true
 | _, _ => false
section ops
variable [Orc] (t : Tr V)
def evalO : Operand → Option V
 | .tmp i => t.get i
 | .const v => absV v
 | .global g => bif Nat.blt g Orc.ng then some (.ptr g 0) else none
 | .func f => some (.func f [] [])
def evalL : List Operand → Option (List V)
 | [] => some []
 | x :: xs => match evalO t x with
  | none => none
  | some v => match evalL xs with
   | none => none
   | some l => some (v :: l)
def evalP : List (Nat × Operand) → Option (List (Nat × V))
 | [] => some []
 | (i, x) :: xs => match evalO t x with
  | none => none
  | some v => match evalP xs with
   | none => none
   | some l => some ((i, v) :: l)
end ops
def roomB (n : Nat) : Bool:=Nat.ble n 1073741824
def newCells (h : Hp) (size : Nat) : V → Option (Nat × List V)
 | .slice b o n _ _ => (match cellsT (h.t.get b) with
  | some c => (match c.getL o (n * size) with
   | some l => some (n, l)
   | none => none)
  | none => none)
 | .nilSlice => some (0, [])
 | .str s => bif Nat.beq size 1 then some (s.n, s.l.map fun b => V.int .u8 (Int.ofNat b.toNat)) else none
 | _ => none
def appNil (h : Hp) (elem bytes n : Nat) (new : List V) : Option (V × Hp) :=
 bif Nat.beq n 0 then some (.nilSlice, h)
 else bif roomB (n * bytes) && roomB n then some (.slice h.n 0 n 0 true, h.newRow elem new true) else none
def appIn (h : Hp) (b len cap n size : Nat) (g gr : Bool) (e m : Nat) (c : Tr V) (new : List V) : Option (V × Hp) :=
 some (.slice b 0 (len + n) cap g, bif Nat.beq n 0 then h else h.put b (.cells (c.setL (len * size) new) m gr e))
def appGrow (h : Hp) (b len n cap size e : Nat) (c : Tr V) (new : List V) : Option (V × Hp) :=
 some (.slice h.n 0 (len + n) cap true, (h.put b .dead).new (.cells (c.setL (len * size) new) ((len + n) * size) true e))
def appNew (h : Hp) (len n size elem : Nat) (c : Tr V) (new : List V) : Option (V × Hp) :=
 match c.getL 0 (len * size) with
 | some old => some (.slice h.n 0 (len + n) 0 true, h.newRow elem (old ++ new) true)
 | none => none
def appSl (h : Hp) (elem bytes size b o len cap : Nat) (g : Bool) (n : Nat) (new : List V) : Option (V × Hp) :=
 match h.t.get b with
 | some (.cells c m gr e) =>
  bif roomB ((len + n) * bytes) && roomB (len + n) && Nat.beq o 0 && Nat.beq e elem && !Nat.beq size 0 && (!g || (gr && Nat.beq cap 0 && Nat.ble (len * size) m)) then
   (bif Nat.ble ((len + n) * size) m && (g || Nat.ble (len + n) cap) then appIn h b len cap n size g gr e m c new
   else bif g then appGrow h b len n cap size e c new
   else bif Nat.blt cap (len + n) then appNew h len n size elem c new else none)
  else none
 | _ => none
def appGo (h : Hp) (elem bytes size : Nat) (s : V) : Option (Nat × List V) → Option (V × Hp)
 | none => none
 | some (n, new) => bif allOne new then (match s with
  | .nilSlice => appNil h elem bytes n new
  | .slice b o len cap g => appSl h elem bytes size b o len cap g n new
  | _ => none) else none
def appendV (h : Hp) (elem : TypeId) (s x : V) : Option (V × Hp) :=
 match P.info? elem with
 | none => none
 | some info => match zero P elem with
  | some z => bif Nat.beq (vcells z).length info.size then appGo h elem info.bytes info.size s (newCells h info.size x) else none
  | none => none
def mulz (z : List V) (n : Nat) : List V:=rep n z []
abbrev VH:=Option (V × Hp)
def vh (h : Hp) : Option V → VH
 | some v => some (v, h)
 | none => none
def unitV : V:=.tuple []
section
variable [Orc]
def exPick (t : Tr V) (h : Hp) (c a b : Operand) : VH :=
 match evalO t c with
 | some (.bool true) => vh h (evalO t a)
 | some (.bool false) => vh h (evalO t b)
 | _ => none
def exAlloc (h : Hp) (e : TypeId) : VH := match zero P e with
 | some z => some (.ptr h.n 0, h.newRow e (vcells z) false)
 | none => none
def exBox (h : Hp) (e : TypeId) : Option V → VH
 | some v => some (.ptr h.n 0, h.newRow e (vcells v) false)
 | none => none
def placesL : List Field → Option (List (Nat × Nat))
 | [] => some []
 | f :: fs => match sz P f.type with
  | none => none
  | some s => match placesL fs with
   | none => none
   | some l => some ((f.offset, s) :: l)
def bldStruct (h : Hp) (ps : List (Nat × V)) (z : V) : Option (List (Nat × Nat)) → VH
 | some pl => (match fillV (getN pl) (vcells z) ps with
  | some cs => some (.agg cs, h)
  | none => none)
 | none => none
def bldArr (h : Hp) (ps : List (Nat × V)) (z : V) (s : Nat) : VH :=
 match fillV (fun i => some (i * s, s)) (vcells z) ps with
 | some cs => some (.agg cs, h)
 | none => none
def bld (h : Hp) (ps : List (Nat × V)) (z : V) : TypeDesc → VH
 | .struct fields => bldStruct h ps z (placesL P fields.toList)
 | .array _ elem => match sz P elem with
  | some s => bldArr h ps z s
  | none => none
 | _ => none
def exBuild (t : Tr V) (h : Hp) (ty : TypeId) (parts : List (Nat × Operand)) : VH :=
 match evalP t parts with
 | none => none
 | some ps => match zero P ty with
  | none => none
  | some z => match P.underlying ty with
   | none => none
   | some d => bld P h ps z d
def bldSl (h : Hp) (ps : List (Nat × V)) (elem : TypeId) (len s : Nat) (z : V) : VH :=
 bif Nat.ble (len * s) 65536 && Nat.beq (vcells z).length s then
  (match fillV (fun i => some (i * s, s)) (mulz (vcells z) len) ps with
  | some cs => some (.slice h.n 0 len len false, h.newRow elem cs false)
  | none => none) else none
def exBuildSlice (t : Tr V) (h : Hp) (ty : TypeId) (len : Nat) (parts : List (Nat × Operand)) : VH :=
 match evalP t parts with
 | none => none
 | some ps => match P.underlying ty with
  | some (.slice elem) => (match sz P elem with
   | none => none
   | some s => match zero P elem with
    | none => none
    | some z => bldSl h ps elem len s z)
  | _ => none
def exLoad (h : Hp) (ty : TypeId) : Option V → VH
 | some (.ptr b off) => vh h (loadV P h ty b off)
 | _ => none
def exStore (h : Hp) (ty : TypeId) (a x : Option V) : VH :=
 match a with
 | some (.ptr b off) => (match x with
  | some v => (match storeV P h ty b off v with
   | some h' => some (unitV, h')
   | none => none)
  | none => none)
 | _ => none
def exNil (h : Hp) : Option V → VH
 | some (.ptr b off) => some (.ptr b off, h)
 | some (.func f a c) => some (.func f a c, h)
 | some (.iface ty v) => some (.iface ty v, h)
 | _ => none
def exBin (h : Hp) (d : Option TypeDesc) (op : BinOp) (x y : Option V) : VH :=
 match x with
 | some a => (match y with
  | some b => vh h (binV d op a b)
  | none => none)
 | none => none
def exUn (h : Hp) (op : UnOp) : Option V → VH
 | some a => vh h (unV op a)
 | none => none
def exConv (h : Hp) (src dst : TypeId) : Option V → VH
 | some (.int _ n) => (match P.underlying src with
  | some _ => (match P.underlying dst with
   | some (.int k) => some (.int k (fwrap k n), h)
   | _ => none)
  | none => none)
 | some (.str s) => (match P.underlying src with
  | some .string => (match P.underlying dst with
   | some .string => some (.str s, h)
   | _ => none)
  | _ => none)
 | _ => none
def exIface (h : Hp) (ty : TypeId) : Option V → VH
 | some v => (match P.underlying ty with
  | some (.interface _) => none
  | some _ => some (.iface ty v, h)
  | none => none)
 | none => none
def exFunc (t : Tr V) (h : Hp) (fn : Fn) (first cap : List Operand) : VH :=
 match fn with
 | .func f => (match evalL t first with
  | some a => (match evalL t cap with
   | some c => some (.func f a c, h)
   | none => none)
  | none => none)
 | _ => none
def mkSl (h : Hp) (elem bytes size : Nat) (z : V) (l c : Nat) : VH :=
 bif Nat.ble l c && roomB c && roomB (c * bytes) && Nat.beq (vcells z).length size then some (.slice h.n 0 l c false, h.newRow elem (mulz (vcells z) c) false) else none
def exMakeSlice (h : Hp) (ty : TypeId) (l c : Nat) : VH :=
 match P.underlying ty with
 | some (.slice elem) => (match P.info? elem with
  | some info => (match zero P elem with
   | some z => mkSl h elem info.bytes info.size z l c
   | none => none)
  | none => none)
 | _ => none
def natV : Option V → Option Nat
 | some (.int .i64 (.ofNat n)) => some n
 | _ => none
def natA : Option V → Option Nat
 | some (.int _ (.ofNat n)) => some n
 | _ => none
def exMake (h : Hp) (ty : TypeId) (l c : Option V) : VH :=
 match natV l with
 | some l => (match natV c with
  | some c => exMakeSlice P h ty l c
  | none => none)
 | none => none
def bound (t : Tr V) (d : Nat) : Option Operand → Option Nat
 | none => some d
 | some y => natA (evalO t y)
def slStr (h : Hp) (s : Bs) (l r : Nat) : VH :=
 bif Nat.ble l r && Nat.ble r s.n then some (.str (s.cut l r), h) else none
def slS (h : Hp) (elem s b off cap : Nat) (g : Bool) (l r : Nat) : VH :=
 bif Nat.ble l r then
  (bif g then (match h.t.get b with
    | some (.cells _ m gr e) =>
     (bif Nat.ble (off + r * s) m && (Nat.beq l 0 || Nat.blt l r) && !Nat.beq s 0 && gr && Nat.beq e elem && Nat.beq off (cap * s) then some (.slice b (off + l * s) (r - l) (cap + l) true, h)
     else bif Nat.ble (off + r * s) m && (Nat.beq l r && !Nat.beq l 0) && !Nat.beq s 0 && gr && Nat.beq e elem && Nat.beq off (cap * s) then some (.slice b 0 0 l true, h) else none)
    | _ => none)
  else bif Nat.ble r cap then some (.slice b (bif Nat.beq l cap then off else off + l * s) (r - l) (cap - l) false, h) else none)
 else none
def slSl (h : Hp) (elem : TypeId) (b off cap : Nat) (g : Bool) (l r : Nat) : VH :=
 match sz P elem with
 | none => none
 | some s => slS h elem s b off cap g l r
def exSlice (t : Tr V) (h : Hp) (ty : TypeId) (x : Option V) (lo hi : Option Operand) : VH :=
 match x with
 | some (.str s) => (match P.underlying ty with
  | some .string => (match bound t 0 lo with
   | some l => (match bound t s.n hi with
    | some r => slStr h s l r
    | none => none)
   | none => none)
  | _ => none)
 | some (.slice b off len cap g) => (match P.underlying ty with
  | some (.slice elem) => (match bound t 0 lo with
   | some l => (match bound t len hi with
    | some r => slSl P h elem b off cap g l r
    | none => none)
   | none => none)
  | _ => none)
 | some .nilSlice => (match P.underlying ty with
  | some (.slice elem) => (match sz P elem with
   | some _ => (match bound t 0 lo with
    | some 0 => (match bound t 0 hi with
     | some 0 => some (.nilSlice, h)
     | _ => none)
    | _ => none)
   | none => none)
  | _ => none)
 | _ => none
def exFieldAddr (h : Hp) (ty : TypeId) (f : Nat) : Option V → VH
 | some (.ptr b off) => (match P.underlying ty with
  | some (.struct fields) => (match fields[f]? with
   | some fl => (match sz P fl.type with
    | some s => bif Nat.beq s 0 then none else some (.ptr b (off + fl.offset), h)
    | none => none)
   | none => none)
  | _ => none)
 | _ => none
def partV (cs : List V) (t : TypeId) (off : Nat) : Option V :=
 match aggT P t with
 | some true => (match sz P t with
  | some s => some (.agg ((cs.drop off).take s))
  | none => none)
 | some false => getN cs off
 | none => none
def exField (h : Hp) (ty : TypeId) (f : Nat) : Option V → VH
 | some (.agg cs) => (match P.underlying ty with
  | some (.struct fields) => (match fields[f]? with
   | some fl => vh h (partV P cs fl.type fl.offset)
   | none => none)
  | _ => none)
 | _ => none
def exIndexAddr (h : Hp) (ty : TypeId) (x : Option V) (ix : Option Nat) : VH :=
 match ix with
 | none => none
 | some i => match x with
  | some (.slice b off len _ _) => (match P.underlying ty with
   | some (.slice elem) => (match sz P elem with
    | some s => bif Nat.blt i len then some (.ptr b (off + i * s), h) else none
    | none => none)
   | _ => none)
  | some (.ptr b off) => (match P.underlying ty with
   | some (.array len elem) => (match sz P elem with
    | some s => bif Nat.blt i len then some (.ptr b (off + i * s), h) else none
    | none => none)
   | _ => none)
  | _ => none
def exIndex (h : Hp) (ty : TypeId) (x : Option V) (ix : Option Nat) : VH :=
 match ix with
 | none => none
 | some i => match x with
  | some (.str s) => (match P.underlying ty with
   | some .string => (match s.get i with
    | some b => some (.int .u8 (Int.ofNat b), h)
    | none => none)
   | _ => none)
  | some (.agg cs) => (match P.underlying ty with
   | some (.array len elem) => (match sz P elem with
    | some s => bif Nat.blt i len then vh h (partV P cs elem (i * s)) else none
    | none => none)
   | _ => none)
  | _ => none
def mapOf (h : Hp) : Option V → Option (List (V × V))
 | some .nilMap => some []
 | some (.map b) => (match h.t.get b with
  | some (.map es) => some es
  | _ => none)
 | _ => none
def lookZ (h : Hp) (z : Option V) (ok : Bool) : Option (Option V) → VH
 | some (some v) => some (bif ok then .tuple [v, .bool true] else v, h)
 | some none => (match z with
  | some z => some (bif ok then .tuple [z, .bool false] else z, h)
  | none => none)
 | none => none
def lookIn (h : Hp) (elem : TypeId) (ok : Bool) (r : Option (Option V)) : VH:=lookZ h (zero P elem) ok r
def exLookup (h : Hp) (ty : TypeId) (ok : Bool) (x k : Option V) : VH :=
 match P.underlying ty with
 | some (.map key elem) => (match k with
  | some k => bif keyOk (P.underlying key) k then
   (match mapOf h x with
   | some es => lookIn P h elem ok (mapGet k es)
   | none => none) else none
  | none => none)
 | _ => none
def mapPut (h : Hp) (b : Nat) (k v : V) : VH :=
 match h.t.get b with
 | some (.map es) => (match mapGet k es with
  | some _ => some (unitV, h.put b (.map (mapSet k v es)))
  | none => none)
 | _ => none
def exMapUpdate (h : Hp) (ty : TypeId) (m k x : Option V) : VH :=
 match P.underlying ty with
 | some (.map key _) => (match m with
  | some (.map b) => (match k with
   | some k => bif keyOk (P.underlying key) k then
    (match x with
    | some v => mapPut h b k v
    | none => none) else none
   | none => none)
  | _ => none)
 | _ => none
def exExtract (h : Hp) (i : Nat) : Option V → VH
 | some (.tuple vs) => vh h (getN vs i)
 | _ => none
def lenV (h : Hp) (d : TypeDesc) (x : V) : Option Nat :=
 match d, x with
 | .string, .str s => some s.n
 | .array n _, _ => some n
 | .slice _, .slice _ _ n _ _ => some n
 | .slice _, .nilSlice => some 0
 | .map _ _, .nilMap => some 0
 | .map _ _, .map r => (match h.t.get r with
  | some (.map es) => some es.length
  | _ => none)
 | _, _ => none
def exLen (h : Hp) (args : Option (List V)) (tys : List TypeId) : VH :=
 match args with
 | some (x :: _) => (match tys with
  | ty :: _ => (match P.underlying ty with
   | some d => (match lenV h d x with
    | some n => some (.int .i64 (Int.ofNat n), h)
    | none => none)
   | none => none)
  | [] => none)
 | _ => none
def exAppend (h : Hp) (args : Option (List V)) (tys : List TypeId) : VH :=
 match args with
 | some [s, x] => (match tys with
  | ty :: ty2 :: _ => (match P.underlying ty with
   | some (.slice elem) => (match P.underlying ty2 with
    | some (.slice _) => appendV P h elem s x
    | some .string => appendV P h elem s x
    | _ => none)
   | _ => none)
  | _ => none)
 | _ => none
def exBuiltin (t : Tr V) (h : Hp) (b : Builtin) (args : List Operand) (tys : List TypeId) : VH :=
 match b with
 | .len => exLen P h (evalL t args) tys
 | .append => exAppend P h (evalL t args) tys
 | _ => none
def exCall (t : Tr V) (h : Hp) (c : Call) : VH :=
 match c.callee with
 | .builtin b => exBuiltin P t h b c.args.toList c.argTypes.toList
 | _ => none
def execC (t : Tr V) (h : Hp) (o : Op) : VH :=
 match o with
 | .move x => vh h (evalO t x)
 | .assign x => vh h (evalO t x)
 | .pick c a b => exPick t h c a b
 | .alloc e => exAlloc P h e
 | .box e x => exBox h e (evalO t x)
 | .build ty parts => exBuild P t h ty parts.toList
 | .buildSlice ty len parts => exBuildSlice P t h ty len parts.toList
 | .load ty a => exLoad P h ty (evalO t a)
 | .store ty a x => exStore P h ty (evalO t a) (evalO t x)
 | .nilCheck x => exNil h (evalO t x)
 | .binOp op ty x y _ => exBin h (P.underlying ty) op (evalO t x) (evalO t y)
 | .unOp op _ x => exUn h op (evalO t x)
 | .convert src dst x => exConv P h src dst (evalO t x)
 | .makeInterface ty x => exIface P h ty (evalO t x)
 | .makeFunc fn first cap => exFunc t h fn first.toList cap.toList
 | .makeMap _ none => some (.map h.n, h.new (.map []))
 | .makeSlice ty l c => exMake P h ty (evalO t l) (evalO t c)
 | .slice ty x lo hi none => exSlice P t h ty (evalO t x) lo hi
 | .fieldAddr ty x f => exFieldAddr P h ty f (evalO t x)
 | .field ty x f => exField P h ty f (evalO t x)
 | .indexAddr ty x ix => exIndexAddr P h ty (evalO t x) (natA (evalO t ix))
 | .index ty x ix => exIndex P h ty (evalO t x) (natA (evalO t ix))
 | .lookup ty x ix ok => exLookup P h ty ok (evalO t x) (evalO t ix)
 | .mapUpdate ty m k x => exMapUpdate P h ty (evalO t m) (evalO t k) (evalO t x)
 | .extract x i => exExtract h i (evalO t x)
 | .call c => exCall P t h c
 | _ => none
def callOp : Op → Bool
 | .call { callee:=.value _, .. } => true
 | _ => false
def ownOp : Op → Bool
 | .store .. => true
 | .defer .. => true
 | o => callOp o
def xk (o : Op) : Nat:=bif ownOp o then 0 else Orc.kd o
def execX (t : Tr V) (h : Hp) (o : Op) : VH :=
 match evalL t o.operands.toList with
 | some as => Orc.op o as h
 | none => none
def execV (t : Tr V) (h : Hp) (o : Op) : VH :=
 match xk o with
 | 0 => execC P t h o
 | _ + 1 => execX t h o
def calleeV (t : Tr V) (o : Oper) : Option (FuncId × List V) :=
 match o.op with
 | .call { callee := .value f, args := ⟨args⟩, .. } => match evalO t f, evalL t args with
  | some (.func g first cap), some as => some (g, first ++ as ++ cap)
  | _, _ => none
 | _ => none
def isCall (o : Oper) : Bool:=callOp o.op
def makesC (o : Op) : Bool :=
 match o with
 | .move _ | .assign _ | .pick .. | .build .. | .load .. | .nilCheck _ | .binOp .. | .unOp .. | .convert .. | .makeInterface .. | .makeFunc .. | .slice .. | .fieldAddr .. | .field ..
 | .indexAddr .. | .index .. | .lookup .. | .extract .. => false
 | .call { callee:=.builtin .len, .. } => false
 | _ => true
def makes (o : Oper) : Bool :=
 match xk o.op with
 | 0 => makesC o.op
 | 1 => false
 | 2 => false
 | _ + 3 => true
inductive Ex where
 | normal | exit (id : Nat) | ret
inductive Out where
 | ok (e : Ex) (t : Tr V) (h : Hp)
 | no
inductive Tk where
 | code (c : Code)
 | ops (all : Array Oper) (l : List Oper)
def wantO (all : Array Oper) (t : Tr V) (o : Oper) : Option Bool :=
 match o.guard with
 | none => some true
 | some (j, want) => match all[j]? with
  | some o' => match o'.dst with
   | some d => match t.get d with
    | some (.bool b) => some (bif want then b else !b)
    | some (.tuple []) => some false
    | _ => none
   | none => none
  | none => none
def putO (t : Tr V) (d : Option Tmp) (v : V) : Tr V :=
 match d with
 | some d => t.set d v
 | none => t
def undefV : V:=.tuple []
def resOne (h : Hp) (t : Tr V) : ResultVar → Option V
 | .tmp i => t.get i
 | .cell a ty => (match t.get a with
  | some (.ptr b off) => loadV P h ty b off
  | _ => none)
def resV (h : Hp) (t : Tr V) : List ResultVar → Option (List V)
 | [] => some []
 | r :: rs => match resOne P h t r with
  | none => none
  | some v => match resV h t rs with
   | none => none
   | some l => some (v :: l)
def one : List V → V
 | [v] => v
 | l => .tuple l
def maskOf (ms : Tr Nat) : List Edge → Nat
 | [] => 0
 | e :: es => bif Region.binds .any e then Nat.lor (Nat.lor (2 ^ e.on) (match ms.get e.on with
  | some m => m
  | none => 0)) (maskOf ms es) else maskOf ms es
def masksF : List Oper → Nat → Tr Nat → Tr Nat
 | [], _, ms => ms
 | o :: l, i, ms => masksF l (i + 1) (ms.set i (maskOf ms o.after.toList))
def masks (ops : Array Oper) : Tr Nat:=masksF ops.toList 0 .nil
def anc (ms : Tr Nat) (i j : Nat) : Bool := match ms.get i with
 | some m => Nat.testBit m j
 | none => false
def behind (ms : Tr Nat) (i : Nat) : Bool:=(List.range i).all (anc ms i)
def tailFrom (ms : Tr Nat) : List Oper → Nat → Nat → Nat
 | [], _, last => last
 | _ :: l, i, last => tailFrom ms l (i + 1) (bif behind ms i then last else i + 1)
def headLen (ops : Array Oper) : Nat:=tailFrom (masks ops) ops.toList 0 0
def maxNeed (need : Tr Nat) : List Edge → Nat
 | [] => 0
 | e :: es => bif Region.binds .any e then (match need.get e.on with
  | some n => Nat.max n (maxNeed need es)
  | none => maxNeed need es) else maxNeed need es
def big : Nat:=1000000000000
abbrev Rn:=Tk → Tr V → Hp → Out
def thenCode (r : Rn) (b : Code) : Out → Out
 | .ok .normal t h => r (.code b) t h
 | x => x
def inBlk (id : Nat) : Out → Out
 | .ok (.exit j) t h => bif Nat.beq j id then .ok .normal t h else .ok (.exit j) t h
 | x => x
def ifCode (r : Rn) (a b : Code) (t : Tr V) (h : Hp) : Option V → Out
 | some (.bool true) => r (.code a) t h
 | some (.bool false) => r (.code b) t h
 | _ => .no
def backV (rs : List ResultVar) : Out → VH
 | .ok (.exit _) _ _ => none
 | .ok _ t h => (match resV P h t rs with
  | some vs => some (one vs, h)
  | none => none)
 | .no => none
def dstOk (n : Nat) : List Oper → Bool
 | [] => true
 | o :: l => (match o.dst with
  | some d => Nat.blt d n
  | none => true) && dstOk n l
def noRng : Code → Bool
 | .seq a b => noRng a && noRng b
 | .cond _ a b => noRng a && noRng b
 | .block _ c => noRng c
 | .loop c => noRng c
 | .scope c => noRng c
 | .rangeFunc _ _ _ _ => false
 | _ => true
def okCode (n : Nat) : Code → Bool
 | .region _ ops _ => dstOk n ops.toList
 | .seq a b => okCode n a && okCode n b
 | .cond _ a b => okCode n a && okCode n b
 | .block _ c => okCode n c
 | .loop c => okCode n c
 | .rangeFunc _ ps a b => (noRng a && noRng b) && ((okCode n a && okCode n b) && ps.toList.all fun p => Nat.blt p n)
 | .scope c => okCode n c
 | _ => true
def bodyV (r : Rn) (h : Hp) (as : List V) (fn : Func) : VH :=
 match fn.body with
 | some c => bif Nat.ble as.length fn.ntmps && okCode fn.ntmps c then backV P fn.results.toList (r (.code c) (Tr.nil.setL 0 as) h) else none
 | none => none
def enterB (r : Rn) (h : Hp) (f : FuncId) (as : List V) : VH := match P.funcs[f]? with
 | some fn => bodyV P r h as fn
 | none => none
def enterO (r : Rn) (h : Hp) (f : FuncId) (as : List V) : VH → VH
 | some p => some p
 | none => enterB P r h f as
def enterV (r : Rn) (h : Hp) : Option (FuncId × List V) → VH
 | some (f, as) => enterO P r h f as (Orc.fn f as h)
 | none => none
def opV (r : Rn) (t : Tr V) (h : Hp) (o : Oper) : VH :=
 bif isCall o then enterV P r h (calleeV t o) else execV P t h o.op
def goOps (r : Rn) (all : Array Oper) (l : List Oper) (t : Tr V) (d : Option Tmp) : VH → Out
 | some (v, h) => r (.ops all l) (putO t d v) h
 | none => .no
def stepOps (r : Rn) (all : Array Oper) (o : Oper) (l : List Oper) (t : Tr V) (h : Hp) : Option Bool → Out
 | some true => goOps r all l t o.dst (opV P r t h o)
 | some false => r (.ops all l) (putO t o.dst undefV) h
 | none => .no
def oblivC : Op → Bool
 | .move _ | .assign _ | .pick .. | .build .. | .nilCheck _ | .binOp .. | .unOp .. | .convert .. | .makeInterface .. | .makeFunc .. | .fieldAddr .. | .field .. | .indexAddr .. | .index .. | .extract ..
 | .alloc _ | .box .. | .buildSlice .. | .makeSlice .. | .makeMap .. => true
 | _ => false
def obliv (o : Op) : Bool :=
 match xk o with
 | 0 => oblivC o
 | 1 => true
 | _ + 2 => false
structure Hd where
 c : Nat
 hs : Tr Hp
 need : Tr Nat
 t : Tr V
 st : List (Nat × Ob)
 nob : List (Nat × V)
def stores : List (Nat × Ob) → Hp → Hp
 | [], h => h
 | (b, ob) :: l, h => stores l (h.put b ob)
def hdSkip (s : Hd) (o : Oper) (i m : Nat) : Hd:=⟨s.c, s.hs, s.need.set i m, putO s.t o.dst undefV, s.st, s.nob⟩
def ldC (t : Tr V) (o : Op) (v : V) : V :=
 match o with
 | .load _ a => (match evalO t a with
  | some x => .tuple [x, v]
  | none => undefV)
 | _ => undefV
def ldV (t : Tr V) (o : Op) (v : V) : V :=
 match xk o with
 | 0 => ldC t o v
 | _ + 1 => undefV
def offP (v : V) (b : Nat) : Bool :=
 match v with
 | .ptr b' _ => !(Nat.beq b' b)
 | _ => false
def blkV (v : V) : Option Nat :=
 match v with
 | .ptr b _ => some b
 | .slice b _ _ _ _ => some b
 | _ => none
def blkN (v : V) : Nat :=
 match v with
 | .ptr b _ => b
 | .slice b _ _ _ _ => b
 | _ => 0
def offB (v : V) (b : Nat) : Bool :=
 match blkV v with
 | some b' => !(Nat.beq b' b)
 | none => false
def okV (b : Nat) (x : V) : Bool :=
 match x with
 | .bool p => p
 | .tuple [a, _] => offP a b
 | .agg (a :: _) => offB a b
 | _ => false
def markV (x : V) : Bool :=
 match x with
 | .bool _ => true
 | _ => false
def freeV (x : V) : Bool :=
 match x with
 | .bool p => p
 | _ => true
def vEq0 (a b : V) : Bool :=
 match a, b with
 | .bool x, .bool y => x == y
 | .int k x, .int k' y => kEq k k' && iEq x y
 | .str x, .str y => Nat.beq x.n y.n && Nat.beq x.b y.b
 | .ptr b o, .ptr b' o' => Nat.beq b b' && Nat.beq o o'
 | .nilPtr, .nilPtr => true
 | .slice b o n c g, .slice b' o' n' c' g' => Nat.beq b b' && Nat.beq o o' && Nat.beq n n' && Nat.beq c c' && (g == g')
 | .nilSlice, .nilSlice => true
 | .map b, .map b' => Nat.beq b b'
 | .nilMap, .nilMap => true
 | .nilFunc, .nilFunc => true
 | .nilIface, .nilIface => true
 | _, _ => false
def vEq (a b : V) : Bool :=
 match a, b with
 | .iface t x, .iface t' y => Nat.beq t t' && vEq0 x y
 | a, b => vEq0 a b
def vEqL : List V → List V → Bool
 | [], [] => true
 | a :: x, b :: y => vEq a b && vEqL x y
 | _, _ => false
def vEqO (x y : Option (List V)) : Bool :=
 match x, y with
 | some l, some m => vEqL l m
 | _, _ => false
def sameA (h h' : Hp) (a : V) (n : Nat) : Bool :=
 match a with
 | .ptr b off => (match cellsT (h.t.get b), cellsT (h'.t.get b) with
  | some c, some c' => !(Nat.beq n 0) && vEqO (c.getL off n) (c'.getL off n)
  | _, _ => false)
 | _ => false
def vIs (a b : Option V) : Bool :=
 match a, b with
 | none, none => true
 | some x, some y => vEq x y
 | _, _ => false
def trIs : Tr V → Tr V → Bool
 | .nil, .nil => true
 | .node v a b c d, .node v' a' b' c' d' => vIs v v' && ((trIs a a' && trIs b b') && (trIs c c' && trIs d d'))
 | _, _ => false
def isRow (o : Option Ob) (e : Nat) (cs : List V) : Bool :=
 match o with
 | some (.cells t n g e') => Nat.beq n cs.length && (!g && (Nat.beq e' e && trIs t (Tr.nil.setL 0 cs)))
 | _ => false
def fent (p : V) (e : Nat) (cs : List V) : V:=.agg [p, .int .i64 (.ofNat e), .agg cs]
def floOk (h' : Hp) (p : V) (e : Nat) (cs : List V) : Bool :=
 match blkV p with
 | some b => Nat.blt b h'.low || isRow (h'.t.get b) e cs
 | none => false
def sameLd (h h' : Hp) (x : V) : Bool :=
 match x with
 | .tuple [a, v] => sameA h h' a (vcells v).length
 | .agg [p, .int .i64 (.ofNat e), .agg cs] => floOk h' p e cs
 | _ => false
def floOf : List (Nat × V) → Nat → Option (List V)
 | [], _ => none
 | (j, x) :: l, i => match x with
  | .agg m => bif Nat.beq j i then some m else floOf l i
  | _ => floOf l i
def writes (u : Tmp) : List Oper → Bool
 | [] => false
 | o :: l => (match o.dst with
  | some d => Nat.beq d u
  | none => false) || writes u l
def moveOf (u : Tmp) : List Oper → Option Operand
 | [] => none
 | o :: l => match o.dst, o.op, o.guard with
  | some d, .move x, none => bif Nat.beq d u then some x else moveOf u l
  | _, _, _ => moveOf u l
def early (l : List Oper) : Nat → Operand → Option Operand
 | 0, _ => none
 | n + 1, x => match x with
  | .tmp u => bif writes u l then (match moveOf u l with
   | some y => early l n y
   | none => none) else some (.tmp u)
  | .const v => some (.const v)
  | _ => none
def loadOf (u : Tmp) : List Oper → Option (TypeId × Operand)
 | [] => none
 | o :: l => match o.dst, o.op, o.guard with
  | some d, .load ty a, none => bif Nat.beq d u then some (ty, a) else loadOf u l
  | _, _, _ => loadOf u l
inductive Pd where
 | op (x : Operand)
 | ld (ty : TypeId) (a : Operand)
def earlyX (l : List Oper) (x : Operand) : Option Pd :=
 match early l 4 x with
 | some y => some (.op y)
 | none => match x with
  | .tmp u => (match loadOf u l with
   | some (ty, a) => (match early l 4 a with
    | some y => some (.ld ty y)
    | none => none)
   | none => none)
  | _ => none
def earlyP (l : List Oper) : List (Nat × Operand) → Nat → Option (List Pd)
 | [], _ => some []
 | (i, x) :: ps, k => bif Nat.beq i k then (match earlyX l x with
  | some y => (match earlyP l ps (k + 1) with
   | some ys => some (y :: ys)
   | none => none)
  | none => none) else none
def ldPd (h : Hp) (ty : TypeId) : Option V → Option V
 | some (.ptr b o) => loadV P h ty b o
 | _ => none
def evalPd (t : Tr V) (h : Hp) : Pd → Option V
 | .op x => evalO t x
 | .ld ty a => ldPd P h ty (evalO t a)
def evalPds (t : Tr V) (h : Hp) : List Pd → Option (List V)
 | [] => some []
 | x :: xs => match evalPd P t h x with
  | none => none
  | some v => match evalPds t h xs with
   | none => none
   | some l => some (v :: l)
def loose (ms : Tr Nat) (i : Nat) : List Oper → Nat → Bool
 | [], _ => false
 | o :: l, j => ((match o.op with
  | .alloc _ => false
  | .store .. => false
  | _ => makes o && !(Nat.beq i j || (anc ms i j || anc ms j i))) || loose ms i l (j + 1))
def floS (ms : Tr Nat) (l : List Oper) (i : Nat) (o : Oper) : Option (TypeId × Nat × List Pd) :=
 match o.op, o.guard with
 | .buildSlice ty len parts, none => bif obliv o.op && loose ms i l 0 then (match P.underlying ty with
  | some (.slice e) => (match earlyP l parts.toList 0 with
   | some ys => bif Nat.beq ys.length len then some (e, len, ys) else none
   | none => none)
  | _ => none) else none
 | _, _ => none
def flat : List V → List V
 | [] => []
 | v :: vs => vcells v ++ flat vs
def consF (x : Nat × V) : Option (Hp × List (Nat × V)) → Option (Hp × List (Nat × V))
 | some (h, l) => some (h, x :: l)
 | none => none
def flo0 (ms : Tr Nat) (all : List Oper) (t : Tr V) : List Oper → Nat → Hp → Option (Hp × List (Nat × V))
 | [], _, h => some (h, [])
 | o :: l, i, h => match (match o.op, o.guard with
  | .alloc ty, none => bif obliv o.op then (match zero P ty with
   | some z => some (ty, vcells z)
   | none => none) else none
  | _, _ => none) with
  | some (ty, cs) => consF (i, fent (.ptr h.n 0) ty cs) (flo0 ms all t l (i + 1) (h.newRow ty cs false))
  | none => match floS P ms all i o with
   | some (e, len, ys) => (match evalPds P t h ys with
    | some vs => consF (i, fent (.slice h.n 0 len len false) e (flat vs)) (flo0 ms all t l (i + 1) (h.newRow e (flat vs) false))
    | none => none)
   | none => flo0 ms all t l (i + 1) h
def pureB (h h' : Hp) : Bool:=Nat.ble h.n h'.low
def hdNob (s : Hd) (o : Oper) (i : Nat) (v : V) : List (Nat × V):=bif obliv o.op then s.nob else (i, ldV s.t o.op v) :: s.nob
def behindW (ms : Tr Nat) (i : Nat) (l : List (Nat × V)) : Bool:=l.all fun x => anc ms i x.1 || freeV x.2
def sameW (s : Hd) (j : Nat) (l : V) : Bool :=
 match s.need.get j with
 | some (c + 1) => (match s.hs.get c with
  | some h => (match s.hs.get (c + 1) with
   | some h' => sameLd h h' l
   | none => false)
  | none => false)
 | _ => false
def behindR (ms : Tr Nat) (i : Nat) (s : Hd) (l : V) : Bool:=s.nob.all fun x => anc ms i x.1 || (freeV x.2 || sameW s x.1 l)
def hdRead (ms : Tr Nat) (s : Hd) (o : Oper) (i m : Nat) : VH → Option Hd
 | some (v, _) => bif obliv o.op || behindR ms i s (ldV s.t o.op v) then some ⟨s.c, s.hs, s.need.set i m, putO s.t o.dst v, s.st, hdNob s o i v⟩ else none
 | none => none
def hdWrote (ms : Tr Nat) (s : Hd) (o : Oper) (i : Nat) (h : Hp) : VH → Option Hd
 | some (v, h') => bif s.nob.all (fun x => (anc ms i x.1 || markV x.2) || (pureB h h' || sameLd h h' x.2)) then
  some ⟨s.c + 1, s.hs.set (s.c + 1) ⟨h'.t, h'.n, Nat.min h.low h'.low⟩, s.need.set i (s.c + 1), putO s.t o.dst v, s.st, (i, .bool (pureB h h')) :: (i, undefV) :: s.nob⟩ else none
 | none => none
def hdMade (s : Hd) (o : Oper) (i : Nat) (h : Hp) : VH → Option Hd
 | some (v, h') => bif Nat.ble h.n h'.low then some ⟨s.c + 1, s.hs.set (s.c + 1) ⟨h'.t, h'.n, h.low⟩, s.need.set i (s.c + 1), putO s.t o.dst v, s.st, hdNob s o i v⟩ else none
 | none => none
def hdPut (ms : Tr Nat) (s : Hd) (o : Oper) (i m b : Nat) : Option Ob → Option Hd
 | some ob => bif s.nob.all (fun x => anc ms i x.1 || okV b x.2) then some ⟨s.c, s.hs, s.need.set i m, putO s.t o.dst unitV, s.st ++ [(b, ob)], (i, undefV) :: s.nob⟩ else none
 | none => none
def hdStore (ms : Tr Nat) (s : Hd) (o : Oper) (i m : Nat) (h : Hp) (ty : TypeId) (a x : Option V) : Option Hd :=
 match a with
 | some (.ptr b off) => (match x with
  | some v => hdPut ms s o i m b (storeO P (stores s.st h) ty b off v)
  | none => none)
 | _ => none
def isNil {α : Type} : List α → Bool
 | [] => true
 | _ => false
def hdMk (ms : Tr Nat) (r : Rn) (s : Hd) (o : Oper) (i : Nat) (h : Hp) : Option Hd :=
 bif obliv o.op then hdMade s o i h (opV P r s.t ⟨h.t, h.n, h.n⟩ o) else hdWrote ms s o i h (opV P r s.t ⟨h.t, h.n, h.n⟩ o)
def freeM (ms : Tr Nat) (i : Nat) (s : Hd) (o : Oper) : Bool:=isNil s.st && (!makes o || behindW ms i s.nob)
def hdPlain (ms : Tr Nat) (r : Rn) (s : Hd) (o : Oper) (i m : Nat) (h : Hp) : Option Hd :=
 bif obliv o.op || freeM ms i s o then
  (bif makes o then (bif Nat.beq m s.c then hdMk P ms r s o i h else none)
  else hdRead ms s o i m (execV P s.t h o.op))
 else none
def hdFlo (ms : Tr Nat) (r : Rn) (s : Hd) (o : Oper) (i m : Nat) (h : Hp) : Option (List V) → Option Hd
 | none => hdPlain P ms r s o i m h
 | some (p :: _) => some ⟨s.c, s.hs, s.need.set i m, putO s.t o.dst p, s.st, s.nob⟩
 | some [] => none
def floIs (p : V) (e : Nat) (cs : List V) (v : V) (h : Hp) : Bool:=vEq v p && isRow (h.t.get (blkN p)) e cs
def floH (p : V) : Hp:=⟨.nil, blkN p, blkN p⟩
def hdFloC (s : Hd) (o : Oper) (i m : Nat) (p : V) (e : Nat) (cs : List V) : VH → Option Hd
 | some (v, h) => bif floIs p e cs v h then some ⟨s.c, s.hs, s.need.set i m, putO s.t o.dst p, s.st, s.nob⟩ else none
 | none => none
def hdFloS (ms : Tr Nat) (r : Rn) (s : Hd) (o : Oper) (i m : Nat) (h : Hp) : Option (List V) → Option Hd
 | none => hdPlain P ms r s o i m h
 | some [p, .int .i64 (.ofNat e), .agg cs] => hdFloC s o i m p e cs (execC P s.t (floH p) o.op)
 | some _ => none
def hdDo (ms : Tr Nat) (r : Rn) (s : Hd) (o : Oper) (i m : Nat) : Option Hp → Option Hd
 | none => none
 | some h => (match o.op with
  | .store ty a x => hdStore P ms s o i m h ty (evalO s.t a) (evalO s.t x)
  | .alloc _ => hdFlo P ms r s o i m h (floOf s.nob i)
  | .buildSlice .. => hdFloS P ms r s o i m h (floOf s.nob i)
  | _ => hdPlain P ms r s o i m h)
def hdOne (ms : Tr Nat) (r : Rn) (s : Hd) (o : Oper) (i : Nat) : Option Bool → Option Hd
 | none => none
 | some false => some (hdSkip s o i (maxNeed s.need o.after.toList))
 | some true => hdDo P ms r s o i (maxNeed s.need o.after.toList) (s.hs.get (maxNeed s.need o.after.toList))
def hdAll (ms : Tr Nat) (r : Rn) (all : Array Oper) : List Oper → Nat → Option Hd → Option Hd
 | _, _, none => none
 | [], _, some s => some s
 | o :: l, i, some s => hdAll ms r all l (i + 1) (hdOne P ms r s o i (wantO all s.t o))
def tmpsIn : List Operand → List Tmp
 | [] => []
 | .tmp t :: l => t :: tmpsIn l
 | _ :: l => tmpsIn l
def memN : Nat → List Nat → Bool
 | _, [] => false
 | n, m :: l => Nat.beq n m || memN n l
def looks (all : Array Oper) (o : Oper) : List Tmp :=
 (match o.dst with
 | some d => [d]
 | none => []) ++ (match o.guard with
 | some (j, _) => (match all[j]? with
  | some o' => (match o'.dst with
   | some d => [d]
   | none => [])
  | none => [])
 | none => []) ++ tmpsIn o.op.operands.toList
def pairOk (ms : Tr Nat) (all : Array Oper) (x : Oper) (i : Nat) (y : Oper) (j : Nat) : Bool :=
 (match x.dst with
 | some d => !(match y.dst with
  | some d' => Nat.beq d d'
  | none => false) && (!memN d (looks all y) || anc ms j i)
 | none => true) &&
 (match y.dst with
 | some d => !memN d (looks all x) || anc ms j i
 | none => true)
def pairsWith (ms : Tr Nat) (all : Array Oper) (x : Oper) (i : Nat) : List Oper → Nat → Bool
 | [], _ => true
 | y :: l, j => pairOk ms all x i y j && pairsWith ms all x i l (j + 1)
def pairsOk (ms : Tr Nat) (all : Array Oper) : List Oper → Nat → Bool
 | [], _ => true
 | x :: l, i => pairsWith ms all x i l (i + 1) && pairsOk ms all l (i + 1)
def edgesBack : List Oper → Nat → Bool
 | [], _ => true
 | o :: l, i => (o.after.toList.all fun e => !(Region.binds .any e) || Nat.blt e.on i) && edgesBack l (i + 1)
def okDraw (ops : Array Oper) : Bool:=edgesBack ops.toList 0 && pairsOk (masks ops) ops (ops.toList.take (headLen ops)) 0
def tailCode (r : Rn) (ops : Array Oper) : Option Hd → Out
 | some s => (match s.hs.get s.c with
  | some h => r (.ops ops (ops.toList.drop (headLen ops))) s.t (stores s.st h)
  | none => .no)
 | none => .no
def drawHd (r : Rn) (ops : Array Oper) (t : Tr V) : Option (Hp × List (Nat × V)) → Out
 | some (h, n) => tailCode r ops (hdAll P (masks ops) r ops (ops.toList.take (headLen ops)) 0 (some ⟨0, Tr.nil.set 0 h, .nil, t, [], n⟩))
 | none => .no
def drawCode (r : Rn) (ops : Array Oper) (t : Tr V) (h : Hp) : Out :=
 bif okDraw ops then drawHd P r ops t (flo0 P (masks ops) (ops.toList.take (headLen ops)) t (ops.toList.take (headLen ops)) 0 h) else .no
def regCode (r : Rn) (ops : Array Oper) (t : Tr V) (h : Hp) : Bool → Out
 | false => r (.ops ops ops.toList) t h
 | true => drawCode P r ops t h
def ldB (ag : Bool) (s : Nat) (h : Hp) (b o : Nat) : Option V :=
 match cellsT (h.t.get b) with
 | some c => bif ag then (match c.getL o s with
  | some l => some (.agg l)
  | none => none) else c.get o
 | none => none
def rowAt (h : Hp) : V → Option V
 | .ptr b o => ldB false 1 h b o
 | _ => none
def rowLenV : Option V → Option Nat
 | some (.slice _ _ n _ _) => some n
 | some .nilSlice => some 0
 | _ => none
def rowLen (h : Hp) (p : V) : Option Nat:=rowLenV (rowAt h p)
def rowElV (it : It) (h : Hp) (i : Nat) : Option V → Option V
 | some (.slice b o n _ _) => bif Nat.blt i n then ldB it.ag it.s h b (o + i * it.s) else none
 | _ => none
def rowEl (it : It) (h : Hp) (p : V) (i : Nat) : Option V:=rowElV it h i (rowAt h p)
def endRng (t0 : Tr V) (k : Hp → Out) : Out → Out
 | .ok .normal _ h => k h
 | .ok e _ h => .ok e t0 h
 | .no => .no
def bodyRng (r : Rn) (b : Code) : Out → Out
 | .ok .normal t h => r (.code b) t h
 | _ => .no
def roundR (r : Rn) (x y : Tmp) (a b : Code) (t : Tr V) (i : Nat) (h : Hp) (k : Hp → Out) : Option V → Out
 | some v => endRng t k (bodyRng r b (r (.code a) ((t.set x (.int .i64 (.ofNat i))).set y v) h))
 | none => .no
def roundsR (it : It) (r : Rn) (x y : Tmp) (a b : Code) (t : Tr V) (p : V) : Nat → Hp → Out
 | 0, h => .ok .normal t h
 | i + 1, h => roundR r x y a b t i h (roundsR it r x y a b t p i) (rowEl it h p i)
def rowsR (it : It) (r : Rn) (x y : Tmp) (a b : Code) (t : Tr V) (p : V) (h : Hp) : Option Nat → Out
 | some n => bif Nat.ble n big then roundsR it r x y a b t p n h else .no
 | none => .no
def rngF (r : Rn) (x y : Tmp) (a b : Code) (t : Tr V) (h : Hp) (p : V) : Option It → Out
 | some it => rowsR it r x y a b t p h (rowLen h p)
 | none => .no
def rngR (r : Rn) (ps : List Tmp) (a b : Code) (t : Tr V) (h : Hp) : Option V → Out
 | some (.func g [] [p]) => (match ps with
  | [x, y] => rngF r x y a b t h p (Orc.itr g)
  | _ => .no)
 | _ => .no
def stepCode (r : Rn) (c : Code) (t : Tr V) (h : Hp) : Out :=
 match c with
 | .skip => .ok .normal t h
 | .region _ ops d => regCode P r ops t h d
 | .seq a b => thenCode r b (r (.code a) t h)
 | .cond c a b => ifCode r a b t h (evalO t c)
 | .block id c => inBlk id (r (.code c) t h)
 | .loop c => thenCode r (.loop c) (r (.code c) t h)
 | .exit id => .ok (.exit id) t h
 | .ret => .ok .ret t h
 | .scope c => r (.code c) t h
 | .label _ => .ok .normal t h
 | .rangeFunc f ps a b => rngR r ps.toList a b t h (evalO t f)
 | _ => .no
def step (r : Rn) (k : Tk) (t : Tr V) (h : Hp) : Out :=
 match k with
 | .code c => stepCode P r c t h
 | .ops all l => (match l with
  | [] => .ok .normal t h
  | o :: l => stepOps P r all o l t h (wantO all t o))
def run (n : Nat) : Tk → Tr V → Hp → Out:=Nat.rec (motive:=fun _ => Tk → Tr V → Hp → Out) (fun _ _ _ => .no) (fun _ ih => step P ih) n
end
end
end
section
namespace Bs
theorem bytesF_zero (b : Nat) : bytesF 0 b = []:=rfl
theorem bytesF_succ (n b : Nat) : bytesF (n + 1) b = UInt8.ofNat (b % 256) :: bytesF n (b / 256):=rfl
theorem bytesF_len : ∀ (n b : Nat), (bytesF n b).length = n
 | 0, _ => rfl
 | n + 1, b => by rw [bytesF_succ, List.length_cons, bytesF_len n]
theorem l_len (s : Bs) : s.l.length = s.n:=bytesF_len _ _
theorem pow8 (n : Nat) : 2 ^ (8 * n) = 256 ^ n:=by rw [Nat.pow_mul]
theorem ofNat_toNat {x : Nat} (h : x < 256) : (UInt8.ofNat x).toNat = x:=by
 rw [UInt8.toNat_ofNat']
 exact Nat.mod_eq_of_lt h
theorem bytesF_get : ∀ (n b i : Nat), i < n → (bytesF n b)[i]? = some (UInt8.ofNat (b / 256 ^ i % 256))
 | 0, _, _, h => by omega
 | n + 1, b, 0, _ => by rw [bytesF_succ]; simp
 | n + 1, b, i + 1, h => by
  rw [bytesF_succ, List.getElem?_cons_succ, bytesF_get n _ i (by omega), Nat.div_div_eq_div_mul, Nat.pow_succ, Nat.mul_comm 256]
theorem byte_eq (s : Bs) (i : Nat) : s.byte i = s.b / 256 ^ i % 256:=by
 show Nat.mod (Nat.shiftRight s.b (Nat.mul 8 i)) 256 = _
 show (s.b >>> (8 * i)) % 256 = _
 rw [Nat.shiftRight_eq_div_pow, pow8]
theorem get_eq (s : Bs) (i : Nat) : s.get i = (s.l[i]?).map (·.toNat):=by
 unfold get
 cases h : Nat.ble (Nat.succ i) s.n with
 | true =>
  have hlt : i < s.n:=Nat.le_of_ble_eq_true h
  unfold l
  rw [bytesF_get _ _ _ hlt]
  simp only [Option.map_some]
  rw [ofNat_toNat (Nat.mod_lt _ (by decide)), byte_eq]
 | false =>
  have hge : s.n ≤ i:=by
   rcases Nat.lt_or_ge i s.n with h1 | h1
   ·rw [Nat.ble_eq_true_of_le h1] at h; cases h
   ·exact h1
  rw [List.getElem?_eq_none (by rw [l_len]; exact hge)]
  rfl
theorem bytesF_mod : ∀ (n x : Nat), bytesF n (x % 256 ^ n) = bytesF n x
 | 0, _ => rfl
 | n + 1, x => by
  have e : x % 256 ^ (n + 1) = x % 256 + 256 * (x / 256 % 256 ^ n):=by rw [Nat.pow_succ, Nat.mul_comm, Nat.mod_mul]
  rw [bytesF_succ, bytesF_succ, e]
  congr 1
  ·congr 1; omega
  ·rw [show (x % 256 + 256 * (x / 256 % 256 ^ n)) / 256 = x / 256 % 256 ^ n by omega]
   exact bytesF_mod n _
theorem bytesF_append : ∀ (n m x y : Nat), bytesF (n + m) (x % 256 ^ n + y * 256 ^ n) = bytesF n x ++ bytesF m y
 | 0, m, x, y => by simp [bytesF_zero, Nat.mod_one]
 | n + 1, m, x, y => by
  have e : x % 256 ^ (n + 1) = x % 256 + 256 * (x / 256 % 256 ^ n):=by rw [Nat.pow_succ, Nat.mul_comm, Nat.mod_mul]
  have e2 : y * 256 ^ (n + 1) = 256 * (y * 256 ^ n):=by rw [Nat.pow_succ, ← Nat.mul_assoc, Nat.mul_comm]
  rw [show n + 1 + m = (n + m) + 1 by omega, bytesF_succ, bytesF_succ, e, e2, List.cons_append]
  congr 1
  ·congr 1; omega
  ·rw [show (x % 256 + 256 * (x / 256 % 256 ^ n) + 256 * (y * 256 ^ n)) / 256 = x / 256 % 256 ^ n + y * 256 ^ n by omega]
   exact bytesF_append n m _ _
theorem l_cat (x y : Bs) : (x.cat y).l = x.l ++ y.l:=by
 show bytesF (x.n + y.n) (x.b % 2 ^ (8 * x.n) + y.b <<< (8 * x.n)) = _
 rw [Nat.shiftLeft_eq, pow8]
 exact bytesF_append _ _ _ _
theorem bytesF_drop : ∀ (k n b : Nat), (bytesF n b).drop k = bytesF (n - k) (b / 256 ^ k)
 | 0, n, b => by simp
 | k + 1, 0, b => by simp [bytesF_zero]
 | k + 1, n + 1, b => by
  rw [bytesF_succ, List.drop_succ_cons, bytesF_drop k n, Nat.div_div_eq_div_mul, Nat.pow_succ, Nat.mul_comm 256, Nat.add_sub_add_right]
theorem bytesF_take : ∀ (k n b : Nat), k ≤ n → (bytesF n b).take k = bytesF k b
 | 0, n, b, _ => by simp [bytesF_zero]
 | k + 1, 0, b, h => by omega
 | k + 1, n + 1, b, h => by rw [bytesF_succ, List.take_succ_cons, bytesF_take k n _ (by omega), bytesF_succ]
theorem l_cut (s : Bs) {i j : Nat} (h1 : i ≤ j) (h2 : j ≤ s.n) : (s.cut i j).l = (s.l.drop i).take (j - i):=by
 show bytesF (j - i) ((s.b >>> (8 * i)) % 2 ^ (8 * (j - i))) = _
 rw [Nat.shiftRight_eq_div_pow, pow8, pow8, bytesF_mod]
 unfold l
 rw [bytesF_drop, bytesF_take _ _ _ (by omega)]
theorem bytesF_inj : ∀ (n a b : Nat), bytesF n a = bytesF n b → a % 256 ^ n = b % 256 ^ n
 | 0, a, b, _ => by simp [Nat.mod_one]
 | n + 1, a, b, h => by
  rw [bytesF_succ, bytesF_succ] at h
  have h1:=(List.cons.inj h).1
  have h2:=bytesF_inj n _ _ (List.cons.inj h).2
  have h3:=congrArg UInt8.toNat h1
  rw [ofNat_toNat (Nat.mod_lt _ (by decide)), ofNat_toNat (Nat.mod_lt _ (by decide))] at h3
  rw [Nat.pow_succ, Nat.mul_comm, Nat.mod_mul, Nat.mod_mul, h2, h3]
theorem eq_eq (x y : Bs) : x.eq y = (x.l == y.l):=by
 unfold eq
 have hm : ∀ s : Bs, Nat.mod s.b (Nat.pow 2 (Nat.mul 8 s.n)) = s.b % 256 ^ s.n:=fun s => by rw [← pow8]; rfl
 cases h : Nat.beq x.n y.n with
 | false =>
  symm
  simp only [beq_eq_false_iff_ne]
  intro e
  have:=congrArg List.length e
  rw [l_len, l_len] at this
  rw [this, Nat.beq_refl] at h
  cases h
 | true =>
  have hn:=Nat.eq_of_beq_eq_true h
  show Nat.beq _ _ = _
  rw [hm, hm]
  cases h2 : Nat.beq (x.b % 256 ^ x.n) (y.b % 256 ^ y.n) with
  | true =>
   have:=Nat.eq_of_beq_eq_true h2
   symm
   simp only [beq_iff_eq]
   unfold l
   rw [← bytesF_mod x.n, ← bytesF_mod y.n, this, hn]
  | false =>
   symm
   simp only [beq_eq_false_iff_ne]
   intro e
   unfold l at e
   rw [← hn] at e h2
   have:=bytesF_inj _ _ _ e
   rw [this, Nat.beq_refl] at h2
   cases h2
theorem eq_iff (x y : Bs) : x.eq y = true ↔ x.l = y.l:=by rw [eq_eq]; exact beq_iff_eq
theorem lenF_eq : ∀ l : List UInt8, lenF l = l.length
 | [] => rfl
 | _ :: l => congrArg Nat.succ (lenF_eq l)
theorem bytesF_pack : ∀ l : List UInt8, bytesF l.length (packF l) = l
 | [] => rfl
 | a :: l => by
  show UInt8.ofNat ((a.toNat + 256 * packF l) % 256) :: bytesF l.length ((a.toNat + 256 * packF l) / 256) = _
  have ha : a.toNat < 256:=a.toNat_lt
  rw [show (a.toNat + 256 * packF l) % 256 = a.toNat by omega, show (a.toNat + 256 * packF l) / 256 = packF l by omega, bytesF_pack l]
  congr 1
  exact UInt8.ofNat_toNat
end Bs
theorem pack_l (l : List UInt8) : (pack l).l = l:=by
 show Bs.bytesF (Bs.lenF l) (Bs.packF l) = l
 rw [Bs.lenF_eq, Bs.bytesF_pack]
theorem pack_n (l : List UInt8) : (pack l).n = l.length:=Bs.lenF_eq l
theorem Tr.getP_nil {α : Type} (p : List Dg) : Tr.getP p (Tr.nil : Tr α) = none:=by cases p <;> rfl
theorem Tr.getP_setK {α : Type} (f : Tr α → Tr α) (q r : Dg) (p : List Dg) (v : Option α) (a b c d : Tr α) : Tr.getP (r :: p) (Tr.setK f q v a b c d) = if q = r then Tr.getP p (f (Tr.kid q a b c d)) else Tr.getP p (Tr.kid r a b c d):=by
 cases q <;> cases r <;> first | (rw [if_pos rfl]; rfl) | (rw [if_neg (by simp)]; rfl)
theorem Tr.kid_nil {α : Type} (q : Dg) : Tr.kid q (.nil : Tr α) .nil .nil .nil = .nil:=by cases q <;> rfl
theorem Tr.getP_set {α : Type} (x : α) : ∀ (p q : List Dg) (t : Tr α), Tr.getP q (Tr.setP x p t) = if p = q then some x else Tr.getP q t
 | [], [], t => by cases t <;> rfl
 | [], r :: q, t => by
  rw [if_neg (by simp)]
  cases t with
  | nil => show Tr.getP q (Tr.kid r .nil .nil .nil .nil) = _; rw [Tr.kid_nil, Tr.getP_nil]; rfl
  | node v a b c d => rfl
 | s :: p, [], t => by
  rw [if_neg (by simp)]
  cases t <;> cases s <;> rfl
 | s :: p, r :: q, t => by
  have key : ∀ v (a b c d : Tr α), Tr.getP (r :: q) (Tr.setK (Tr.setP x p) s v a b c d) = if s :: p = r :: q then some x else Tr.getP q (Tr.kid r a b c d):=by
   intro v a b c d
   rw [Tr.getP_setK]
   by_cases hs : s = r
   ·subst hs
    rw [if_pos rfl, Tr.getP_set x p q]
    by_cases hp : p = q
    ·subst hp; rw [if_pos rfl, if_pos rfl]
    ·rw [if_neg hp, if_neg (by simp [hp])]
   ·rw [if_neg hs, if_neg (by simp [hs])]
  cases t with
  | nil =>
   show Tr.getP (r :: q) (Tr.setK (Tr.setP x p) s none .nil .nil .nil .nil) = _
   rw [key, Tr.kid_nil, Tr.getP_nil, Tr.getP_nil]
  | node v a b c d => exact key v a b c d
theorem Tr.get_nil {α : Type} (i : Nat) : (Tr.nil : Tr α).get i = none:=by
 rw [Tr.get_eq, Tr.getP_nil]
theorem Tr.pathF_zero (n : Nat) : Tr.pathF (n + 1) 0 = []:=rfl
theorem Tr.pathF_succ (n m : Nat) : Tr.pathF (n + 1) (m + 1) = Tr.dig (m % 4) :: Tr.pathF n (m / 4):=rfl
theorem Tr.dig_inj {i j : Nat} (hi : i < 4) (hj : j < 4) (h : Tr.dig i = Tr.dig j) : i = j:=by
 have h4 : ∀ k, k < 4 → k = 0 ∨ k = 1 ∨ k = 2 ∨ k = 3:=fun k hk => by omega
 rcases h4 i hi with rfl | rfl | rfl | rfl <;> rcases h4 j hj with rfl | rfl | rfl | rfl <;> first | rfl | cases h
theorem Tr.pathF_inj : ∀ (n m i j : Nat), i < n → j < m → Tr.pathF n i = Tr.pathF m j → i = j
 | 0, _, _, _, h, _, _ => by omega
 | _ + 1, 0, _, _, _, h, _ => by omega
 | n + 1, m + 1, 0, 0, _, _, _ => rfl
 | n + 1, m + 1, 0, j + 1, _, _, h => by rw [Tr.pathF_zero, Tr.pathF_succ] at h; cases h
 | n + 1, m + 1, i + 1, 0, _, _, h => by rw [Tr.pathF_zero, Tr.pathF_succ] at h; cases h
 | n + 1, m + 1, i + 1, j + 1, hi, hj, h => by
  rw [Tr.pathF_succ, Tr.pathF_succ] at h
  obtain ⟨h1, h2⟩:=List.cons.inj h
  have:=Tr.dig_inj (Nat.mod_lt _ (by decide)) (Nat.mod_lt _ (by decide)) h1
  have:=Tr.pathF_inj n m _ _ (by omega) (by omega) h2
  omega
theorem Tr.get_set {α : Type} (t : Tr α) (i j : Nat) (x : α) : (t.set i x).get j = if i = j then some x else t.get j:=by
 rw [Tr.get_eq, Tr.get_eq, Tr.set_eq]
 rw [Tr.getP_set]
 by_cases h : i = j
 ·subst h; rw [if_pos rfl, if_pos rfl]
 ·have hp : ¬ Tr.path i = Tr.path j := fun e => h (Tr.pathF_inj _ _ _ _ (Nat.lt_succ_self i) (Nat.lt_succ_self j) e)
  rw [if_neg h, if_neg hp]
theorem Tr.get_set_same {α : Type} (t : Tr α) (i : Nat) (x : α) : (t.set i x).get i = some x:=by rw [Tr.get_set, if_pos rfl]
theorem Tr.get_set_ne {α : Type} (t : Tr α) {i j : Nat} (x : α) (h : i ≠ j) : (t.set i x).get j = t.get j:=by rw [Tr.get_set, if_neg h]
theorem Tr.get_setL {α : Type} : ∀ (l : List α) (t : Tr α) (i j : Nat), (t.setL i l).get j = if i ≤ j ∧ j < i + l.length then l[j - i]? else t.get j
 | [], t, i, j => by simp only [Tr.setL_nil, List.length_nil]; rw [if_neg (by omega)]
 | x :: xs, t, i, j => by
  simp only [Tr.setL_cons, List.length_cons]
  rw [Tr.get_setL xs, Tr.get_set]
  by_cases h : i = j
  ·subst h
   rw [if_neg (by omega), if_pos rfl, if_pos (by omega)]
   simp
  ·by_cases h2 : i ≤ j ∧ j < i + (xs.length + 1)
   ·rw [if_pos (by omega), if_pos h2]
    have : j - i = (j - (i + 1)) + 1:=by omega
    rw [this]; simp
   ·rw [if_neg (by omega), if_neg h, if_neg h2]
theorem Tr.getL_spec {α : Type} (t : Tr α) : ∀ (n i : Nat) (l : List α), t.getL i n = some l → l.length = n ∧ ∀ j, j < n → l[j]? = t.get (i + j)
 | 0, i, l, h => by simp only [Tr.getL_zero, Option.some.injEq] at h; subst h; exact ⟨rfl, fun j hj => by omega⟩
 | n + 1, i, l, h => by
  simp only [Tr.getL_succ] at h
  cases hx : t.get i with
  | none => simp [hx] at h
  | some x =>
   simp only [hx] at h
   cases hl : t.getL (i + 1) n with
   | none => simp [hl] at h
   | some l' =>
    simp only [hl, Option.some.injEq] at h
    subst h
    obtain ⟨h1, h2⟩:=Tr.getL_spec t n (i + 1) l' hl
    refine ⟨by simp [h1], fun j hj => ?_⟩
    cases j with
    | zero => simp [hx]
    | succ j => simp only [List.getElem?_cons_succ]; rw [h2 j (by omega)]; congr 1; omega
theorem getN_eq {α : Type} : ∀ (l : List α) (i : Nat), getN l i = l[i]?
 | [], i => by simp [getN]
 | x :: xs, 0 => by simp [getN]
 | x :: xs, i + 1 => by simp [getN, getN_eq xs i]
structure Lc where
 blk : Nat
 base : Nat
 cap : Nat
abbrev Rho:=Nat → Option Lc
inductive Rel (ρ : Rho) : V → Value → Prop
 | bool (b : Bool) : Rel ρ (.bool b) (.bool b)
 | int (k : IntKind) (n : Int) : Rel ρ (.int k n) (.int k n)
 | str (s : Bs) : Rel ρ (.str s) (.string ⟨⟨s.l⟩⟩)
 | ptr {b : Nat} {l : Lc} (o : Nat) (h : ρ b = some l) : Rel ρ (.ptr b o) (.pointer (some ⟨l.blk, l.base + o, none⟩))
 | nilPtr : Rel ρ .nilPtr (.pointer none)
 | sliceK {b : Nat} {l : Lc} (o len cap : Nat) (h : ρ b = some l) : Rel ρ (.slice b o len cap false) (.slice (some ⟨l.blk, l.base + o, none⟩) len cap)
 | sliceZ {b : Nat} {l : Lc} (o : Nat) (a : Addr) (h : ρ b = some l) (hz : l.base ≠ 0) : Rel ρ (.slice b o 0 0 false) (.slice (some a) 0 0)
 | sliceE {b : Nat} {l : Lc} (k : Nat) (a : Addr) (c : Nat) (h : ρ b = some l) (hk : k ≠ 0) : Rel ρ (.slice b 0 0 k true) (.slice (some a) 0 c)
 | sliceG {b : Nat} {l : Lc} (o len k : Nat) (h : ρ b = some l) : Rel ρ (.slice b o len k true) (.slice (some ⟨l.blk, l.base + o, none⟩) len (l.cap - k))
 | nilSlice : Rel ρ .nilSlice (.slice none 0 0)
 | map {b : Nat} {l : Lc} (h : ρ b = some l) : Rel ρ (.map b) (.map (some l.blk))
 | nilMap : Rel ρ .nilMap (.map none)
 | func (f : FuncId) {a c : List V} {xs ys : List Value} (hl : a.length = xs.length) (h : ∀ (i : Nat) v x, a[i]? = some v → xs[i]? = some x → Rel ρ v x)
  (kl : c.length = ys.length) (k : ∀ (i : Nat) v x, c[i]? = some v → ys[i]? = some x → Rel ρ v x) : Rel ρ (.func f a c) (.func (.func f) ⟨xs⟩ ⟨ys⟩)
 | nilFunc : Rel ρ .nilFunc .nilFunc
 | iface (t : TypeId) {v : V} {x : Value} (h : Rel ρ v x) : Rel ρ (.iface t v) (.iface t x)
 | nilIface : Rel ρ .nilIface .nilIface
 | agg {cs : List V} {xs : List Value} (hl : cs.length = xs.length) (h : ∀ (i : Nat) v x, cs[i]? = some v → xs[i]? = some x → Rel ρ v x) : Rel ρ (.agg cs) (.agg ⟨xs⟩)
 | tuple {cs : List V} {xs : List Value} (hl : cs.length = xs.length) (h : ∀ (i : Nat) v x, cs[i]? = some v → xs[i]? = some x → Rel ρ v x) : Rel ρ (.tuple cs) (.tuple ⟨xs⟩)
def RelL (ρ : Rho) (cs : List V) (xs : List Value) : Prop:=cs.length = xs.length ∧ ∀ (i : Nat) v x, cs[i]? = some v → xs[i]? = some x → Rel ρ v x
theorem RelL.nil (ρ : Rho) : RelL ρ [] []:=⟨rfl, fun i v x h => by simp at h⟩
theorem RelL.cons {ρ : Rho} {v : V} {x : Value} {vs : List V} {xs : List Value} (h : Rel ρ v x) (hs : RelL ρ vs xs) : RelL ρ (v :: vs) (x :: xs) :=
 ⟨by simp [hs.1], fun i u y h1 h2 => by
  cases i with
  | zero => simp at h1 h2; subst h1 h2; exact h
  | succ i => simp at h1 h2; exact hs.2 i u y h1 h2⟩
theorem RelL.cons_inv {ρ : Rho} {v : V} {vs : List V} {xs : List Value} (h : RelL ρ (v :: vs) xs) : ∃ x xs', xs = x :: xs' ∧ Rel ρ v x ∧ RelL ρ vs xs':=by
 cases xs with
 | nil => have:=h.1; simp at this
 | cons x xs => exact ⟨x, xs, rfl, h.2 0 v x rfl rfl, by have:=h.1; simp at this; exact this, fun i u y h1 h2 => h.2 (i + 1) u y (by simpa using h1) (by simpa using h2)⟩
theorem RelL.nil_inv {ρ : Rho} {xs : List Value} (h : RelL ρ [] xs) : xs = []:=by
 have:=h.1; simp at this; exact List.eq_nil_of_length_eq_zero this.symm
theorem RelL.append {ρ : Rho} {vs us : List V} {xs ys : List Value} (h : RelL ρ vs xs) (k : RelL ρ us ys) : RelL ρ (vs ++ us) (xs ++ ys):=by
 induction vs generalizing xs with
 | nil => rw [h.nil_inv]; simpa using k
 | cons v vs ih =>
  obtain ⟨x, xs', rfl, h1, h2⟩:=h.cons_inv
  exact RelL.cons h1 (ih h2)
theorem RelL.drop {ρ : Rho} {vs : List V} {xs : List Value} (h : RelL ρ vs xs) (n : Nat) : RelL ρ (vs.drop n) (xs.drop n) :=
 ⟨by simp [h.1], fun i u y h1 h2 => h.2 (n + i) u y (by simpa using h1) (by simpa using h2)⟩
theorem RelL.take {ρ : Rho} {vs : List V} {xs : List Value} (h : RelL ρ vs xs) (n : Nat) : RelL ρ (vs.take n) (xs.take n) :=
 ⟨by simp [h.1], fun i u y h1 h2 => by
  rw [List.getElem?_take] at h1 h2
  split at h1
  ·rename_i hlt; rw [if_pos hlt] at h2; exact h.2 i u y h1 h2
  ·simp at h1⟩
theorem RelL.get {ρ : Rho} {vs : List V} {xs : List Value} (h : RelL ρ vs xs) {i : Nat} {v : V} (hv : vs[i]? = some v) : ∃ x, xs[i]? = some x ∧ Rel ρ v x:=by
 have hi : i < vs.length:=by
  rcases Nat.lt_or_ge i vs.length with h1 | h1
  ·exact h1
  ·rw [List.getElem?_eq_none h1] at hv; cases hv
 have hx : i < xs.length:=by rw [← h.1]; exact hi
 exact ⟨xs[i], List.getElem?_eq_getElem hx, h.2 i v _ hv (List.getElem?_eq_getElem hx)⟩
def Ext (ρ ρ' : Rho) : Prop:=∀ b l, ρ b = some l → ρ' b = some l
theorem Ext.refl (ρ : Rho) : Ext ρ ρ:=fun _ _ h => h
theorem Ext.trans {a b c : Rho} (h : Ext a b) (k : Ext b c) : Ext a c:=fun x l hx => k x l (h x l hx)
theorem Rel.ext {ρ ρ' : Rho} (he : Ext ρ ρ') {v : V} {x : Value} (h : Rel ρ v x) : Rel ρ' v x:=by
 induction h with
 | bool b => exact .bool b
 | int k n => exact .int k n
 | str s => exact .str s
 | ptr o h => exact .ptr o (he _ _ h)
 | nilPtr => exact .nilPtr
 | sliceK o len cap h => exact .sliceK o len cap (he _ _ h)
 | sliceZ o a h hz => exact .sliceZ o a (he _ _ h) hz
 | sliceE k a c h hk => exact .sliceE k a c (he _ _ h) hk
 | sliceG o len k h => exact .sliceG o len k (he _ _ h)
 | nilSlice => exact .nilSlice
 | map h => exact .map (he _ _ h)
 | nilMap => exact .nilMap
 | func f hl _ kl _ ih1 ih2 => exact .func f hl ih1 kl ih2
 | nilFunc => exact .nilFunc
 | iface t _ ih => exact .iface t ih
 | nilIface => exact .nilIface
 | agg hl _ ih => exact .agg hl ih
 | tuple hl _ ih => exact .tuple hl ih
theorem Rel.packed {ρ : Rho} (l : List UInt8) : Rel ρ (.str (pack l)) (.string ⟨⟨l⟩⟩):=by
 have:=Rel.str (ρ:=ρ) (pack l)
 rw [pack_l] at this
 exact this
mutual
theorem absV_rel (ρ : Rho) : ∀ (x : Value) (v : V), absV x = some v → Rel ρ v x
 | .bool b, v, h => by simp only [absV, Option.some.injEq] at h; subst h; exact .bool b
 | .int k n, v, h => by simp only [absV, Option.some.injEq] at h; subst h; exact .int k n
 | .string s, v, h => by simp only [absV, Option.some.injEq] at h; subst h; exact .packed _
 | .pointer none, v, h => by simp only [absV, Option.some.injEq] at h; subst h; exact .nilPtr
 | .slice none 0 0, v, h => by simp only [absV, Option.some.injEq] at h; subst h; exact .nilSlice
 | .map none, v, h => by simp only [absV, Option.some.injEq] at h; subst h; exact .nilMap
 | .nilFunc, v, h => by simp only [absV, Option.some.injEq] at h; subst h; exact .nilFunc
 | .nilIface, v, h => by simp only [absV, Option.some.injEq] at h; subst h; exact .nilIface
 | .agg ⟨l⟩, v, h => by
  simp only [absV] at h
  cases hl : absL l with
  | none => simp [hl] at h
  | some cs =>
   simp only [hl, Option.some.injEq] at h; subst h
   have:=absL_rel ρ l cs hl
   exact .agg this.1 this.2
 | .tuple ⟨l⟩, v, h => by
  simp only [absV] at h
  cases hl : absL l with
  | none => simp [hl] at h
  | some cs =>
   simp only [hl, Option.some.injEq] at h; subst h
   have:=absL_rel ρ l cs hl
   exact .tuple this.1 this.2
 | .iface t x, v, h => by
  simp only [absV] at h
  cases hx : absV x with
  | none => simp [hx] at h
  | some y =>
   simp only [hx, Option.some.injEq] at h; subst h
   exact .iface t (absV_rel ρ x y hx)
 | .float _ _, v, h => by simp [absV] at h
 | .complex _ _ _, v, h => by simp [absV] at h
 | .pointer (some _), v, h => by simp [absV] at h
 | .slice (some _) _ _, v, h => by simp [absV] at h
 | .slice none (_ + 1) _, v, h => by simp [absV] at h
 | .slice none 0 (_ + 1), v, h => by simp [absV] at h
 | .map (some _), v, h => by simp [absV] at h
 | .chan _, v, h => by simp [absV] at h
 | .func _ _ _, v, h => by simp [absV] at h
theorem absL_rel (ρ : Rho) : ∀ (xs : List Value) (vs : List V), absL xs = some vs → RelL ρ vs xs
 | [], vs, h => by simp only [absL, Option.some.injEq] at h; subst h; exact RelL.nil ρ
 | x :: xs, vs, h => by
  simp only [absL] at h
  cases hx : absV x with
  | none => simp [hx] at h
  | some y =>
   simp only [hx] at h
   cases hl : absL xs with
   | none => simp [hl] at h
   | some ys =>
    simp only [hl, Option.some.injEq] at h; subst h
    exact RelL.cons (absV_rel ρ x y hx) (absL_rel ρ xs ys hl)
end
end
end Go.Mid
end
