/- The shallow reading of code: definitions. `den` reads code into combinators that work on values; what it leaves is what the kernel reckons. -/
import Derived.Test.YtdiiilfokajddaaGreatDoorLMidT
set_option linter.all false
namespace Go.Mid

/-! what runs: closed arms on recursors -/
noncomputable def intE (v : V) : (IntKind → Int → VH) → VH :=
  V.rec (motive_1 := fun _ => (IntKind → Int → VH) → VH) (motive_2 := fun _ => Unit) (fun _ _ => none) (fun d n k => k d n) (fun _ _ => none) (fun _ _ _ => none) (fun _ => none) (fun _ _ _ _ _ _ => none) (fun _ => none) (fun _ _ => none) (fun _ => none)
    (fun _ _ _ _ _ _ => none) (fun _ => none) (fun _ _ _ _ => none) (fun _ => none) (fun _ _ _ => none) (fun _ _ _ => none) () (fun _ _ _ _ => ()) v
noncomputable def ptrE (v : V) : (Nat → Nat → VH) → VH :=
  V.rec (motive_1 := fun _ => (Nat → Nat → VH) → VH) (motive_2 := fun _ => Unit) (fun _ _ => none) (fun _ _ _ => none) (fun _ _ => none) (fun b o k => k b o) (fun _ => none) (fun _ _ _ _ _ _ => none) (fun _ => none) (fun _ _ => none) (fun _ => none)
    (fun _ _ _ _ _ _ => none) (fun _ => none) (fun _ _ _ _ => none) (fun _ => none) (fun _ _ _ => none) (fun _ _ _ => none) () (fun _ _ _ _ => ()) v
/-- a choice: at true, at false. -/
noncomputable def ifS (v : V) : VH → VH → VH :=
  V.rec (motive_1 := fun _ => VH → VH → VH) (motive_2 := fun _ => Unit) (fun b x y => Bool.rec (motive := fun _ => VH) y x b) (fun _ _ _ _ => none) (fun _ _ _ => none) (fun _ _ _ _ => none) (fun _ _ => none) (fun _ _ _ _ _ _ _ => none) (fun _ _ => none) (fun _ _ _ => none) (fun _ _ => none)
    (fun _ _ _ _ _ _ _ => none) (fun _ _ => none) (fun _ _ _ _ _ => none) (fun _ _ => none) (fun _ _ _ _ => none) (fun _ _ _ _ => none) () (fun _ _ _ _ => ()) v
/-! what reads code stands higher than what runs: a constant of many steps, so that the kernel unfolds the reading side first. -/
noncomputable def tl0 : Nat := 0
noncomputable def tl1 : Nat := tl0
noncomputable def tl2 : Nat := tl1
noncomputable def tl3 : Nat := tl2
noncomputable def tl4 : Nat := tl3
noncomputable def tl5 : Nat := tl4
noncomputable def tl6 : Nat := tl5
noncomputable def tl7 : Nat := tl6
noncomputable def tl8 : Nat := tl7
noncomputable def tl9 : Nat := tl8
noncomputable def tl10 : Nat := tl9
noncomputable def tl11 : Nat := tl10
noncomputable def tl12 : Nat := tl11
noncomputable def tl13 : Nat := tl12
noncomputable def tl14 : Nat := tl13
noncomputable def tl15 : Nat := tl14
noncomputable def tl16 : Nat := tl15
noncomputable def tl17 : Nat := tl16
noncomputable def tl18 : Nat := tl17
noncomputable def tl19 : Nat := tl18
noncomputable def tl20 : Nat := tl19
noncomputable def tl21 : Nat := tl20
noncomputable def tl22 : Nat := tl21
noncomputable def tl23 : Nat := tl22
noncomputable def tl24 : Nat := tl23
noncomputable def tl25 : Nat := tl24
noncomputable def tl26 : Nat := tl25
noncomputable def tl27 : Nat := tl26
noncomputable def tl28 : Nat := tl27
noncomputable def tl29 : Nat := tl28
noncomputable def tl30 : Nat := tl29
noncomputable def tl31 : Nat := tl30
noncomputable def tl32 : Nat := tl31
noncomputable def tl33 : Nat := tl32
noncomputable def tl34 : Nat := tl33
noncomputable def tl35 : Nat := tl34
noncomputable def tl36 : Nat := tl35
noncomputable def tl37 : Nat := tl36
noncomputable def tl38 : Nat := tl37
noncomputable def tl39 : Nat := tl38
noncomputable def tl40 : Nat := tl39
noncomputable def tl41 : Nat := tl40
noncomputable def tl42 : Nat := tl41
noncomputable def tl43 : Nat := tl42
noncomputable def tl44 : Nat := tl43
noncomputable def tl45 : Nat := tl44
noncomputable def tl46 : Nat := tl45
noncomputable def tl47 : Nat := tl46
noncomputable def tl48 : Nat := tl47
noncomputable def tl49 : Nat := tl48
noncomputable def tl50 : Nat := tl49
noncomputable def tl51 : Nat := tl50
noncomputable def tl52 : Nat := tl51
noncomputable def tl53 : Nat := tl52
noncomputable def tl54 : Nat := tl53
noncomputable def tl55 : Nat := tl54
noncomputable def tl56 : Nat := tl55
noncomputable def tl57 : Nat := tl56
noncomputable def tl58 : Nat := tl57
noncomputable def tl59 : Nat := tl58
noncomputable def tl60 : Nat := tl59
noncomputable def bindS (x : VH) : (V → Hp → VH) → VH := Option.rec (motive := fun _ => (V → Hp → VH) → VH) (fun _ => none) (fun p k => Prod.rec (motive := fun _ => VH) k p) x
noncomputable def optS (x : Option V) : (V → VH) → VH := Option.rec (motive := fun _ => (V → VH) → VH) (fun _ => none) (fun v k => k v) x
noncomputable def cD {α : Type} (c : Bool) (x y : α) : α := (fun _ : Nat => Bool.rec (motive := fun _ => α) y x c) tl60
theorem cD_eq {α : Type} (c : Bool) (x y : α) : cD c x y = cond c x y := by cases c <;> rfl
noncomputable def optD (x : Option V) (k : V → VH) : VH := (fun _ : Nat => Option.rec (motive := fun _ => (V → VH) → VH) (fun _ => none) (fun v k => k v) x k) tl60
theorem optD_eq (x : Option V) (k : V → VH) : optD x k = optS x k := rfl
noncomputable def guardS (v : V) (w : Bool) (x : VH) (h : Hp) (k : V → Hp → VH) : VH :=
  match v with
  | .bool b => bif (bif w then b else !b) then bindS x k else k undefV h
  | .tuple [] => k undefV h
  | _ => none
noncomputable def guardB (v : V) (w : Bool) (x y : VH) : VH :=
  match v with
  | .bool b => bif (bif w then b else !b) then x else y
  | .tuple [] => y
  | _ => none
noncomputable def dynE (cal : Nat → List V → Hp → VH) (v : V) (as : List V) (h : Hp) : VH :=
  match v with
  | .func g first cap => cal (2 * g) (first ++ as ++ cap) h
  | _ => none
noncomputable def extS (i : Nat) (v : V) (k : V → VH) : VH :=
  match v with
  | .tuple vs => optS (getN vs i) k
  | _ => none
noncomputable def strE (v : V) : (List UInt8 → VH) → VH := V.rec (motive_1 := fun _ => (List UInt8 → VH) → VH) (motive_2 := fun _ => Unit) (fun _ _ => none) (fun _ _ _ => none) (fun s k => k s) (fun _ _ _ => none) (fun _ => none) (fun _ _ _ _ _ _ => none) (fun _ => none) (fun _ _ => none) (fun _ => none) (fun _ _ _ _ _ _ => none) (fun _ => none) (fun _ _ _ _ => none) (fun _ => none) (fun _ _ _ => none) (fun _ _ _ => none) () (fun _ _ _ _ => ()) v
noncomputable def boolE (v : V) : (Bool → VH) → VH := V.rec (motive_1 := fun _ => (Bool → VH) → VH) (motive_2 := fun _ => Unit) (fun b k => k b) (fun _ _ _ => none) (fun _ _ => none) (fun _ _ _ => none) (fun _ => none) (fun _ _ _ _ _ _ => none) (fun _ => none) (fun _ _ => none) (fun _ => none) (fun _ _ _ _ _ _ => none) (fun _ => none) (fun _ _ _ _ => none) (fun _ => none) (fun _ _ _ => none) (fun _ _ _ => none) () (fun _ _ _ _ => ()) v
noncomputable def aggE (v : V) : (List V → VH) → VH := V.rec (motive_1 := fun _ => (List V → VH) → VH) (motive_2 := fun _ => Unit) (fun _ _ => none) (fun _ _ _ => none) (fun _ _ => none) (fun _ _ _ => none) (fun _ => none) (fun _ _ _ _ _ _ => none) (fun _ => none) (fun _ _ => none) (fun _ => none) (fun _ _ _ _ _ _ => none) (fun _ => none) (fun _ _ _ _ => none) (fun _ => none) (fun cs _ k => k cs) (fun _ _ _ => none) () (fun _ _ _ _ => ()) v
noncomputable def slE (v : V) : (Nat → Nat → Nat → VH) → VH := V.rec (motive_1 := fun _ => (Nat → Nat → Nat → VH) → VH) (motive_2 := fun _ => Unit) (fun _ _ => none) (fun _ _ _ => none) (fun _ _ => none) (fun _ _ _ => none) (fun _ => none) (fun b o n _ _ k => k b o n) (fun _ => none) (fun _ _ => none) (fun _ => none) (fun _ _ _ _ _ _ => none) (fun _ => none) (fun _ _ _ _ => none) (fun _ => none) (fun _ _ _ => none) (fun _ _ _ => none) () (fun _ _ _ _ => ()) v
noncomputable def lenE (v : V) : (Nat → VH) → VH := V.rec (motive_1 := fun _ => (Nat → VH) → VH) (motive_2 := fun _ => Unit) (fun _ _ => none) (fun _ _ _ => none) (fun _ _ => none) (fun _ _ _ => none) (fun _ => none) (fun _ _ n _ _ k => k n) (fun k => k 0) (fun _ _ => none) (fun _ => none) (fun _ _ _ _ _ _ => none) (fun _ => none) (fun _ _ _ _ => none) (fun _ => none) (fun _ _ _ => none) (fun _ _ _ => none) () (fun _ _ _ _ => ()) v
noncomputable def soundE (v : V) : (V → VH) → VH := V.rec (motive_1 := fun _ => (V → VH) → VH) (motive_2 := fun _ => Unit) (fun _ _ => none) (fun _ _ _ => none) (fun _ _ => none) (fun b o k => k (.ptr b o)) (fun _ => none) (fun _ _ _ _ _ _ => none) (fun _ => none) (fun _ _ => none) (fun _ => none) (fun f a c _ _ k => k (.func f a c)) (fun _ => none) (fun t v _ k => k (.iface t v)) (fun _ => none) (fun _ _ _ => none) (fun _ _ _ => none) () (fun _ _ _ _ => ()) v
noncomputable def natE (v : V) (k : Nat → VH) : VH := intE v fun _ n => Int.rec (motive := fun _ => VH) (fun m => k m) (fun _ => none) n
noncomputable def lstE (x : Option (List V)) (k : List V → VH) : VH := Option.rec (motive := fun _ => (List V → VH) → VH) (fun _ => none) (fun l k => k l) x k
noncomputable def natO (x : Option Nat) (k : Nat → VH) : VH := Option.rec (motive := fun _ => (Nat → VH) → VH) (fun _ => none) (fun n k => k n) x k
noncomputable def byteO (x : Option UInt8) (k : UInt8 → VH) : VH := Option.rec (motive := fun _ => (UInt8 → VH) → VH) (fun _ => none) (fun n k => k n) x k
noncomputable def trO (x : Option (Tr V)) (k : Tr V → VH) : VH := Option.rec (motive := fun _ => (Tr V → VH) → VH) (fun _ => none) (fun n k => k n) x k
noncomputable def whenE (b : Bool) (x : VH) : VH := Bool.rec (motive := fun _ => VH) none x b
noncomputable def cellE (o : Option Ob) : (Tr V → Nat → Bool → TypeId → VH) → VH :=
  Option.rec (motive := fun _ => (Tr V → Nat → Bool → TypeId → VH) → VH) (fun _ => none) (fun ob => Ob.rec (motive := fun _ => (Tr V → Nat → Bool → TypeId → VH) → VH) (fun t n g e k => k t n g e) (fun _ _ _ => none) (fun _ _ => none) (fun _ => none) ob) o
/-- one cell is read. -/
noncomputable def load1 (a : V) (h : Hp) (k : V → VH) : VH := ptrE a fun b o => trO (cellsT (h.t.get b)) fun c => optS (c.get o) k
/-- one cell is written. -/
noncomputable def store1 (a x : V) (h : Hp) (k : Hp → VH) : VH :=
  ptrE a fun b o => cellE (h.t.get b) fun c n g e => Bool.rec (motive := fun _ => VH) none (k (h.put b (.cells (c.set o x) n g e))) (Nat.ble (Nat.succ o) n)
/-- a field's place. -/
noncomputable def addrS (off : Nat) (a : V) (k : V → VH) : VH := ptrE a fun b o => k (.ptr b (Nat.add o off))
/-- an element's place: of a slice, of an array. -/
noncomputable def idxS (s : Nat) (x i : V) (k : V → VH) : VH := slE x fun b o len => natE i fun n => whenE (Nat.blt n len) (k (.ptr b (Nat.add o (Nat.mul n s))))
noncomputable def idxP (s len : Nat) (x i : V) (k : V → VH) : VH := ptrE x fun b o => natE i fun n => whenE (Nat.blt n len) (k (.ptr b (Nat.add o (Nat.mul n s))))
/-- a byte of a text. -/
noncomputable def idxStr (x i : V) (k : V → VH) : VH := strE x fun l => natE i fun n => byteO (getN l n) fun b => k (.int .u8 (.ofNat b.toNat))
noncomputable def idxA1 (s len : Nat) (x i : V) (k : V → VH) : VH := aggE x fun cs => natE i fun n => whenE (Nat.blt n len) (optS (getN cs (Nat.mul n s)) k)
noncomputable def idxAN (s len : Nat) (x i : V) (k : V → VH) : VH := aggE x fun cs => natE i fun n => whenE (Nat.blt n len) (k (.agg ((cs.drop (Nat.mul n s)).take s)))
noncomputable def fld1 (off : Nat) (x : V) (k : V → VH) : VH := aggE x fun cs => optS (getN cs off) k
noncomputable def fldN (off s : Nat) (x : V) (k : V → VH) : VH := aggE x fun cs => k (.agg ((cs.drop off).take s))
noncomputable def loadN (s : Nat) (a : V) (h : Hp) (k : V → VH) : VH := ptrE a fun b o => trO (cellsT (h.t.get b)) fun c => lstE (c.getL o s) fun l => k (.agg l)
noncomputable def storeN (s : Nat) (a x : V) (h : Hp) (k : Hp → VH) : VH :=
  ptrE a fun b o => cellE (h.t.get b) fun c n g e => whenE (Nat.beq (vcells x).length s && Nat.ble (o + s) n && allOne (vcells x)) (k (h.put b (.cells (c.setL o (vcells x)) n g e)))
noncomputable def lenStr (x : V) (k : V → VH) : VH := strE x fun l => k (.int .i64 (.ofNat l.length))
noncomputable def lenSl (x : V) (k : V → VH) : VH := lenE x fun n => k (.int .i64 (.ofNat n))
noncomputable def lenMp (x : V) (h : Hp) (k : V → VH) : VH := natO (lenV h (.map 0 0) x) fun n => k (.int .i64 (.ofNat n))
noncomputable def boundP (d : Nat) : Option V → Option Nat
  | none => some d
  | some v => natA (some v)
noncomputable def slStrK (lo hi : Option V) (x : V) (k : V → VH) : VH :=
  strE x fun l => natO (boundP 0 lo) fun a => natO (boundP l.length hi) fun b => whenE (Nat.ble a b && Nat.ble b l.length) (k (.str ((l.drop a).take (b - a))))
noncomputable def slSlK (elem s : Nat) (lo hi : Option V) (h : Hp) (x : V) : VH :=
  match x with
  | .slice b off len cap g => natO (boundP 0 lo) fun l => natO (boundP len hi) fun r => slS h elem s b off cap g l r
  | .nilSlice => natO (boundP 0 lo) fun l => natO (boundP 0 hi) fun r => whenE (Nat.beq l 0 && Nat.beq r 0) (some (.nilSlice, h))
  | _ => none
noncomputable def newS (e : Nat) (cs : List V) (h : Hp) (k : V → Hp → VH) : VH := k (.ptr h.n 0) (h.newRow e cs false)
noncomputable def strS (op : BinOp) (a b : V) (k : V → VH) : VH := strE a fun x => strE b fun y => optS (strOp op x y) k
noncomputable def eqS (d : TypeDesc) (op : BinOp) (a b : V) (k : V → VH) : VH := optS (eqOp op (eqD d a b)) k
noncomputable def shS (op : BinOp) (a b : V) (k : V → VH) : VH := intE a fun d m => intE b fun _ n => optS (shOp op d m n) k
noncomputable def notS (a : V) (k : V → VH) : VH := boolE a fun b => k (.bool (!b))
noncomputable def negS (a : V) (k : V → VH) : VH := intE a fun d n => k (.int d (fwrap d (0 - n)))
noncomputable def convI (d : IntKind) (a : V) (k : V → VH) : VH := intE a fun _ n => k (.int d (fwrap d n))
noncomputable def convS (a : V) (k : V → VH) : VH := strE a fun l => k (.str l)
noncomputable def nilS (a : V) (k : V → VH) : VH := soundE a k
noncomputable def natOf (v : V) (k : Nat → VH) : VH := natO (natV (some v)) k
noncomputable def mkS (e bytes size : Nat) (z l c : V) (h : Hp) : VH := natOf l fun l => natOf c fun c => mkSl h e bytes size z l c
noncomputable def lookS (d : TypeDesc) (z : Option V) (ok : Bool) (x key : V) (h : Hp) : VH :=
  whenE (keyOk (some d) key) (match mapOf h (some x) with
    | some es => lookZ h z ok (mapGet key es)
    | none => none)
noncomputable def updS (d : TypeDesc) (m key x : V) (h : Hp) : VH :=
  match m with
  | .map b => whenE (keyOk (some d) key) (mapPut h b key x)
  | _ => none
noncomputable def appS (elem bytes size : Nat) (s x : V) (h : Hp) : VH := appGo h elem bytes size s (newCells h size x)
noncomputable def storeC (a x : V) (h : Hp) (k : Hp → VH) : VH := bif oneCell x then store1 a x h k else none
noncomputable def storeB (ob : Option Ob) (k : Ob → VH) : VH :=
  match ob with
  | some ob => k ob
  | none => none
noncomputable def wroteS (low : Nat) (h : Hp) (k : Hp → VH) : VH := k ⟨h.t, h.n, Nat.min low h.low⟩
noncomputable def madeS (n low : Nat) (h : Hp) (k : Hp → VH) : VH := bif Nat.ble n h.low then k ⟨h.t, h.n, low⟩ else none

/-! how code is read -/
inductive Fk where
  | seq (b : Code) (q : Nat)
  | blk (id : Nat)
  | loop (c : Code) (q : Nat)

noncomputable def childL (q : Nat) (κ : List Fk) : Code → Option (Code × List Fk)
  | .seq a b => some (a, .seq b (2 * q + 1) :: κ)
  | .cond _ a _ => some (a, κ)
  | .block id c => some (c, .blk id :: κ)
  | .loop c => some (c, .loop c q :: κ)
  | .scope c => some (c, κ)
  | _ => none
noncomputable def childR (κ : List Fk) : Code → Option (Code × List Fk)
  | .seq _ b => some (b, κ)
  | .cond _ _ b => some (b, κ)
  | _ => none
noncomputable def childOf (q : Nat) (odd : Bool) : Option (Code × List Fk) → Option (Code × List Fk)
  | some (c, κ) => bif odd then childR κ c else childL q κ c
  | none => none
noncomputable def atN (body : Code) : Nat → Nat → Option (Code × List Fk)
  | 0, _ => none
  | n + 1, q => bif Nat.beq q 1 then some (body, []) else childOf (q / 2) (Nat.beq (q % 2) 1) (atN body n (q / 2))

noncomputable def setAll : List Tmp → List V → Tr V → Tr V
  | i :: l, v :: vs, t => (setAll l vs t).set i v
  | _, _, t => t
noncomputable def getAll (t : Tr V) : List Tmp → Option (List V)
  | [] => some []
  | i :: l => match t.get i with
    | none => none
    | some v => match getAll t l with
      | none => none
      | some vs => some (v :: vs)

abbrev Cuts := List (Nat × Nat × List Tmp)
noncomputable def cutAt (q : Nat) : Cuts → Option (Nat × List Tmp)
  | [] => none
  | (p, l, live) :: cs => bif Nat.beq p q then some (l, live) else cutAt q cs

section
variable (P : Program) [Orc] (g : Nat → List V → Hp → VH)

noncomputable def jumpTo (t : Tr V) (h : Hp) : Option (Nat × List Tmp) → VH
  | some (l, live) => (match getAll t live with
    | some vs => g (2 * l + 1) vs h
    | none => none)
  | none => none


noncomputable def opt2 (x y : Option V) (k : V → V → VH) : VH := optD x fun a => optD y fun b => k a b

noncomputable def intS (op : BinOp) (a b : V) (k : V → VH) : VH := intE a fun d m => intE b fun d' n => bif kEq d d' then optS (intOp op d m n) k else none
noncomputable def binD (d : Option TypeDesc) (op : BinOp) (a b : V) (k : V → VH) : VH :=
  match d with
  | some (.int _) => cD (shiftB op) (shS op a b k) (intS op a b k)
  | some .string => strS op a b k
  | some d => eqS d op a b k
  | none => none
noncomputable def lenD (d : Option TypeDesc) (as : List V) (h : Hp) (k : V → Hp → VH) (bk : VH) : VH :=
  match d with
  | some .string => (match as with
    | x :: _ => lenStr x fun v => k v h
    | [] => none)
  | some (.slice _) => (match as with
    | x :: _ => lenSl x fun v => k v h
    | [] => none)
  | some (.map _ _) => (match as with
    | x :: _ => lenMp x h fun v => k v h
    | [] => none)
  | _ => bk
noncomputable def appZ (size : Nat) (z : Option V) (x bk : VH) : VH :=
  match z with
  | some z => cD (Nat.beq (vcells z).length size) x bk
  | none => none
noncomputable def appD2 (elem : TypeId) (as : List V) (h : Hp) (k : V → Hp → VH) (bk : VH) : VH :=
  match as with
  | [s, x] => (match P.info? elem with
    | some info => appZ info.size (zero P elem) (bindS (appS elem info.bytes info.size s x h) k) bk
    | none => none)
  | _ => none
noncomputable def appT (d : Option TypeDesc) (x : VH) : VH :=
  match d with
  | some (.slice _) => x
  | some .string => x
  | _ => none
noncomputable def appD (d d2 : Option TypeDesc) (as : List V) (h : Hp) (k : V → Hp → VH) (bk : VH) : VH :=
  match d with
  | some (.slice elem) => appT d2 (appD2 P elem as h k bk)
  | _ => none
noncomputable def exBuiltinP (h : Hp) (b : Builtin) (as : List V) (tys : List TypeId) : VH :=
  match b with
  | .len => exLen P h (some as) tys
  | .append => exAppend P h (some as) tys
  | _ => none
noncomputable def builtinD (h : Hp) (b : Builtin) (as : List V) (tys : List TypeId) (k : V → Hp → VH) : VH :=
  match b with
  | .len => (match tys with
    | ty :: _ => lenD (P.underlying ty) as h k (bindS (exLen P h (some as) tys) k)
    | [] => none)
  | .append => (match tys with
    | ty :: ty2 :: _ => appD P (P.underlying ty) (P.underlying ty2) as h k (bindS (exAppend P h (some as) tys) k)
    | _ => none)
  | _ => none
noncomputable def callD (t : Tr V) (h : Hp) (c : Call) (k : V → Hp → VH) : VH :=
  match c.callee with
  | .value f => optD (evalO t f) fun v => (match evalL t c.args.toList with
    | some as => bindS (dynE g v as h) k
    | none => none)
  | .builtin b => (match evalL t c.args.toList with
    | some as => builtinD P h b as c.argTypes.toList k
    | none => none)
  | _ => none
noncomputable def buildD (d : Option TypeDesc) (h : Hp) (z : Option V) (ps : List (Nat × V)) (k : V → Hp → VH) : VH :=
  match z with
  | none => none
  | some z => (match d with
    | some (.struct fields) => (match placesL P fields.toList with
      | some pl => bindS (bldStruct h ps z (some pl)) k
      | none => none)
    | some (.array _ elem) => (match sz P elem with
      | some s => bindS (bldArr h ps z s) k
      | none => none)
    | _ => none)
noncomputable def buildSliceD (d : Option TypeDesc) (h : Hp) (len : Nat) (ps : List (Nat × V)) (k : V → Hp → VH) : VH :=
  match d with
  | some (.slice elem) => (match sz P elem with
    | none => none
    | some s => match zero P elem with
      | none => none
      | some z => bindS (bldSl h ps elem len s z) k)
  | _ => none
noncomputable def pickV (c a b : V) : Option V :=
  match c with
  | .bool true => some a
  | .bool false => some b
  | _ => none
noncomputable def evalM (t : Tr V) : Option Operand → Option (Option V)
  | none => some none
  | some y => match evalO t y with
    | some v => some (some v)
    | none => none
noncomputable def sliceD (d : Option TypeDesc) (h : Hp) (x : V) (lo hi : Option V) (k : V → Hp → VH) : VH :=
  match d with
  | some .string => slStrK lo hi x fun v => k v h
  | some (.slice elem) => (match sz P elem with
    | some s => bindS (slSlK elem s lo hi h x) k
    | none => none)
  | _ => none
noncomputable def loadD (ty : TypeId) (a : V) (h : Hp) (k : V → Hp → VH) : VH :=
  match aggT P ty with
  | some false => load1 a h fun v => k v h
  | some true => (match sz P ty with
    | some s => loadN s a h fun v => k v h
    | none => none)
  | none => none
noncomputable def denRes (h : Hp) (t : Tr V) : List ResultVar → (List V → VH) → VH
  | [], k => k []
  | .tmp i :: rs, k => optD (t.get i) fun v => denRes h t rs fun vs => k (v :: vs)
  | .cell a ty :: rs, k => optD (t.get a) fun p => loadD P ty p h fun v _ => denRes h t rs fun vs => k (v :: vs)
noncomputable def retS (rs : List ResultVar) (t : Tr V) (h : Hp) : VH := denRes P h t rs fun vs => some (one vs, h)
noncomputable def storeD (ty : TypeId) (a x : V) (h : Hp) (k : V → Hp → VH) : VH :=
  match aggT P ty with
  | some false => (match sz P ty with
    | some 1 => storeC a x h fun h' => k unitV h'
    | _ => bindS (exStore P h ty (some a) (some x)) k)
  | some true => (match sz P ty with
    | some s => storeN s a x h fun h' => k unitV h'
    | none => none)
  | none => none
noncomputable def fieldAddrD (d : Option TypeDesc) (f : Nat) (a : V) (k : V → VH) : VH :=
  match d with
  | some (.struct fields) => (match fields[f]? with
    | some fl => (match sz P fl.type with
      | some s => cD (Nat.beq s 0) none (addrS fl.offset a k)
      | none => none)
    | none => none)
  | _ => none
noncomputable def fieldD (d : Option TypeDesc) (f : Nat) (x : V) (k : V → VH) : VH :=
  match d with
  | some (.struct fields) => (match fields[f]? with
    | some fl => (match aggT P fl.type with
      | some true => (match sz P fl.type with
        | some s => fldN fl.offset s x k
        | none => none)
      | some false => fld1 fl.offset x k
      | none => none)
    | none => none)
  | _ => none
noncomputable def indexAddrD (d : Option TypeDesc) (x i : V) (k : V → VH) : VH :=
  match d with
  | some (.slice elem) => (match sz P elem with
    | some s => idxS s x i k
    | none => none)
  | some (.array len elem) => (match sz P elem with
    | some s => idxP s len x i k
    | none => none)
  | _ => none
noncomputable def indexD (d : Option TypeDesc) (x i : V) (k : V → VH) : VH :=
  match d with
  | some .string => idxStr x i k
  | some (.array len elem) => (match sz P elem with
    | some s => (match aggT P elem with
      | some true => idxAN s len x i k
      | some false => idxA1 s len x i k
      | none => none)
    | none => none)
  | _ => none
noncomputable def convD (ds dd : Option TypeDesc) (x : V) (k : V → VH) : VH :=
  match ds with
  | some (.int _) => (match dd with
    | some (.int d) => convI d x k
    | _ => none)
  | some .string => (match dd with
    | some .string => convS x k
    | _ => none)
  | _ => none
noncomputable def ifaceD (d : Option TypeDesc) (x : VH) : VH :=
  match d with
  | some (.interface _) => none
  | some _ => x
  | none => none
noncomputable def unD (op : UnOp) (x : V) (k : V → VH) : VH :=
  match op with
  | .not => notS x k
  | .neg => negS x k
  | _ => none
noncomputable def makeD (d : Option TypeDesc) (l c : V) (h : Hp) (k : V → Hp → VH) : VH :=
  match d with
  | some (.slice elem) => (match P.info? elem with
    | some info => (match zero P elem with
      | some z => bindS (mkS elem info.bytes info.size z l c h) k
      | none => none)
    | none => none)
  | _ => none
noncomputable def lookD (d : Option TypeDesc) (ok : Bool) (x key : V) (h : Hp) (k : V → Hp → VH) : VH :=
  match d with
  | some (.map kt elem) => (match P.underlying kt with
    | some d => bindS (lookS d (zero P elem) ok x key h) k
    | none => none)
  | _ => none
noncomputable def updD (d : Option TypeDesc) (m key x : V) (h : Hp) (k : V → Hp → VH) : VH :=
  match d with
  | some (.map kt _) => (match P.underlying kt with
    | some d => bindS (updS d m key x h) k
    | none => none)
  | _ => none
noncomputable def allocD (e : TypeId) (z : Option V) (h : Hp) (k : V → Hp → VH) : VH :=
  match z with
  | some z => newS e (vcells z) h k
  | none => none
noncomputable def denOpC (o : Oper) (t : Tr V) (h : Hp) (k : V → Hp → VH) : VH :=
  match o.op with
  | .move x => optD (evalO t x) fun v => k v h
  | .assign x => optD (evalO t x) fun v => k v h
  | .binOp op ty x y _ => opt2 (evalO t x) (evalO t y) fun a b => binD (P.underlying ty) op a b fun v => k v h
  | .load ty a => optD (evalO t a) fun a => loadD P ty a h k
  | .store ty a x => opt2 (evalO t a) (evalO t x) fun a x => storeD P ty a x h k
  | .extract x i => optD (evalO t x) fun v => extS i v fun v => k v h
  | .call c => callD P g t h c k
  | .build ty parts => (match evalP t parts.toList with
    | some ps => buildD P (P.underlying ty) h (zero P ty) ps k
    | none => none)
  | .buildSlice ty len parts => (match evalP t parts.toList with
    | some ps => buildSliceD P (P.underlying ty) h len ps k
    | none => none)
  | .pick c a b => optD (evalO t c) fun c => opt2 (evalO t a) (evalO t b) fun a b => optS (pickV c a b) fun v => k v h
  | .makeFunc (.func f) first cap => (match evalL t first.toList with
    | some as => (match evalL t cap.toList with
      | some cs => k (.func f as cs) h
      | none => none)
    | none => none)
  | .slice ty x lo hi none => optD (evalO t x) fun x => (match evalM t lo with
    | some lo => (match evalM t hi with
      | some hi => sliceD P (P.underlying ty) h x lo hi k
      | none => none)
    | none => none)
  | .alloc e => allocD e (zero P e) h k
  | .box e x => optD (evalO t x) fun x => newS e (vcells x) h k
  | .nilCheck x => optD (evalO t x) fun x => nilS x fun v => k v h
  | .unOp op _ x => optD (evalO t x) fun x => unD op x fun v => k v h
  | .convert s d x => optD (evalO t x) fun x => convD (P.underlying s) (P.underlying d) x fun v => k v h
  | .makeInterface ty x => optD (evalO t x) fun x => ifaceD (P.underlying ty) (k (.iface ty x) h)
  | .makeMap _ none => k (.map h.n) (h.new (.map []))
  | .makeSlice ty l c => opt2 (evalO t l) (evalO t c) fun l c => makeD P (P.underlying ty) l c h k
  | .fieldAddr ty x f => optD (evalO t x) fun x => fieldAddrD P (P.underlying ty) f x fun v => k v h
  | .field ty x f => optD (evalO t x) fun x => fieldD P (P.underlying ty) f x fun v => k v h
  | .indexAddr ty x i => opt2 (evalO t x) (evalO t i) fun x i => indexAddrD P (P.underlying ty) x i fun v => k v h
  | .index ty x i => opt2 (evalO t x) (evalO t i) fun x i => indexD P (P.underlying ty) x i fun v => k v h
  | .lookup ty x i ok => opt2 (evalO t x) (evalO t i) fun x i => lookD P (P.underlying ty) ok x i h k
  | .mapUpdate ty m key x => optD (evalO t m) fun m => opt2 (evalO t key) (evalO t x) fun key x => updD P (P.underlying ty) m key x h k
  | op => bindS (execC P t h op) k
noncomputable def denX (o : Op) (t : Tr V) (h : Hp) (k : V → Hp → VH) : VH :=
  match evalL t o.operands.toList with
  | some as => bindS (Orc.op o as h) k
  | none => none
noncomputable def denOp (o : Oper) (t : Tr V) (h : Hp) (k : V → Hp → VH) : VH :=
  cD (Nat.beq (xk o.op) 0) (denOpC P g o t h k) (denX o.op t h k)
/-- what a guard looks at. -/
noncomputable def guardAt (all : Array Oper) (t : Tr V) (j : Nat) : Option V :=
  match all[j]? with
  | some o => (match o.dst with
    | some d => t.get d
    | none => none)
  | none => none
noncomputable def denOps (all : Array Oper) : List Oper → Tr V → Hp → (Tr V → Hp → VH) → VH
  | [], t, h, k => k t h
  | o :: l, t, h, k => match o.guard with
    | none => denOp P g o t h fun v h' => denOps all l (putO t o.dst v) h' k
    | some (j, w) => optD (guardAt all t j) fun x => guardS x w (denOp P g o t h fun v h' => some (v, h')) h fun v h' => denOps all l (putO t o.dst v) h' k

/-! regions that draw -/
noncomputable def hdStoreD (ms : Tr Nat) (s : Hd) (o : Oper) (i m : Nat) (h : Hp) (ty : TypeId) (a x : V) (k : Hd → VH) : VH :=
  ptrE a fun b off => storeB (storeO P (stores s.st h) ty b off x) fun ob => cD (s.nob.all (fun x => anc ms i x.1 || okV b x.2)) (k ⟨s.c, s.hs, s.need.set i m, putO s.t o.dst unitV, s.st ++ [(b, ob)], (i, undefV) :: s.nob⟩) none
noncomputable def hdMkD (ms : Tr Nat) (s : Hd) (o : Oper) (i : Nat) (h : Hp) (k : Hd → VH) : VH :=
  cD (obliv o.op)
    (denOp P g o s.t ⟨h.t, h.n, h.n⟩ fun v h' => madeS h.n h.low h' fun h'' => k ⟨s.c + 1, s.hs.set (s.c + 1) h'', s.need.set i (s.c + 1), putO s.t o.dst v, s.st, hdNob s o i v⟩)
    (denOp P g o s.t ⟨h.t, h.n, h.n⟩ fun v h' => cD (s.nob.all fun x => (anc ms i x.1 || markV x.2) || (pureB h h' || sameLd h h' x.2))
      (wroteS h.low h' fun h'' => k ⟨s.c + 1, s.hs.set (s.c + 1) h'', s.need.set i (s.c + 1), putO s.t o.dst v, s.st, (i, .bool (pureB h h')) :: (i, undefV) :: s.nob⟩) none)
noncomputable def hdPlainD (ms : Tr Nat) (s : Hd) (o : Oper) (i m : Nat) (h : Hp) (k : Hd → VH) : VH :=
  cD (obliv o.op || freeM ms i s)
    (cD (makes o) (cD (Nat.beq m s.c) (hdMkD P g ms s o i h k) none)
    (denOp P g o s.t h fun v _ => k ⟨s.c, s.hs, s.need.set i m, putO s.t o.dst v, s.st, hdNob s o i v⟩))
  none
noncomputable def hdFloD (ms : Tr Nat) (s : Hd) (o : Oper) (i m : Nat) (h : Hp) (k : Hd → VH) : Option V → VH
  | none => hdPlainD P g ms s o i m h k
  | some p => k ⟨s.c, s.hs, s.need.set i m, putO s.t o.dst p, s.st, s.nob⟩
noncomputable def hdDoD (ms : Tr Nat) (s : Hd) (o : Oper) (i m : Nat) (k : Hd → VH) : Option Hp → VH
  | none => none
  | some h => (match o.op with
    | .store ty a x => opt2 (evalO s.t a) (evalO s.t x) fun a x => hdStoreD P ms s o i m h ty a x k
    | .alloc _ => hdFloD P g ms s o i m h k (floOf s.nob i)
    | _ => hdPlainD P g ms s o i m h k)
noncomputable def stFree (ms : Tr Nat) (i : Nat) (s : Hd) : Bool := isNil s.st && s.nob.all fun x => anc ms i x.1 || !(markV x.2)
noncomputable def mergeOk (ms : Tr Nat) (i : Nat) (s : Hd) (o : Oper) : Bool := !makes o && ((obliv o.op || stFree ms i s) && (floOf s.nob i).isNone)
noncomputable def guardM (h : Option Hp) (k : Hp → VH) : VH := (fun _ : Nat => match h with
  | some h => k h
  | none => none) tl60
noncomputable def denHead (ms : Tr Nat) (all : Array Oper) : List Oper → Nat → Hd → (Hd → VH) → VH
  | [], _, s, k => k s
  | o :: l, i, s, k => match o.guard with
    | none => hdDoD P g ms s o i (maxNeed s.need o.after.toList) (fun s' => denHead ms all l (i + 1) s' k) (s.hs.get (maxNeed s.need o.after.toList))
    | some (j, w) => optD (guardAt all s.t j) fun x => cD (mergeOk ms i s o)
        (guardM (s.hs.get (maxNeed s.need o.after.toList)) fun h => guardS x w (denOp P g o s.t h fun v h' => some (v, h')) h fun v _ =>
          denHead ms all l (i + 1) ⟨s.c, s.hs, s.need.set i (maxNeed s.need o.after.toList), putO s.t o.dst v, s.st, hdNob s o i v⟩ k)
      (guardB x w
        (hdDoD P g ms s o i (maxNeed s.need o.after.toList) (fun s' => denHead ms all l (i + 1) s' k) (s.hs.get (maxNeed s.need o.after.toList)))
        (denHead ms all l (i + 1) (hdSkip s o i (maxNeed s.need o.after.toList)) k))
noncomputable def denTail (ops : Array Oper) (k : Tr V → Hp → VH) (s : Hd) : VH :=
  match s.hs.get s.c with
  | some h => denOps P g ops (ops.toList.drop (headLen ops)) s.t (stores s.st h) k
  | none => none
noncomputable def denReg (ops : Array Oper) (t : Tr V) (h : Hp) (k : Tr V → Hp → VH) : Bool → VH
  | false => denOps P g ops ops.toList t h k
  | true => cD (okDraw ops) (denHead P g (masks ops) ops (ops.toList.take (headLen ops)) 0 ⟨0, Tr.nil.set 0 (flo0 P (ops.toList.take (headLen ops)) 0 h).1, .nil, t, [], (flo0 P (ops.toList.take (headLen ops)) 0 h).2⟩ (denTail P g ops k)) none

section
variable (cuts : Cuts) (rs : List ResultVar)
/-- what stands behind a normal end. -/
noncomputable def popN (d : Code → Nat → List Fk → Tr V → Hp → VH) (t : Tr V) (h : Hp) : List Fk → VH
  | [] => retS P rs t h
  | .seq b q :: κ => (match cutAt q cuts with
    | some c => jumpTo g t h (some c)
    | none => d b q κ t h)
  | .blk _ :: κ => popN d t h κ
  | .loop _ q :: _ => jumpTo g t h (cutAt q cuts)
noncomputable def popX (d : Code → Nat → List Fk → Tr V → Hp → VH) (id : Nat) (t : Tr V) (h : Hp) : List Fk → VH
  | [] => none
  | .seq _ _ :: κ => popX d id t h κ
  | .blk j :: κ => cD (Nat.beq id j) (popN P g cuts rs d t h κ) (popX d id t h κ)
  | .loop _ _ :: κ => popX d id t h κ
noncomputable def den : Nat → Code → Nat → List Fk → Tr V → Hp → VH
  | 0, _, _, _, _, _ => none
  | m + 1, c, q, κ, t, h => match c with
    | .skip => popN P g cuts rs (den m) t h κ
    | .region _ ops d => denReg P g ops t h (fun t h => popN P g cuts rs (den m) t h κ) d
    | .seq a b => den m a (2 * q) (.seq b (2 * q + 1) :: κ) t h
    | .cond x a b => optD (evalO t x) fun v => ifS v (den m a (2 * q) κ t h) (den m b (2 * q + 1) κ t h)
    | .block id c => den m c (2 * q) (.blk id :: κ) t h
    | .loop _ => jumpTo g t h (cutAt q cuts)
    | .exit id => popX P g cuts rs (den m) id t h κ
    | .ret => retS P rs t h
    | .scope c => den m c (2 * q) κ t h
    | .label _ => popN P g cuts rs (den m) t h κ
    | _ => none
/-- the code at a label, entered. -/
noncomputable def denIn (m : Nat) (q : Nat) (t : Tr V) (h : Hp) : Option (Code × List Fk) → VH
  | some (.loop c, κ) => den P g cuts rs m c (2 * q) (.loop c q :: κ) t h
  | some (c, κ) => den P g cuts rs m c q κ t h
  | none => none
end

/-- a function, entered. -/
noncomputable def denF (m : Nat) (cuts : Cuts) (as : List V) (h : Hp) : Option Func → VH
  | some fn => (match fn.body with
    | some c => cD (Nat.ble as.length fn.ntmps && okCode fn.ntmps c) (denIn P g cuts fn.results.toList m 1 (Tr.nil.setL 0 as) h (some (c, []))) none
    | none => none)
  | none => none
/-- a label of a function, entered. -/
noncomputable def denL (m : Nat) (cuts : Cuts) (q : Nat) (live : List Tmp) (vs : List V) (h : Hp) : Option Func → VH
  | some fn => (match fn.body with
    | some c => denIn P g cuts fn.results.toList m q (setAll live vs .nil) h (atN c (q + 1) q)
    | none => none)
  | none => none
end
end Go.Mid
