/- What is answered at once in the lex group: its definitions. -/
import Derived.Test.YtdiiilfokajddaaGreatDoorKMidHH
import Derived.Test.YtdiiilfokajddaaGreatDoorKMidQQ
import Derived.Test.YtdiiilfokajddaaGreatDoorKMidFF
import Derived.Shelf.Strconv.ParseIntPublic10
import Derived.Lib.TrimByte
import Derived.Lib.SlTrimSet
import Derived.Lib.ItoaMem
set_option linter.all false
set_option warn.classDefReducibility false
noncomputable section
section
namespace Go.Mid
open Go.RowKit
variable (P : Program)
def kdLX : Op → Nat:=kdOr (kdW P) (kdLn P)
def opLX : Op → List V → Hp → Option (V × Hp):=opLay (kdW P) (opW P) (opLn P)
variable {P}
theorem lxops : OpsOk P (kdLX P) (opLX P):=wops.or lnops
def trimF (vs : List V) (h : Hp) : Option (V × Hp) :=
 match vs with
 | [.str s, .str c] => bif (Nat.ble s.l.length 2147483648 && Nat.ble c.l.length 2147483648) && asciiB c.l then some (.str (pack (Lib.trimS s.l c.l)), h) else none
 | _ => none
def trimLF (vs : List V) (h : Hp) : Option (V × Hp) :=
 match vs with
 | [.str s, .str c] => (match c.l with
  | [b] => bif Nat.blt b.toNat 128 then some (.str (pack (Lib.trimLeftB s.l b)), h) else none
  | _ => none)
 | _ => none
def parseF (e : TypeId) (vs : List V) (h : Hp) : Option (V × Hp) :=
 match vs with
 | [.str s, .int .i64 10, .int .i64 64] => bif Nat.ble s.l.length 2147483648 then (match Lib.parseIntB 64 s.l with
  | .ok v => some (.tuple [.int .i64 v, .nilIface], h)
  | .range => some (.tuple [.int .i64 (Lib.intSat 64 s.l), .iface e (.ptr h.n 0)], h.new .dead)
  | _ => some (.tuple [.int .i64 0, .iface e (.ptr h.n 0)], h.new .dead)) else none
 | _ => none
def sgA : List V:=[.str ⟨1, 35⟩, .str ⟨1, 37⟩, .str ⟨1, 38⟩, .str ⟨1, 40⟩, .str ⟨1, 41⟩, .str ⟨1, 42⟩, .str ⟨1, 43⟩, .str ⟨1, 44⟩, .str ⟨1, 45⟩, .str ⟨1, 46⟩, .str ⟨2, 11822⟩, .str ⟨3, 3026478⟩, .str ⟨2, 12079⟩, .str ⟨1, 58⟩, .str ⟨2, 14906⟩, .str ⟨1, 59⟩, .str ⟨1, 60⟩, .str ⟨2, 15420⟩, .str ⟨2, 15676⟩, .str ⟨1, 61⟩, .str ⟨2, 15677⟩, .str ⟨1, 62⟩, .str ⟨2, 15678⟩, .str ⟨2, 15934⟩, .str ⟨1, 91⟩, .str ⟨1, 93⟩, .str ⟨1, 123⟩, .str ⟨1, 124⟩, .str ⟨1, 125⟩, .str ⟨1, 126⟩, .str ⟨2, 15742⟩]
def sgB : List V:=[.str ⟨3, 3026478⟩, .str ⟨2, 11822⟩, .str ⟨2, 12079⟩, .str ⟨2, 14906⟩, .str ⟨2, 15420⟩, .str ⟨2, 15676⟩, .str ⟨2, 15677⟩, .str ⟨2, 15678⟩, .str ⟨2, 15934⟩, .str ⟨2, 15742⟩, .str ⟨1, 35⟩, .str ⟨1, 37⟩, .str ⟨1, 38⟩, .str ⟨1, 40⟩, .str ⟨1, 41⟩, .str ⟨1, 42⟩, .str ⟨1, 43⟩, .str ⟨1, 44⟩, .str ⟨1, 45⟩, .str ⟨1, 46⟩, .str ⟨1, 58⟩, .str ⟨1, 59⟩, .str ⟨1, 60⟩, .str ⟨1, 61⟩, .str ⟨1, 62⟩, .str ⟨1, 91⟩, .str ⟨1, 93⟩, .str ⟨1, 123⟩, .str ⟨1, 124⟩, .str ⟨1, 125⟩, .str ⟨1, 126⟩]
def signsF (vs : List V) (h : Hp) : Option (V × Hp) :=
 match vs with
 | [] => some (.slice h.n 0 31 31 false, h.new (.cells (Tr.nil.setL 0 sgA) 31 false 9))
 | _ => none
def sortF (f : FuncId) (vs : List V) (h : Hp) : Option (V × Hp) :=
 match vs with
 | [.slice b 0 31 31 false, .int .i64 31, .func g [] []] => bif Nat.beq f g then (match h.t.get b with
  | some (.cells t 31 false 9) => bif vEqO (t.getL 0 31) (some sgA) then some (.tuple [], h.put b (.cells (Tr.nil.setL 0 sgB) 31 false 9)) else none
  | _ => none) else none
 | _ => none
end Go.Mid
namespace Go.LX
def wt0 : List Int:=[0, 0, 0, 0, 0, 0, 0, 0, 0, 1, 1, 1, 1, 1, 0, 0, 0, 0, 0, 0, 0, 0, 0, 0, 0, 0, 0, 0, 0, 0, 0, 0, 1, 0, 0, 0, 0, 0, 0, 0, 0, 0, 0, 0, 0, 0, 0, 0, 0, 0, 0, 0, 0, 0, 0, 0, 0, 0, 0, 0, 0, 0, 0, 0, 0, 0, 0, 0, 0, 0, 0, 0, 0, 0, 0, 0, 0, 0, 0, 0, 0, 0, 0, 0, 0, 0, 0, 0, 0, 0, 0, 0, 0, 0, 0, 0, 0, 0, 0, 0, 0, 0, 0, 0, 0, 0, 0, 0, 0, 0, 0, 0, 0, 0, 0, 0, 0, 0, 0, 0, 0, 0, 0, 0, 0, 0, 0, 0, 0, 0, 0, 0, 0, 0, 0, 0, 0, 0, 0, 0, 0, 0, 0, 0, 0, 0, 0, 0, 0, 0, 0, 0, 0, 0, 0, 0, 0, 0, 0, 0, 0, 0, 0, 0, 0, 0, 0, 0, 0, 0, 0, 0, 0, 0, 0, 0, 0, 0, 0, 0, 0, 0, 0, 0, 0, 0, 0, 0, 0, 0, 0, 0, 0, 0, 0, 0, 0, 0, 0, 0, 0, 0, 0, 0, 0, 0, 0, 0, 0, 0, 0, 0, 0, 0, 0, 0, 0, 0, 0, 0, 0, 0, 0, 0, 0, 0, 0, 0, 0, 0, 0, 0, 0, 0, 0, 0, 0, 0, 0, 0, 0, 0, 0, 0, 0, 0, 0, 0, 0, 0, 0, 0, 0, 0, 0, 0]
def RowIs (w : World) (g : Nat) (k : IntKind) (l : List Int) : Prop:=∃ arr t fz, w.heap[g]? = some (.cells arr t fz) ∧ arr.toList = l.map (Value.int k)
end Go.LX
end
section
namespace Go.Mid
section
def textF (vs : List V) (h : Hp) : Option (V × Hp) :=
 match vs with
 | [.int .i64 n, .int .i64 10] => bif decide (-9223372036854775808 ≤ n) && decide (n ≤ 9223372036854775807) then some (.str (pack (Lib.itoa n)), h) else none
 | _ => none
def p10 : List Int:=[1, 10, 100, 1000, 10000, 100000, 1000000, 10000000, 100000000, 1000000000, 10000000000, 100000000000, 1000000000000, 10000000000000, 100000000000000, 1000000000000000, 10000000000000000, 100000000000000000, 1000000000000000000, 10000000000000000000]
theorem p10_eq : Lib.pow10Tab = p10:=by decide +kernel
end
end Go.Mid
end
