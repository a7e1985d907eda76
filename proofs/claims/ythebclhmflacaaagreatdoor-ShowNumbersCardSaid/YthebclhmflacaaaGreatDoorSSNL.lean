/- ShowNumbers: the longest text, the closed parts, reckoned by the kernel over a row of which nothing is looked at. -/
import Derived.Test.YthebclhmflacaaaGreatDoorSSNB
import Derived.KernelRfl
set_option linter.all false
open Go Go.Mid Go.Proofs
set_option maxRecDepth 100000
set_option linter.unusedVariables false
namespace Go.SN
noncomputable def Hc (c : Tr V) (m : Nat) : Hp := ⟨h0.t.set 7 (.cells c 65527 false 5), 8, m⟩
noncomputable def st (z : List UInt8) (h : Hp) : VH := bindS (gTab tabB 100000 24 [.str z] h) fun v h => gTab tabB 100000 10 [v] h
noncomputable def ph (x : VH) : Hp := match x with
  | some (_, h) => h
  | none => h0
noncomputable def is1 (x : VH) : Bool := match x with
  | some (.tuple [.str s, .int .i64 (.ofNat e)], _) => Nat.beq s.length 65535 && Nat.beq e 0
  | _ => false
noncomputable def is2 (x : VH) : Bool := match x with
  | some (.tuple [.str [], .int .i64 (.ofNat e)], _) => Nat.beq e 3
  | _ => false
noncomputable def at7 (h : Hp) (k : Tr V → Bool) : Bool := match h.t.get 7 with
  | some (.cells c n g e) => k c && (Nat.beq n 65527 && (Nat.beq e 5 && !g))
  | _ => false
noncomputable def run (C : Tr V) : Bool := (fun x => is1 x && (fun h => is2 (st (zs ++ [122]) h)) (ph x)) (st zs (Hc C 7))
theorem run1 : ∀ C : Tr V, run C = true := by intro C; kernel_rfl
theorem run2 : ∀ C : Tr V, (ph (st zs (Hc C 7))).t.get 7 = some (.cells C 65527 false 5) := by intro C; kernel_rfl
end Go.SN
