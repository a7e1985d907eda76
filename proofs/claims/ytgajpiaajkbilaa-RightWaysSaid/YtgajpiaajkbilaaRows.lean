/-
  No cell of these rows narrows 'for every input' (looked for: loops, veiled, ifaces, maps, wideKeys, modest, calm, conditions, laid).
  DERIVED. THE GIVEN ROWS OF THIS SEAT. 2 by the template 'for every input the law returns true; each argument reads behind the call as it read before'; 0 by the template 'total and deterministic' (their statements: YtgajpiaajkbilaaTotals.lean).
  GIVEN WITH THE SEED: the statements are not yours to turn. If you find one false, say at which input.
  Laid BY PROGRAM, IN A SANDBOX (cutbox-rows.mjs): the forced cells as the released guide's own fill.sh prints them over the translation fc9e8351d6b83f0a… (all of the seat's roots in one cut). By AI agents, Wed Nov 11 2026. No macro, syntax, notation, axiom, sorry.
-/
import Derived.Test.YtgajpiaajkbilaaChecked
import GoSem.Claim
import GoSem.ClaimJoined
import GoSem.ClaimMapViews
import Derived.JoinedTies
import Derived.KernelRfl
namespace Go.Proofs.Ytgajpiaajkbilaa
/- THE CELL 'sum', in the pinned program and in every row, IS THE sha256 OF THE DUMP (.gsa) THAT YtgajpiaajkbilaaProg.lean LOADS. Nothing in Lean hashes anything: it is a label: what it is worth is what the hold of that sum in a sandbox is worth. -/
noncomputable def Try.pinned : Pinned := { name := "ytgajpiaajkbilaa", sum := "fc9e8351d6b83f0a0b373d7c75450b6b4f98dcc81e180d6c6757526ed4744a9c", checked := Try.checked }
namespace Rows
def none {H : Type} : Left H := { results := [], args := [] }

/-- 'twinsteplaw09.RightNumbers': WHATEVER THE INPUT: true; the input reads as it did. -/
def rightNumbersSpec : ChangeSpec := { name := "rightNumbers", fn := fun _ => fun
  | [] => { results := [.lit (.bool true)], args := [] }
  | _ => none }
def rightNumbersRow : OpenClaim := { program := "ytgajpiaajkbilaa", sum := "fc9e8351d6b83f0a0b373d7c75450b6b4f98dcc81e180d6c6757526ed4744a9c", func := "twinstep/twinsteplaw09.RightNumbers", spec := "rightNumbers", unfollowed := true, recurses := true, apart := false }
def RightNumbersSaid : Prop := rightNumbersRow.holds Try.pinned (OpenSpec.ofChange rightNumbersSpec)

/-- ITS FALSE NEIGHBOUR: 'it returns false'. Refute it at one input. -/
def rightNumbersWrong : ChangeSpec := { name := "rightNumbers", fn := fun _ => fun
  | [] => { results := [.lit (.bool false)], args := [] }
  | _ => none }
def RightNumbersWrongFalsely : Prop := rightNumbersRow.holds Try.pinned (OpenSpec.ofChange rightNumbersWrong)

/-- 'twinsteplaw09.RightWays': WHATEVER THE INPUT: true; the input reads as it did. -/
def rightWaysSpec : ChangeSpec := { name := "rightWays", fn := fun _ => fun
  | [d1, d2, d3] => { results := [.lit (.bool true)], args := [d1, d2, d3] }
  | _ => none }
def rightWaysRow : OpenClaim := { program := "ytgajpiaajkbilaa", sum := "fc9e8351d6b83f0a0b373d7c75450b6b4f98dcc81e180d6c6757526ed4744a9c", func := "twinstep/twinsteplaw09.RightWays", spec := "rightWays", unfollowed := true, recurses := true, apart := false }
def RightWaysSaid : Prop := rightWaysRow.holds Try.pinned (OpenSpec.ofChange rightWaysSpec)

/-- ITS FALSE NEIGHBOUR: 'it returns false'. Refute it at one input. -/
def rightWaysWrong : ChangeSpec := { name := "rightWays", fn := fun _ => fun
  | [d1, d2, d3] => { results := [.lit (.bool false)], args := [d1, d2, d3] }
  | _ => none }
def RightWaysWrongFalsely : Prop := rightWaysRow.holds Try.pinned (OpenSpec.ofChange rightWaysWrong)

/- THE SECOND FORM. 'bulk': how many values and letters a reading holds, each counted each time it is reached (what is shared counts as often as it is met; a slice's spare places count too). A statement '..UptoSaid' is the law's where the arguments, and the package variables that the reading takes, are together of bulk at most 1048576: NARROWER than '..Said'. Prove '..Said' where nothing that the law and all that it calls make is longer than what came in: it says more and counts as full. Else prove '..UptoSaid'. A law counts once. -/
mutual
def uptoBulk {H : Type} : DataW H → Nat
  | .lit (.string bytes) => bytes.length + 1
  | .lit _ => 1
  | .nil => 1
  | .ptr d => uptoBulk d + 1
  | .slice elems spare => uptoBulkAll elems + uptoBulkAll spare + 1
  | .agg parts => uptoBulkAll parts + 1
  | .iface _ d => uptoBulk d + 1
  | .map entries => uptoBulkEntries entries + 1
  | .held _ => 1
def uptoBulkAll {H : Type} : List (DataW H) → Nat
  | [] => 0
  | d :: r => uptoBulk d + uptoBulkAll r
def uptoBulkEntries {H : Type} : List (Lit × DataW H) → Nat
  | [] => 0
  | x :: r => uptoBulkEntry x + uptoBulkEntries r
def uptoBulkEntry {H : Type} : Lit × DataW H → Nat
  | (.string bytes, d) => bytes.length + uptoBulk d + 1
  | (_, d) => uptoBulk d + 1
 end
def uptoSmall : (H : Type) → List (DataW H) → Bool := fun _ ds => decide (uptoBulkAll ds ≤ 1048576)
def OpenSpec.upto (s : _root_.Go.ChangeSpec) : _root_.Go.OpenSpec := { _root_.Go.OpenSpec.ofChange s with cond := some uptoSmall }

/-- 'twinsteplaw09.RightNumbers', WHERE WHAT IT READS IS OF BULK AT MOST 1048576: true; the input reads as it did. -/
def rightNumbersUptoRow : OpenClaim := { program := "ytgajpiaajkbilaa", sum := "fc9e8351d6b83f0a0b373d7c75450b6b4f98dcc81e180d6c6757526ed4744a9c", func := "twinstep/twinsteplaw09.RightNumbers", spec := "rightNumbers", unfollowed := true, recurses := true, apart := false, narrowed := true }
def RightNumbersUptoSaid : Prop := rightNumbersUptoRow.holds Try.pinned (OpenSpec.upto rightNumbersSpec)

/-- 'twinsteplaw09.RightWays', WHERE WHAT IT READS IS OF BULK AT MOST 1048576: true; the input reads as it did. -/
def rightWaysUptoRow : OpenClaim := { program := "ytgajpiaajkbilaa", sum := "fc9e8351d6b83f0a0b373d7c75450b6b4f98dcc81e180d6c6757526ed4744a9c", func := "twinstep/twinsteplaw09.RightWays", spec := "rightWays", unfollowed := true, recurses := true, apart := false, narrowed := true }
def RightWaysUptoSaid : Prop := rightWaysUptoRow.holds Try.pinned (OpenSpec.upto rightWaysSpec)

end Rows
end Go.Proofs.Ytgajpiaajkbilaa
