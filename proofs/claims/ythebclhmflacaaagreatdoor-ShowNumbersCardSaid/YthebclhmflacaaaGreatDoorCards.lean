/-
  DERIVED. GIVEN WITH THE SEED: THE CARDS: each row of YthebclhmflacaaaGreatDoorRows.lean that lists a variable, with what it lists TIED to the program's text (the seventh form; the later family's looks); each row that meets fmt, with fmt's text TOLD by the authors' own Lean function (tested against real Go, not proved from fmt's source: count such statements apart). THE CARD IS WHAT COUNTS. Prove the row's statement (the work); the ties are given (YthebclhmflacaaaGreatDoorTie.lean); close each card by the builder's one call (the guide's Derived/Test/ToyasCard.lean, 'card_holds'). Laid BY PROGRAM, IN A SANDBOX (cutbox-door.mjs). By AI agents, Wed Nov 11 2026. No macro, syntax, notation, axiom, sorry.
-/
import Derived.Test.YthebclhmflacaaaGreatDoorRows
import GoSem.ClaimSeven
namespace Go.Proofs.YthebclhmflacaaaGreatDoor
namespace Rows

/-- THE TIED CARD OF 'twinsteplaw07.ShowNumbers'. -/
def showNumbersCard : Claim7 := { stood := { row := showNumbersRow, standIns := [], harness := (true, "f1dab24d8b54562a5c906f4f615a2d6b69324151adbcefd25182c29162533850"), looks := false }, kinds := [], alts := [], laidByText := true, laidKinds := [.data, .data, .data, .listed, .data], laidTests := true, laidLooks := .later }
def ShowNumbersCardSaid : Prop := Claim7.holds Tryz.pinned (.plain (OpenSpec.ofChange showNumbersSpec)) showNumbersCard

/-- THE SECOND FORM's CARD OF 'twinsteplaw07.ShowNumbers'. -/
def showNumbersUptoCard : Claim7 := { stood := { row := showNumbersUptoRow, standIns := [], harness := (true, "f1dab24d8b54562a5c906f4f615a2d6b69324151adbcefd25182c29162533850"), looks := false }, kinds := [], alts := [], laidByText := true, laidKinds := [.data, .data, .data, .listed, .data], laidTests := true, laidLooks := .later }
def ShowNumbersUptoCardSaid : Prop := Claim7.holds Tryz.pinned (.plain (OpenSpec.upto showNumbersSpec)) showNumbersUptoCard
end Rows
end Go.Proofs.YthebclhmflacaaaGreatDoor
