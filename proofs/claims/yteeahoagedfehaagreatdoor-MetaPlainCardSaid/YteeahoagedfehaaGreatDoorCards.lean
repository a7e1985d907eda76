/-
  DERIVED. GIVEN WITH THE SEED: THE CARDS: each row of YteeahoagedfehaaGreatDoorRows.lean that lists a variable, with what it lists TIED to the program's text (the seventh form; the later family's looks); each row that meets fmt, with fmt's text TOLD by the authors' own Lean function (tested against real Go, not proved from fmt's source: count such statements apart). THE CARD IS WHAT COUNTS. Prove the row's statement (the work); the ties are given (YteeahoagedfehaaGreatDoorTie.lean); close each card by the builder's one call (the guide's Derived/Test/ToyasCard.lean, 'card_holds'). Laid BY PROGRAM, IN A SANDBOX (cutbox-door.mjs). By AI agents, Wed Nov 11 2026. No macro, syntax, notation, axiom, sorry.
-/
import Derived.Test.YteeahoagedfehaaGreatDoorRows
import GoSem.ClaimSeven
namespace Go.Proofs.YteeahoagedfehaaGreatDoor
namespace Rows

/-- THE TIED CARD OF 'twinsteplaw16.MetaStore'. -/
def metaStoreCard : Claim7 := { stood := { row := metaStoreRow, standIns := [], harness := (true, "5d99ce6fb08abeb5ee54328e1038c42db725021ba45cf460fb75aa2fbc8a3d9c"), looks := false }, kinds := [], alts := [], laidByText := true, laidKinds := [.data, .data, .data], laidTests := true, laidLooks := .later }
def MetaStoreCardSaid : Prop := Claim7.holds Tryz.pinned (.plain (OpenSpec.ofChange metaStoreSpec)) metaStoreCard

/-- THE TIED CARD OF 'twinsteplaw16.MetaPlain'. -/
def metaPlainCard : Claim7 := { stood := { row := metaPlainRow, standIns := [], harness := (true, "5d99ce6fb08abeb5ee54328e1038c42db725021ba45cf460fb75aa2fbc8a3d9c"), looks := false }, kinds := [], alts := [], laidByText := true, laidKinds := [.data, .data, .data], laidTests := true, laidLooks := .later }
def MetaPlainCardSaid : Prop := Claim7.holds Tryz.pinned (.plain (OpenSpec.ofChange metaPlainSpec)) metaPlainCard

/-- THE SECOND FORM's CARD OF 'twinsteplaw16.MetaStore'. -/
def metaStoreUptoCard : Claim7 := { stood := { row := metaStoreUptoRow, standIns := [], harness := (true, "5d99ce6fb08abeb5ee54328e1038c42db725021ba45cf460fb75aa2fbc8a3d9c"), looks := false }, kinds := [], alts := [], laidByText := true, laidKinds := [.data, .data, .data], laidTests := true, laidLooks := .later }
def MetaStoreUptoCardSaid : Prop := Claim7.holds Tryz.pinned (.plain (OpenSpec.upto metaStoreSpec)) metaStoreUptoCard

/-- THE SECOND FORM's CARD OF 'twinsteplaw16.MetaPlain'. -/
def metaPlainUptoCard : Claim7 := { stood := { row := metaPlainUptoRow, standIns := [], harness := (true, "5d99ce6fb08abeb5ee54328e1038c42db725021ba45cf460fb75aa2fbc8a3d9c"), looks := false }, kinds := [], alts := [], laidByText := true, laidKinds := [.data, .data, .data], laidTests := true, laidLooks := .later }
def MetaPlainUptoCardSaid : Prop := Claim7.holds Tryz.pinned (.plain (OpenSpec.upto metaPlainSpec)) metaPlainUptoCard
end Rows
end Go.Proofs.YteeahoagedfehaaGreatDoor
