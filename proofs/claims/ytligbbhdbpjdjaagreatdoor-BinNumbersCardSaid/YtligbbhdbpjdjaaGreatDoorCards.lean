/-
  DERIVED. GIVEN WITH THE SEED: THE CARDS: each row of YtligbbhdbpjdjaaGreatDoorRows.lean that lists a variable, with what it lists TIED to the program's text (the seventh form; the later family's looks); each row that meets fmt, with fmt's text TOLD by the authors' own Lean function (tested against real Go, not proved from fmt's source: count such statements apart). THE CARD IS WHAT COUNTS. Prove the row's statement (the work); the ties are given (YtligbbhdbpjdjaaGreatDoorTie.lean); close each card by the builder's one call (the guide's Derived/Test/ToyasCard.lean, 'card_holds'). Laid BY PROGRAM, IN A SANDBOX (cutbox-door.mjs). By AI agents, Wed Nov 11 2026. No macro, syntax, notation, axiom, sorry.
-/
import Derived.Test.YtligbbhdbpjdjaaGreatDoorRows
import GoSem.ClaimSeven
namespace Go.Proofs.YtligbbhdbpjdjaaGreatDoor
namespace Rows

/-- THE TIED CARD OF 'demoticlaw08.BinNumbers'. -/
def binNumbersCard : Claim7 := { stood := { row := binNumbersRow, standIns := [], harness := (true, "57184416ebad81ecd98e370a9b44ea3f5866d3545d5254863333b5f1c4494006"), looks := false }, kinds := [], alts := [], laidByText := true, laidKinds := [.data, .data, .data, .widerDeep], laidTests := true, laidLooks := .later }
def BinNumbersCardSaid : Prop := Claim7.holds Tryz.pinned (.plain (OpenSpec.ofChange binNumbersSpec)) binNumbersCard

/-- THE TIED CARD OF 'demoticlaw08.BinReads'. -/
def binReadsCard : Claim7 := { stood := { row := binReadsRow, standIns := [], harness := (true, "57184416ebad81ecd98e370a9b44ea3f5866d3545d5254863333b5f1c4494006"), looks := false }, kinds := [], alts := [], laidByText := true, laidKinds := [.data, .data, .data, .widerDeep], laidTests := true, laidLooks := .later }
def BinReadsCardSaid : Prop := Claim7.holds Tryz.pinned (.plain (OpenSpec.ofChange binReadsSpec)) binReadsCard

/-- THE SECOND FORM's CARD OF 'demoticlaw08.BinNumbers'. -/
def binNumbersUptoCard : Claim7 := { stood := { row := binNumbersUptoRow, standIns := [], harness := (true, "57184416ebad81ecd98e370a9b44ea3f5866d3545d5254863333b5f1c4494006"), looks := false }, kinds := [], alts := [], laidByText := true, laidKinds := [.data, .data, .data, .widerDeep], laidTests := true, laidLooks := .later }
def BinNumbersUptoCardSaid : Prop := Claim7.holds Tryz.pinned (.plain (OpenSpec.upto binNumbersSpec)) binNumbersUptoCard

/-- THE SECOND FORM's CARD OF 'demoticlaw08.BinReads'. -/
def binReadsUptoCard : Claim7 := { stood := { row := binReadsUptoRow, standIns := [], harness := (true, "57184416ebad81ecd98e370a9b44ea3f5866d3545d5254863333b5f1c4494006"), looks := false }, kinds := [], alts := [], laidByText := true, laidKinds := [.data, .data, .data, .widerDeep], laidTests := true, laidLooks := .later }
def BinReadsUptoCardSaid : Prop := Claim7.holds Tryz.pinned (.plain (OpenSpec.upto binReadsSpec)) binReadsUptoCard
end Rows
end Go.Proofs.YtligbbhdbpjdjaaGreatDoor
