/-
  DERIVED. GIVEN WITH THE SEED: THE CARDS: each row of YtmepjbjmjbpchaaGreatDoorRows.lean that lists a variable, with what it lists TIED to the program's text (the seventh form; the later family's looks); each row that meets fmt, with fmt's text TOLD by the authors' own Lean function (tested against real Go, not proved from fmt's source: count such statements apart). THE CARD IS WHAT COUNTS. Prove the row's statement (the work); the ties are given (YtmepjbjmjbpchaaGreatDoorTie.lean); close each card by the builder's one call (the guide's Derived/Test/ToyasCard.lean, 'card_holds'). Laid BY PROGRAM, IN A SANDBOX (cutbox-door.mjs). By AI agents, Wed Nov 11 2026. No macro, syntax, notation, axiom, sorry.
-/
import Derived.Test.YtmepjbjmjbpchaaGreatDoorRows
import GoSem.ClaimSeven
namespace Go.Proofs.YtmepjbjmjbpchaaGreatDoor
namespace Rows

/-- THE TIED CARD OF 'demoticlaw02.AttrsSets'. -/
def attrsSetsCard : Claim7 := { stood := { row := attrsSetsRow, standIns := [], harness := (true, "61bc2054019ab07a52c1e7ba8db0572cdeda9a8c29b25479dfc6f4d28cc44b2f"), looks := true }, kinds := [], alts := [], laidByText := true, laidKinds := [.data, .data, .data, .data, .sentinel, .sentinel, .pinned], laidTests := true, laidLooks := .later }
def AttrsSetsCardSaid : Prop := Claim7.holds Tryz.pinned (.plain (OpenSpec.ofChange attrsSetsSpec)) attrsSetsCard

/-- THE TIED CARD OF 'demoticlaw02.AttrsMerges'. -/
def attrsMergesCard : Claim7 := { stood := { row := attrsMergesRow, standIns := [], harness := (true, "61bc2054019ab07a52c1e7ba8db0572cdeda9a8c29b25479dfc6f4d28cc44b2f"), looks := true }, kinds := [], alts := [], laidByText := true, laidKinds := [.data, .data, .data, .data, .sentinel, .sentinel, .pinned], laidTests := true, laidLooks := .later }
def AttrsMergesCardSaid : Prop := Claim7.holds Tryz.pinned (.plain (OpenSpec.ofChange attrsMergesSpec)) attrsMergesCard

/-- THE TIED CARD OF 'demoticlaw02.AttrsReads'. -/
def attrsReadsCard : Claim7 := { stood := { row := attrsReadsRow, standIns := [], harness := (true, "61bc2054019ab07a52c1e7ba8db0572cdeda9a8c29b25479dfc6f4d28cc44b2f"), looks := true }, kinds := [], alts := [], laidByText := true, laidKinds := [.data, .data, .data, .data, .sentinel, .sentinel, .pinned], laidTests := true, laidLooks := .later }
def AttrsReadsCardSaid : Prop := Claim7.holds Tryz.pinned (.plain (OpenSpec.ofChange attrsReadsSpec)) attrsReadsCard

/-- THE TIED CARD OF 'demoticlaw02.AttrsParses'. -/
def attrsParsesCard : Claim7 := { stood := { row := attrsParsesRow, standIns := [], harness := (true, "61bc2054019ab07a52c1e7ba8db0572cdeda9a8c29b25479dfc6f4d28cc44b2f"), looks := true }, kinds := [], alts := [], laidByText := true, laidKinds := [.data, .data, .data, .data, .sentinel, .sentinel, .pinned], laidTests := true, laidLooks := .later }
def AttrsParsesCardSaid : Prop := Claim7.holds Tryz.pinned (.plain (OpenSpec.ofChange attrsParsesSpec)) attrsParsesCard

/-- THE TIED CARD OF 'demoticlaw02.AttrsCompares'. -/
def attrsComparesCard : Claim7 := { stood := { row := attrsComparesRow, standIns := [], harness := (true, "61bc2054019ab07a52c1e7ba8db0572cdeda9a8c29b25479dfc6f4d28cc44b2f"), looks := true }, kinds := [], alts := [], laidByText := true, laidKinds := [.data, .data, .data, .data, .sentinel, .sentinel, .pinned], laidTests := true, laidLooks := .later }
def AttrsComparesCardSaid : Prop := Claim7.holds Tryz.pinned (.plain (OpenSpec.ofChange attrsComparesSpec)) attrsComparesCard

/-- THE TIED CARD OF 'demoticlaw02.AttrsPrints'. -/
def attrsPrintsCard : Claim7 := { stood := { row := attrsPrintsRow, standIns := [], harness := (true, "61bc2054019ab07a52c1e7ba8db0572cdeda9a8c29b25479dfc6f4d28cc44b2f"), looks := true }, kinds := [], alts := [], laidByText := true, laidKinds := [.data, .data, .data, .data, .sentinel, .sentinel, .pinned], laidTests := true, laidLooks := .later }
def AttrsPrintsCardSaid : Prop := Claim7.holds Tryz.pinned (.plain (OpenSpec.ofChange attrsPrintsSpec)) attrsPrintsCard

/-- THE TIED CARD OF 'demoticlaw02.AttrsLarge'. -/
def attrsLargeCard : Claim7 := { stood := { row := attrsLargeRow, standIns := [], harness := (true, "61bc2054019ab07a52c1e7ba8db0572cdeda9a8c29b25479dfc6f4d28cc44b2f"), looks := true }, kinds := [], alts := [], laidByText := true, laidKinds := [.data, .data, .data, .data, .sentinel, .sentinel, .pinned], laidTests := true, laidLooks := .later }
def AttrsLargeCardSaid : Prop := Claim7.holds Tryz.pinned (.plain (OpenSpec.ofChange attrsLargeSpec)) attrsLargeCard

/-- THE TIED CARD OF 'demoticlaw02.AttrsBack'. -/
def attrsBackCard : Claim7 := { stood := { row := attrsBackRow, standIns := [], harness := (true, "61bc2054019ab07a52c1e7ba8db0572cdeda9a8c29b25479dfc6f4d28cc44b2f"), looks := true }, kinds := [], alts := [], laidByText := true, laidKinds := [.data, .data, .data, .data, .sentinel, .sentinel, .pinned], laidTests := true, laidLooks := .later }
def AttrsBackCardSaid : Prop := Claim7.holds Tryz.pinned (.plain (OpenSpec.ofChange attrsBackSpec)) attrsBackCard

/-- THE TIED CARD OF 'demoticlaw02.AttrsChecks'. -/
def attrsChecksCard : Claim7 := { stood := { row := attrsChecksRow, standIns := [], harness := (true, "61bc2054019ab07a52c1e7ba8db0572cdeda9a8c29b25479dfc6f4d28cc44b2f"), looks := true }, kinds := [], alts := [], laidByText := true, laidKinds := [.data, .data, .data, .data, .sentinel, .sentinel, .pinned], laidTests := true, laidLooks := .later }
def AttrsChecksCardSaid : Prop := Claim7.holds Tryz.pinned (.plain (OpenSpec.ofChange attrsChecksSpec)) attrsChecksCard

/-- THE TIED CARD OF 'demoticlaw02.AttrsEdits'. -/
def attrsEditsCard : Claim7 := { stood := { row := attrsEditsRow, standIns := [], harness := (true, "61bc2054019ab07a52c1e7ba8db0572cdeda9a8c29b25479dfc6f4d28cc44b2f"), looks := true }, kinds := [], alts := [], laidByText := true, laidKinds := [.data, .data, .data, .data, .sentinel, .sentinel, .pinned], laidTests := true, laidLooks := .later }
def AttrsEditsCardSaid : Prop := Claim7.holds Tryz.pinned (.plain (OpenSpec.ofChange attrsEditsSpec)) attrsEditsCard

/-- THE SECOND FORM's CARD OF 'demoticlaw02.AttrsSets'. -/
def attrsSetsUptoCard : Claim7 := { stood := { row := attrsSetsUptoRow, standIns := [], harness := (true, "61bc2054019ab07a52c1e7ba8db0572cdeda9a8c29b25479dfc6f4d28cc44b2f"), looks := true }, kinds := [], alts := [], laidByText := true, laidKinds := [.data, .data, .data, .data, .sentinel, .sentinel, .pinned], laidTests := true, laidLooks := .later }
def AttrsSetsUptoCardSaid : Prop := Claim7.holds Tryz.pinned (.plain (OpenSpec.upto attrsSetsSpec)) attrsSetsUptoCard

/-- THE SECOND FORM's CARD OF 'demoticlaw02.AttrsMerges'. -/
def attrsMergesUptoCard : Claim7 := { stood := { row := attrsMergesUptoRow, standIns := [], harness := (true, "61bc2054019ab07a52c1e7ba8db0572cdeda9a8c29b25479dfc6f4d28cc44b2f"), looks := true }, kinds := [], alts := [], laidByText := true, laidKinds := [.data, .data, .data, .data, .sentinel, .sentinel, .pinned], laidTests := true, laidLooks := .later }
def AttrsMergesUptoCardSaid : Prop := Claim7.holds Tryz.pinned (.plain (OpenSpec.upto attrsMergesSpec)) attrsMergesUptoCard

/-- THE SECOND FORM's CARD OF 'demoticlaw02.AttrsReads'. -/
def attrsReadsUptoCard : Claim7 := { stood := { row := attrsReadsUptoRow, standIns := [], harness := (true, "61bc2054019ab07a52c1e7ba8db0572cdeda9a8c29b25479dfc6f4d28cc44b2f"), looks := true }, kinds := [], alts := [], laidByText := true, laidKinds := [.data, .data, .data, .data, .sentinel, .sentinel, .pinned], laidTests := true, laidLooks := .later }
def AttrsReadsUptoCardSaid : Prop := Claim7.holds Tryz.pinned (.plain (OpenSpec.upto attrsReadsSpec)) attrsReadsUptoCard

/-- THE SECOND FORM's CARD OF 'demoticlaw02.AttrsParses'. -/
def attrsParsesUptoCard : Claim7 := { stood := { row := attrsParsesUptoRow, standIns := [], harness := (true, "61bc2054019ab07a52c1e7ba8db0572cdeda9a8c29b25479dfc6f4d28cc44b2f"), looks := true }, kinds := [], alts := [], laidByText := true, laidKinds := [.data, .data, .data, .data, .sentinel, .sentinel, .pinned], laidTests := true, laidLooks := .later }
def AttrsParsesUptoCardSaid : Prop := Claim7.holds Tryz.pinned (.plain (OpenSpec.upto attrsParsesSpec)) attrsParsesUptoCard

/-- THE SECOND FORM's CARD OF 'demoticlaw02.AttrsCompares'. -/
def attrsComparesUptoCard : Claim7 := { stood := { row := attrsComparesUptoRow, standIns := [], harness := (true, "61bc2054019ab07a52c1e7ba8db0572cdeda9a8c29b25479dfc6f4d28cc44b2f"), looks := true }, kinds := [], alts := [], laidByText := true, laidKinds := [.data, .data, .data, .data, .sentinel, .sentinel, .pinned], laidTests := true, laidLooks := .later }
def AttrsComparesUptoCardSaid : Prop := Claim7.holds Tryz.pinned (.plain (OpenSpec.upto attrsComparesSpec)) attrsComparesUptoCard

/-- THE SECOND FORM's CARD OF 'demoticlaw02.AttrsPrints'. -/
def attrsPrintsUptoCard : Claim7 := { stood := { row := attrsPrintsUptoRow, standIns := [], harness := (true, "61bc2054019ab07a52c1e7ba8db0572cdeda9a8c29b25479dfc6f4d28cc44b2f"), looks := true }, kinds := [], alts := [], laidByText := true, laidKinds := [.data, .data, .data, .data, .sentinel, .sentinel, .pinned], laidTests := true, laidLooks := .later }
def AttrsPrintsUptoCardSaid : Prop := Claim7.holds Tryz.pinned (.plain (OpenSpec.upto attrsPrintsSpec)) attrsPrintsUptoCard

/-- THE SECOND FORM's CARD OF 'demoticlaw02.AttrsLarge'. -/
def attrsLargeUptoCard : Claim7 := { stood := { row := attrsLargeUptoRow, standIns := [], harness := (true, "61bc2054019ab07a52c1e7ba8db0572cdeda9a8c29b25479dfc6f4d28cc44b2f"), looks := true }, kinds := [], alts := [], laidByText := true, laidKinds := [.data, .data, .data, .data, .sentinel, .sentinel, .pinned], laidTests := true, laidLooks := .later }
def AttrsLargeUptoCardSaid : Prop := Claim7.holds Tryz.pinned (.plain (OpenSpec.upto attrsLargeSpec)) attrsLargeUptoCard

/-- THE SECOND FORM's CARD OF 'demoticlaw02.AttrsBack'. -/
def attrsBackUptoCard : Claim7 := { stood := { row := attrsBackUptoRow, standIns := [], harness := (true, "61bc2054019ab07a52c1e7ba8db0572cdeda9a8c29b25479dfc6f4d28cc44b2f"), looks := true }, kinds := [], alts := [], laidByText := true, laidKinds := [.data, .data, .data, .data, .sentinel, .sentinel, .pinned], laidTests := true, laidLooks := .later }
def AttrsBackUptoCardSaid : Prop := Claim7.holds Tryz.pinned (.plain (OpenSpec.upto attrsBackSpec)) attrsBackUptoCard

/-- THE SECOND FORM's CARD OF 'demoticlaw02.AttrsChecks'. -/
def attrsChecksUptoCard : Claim7 := { stood := { row := attrsChecksUptoRow, standIns := [], harness := (true, "61bc2054019ab07a52c1e7ba8db0572cdeda9a8c29b25479dfc6f4d28cc44b2f"), looks := true }, kinds := [], alts := [], laidByText := true, laidKinds := [.data, .data, .data, .data, .sentinel, .sentinel, .pinned], laidTests := true, laidLooks := .later }
def AttrsChecksUptoCardSaid : Prop := Claim7.holds Tryz.pinned (.plain (OpenSpec.upto attrsChecksSpec)) attrsChecksUptoCard

/-- THE SECOND FORM's CARD OF 'demoticlaw02.AttrsEdits'. -/
def attrsEditsUptoCard : Claim7 := { stood := { row := attrsEditsUptoRow, standIns := [], harness := (true, "61bc2054019ab07a52c1e7ba8db0572cdeda9a8c29b25479dfc6f4d28cc44b2f"), looks := true }, kinds := [], alts := [], laidByText := true, laidKinds := [.data, .data, .data, .data, .sentinel, .sentinel, .pinned], laidTests := true, laidLooks := .later }
def AttrsEditsUptoCardSaid : Prop := Claim7.holds Tryz.pinned (.plain (OpenSpec.upto attrsEditsSpec)) attrsEditsUptoCard
end Rows
end Go.Proofs.YtmepjbjmjbpchaaGreatDoor
