/-
  DERIVED. GIVEN WITH THE SEED: THE CARDS: each row of YthgiianmfehcaaaDoorRows.lean that lists a variable, with what it lists TIED to the program's text (the seventh form; the later family's looks); each row that meets fmt, with fmt's text TOLD by the authors' own Lean function (tested against real Go, not proved from fmt's source: count such statements apart). THE CARD IS WHAT COUNTS. Prove the row's statement (the work); the ties are given (YthgiianmfehcaaaDoorTie.lean); close each card by the builder's one call (the guide's Derived/Test/ToyasCard.lean, 'card_holds'). Laid BY PROGRAM, IN A SANDBOX (cutbox-door.mjs). By AI agents, Wed Nov 11 2026. No macro, syntax, notation, axiom, sorry.
-/
import Derived.Test.YthgiianmfehcaaaDoorRows
import GoSem.ClaimSeven
namespace Go.Proofs.YthgiianmfehcaaaDoor
namespace Rows

/-- THE TIED CARD OF 'demoticlaw01.TypesMakes'. -/
def typesMakesCard : Claim7 := { stood := { row := typesMakesRow, standIns := [], harness := (true, "69d85dc50b824acd0f072d40633101146862c6a7d7f5a34c7656c31972871c8e"), looks := false }, kinds := [], alts := [], laidByText := true, laidKinds := [.data, .data, .data, .data, .pinned], laidTests := true, laidLooks := .later }
def TypesMakesCardSaid : Prop := Claim7.holds Tryd.pinned (.plain (OpenSpec.ofChange typesMakesSpec)) typesMakesCard

/-- THE TIED CARD OF 'demoticlaw01.TypesNumbers'. -/
def typesNumbersCard : Claim7 := { stood := { row := typesNumbersRow, standIns := [], harness := (true, "69d85dc50b824acd0f072d40633101146862c6a7d7f5a34c7656c31972871c8e"), looks := false }, kinds := [], alts := [], laidByText := true, laidKinds := [.data, .data, .data, .data, .pinned], laidTests := true, laidLooks := .later }
def TypesNumbersCardSaid : Prop := Claim7.holds Tryd.pinned (.plain (OpenSpec.ofChange typesNumbersSpec)) typesNumbersCard

/-- THE TIED CARD OF 'demoticlaw01.TypesLists'. -/
def typesListsCard : Claim7 := { stood := { row := typesListsRow, standIns := [], harness := (true, "69d85dc50b824acd0f072d40633101146862c6a7d7f5a34c7656c31972871c8e"), looks := false }, kinds := [], alts := [], laidByText := true, laidKinds := [.data, .data, .data, .data, .pinned], laidTests := true, laidLooks := .later }
def TypesListsCardSaid : Prop := Claim7.holds Tryd.pinned (.plain (OpenSpec.ofChange typesListsSpec)) typesListsCard

/-- THE TIED CARD OF 'demoticlaw01.TypesWraps'. -/
def typesWrapsCard : Claim7 := { stood := { row := typesWrapsRow, standIns := [], harness := (true, "69d85dc50b824acd0f072d40633101146862c6a7d7f5a34c7656c31972871c8e"), looks := false }, kinds := [], alts := [], laidByText := true, laidKinds := [.data, .data, .data, .data, .pinned], laidTests := true, laidLooks := .later }
def TypesWrapsCardSaid : Prop := Claim7.holds Tryd.pinned (.plain (OpenSpec.ofChange typesWrapsSpec)) typesWrapsCard

/-- THE TIED CARD OF 'demoticlaw01.TypesChecks'. -/
def typesChecksCard : Claim7 := { stood := { row := typesChecksRow, standIns := [], harness := (true, "69d85dc50b824acd0f072d40633101146862c6a7d7f5a34c7656c31972871c8e"), looks := false }, kinds := [], alts := [], laidByText := true, laidKinds := [.data, .data, .data, .data, .pinned], laidTests := true, laidLooks := .later }
def TypesChecksCardSaid : Prop := Claim7.holds Tryd.pinned (.plain (OpenSpec.ofChange typesChecksSpec)) typesChecksCard

/-- THE TIED CARD OF 'demoticlaw01.TypesShapes'. -/
def typesShapesCard : Claim7 := { stood := { row := typesShapesRow, standIns := [], harness := (true, "69d85dc50b824acd0f072d40633101146862c6a7d7f5a34c7656c31972871c8e"), looks := false }, kinds := [], alts := [], laidByText := true, laidKinds := [.data, .data, .data, .data, .pinned], laidTests := true, laidLooks := .later }
def TypesShapesCardSaid : Prop := Claim7.holds Tryd.pinned (.plain (OpenSpec.ofChange typesShapesSpec)) typesShapesCard

/-- THE TIED CARD OF 'demoticlaw01.TypesJoins'. -/
def typesJoinsCard : Claim7 := { stood := { row := typesJoinsRow, standIns := [], harness := (true, "69d85dc50b824acd0f072d40633101146862c6a7d7f5a34c7656c31972871c8e"), looks := false }, kinds := [], alts := [], laidByText := true, laidKinds := [.data, .data, .data, .data, .pinned], laidTests := true, laidLooks := .later }
def TypesJoinsCardSaid : Prop := Claim7.holds Tryd.pinned (.plain (OpenSpec.ofChange typesJoinsSpec)) typesJoinsCard

/-- THE TIED CARD OF 'demoticlaw01.TypesBack'. -/
def typesBackCard : Claim7 := { stood := { row := typesBackRow, standIns := [], harness := (true, "69d85dc50b824acd0f072d40633101146862c6a7d7f5a34c7656c31972871c8e"), looks := false }, kinds := [], alts := [], laidByText := true, laidKinds := [.data, .data, .data, .data, .pinned], laidTests := true, laidLooks := .later }
def TypesBackCardSaid : Prop := Claim7.holds Tryd.pinned (.plain (OpenSpec.ofChange typesBackSpec)) typesBackCard

/-- THE SECOND FORM's CARD OF 'demoticlaw01.TypesMakes'. -/
def typesMakesUptoCard : Claim7 := { stood := { row := typesMakesUptoRow, standIns := [], harness := (true, "69d85dc50b824acd0f072d40633101146862c6a7d7f5a34c7656c31972871c8e"), looks := false }, kinds := [], alts := [], laidByText := true, laidKinds := [.data, .data, .data, .data, .pinned], laidTests := true, laidLooks := .later }
def TypesMakesUptoCardSaid : Prop := Claim7.holds Tryd.pinned (.plain (OpenSpec.upto typesMakesSpec)) typesMakesUptoCard

/-- THE SECOND FORM's CARD OF 'demoticlaw01.TypesNumbers'. -/
def typesNumbersUptoCard : Claim7 := { stood := { row := typesNumbersUptoRow, standIns := [], harness := (true, "69d85dc50b824acd0f072d40633101146862c6a7d7f5a34c7656c31972871c8e"), looks := false }, kinds := [], alts := [], laidByText := true, laidKinds := [.data, .data, .data, .data, .pinned], laidTests := true, laidLooks := .later }
def TypesNumbersUptoCardSaid : Prop := Claim7.holds Tryd.pinned (.plain (OpenSpec.upto typesNumbersSpec)) typesNumbersUptoCard

/-- THE SECOND FORM's CARD OF 'demoticlaw01.TypesLists'. -/
def typesListsUptoCard : Claim7 := { stood := { row := typesListsUptoRow, standIns := [], harness := (true, "69d85dc50b824acd0f072d40633101146862c6a7d7f5a34c7656c31972871c8e"), looks := false }, kinds := [], alts := [], laidByText := true, laidKinds := [.data, .data, .data, .data, .pinned], laidTests := true, laidLooks := .later }
def TypesListsUptoCardSaid : Prop := Claim7.holds Tryd.pinned (.plain (OpenSpec.upto typesListsSpec)) typesListsUptoCard

/-- THE SECOND FORM's CARD OF 'demoticlaw01.TypesWraps'. -/
def typesWrapsUptoCard : Claim7 := { stood := { row := typesWrapsUptoRow, standIns := [], harness := (true, "69d85dc50b824acd0f072d40633101146862c6a7d7f5a34c7656c31972871c8e"), looks := false }, kinds := [], alts := [], laidByText := true, laidKinds := [.data, .data, .data, .data, .pinned], laidTests := true, laidLooks := .later }
def TypesWrapsUptoCardSaid : Prop := Claim7.holds Tryd.pinned (.plain (OpenSpec.upto typesWrapsSpec)) typesWrapsUptoCard

/-- THE SECOND FORM's CARD OF 'demoticlaw01.TypesChecks'. -/
def typesChecksUptoCard : Claim7 := { stood := { row := typesChecksUptoRow, standIns := [], harness := (true, "69d85dc50b824acd0f072d40633101146862c6a7d7f5a34c7656c31972871c8e"), looks := false }, kinds := [], alts := [], laidByText := true, laidKinds := [.data, .data, .data, .data, .pinned], laidTests := true, laidLooks := .later }
def TypesChecksUptoCardSaid : Prop := Claim7.holds Tryd.pinned (.plain (OpenSpec.upto typesChecksSpec)) typesChecksUptoCard

/-- THE SECOND FORM's CARD OF 'demoticlaw01.TypesShapes'. -/
def typesShapesUptoCard : Claim7 := { stood := { row := typesShapesUptoRow, standIns := [], harness := (true, "69d85dc50b824acd0f072d40633101146862c6a7d7f5a34c7656c31972871c8e"), looks := false }, kinds := [], alts := [], laidByText := true, laidKinds := [.data, .data, .data, .data, .pinned], laidTests := true, laidLooks := .later }
def TypesShapesUptoCardSaid : Prop := Claim7.holds Tryd.pinned (.plain (OpenSpec.upto typesShapesSpec)) typesShapesUptoCard

/-- THE SECOND FORM's CARD OF 'demoticlaw01.TypesJoins'. -/
def typesJoinsUptoCard : Claim7 := { stood := { row := typesJoinsUptoRow, standIns := [], harness := (true, "69d85dc50b824acd0f072d40633101146862c6a7d7f5a34c7656c31972871c8e"), looks := false }, kinds := [], alts := [], laidByText := true, laidKinds := [.data, .data, .data, .data, .pinned], laidTests := true, laidLooks := .later }
def TypesJoinsUptoCardSaid : Prop := Claim7.holds Tryd.pinned (.plain (OpenSpec.upto typesJoinsSpec)) typesJoinsUptoCard

/-- THE SECOND FORM's CARD OF 'demoticlaw01.TypesBack'. -/
def typesBackUptoCard : Claim7 := { stood := { row := typesBackUptoRow, standIns := [], harness := (true, "69d85dc50b824acd0f072d40633101146862c6a7d7f5a34c7656c31972871c8e"), looks := false }, kinds := [], alts := [], laidByText := true, laidKinds := [.data, .data, .data, .data, .pinned], laidTests := true, laidLooks := .later }
def TypesBackUptoCardSaid : Prop := Claim7.holds Tryd.pinned (.plain (OpenSpec.upto typesBackSpec)) typesBackUptoCard
end Rows
end Go.Proofs.YthgiianmfehcaaaDoor
