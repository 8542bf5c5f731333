/-
  DERIVED. GIVEN WITH THE SEED: THE CARDS: each row of YtleccalfcnkklaaDoorRows.lean that lists a variable, with what it lists TIED to the program's text (the seventh form; the later family's looks); each row that meets fmt, with fmt's text TOLD by the authors' own Lean function (tested against real Go, not proved from fmt's source: count such statements apart). THE CARD IS WHAT COUNTS. Prove the row's statement (the work); the ties are given (YtleccalfcnkklaaDoorTie.lean); close each card by the builder's one call (the guide's Derived/Test/ToyasCard.lean, 'card_holds'). Laid BY PROGRAM, IN A SANDBOX (cutbox-door.mjs). By AI agents, Wed Nov 11 2026. No macro, syntax, notation, axiom, sorry.
-/
import Derived.Test.YtleccalfcnkklaaDoorRows
import GoSem.ClaimSeven
namespace Go.Proofs.YtleccalfcnkklaaDoor
namespace Rows

/-- THE TIED CARD OF 'kilnlaw05.AstKids'. -/
def astKidsCard : Claim7 := { stood := { row := astKidsRow, standIns := [], harness := (true, "8687bd802395cf0fa3b40dccc763dc303c4c3aa41c01d6d7ed073a10efa6db0d"), looks := false }, kinds := [], alts := [], laidByText := true, laidKinds := [.data, .data, .data], laidTests := true, laidLooks := .later }
def AstKidsCardSaid : Prop := Claim7.holds Tryd.pinned (.plain (OpenSpec.ofChange astKidsSpec)) astKidsCard

/-- THE TIED CARD OF 'kilnlaw05.AstTypes'. -/
def astTypesCard : Claim7 := { stood := { row := astTypesRow, standIns := [], harness := (true, "8687bd802395cf0fa3b40dccc763dc303c4c3aa41c01d6d7ed073a10efa6db0d"), looks := false }, kinds := [], alts := [], laidByText := true, laidKinds := [.data, .data, .data], laidTests := true, laidLooks := .later }
def AstTypesCardSaid : Prop := Claim7.holds Tryd.pinned (.plain (OpenSpec.ofChange astTypesSpec)) astTypesCard

/-- THE TIED CARD OF 'kilnlaw05.AstExprs'. -/
def astExprsCard : Claim7 := { stood := { row := astExprsRow, standIns := [], harness := (true, "8687bd802395cf0fa3b40dccc763dc303c4c3aa41c01d6d7ed073a10efa6db0d"), looks := false }, kinds := [], alts := [], laidByText := true, laidKinds := [.data, .data, .data], laidTests := true, laidLooks := .later }
def AstExprsCardSaid : Prop := Claim7.holds Tryd.pinned (.plain (OpenSpec.ofChange astExprsSpec)) astExprsCard

/-- THE TIED CARD OF 'kilnlaw05.AstSames'. -/
def astSamesCard : Claim7 := { stood := { row := astSamesRow, standIns := [], harness := (true, "8687bd802395cf0fa3b40dccc763dc303c4c3aa41c01d6d7ed073a10efa6db0d"), looks := false }, kinds := [], alts := [], laidByText := true, laidKinds := [.data, .data, .data], laidTests := true, laidLooks := .later }
def AstSamesCardSaid : Prop := Claim7.holds Tryd.pinned (.plain (OpenSpec.ofChange astSamesSpec)) astSamesCard

/-- THE TIED CARD OF 'kilnlaw05.AstStmts'. -/
def astStmtsCard : Claim7 := { stood := { row := astStmtsRow, standIns := [], harness := (true, "8687bd802395cf0fa3b40dccc763dc303c4c3aa41c01d6d7ed073a10efa6db0d"), looks := false }, kinds := [], alts := [], laidByText := true, laidKinds := [.data, .data, .data], laidTests := true, laidLooks := .later }
def AstStmtsCardSaid : Prop := Claim7.holds Tryd.pinned (.plain (OpenSpec.ofChange astStmtsSpec)) astStmtsCard

/-- THE TIED CARD OF 'kilnlaw05.AstLines'. -/
def astLinesCard : Claim7 := { stood := { row := astLinesRow, standIns := [], harness := (true, "8687bd802395cf0fa3b40dccc763dc303c4c3aa41c01d6d7ed073a10efa6db0d"), looks := false }, kinds := [], alts := [], laidByText := true, laidKinds := [.data, .data, .data], laidTests := true, laidLooks := .later }
def AstLinesCardSaid : Prop := Claim7.holds Tryd.pinned (.plain (OpenSpec.ofChange astLinesSpec)) astLinesCard

/-- THE TIED CARD OF 'kilnlaw05.AstClasses'. -/
def astClassesCard : Claim7 := { stood := { row := astClassesRow, standIns := [], harness := (true, "8687bd802395cf0fa3b40dccc763dc303c4c3aa41c01d6d7ed073a10efa6db0d"), looks := false }, kinds := [], alts := [], laidByText := true, laidKinds := [.data, .data, .data], laidTests := true, laidLooks := .later }
def AstClassesCardSaid : Prop := Claim7.holds Tryd.pinned (.plain (OpenSpec.ofChange astClassesSpec)) astClassesCard

/-- THE SECOND FORM's CARD OF 'kilnlaw05.AstKids'. -/
def astKidsUptoCard : Claim7 := { stood := { row := astKidsUptoRow, standIns := [], harness := (true, "8687bd802395cf0fa3b40dccc763dc303c4c3aa41c01d6d7ed073a10efa6db0d"), looks := false }, kinds := [], alts := [], laidByText := true, laidKinds := [.data, .data, .data], laidTests := true, laidLooks := .later }
def AstKidsUptoCardSaid : Prop := Claim7.holds Tryd.pinned (.plain (OpenSpec.upto astKidsSpec)) astKidsUptoCard

/-- THE SECOND FORM's CARD OF 'kilnlaw05.AstTypes'. -/
def astTypesUptoCard : Claim7 := { stood := { row := astTypesUptoRow, standIns := [], harness := (true, "8687bd802395cf0fa3b40dccc763dc303c4c3aa41c01d6d7ed073a10efa6db0d"), looks := false }, kinds := [], alts := [], laidByText := true, laidKinds := [.data, .data, .data], laidTests := true, laidLooks := .later }
def AstTypesUptoCardSaid : Prop := Claim7.holds Tryd.pinned (.plain (OpenSpec.upto astTypesSpec)) astTypesUptoCard

/-- THE SECOND FORM's CARD OF 'kilnlaw05.AstExprs'. -/
def astExprsUptoCard : Claim7 := { stood := { row := astExprsUptoRow, standIns := [], harness := (true, "8687bd802395cf0fa3b40dccc763dc303c4c3aa41c01d6d7ed073a10efa6db0d"), looks := false }, kinds := [], alts := [], laidByText := true, laidKinds := [.data, .data, .data], laidTests := true, laidLooks := .later }
def AstExprsUptoCardSaid : Prop := Claim7.holds Tryd.pinned (.plain (OpenSpec.upto astExprsSpec)) astExprsUptoCard

/-- THE SECOND FORM's CARD OF 'kilnlaw05.AstSames'. -/
def astSamesUptoCard : Claim7 := { stood := { row := astSamesUptoRow, standIns := [], harness := (true, "8687bd802395cf0fa3b40dccc763dc303c4c3aa41c01d6d7ed073a10efa6db0d"), looks := false }, kinds := [], alts := [], laidByText := true, laidKinds := [.data, .data, .data], laidTests := true, laidLooks := .later }
def AstSamesUptoCardSaid : Prop := Claim7.holds Tryd.pinned (.plain (OpenSpec.upto astSamesSpec)) astSamesUptoCard

/-- THE SECOND FORM's CARD OF 'kilnlaw05.AstStmts'. -/
def astStmtsUptoCard : Claim7 := { stood := { row := astStmtsUptoRow, standIns := [], harness := (true, "8687bd802395cf0fa3b40dccc763dc303c4c3aa41c01d6d7ed073a10efa6db0d"), looks := false }, kinds := [], alts := [], laidByText := true, laidKinds := [.data, .data, .data], laidTests := true, laidLooks := .later }
def AstStmtsUptoCardSaid : Prop := Claim7.holds Tryd.pinned (.plain (OpenSpec.upto astStmtsSpec)) astStmtsUptoCard

/-- THE SECOND FORM's CARD OF 'kilnlaw05.AstLines'. -/
def astLinesUptoCard : Claim7 := { stood := { row := astLinesUptoRow, standIns := [], harness := (true, "8687bd802395cf0fa3b40dccc763dc303c4c3aa41c01d6d7ed073a10efa6db0d"), looks := false }, kinds := [], alts := [], laidByText := true, laidKinds := [.data, .data, .data], laidTests := true, laidLooks := .later }
def AstLinesUptoCardSaid : Prop := Claim7.holds Tryd.pinned (.plain (OpenSpec.upto astLinesSpec)) astLinesUptoCard

/-- THE SECOND FORM's CARD OF 'kilnlaw05.AstClasses'. -/
def astClassesUptoCard : Claim7 := { stood := { row := astClassesUptoRow, standIns := [], harness := (true, "8687bd802395cf0fa3b40dccc763dc303c4c3aa41c01d6d7ed073a10efa6db0d"), looks := false }, kinds := [], alts := [], laidByText := true, laidKinds := [.data, .data, .data], laidTests := true, laidLooks := .later }
def AstClassesUptoCardSaid : Prop := Claim7.holds Tryd.pinned (.plain (OpenSpec.upto astClassesSpec)) astClassesUptoCard
end Rows
end Go.Proofs.YtleccalfcnkklaaDoor
