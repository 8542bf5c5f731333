/-
  DERIVED. GIVEN WITH THE SEED: THE CARDS: each row of YtkldfbacagnhoaaDoorRows.lean that lists a variable, with what it lists TIED to the program's text (the seventh form; the later family's looks); each row that meets fmt, with fmt's text TOLD by the authors' own Lean function (tested against real Go, not proved from fmt's source: count such statements apart). THE CARD IS WHAT COUNTS. Prove the row's statement (the work); the ties are given (YtkldfbacagnhoaaDoorTie.lean); close each card by the builder's one call (the guide's Derived/Test/ToyasCard.lean, 'card_holds'). Laid BY PROGRAM, IN A SANDBOX (cutbox-door.mjs). By AI agents, Wed Nov 11 2026. No macro, syntax, notation, axiom, sorry.
-/
import Derived.Test.YtkldfbacagnhoaaDoorRows
import GoSem.ClaimSeven
namespace Go.Proofs.YtkldfbacagnhoaaDoor
namespace Rows

/-- THE TIED CARD OF 'kilnlaw12.ClassReads'. -/
def classReadsCard : Claim7 := { stood := { row := classReadsRow, standIns := [], harness := (true, "b86a1e06c018341851a1b9ea850e21d583dc6f379dde04eda28cdcb7aa5538d4"), looks := false }, kinds := [], alts := [], laidByText := true, laidKinds := [.data], laidTests := true, laidLooks := .later }
def ClassReadsCardSaid : Prop := Claim7.holds Tryd.pinned (.plain (OpenSpec.ofChange classReadsSpec)) classReadsCard

/-- THE TIED CARD OF 'kilnlaw12.ClassMany'. -/
def classManyCard : Claim7 := { stood := { row := classManyRow, standIns := [], harness := (true, "b86a1e06c018341851a1b9ea850e21d583dc6f379dde04eda28cdcb7aa5538d4"), looks := false }, kinds := [], alts := [], laidByText := true, laidKinds := [.data], laidTests := true, laidLooks := .later }
def ClassManyCardSaid : Prop := Claim7.holds Tryd.pinned (.plain (OpenSpec.ofChange classManySpec)) classManyCard

/-- THE TIED CARD OF 'kilnlaw12.ClassLimits'. -/
def classLimitsCard : Claim7 := { stood := { row := classLimitsRow, standIns := [], harness := (true, "b86a1e06c018341851a1b9ea850e21d583dc6f379dde04eda28cdcb7aa5538d4"), looks := false }, kinds := [], alts := [], laidByText := true, laidKinds := [.data], laidTests := true, laidLooks := .later }
def ClassLimitsCardSaid : Prop := Claim7.holds Tryd.pinned (.plain (OpenSpec.ofChange classLimitsSpec)) classLimitsCard

/-- THE TIED CARD OF 'kilnlaw12.ClassBytes'. -/
def classBytesCard : Claim7 := { stood := { row := classBytesRow, standIns := [], harness := (true, "b86a1e06c018341851a1b9ea850e21d583dc6f379dde04eda28cdcb7aa5538d4"), looks := false }, kinds := [], alts := [], laidByText := true, laidKinds := [.data], laidTests := true, laidLooks := .later }
def ClassBytesCardSaid : Prop := Claim7.holds Tryd.pinned (.plain (OpenSpec.ofChange classBytesSpec)) classBytesCard

/-- THE TIED CARD OF 'kilnlaw12.ClassPacks'. -/
def classPacksCard : Claim7 := { stood := { row := classPacksRow, standIns := [], harness := (true, "b86a1e06c018341851a1b9ea850e21d583dc6f379dde04eda28cdcb7aa5538d4"), looks := false }, kinds := [], alts := [], laidByText := true, laidKinds := [.data], laidTests := true, laidLooks := .later }
def ClassPacksCardSaid : Prop := Claim7.holds Tryd.pinned (.plain (OpenSpec.ofChange classPacksSpec)) classPacksCard

/-- THE TIED CARD OF 'kilnlaw12.ClassApart'. -/
def classApartCard : Claim7 := { stood := { row := classApartRow, standIns := [], harness := (true, "b86a1e06c018341851a1b9ea850e21d583dc6f379dde04eda28cdcb7aa5538d4"), looks := false }, kinds := [], alts := [], laidByText := true, laidKinds := [.data], laidTests := true, laidLooks := .later }
def ClassApartCardSaid : Prop := Claim7.holds Tryd.pinned (.plain (OpenSpec.ofChange classApartSpec)) classApartCard

/-- THE SECOND FORM's CARD OF 'kilnlaw12.ClassReads'. -/
def classReadsUptoCard : Claim7 := { stood := { row := classReadsUptoRow, standIns := [], harness := (true, "b86a1e06c018341851a1b9ea850e21d583dc6f379dde04eda28cdcb7aa5538d4"), looks := false }, kinds := [], alts := [], laidByText := true, laidKinds := [.data], laidTests := true, laidLooks := .later }
def ClassReadsUptoCardSaid : Prop := Claim7.holds Tryd.pinned (.plain (OpenSpec.upto classReadsSpec)) classReadsUptoCard

/-- THE SECOND FORM's CARD OF 'kilnlaw12.ClassMany'. -/
def classManyUptoCard : Claim7 := { stood := { row := classManyUptoRow, standIns := [], harness := (true, "b86a1e06c018341851a1b9ea850e21d583dc6f379dde04eda28cdcb7aa5538d4"), looks := false }, kinds := [], alts := [], laidByText := true, laidKinds := [.data], laidTests := true, laidLooks := .later }
def ClassManyUptoCardSaid : Prop := Claim7.holds Tryd.pinned (.plain (OpenSpec.upto classManySpec)) classManyUptoCard

/-- THE SECOND FORM's CARD OF 'kilnlaw12.ClassLimits'. -/
def classLimitsUptoCard : Claim7 := { stood := { row := classLimitsUptoRow, standIns := [], harness := (true, "b86a1e06c018341851a1b9ea850e21d583dc6f379dde04eda28cdcb7aa5538d4"), looks := false }, kinds := [], alts := [], laidByText := true, laidKinds := [.data], laidTests := true, laidLooks := .later }
def ClassLimitsUptoCardSaid : Prop := Claim7.holds Tryd.pinned (.plain (OpenSpec.upto classLimitsSpec)) classLimitsUptoCard

/-- THE SECOND FORM's CARD OF 'kilnlaw12.ClassBytes'. -/
def classBytesUptoCard : Claim7 := { stood := { row := classBytesUptoRow, standIns := [], harness := (true, "b86a1e06c018341851a1b9ea850e21d583dc6f379dde04eda28cdcb7aa5538d4"), looks := false }, kinds := [], alts := [], laidByText := true, laidKinds := [.data], laidTests := true, laidLooks := .later }
def ClassBytesUptoCardSaid : Prop := Claim7.holds Tryd.pinned (.plain (OpenSpec.upto classBytesSpec)) classBytesUptoCard

/-- THE SECOND FORM's CARD OF 'kilnlaw12.ClassPacks'. -/
def classPacksUptoCard : Claim7 := { stood := { row := classPacksUptoRow, standIns := [], harness := (true, "b86a1e06c018341851a1b9ea850e21d583dc6f379dde04eda28cdcb7aa5538d4"), looks := false }, kinds := [], alts := [], laidByText := true, laidKinds := [.data], laidTests := true, laidLooks := .later }
def ClassPacksUptoCardSaid : Prop := Claim7.holds Tryd.pinned (.plain (OpenSpec.upto classPacksSpec)) classPacksUptoCard

/-- THE SECOND FORM's CARD OF 'kilnlaw12.ClassApart'. -/
def classApartUptoCard : Claim7 := { stood := { row := classApartUptoRow, standIns := [], harness := (true, "b86a1e06c018341851a1b9ea850e21d583dc6f379dde04eda28cdcb7aa5538d4"), looks := false }, kinds := [], alts := [], laidByText := true, laidKinds := [.data], laidTests := true, laidLooks := .later }
def ClassApartUptoCardSaid : Prop := Claim7.holds Tryd.pinned (.plain (OpenSpec.upto classApartSpec)) classApartUptoCard
end Rows
end Go.Proofs.YtkldfbacagnhoaaDoor
