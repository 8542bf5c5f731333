/-
  DERIVED. GIVEN WITH THE SEED: THE CARDS: each row of YtfahcpncofjnjaaDoorRows.lean that lists a variable, with what it lists TIED to the program's text (the seventh form; the later family's looks); each row that meets fmt, with fmt's text TOLD by the authors' own Lean function (tested against real Go, not proved from fmt's source: count such statements apart). THE CARD IS WHAT COUNTS. Prove the row's statement (the work); the ties are given (YtfahcpncofjnjaaDoorTie.lean); close each card by the builder's one call (the guide's Derived/Test/ToyasCard.lean, 'card_holds'). Laid BY PROGRAM, IN A SANDBOX (cutbox-door.mjs). By AI agents, Wed Nov 11 2026. No macro, syntax, notation, axiom, sorry.
-/
import Derived.Test.YtfahcpncofjnjaaDoorRows
import GoSem.ClaimSeven
namespace Go.Proofs.YtfahcpncofjnjaaDoor
namespace Rows

/-- THE TIED CARD OF 'kilnlaw11.OpTexts'. -/
def opTextsCard : Claim7 := { stood := { row := opTextsRow, standIns := [], harness := (true, "7987e3971a7d18a20cff600d39a5a7f8f17bcf467cddcf0af59f22a3a9864a8c"), looks := false }, kinds := [], alts := [], laidByText := true, laidKinds := [.data, .data, .data, .data], laidTests := true, laidLooks := .later }
def OpTextsCardSaid : Prop := Claim7.holds Tryd.pinned (.plain (OpenSpec.ofChange opTextsSpec)) opTextsCard

/-- THE TIED CARD OF 'kilnlaw11.OpFinds'. -/
def opFindsCard : Claim7 := { stood := { row := opFindsRow, standIns := [], harness := (true, "7987e3971a7d18a20cff600d39a5a7f8f17bcf467cddcf0af59f22a3a9864a8c"), looks := false }, kinds := [], alts := [], laidByText := true, laidKinds := [.data, .data, .data, .data], laidTests := true, laidLooks := .later }
def OpFindsCardSaid : Prop := Claim7.holds Tryd.pinned (.plain (OpenSpec.ofChange opFindsSpec)) opFindsCard

/-- THE TIED CARD OF 'kilnlaw11.OpCodes'. -/
def opCodesCard : Claim7 := { stood := { row := opCodesRow, standIns := [], harness := (true, "7987e3971a7d18a20cff600d39a5a7f8f17bcf467cddcf0af59f22a3a9864a8c"), looks := false }, kinds := [], alts := [], laidByText := true, laidKinds := [.data, .data, .data, .data], laidTests := true, laidLooks := .later }
def OpCodesCardSaid : Prop := Claim7.holds Tryd.pinned (.plain (OpenSpec.ofChange opCodesSpec)) opCodesCard

/-- THE TIED CARD OF 'kilnlaw11.OpInstrs'. -/
def opInstrsCard : Claim7 := { stood := { row := opInstrsRow, standIns := [], harness := (true, "7987e3971a7d18a20cff600d39a5a7f8f17bcf467cddcf0af59f22a3a9864a8c"), looks := false }, kinds := [], alts := [], laidByText := true, laidKinds := [.data, .data, .data, .data], laidTests := true, laidLooks := .later }
def OpInstrsCardSaid : Prop := Claim7.holds Tryd.pinned (.plain (OpenSpec.ofChange opInstrsSpec)) opInstrsCard

/-- THE SECOND FORM's CARD OF 'kilnlaw11.OpTexts'. -/
def opTextsUptoCard : Claim7 := { stood := { row := opTextsUptoRow, standIns := [], harness := (true, "7987e3971a7d18a20cff600d39a5a7f8f17bcf467cddcf0af59f22a3a9864a8c"), looks := false }, kinds := [], alts := [], laidByText := true, laidKinds := [.data, .data, .data, .data], laidTests := true, laidLooks := .later }
def OpTextsUptoCardSaid : Prop := Claim7.holds Tryd.pinned (.plain (OpenSpec.upto opTextsSpec)) opTextsUptoCard

/-- THE SECOND FORM's CARD OF 'kilnlaw11.OpFinds'. -/
def opFindsUptoCard : Claim7 := { stood := { row := opFindsUptoRow, standIns := [], harness := (true, "7987e3971a7d18a20cff600d39a5a7f8f17bcf467cddcf0af59f22a3a9864a8c"), looks := false }, kinds := [], alts := [], laidByText := true, laidKinds := [.data, .data, .data, .data], laidTests := true, laidLooks := .later }
def OpFindsUptoCardSaid : Prop := Claim7.holds Tryd.pinned (.plain (OpenSpec.upto opFindsSpec)) opFindsUptoCard

/-- THE SECOND FORM's CARD OF 'kilnlaw11.OpCodes'. -/
def opCodesUptoCard : Claim7 := { stood := { row := opCodesUptoRow, standIns := [], harness := (true, "7987e3971a7d18a20cff600d39a5a7f8f17bcf467cddcf0af59f22a3a9864a8c"), looks := false }, kinds := [], alts := [], laidByText := true, laidKinds := [.data, .data, .data, .data], laidTests := true, laidLooks := .later }
def OpCodesUptoCardSaid : Prop := Claim7.holds Tryd.pinned (.plain (OpenSpec.upto opCodesSpec)) opCodesUptoCard

/-- THE SECOND FORM's CARD OF 'kilnlaw11.OpInstrs'. -/
def opInstrsUptoCard : Claim7 := { stood := { row := opInstrsUptoRow, standIns := [], harness := (true, "7987e3971a7d18a20cff600d39a5a7f8f17bcf467cddcf0af59f22a3a9864a8c"), looks := false }, kinds := [], alts := [], laidByText := true, laidKinds := [.data, .data, .data, .data], laidTests := true, laidLooks := .later }
def OpInstrsUptoCardSaid : Prop := Claim7.holds Tryd.pinned (.plain (OpenSpec.upto opInstrsSpec)) opInstrsUptoCard
end Rows
end Go.Proofs.YtfahcpncofjnjaaDoor
