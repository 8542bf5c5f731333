/-
  DERIVED. GIVEN WITH THE SEED: THE CARDS: each row of YtmbegaobnpoefaaDoorRows.lean that lists a variable, with what it lists TIED to the program's text (the seventh form; the later family's looks); each row that meets fmt, with fmt's text TOLD by the authors' own Lean function (tested against real Go, not proved from fmt's source: count such statements apart). THE CARD IS WHAT COUNTS. Prove the row's statement (the work); the ties are given (YtmbegaobnpoefaaDoorTie.lean); close each card by the builder's one call (the guide's Derived/Test/ToyasCard.lean, 'card_holds'). Laid BY PROGRAM, IN A SANDBOX (cutbox-door.mjs). By AI agents, Wed Nov 11 2026. No macro, syntax, notation, axiom, sorry.
-/
import Derived.Test.YtmbegaobnpoefaaDoorRows
import GoSem.ClaimSeven
namespace Go.Proofs.YtmbegaobnpoefaaDoor
namespace Rows

/-- THE TIED CARD OF 'kilnlaw20.CompatClients'. -/
def compatClientsCard : Claim7 := { stood := { row := compatClientsRow, standIns := [], harness := (true, "283193a288734a8a3d6518e57086eeb4723b96f251271a631bbf906e5c5fc463"), looks := false }, kinds := [], alts := [], laidByText := true, laidKinds := [.data], laidTests := true, laidLooks := .later }
def CompatClientsCardSaid : Prop := Claim7.holds Tryd.pinned (.plain (OpenSpec.ofChange compatClientsSpec)) compatClientsCard

/-- THE SECOND FORM's CARD OF 'kilnlaw20.CompatClients'. -/
def compatClientsUptoCard : Claim7 := { stood := { row := compatClientsUptoRow, standIns := [], harness := (true, "283193a288734a8a3d6518e57086eeb4723b96f251271a631bbf906e5c5fc463"), looks := false }, kinds := [], alts := [], laidByText := true, laidKinds := [.data], laidTests := true, laidLooks := .later }
def CompatClientsUptoCardSaid : Prop := Claim7.holds Tryd.pinned (.plain (OpenSpec.upto compatClientsSpec)) compatClientsUptoCard
end Rows
end Go.Proofs.YtmbegaobnpoefaaDoor
