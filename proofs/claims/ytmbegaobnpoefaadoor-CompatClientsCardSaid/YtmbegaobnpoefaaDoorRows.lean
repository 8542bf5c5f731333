/-
  NARROWER THAN 'FOR EVERY INPUT', by the rows' own cells (each row's printed sentence says how): CompatClients: laid.
  DERIVED. THE GIVEN ROWS OF THIS SEAT. 1 by the template 'for every input the law returns true; each argument reads behind the call as it read before'; 0 by the template 'total and deterministic' (their statements: YtmbegaobnpoefaaDoorTotals.lean).
  GIVEN WITH THE SEED: the statements are not yours to turn. If you find one false, say at which input.
  Laid BY PROGRAM, IN A SANDBOX (cutbox-rows.mjs): the forced cells as the released guide's own fill.sh prints them over the translation 7ebf2d64b2446996… (all of the seat's roots in one cut). By AI agents, Wed Nov 11 2026. No macro, syntax, notation, axiom, sorry.
-/
import Derived.Test.YtmbegaobnpoefaaDoorChecked
import GoSem.Claim
import GoSem.ClaimJoined
import GoSem.ClaimMapViews
import Derived.JoinedTies
import Derived.KernelRfl
namespace Go.Proofs.YtmbegaobnpoefaaDoor
/- THE CELL 'sum', in the pinned program and in every row, IS THE sha256 OF THE DUMP (.gsa) THAT YtmbegaobnpoefaaDoorProg.lean LOADS. Nothing in Lean hashes anything: it is a label: what it is worth is what the hold of that sum in a sandbox is worth. -/
noncomputable def Tryd.pinned : Pinned := { name := "ytmbegaobnpoefaadoor", sum := "7ebf2d64b2446996db9d526d17a70ad1eba6aeeca7ccdb74b9012618de2982a8", checked := Tryd.checked }
namespace Rows
def none {H : Type} : Left H := { results := [], args := [] }

/- WHAT THE LISTED PACKAGE-LEVEL VARIABLES READ AS WHEN THE CALL BEGINS. Each datum BY PROGRAM (the guide's laid-datum.mjs) off the statement by which the dump's own 'gosem.cut.vars' lays the variable. In a bare row this is a premise. The card (YtmbegaobnpoefaaDoorCards.lean) ties it to the program's text. -/
def laid_kiln_op_shapes {H : Type} : DataW H := .agg [.agg [.lit (.string []), .lit (.int .i32 0)], .agg [.lit (.string [105, 110, 116]), .lit (.int .i32 110)], .agg [.lit (.string [110, 117, 108, 108]), .lit (.int .i32 0)], .agg [.lit (.string [108, 111, 99, 97, 108]), .lit (.int .i32 108)], .agg [.lit (.string [115, 116, 111, 114, 101]), .lit (.int .i32 108)], .agg [.lit (.string [97, 100, 100]), .lit (.int .i32 0)], .agg [.lit (.string [115, 117, 98]), .lit (.int .i32 0)], .agg [.lit (.string [109, 117, 108]), .lit (.int .i32 0)], .agg [.lit (.string [100, 105, 118]), .lit (.int .i32 0)], .agg [.lit (.string [109, 111, 100]), .lit (.int .i32 0)], .agg [.lit (.string [108, 101, 115, 115]), .lit (.int .i32 0)], .agg [.lit (.string [109, 111, 115, 116]), .lit (.int .i32 0)], .agg [.lit (.string [115, 97, 109, 101]), .lit (.int .i32 0)], .agg [.lit (.string [111, 116, 104, 101, 114]), .lit (.int .i32 0)], .agg [.lit (.string [110, 101, 103]), .lit (.int .i32 0)], .agg [.lit (.string [110, 111, 116]), .lit (.int .i32 0)], .agg [.lit (.string [103, 101, 116]), .lit (.int .i32 102)], .agg [.lit (.string [112, 117, 116]), .lit (.int .i32 102)], .agg [.lit (.string [110, 101, 119]), .lit (.int .i32 99)], .agg [.lit (.string [97, 114, 114, 97, 121]), .lit (.int .i32 116)], .agg [.lit (.string [108, 111, 97, 100]), .lit (.int .i32 116)], .agg [.lit (.string [115, 97, 118, 101]), .lit (.int .i32 116)], .agg [.lit (.string [108, 101, 110, 103, 116, 104]), .lit (.int .i32 0)], .agg [.lit (.string [99, 97, 115, 116]), .lit (.int .i32 99)], .agg [.lit (.string [105, 115]), .lit (.int .i32 99)], .agg [.lit (.string [99, 97, 108, 108]), .lit (.int .i32 109)], .agg [.lit (.string [115, 116, 97, 116, 105, 99]), .lit (.int .i32 109)], .agg [.lit (.string [106, 117, 109, 112]), .lit (.int .i32 106)], .agg [.lit (.string [117, 110, 108, 101, 115, 115]), .lit (.int .i32 106)], .agg [.lit (.string [114, 101, 116, 117, 114, 110]), .lit (.int .i32 0)], .agg [.lit (.string [112, 114, 105, 110, 116]), .lit (.int .i32 0)], .agg [.lit (.string [112, 111, 112]), .lit (.int .i32 0)], .agg [.lit (.string [98, 111, 111, 108]), .lit (.int .i32 98)]]

/-- 'kilnlaw20.CompatClients': WHATEVER THE INPUT: true; the input reads as it did. -/
def compatClientsSpec : ChangeSpec := { name := "compatClients", fn := fun _ => fun
  | [d1, d2, d3, d4] => { results := [.lit (.bool true)], args := [d1, d2, d3, d4] }
  | _ => none }
def compatClientsRow : OpenClaim := { program := "ytmbegaobnpoefaadoor", sum := "7ebf2d64b2446996db9d526d17a70ad1eba6aeeca7ccdb74b9012618de2982a8", func := "kiln/kilnlaw20.CompatClients", spec := "compatClients", unfollowed := true, recurses := true, named := ["kiln/op.shapes"], apart := false, laid := [("kiln/op.shapes", laid_kiln_op_shapes)] }
def CompatClientsSaid : Prop := compatClientsRow.holds Tryd.pinned (OpenSpec.ofChange compatClientsSpec)

/-- ITS FALSE NEIGHBOUR: 'it returns false'. Refute it at one input. -/
def compatClientsWrong : ChangeSpec := { name := "compatClients", fn := fun _ => fun
  | [d1, d2, d3, d4] => { results := [.lit (.bool false)], args := [d1, d2, d3, d4] }
  | _ => none }
def CompatClientsWrongFalsely : Prop := compatClientsRow.holds Tryd.pinned (OpenSpec.ofChange compatClientsWrong)

/- THE SECOND FORM. 'bulk': how many values and letters a reading holds, each counted each time it is reached (what is shared counts as often as it is met; a slice's spare places count too). A statement '..UptoSaid' is the law's where the arguments, and the package variables that the reading takes, are together of bulk at most 1048576: NARROWER than '..Said'. Prove '..Said' where nothing that the law and all that it calls make is longer than what came in: it says more and counts as full. Else prove '..UptoSaid'. A law counts once. -/
mutual
def uptoBulk {H : Type} : DataW H → Nat
  | .lit (.string bytes) => bytes.length + 1
  | .lit _ => 1
  | .nil => 1
  | .ptr d => uptoBulk d + 1
  | .slice elems spare => uptoBulkAll elems + uptoBulkAll spare + 1
  | .agg parts => uptoBulkAll parts + 1
  | .iface _ d => uptoBulk d + 1
  | .map entries => uptoBulkEntries entries + 1
  | .held _ => 1
def uptoBulkAll {H : Type} : List (DataW H) → Nat
  | [] => 0
  | d :: r => uptoBulk d + uptoBulkAll r
def uptoBulkEntries {H : Type} : List (Lit × DataW H) → Nat
  | [] => 0
  | x :: r => uptoBulkEntry x + uptoBulkEntries r
def uptoBulkEntry {H : Type} : Lit × DataW H → Nat
  | (.string bytes, d) => bytes.length + uptoBulk d + 1
  | (_, d) => uptoBulk d + 1
 end
def uptoSmall : (H : Type) → List (DataW H) → Bool := fun _ ds => decide (uptoBulkAll ds ≤ 1048576)
def OpenSpec.upto (s : _root_.Go.ChangeSpec) : _root_.Go.OpenSpec := { _root_.Go.OpenSpec.ofChange s with cond := some uptoSmall }

/-- 'kilnlaw20.CompatClients', WHERE WHAT IT READS IS OF BULK AT MOST 1048576: true; the input reads as it did. -/
def compatClientsUptoRow : OpenClaim := { program := "ytmbegaobnpoefaadoor", sum := "7ebf2d64b2446996db9d526d17a70ad1eba6aeeca7ccdb74b9012618de2982a8", func := "kiln/kilnlaw20.CompatClients", spec := "compatClients", unfollowed := true, recurses := true, named := ["kiln/op.shapes"], apart := false, laid := [("kiln/op.shapes", laid_kiln_op_shapes)], narrowed := true }
def CompatClientsUptoSaid : Prop := compatClientsUptoRow.holds Tryd.pinned (OpenSpec.upto compatClientsSpec)

end Rows
end Go.Proofs.YtmbegaobnpoefaaDoor
