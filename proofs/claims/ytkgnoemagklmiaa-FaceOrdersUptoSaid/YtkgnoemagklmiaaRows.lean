/-
  NARROWER THAN 'FOR EVERY INPUT', by the rows' own cells (each row's printed sentence says how): FaceOrders: loops.
  DERIVED. THE GIVEN ROWS OF THIS SEAT. 5 by the template 'for every input the law returns true; each argument reads behind the call as it read before'; 0 by the template 'total and deterministic' (their statements: YtkgnoemagklmiaaTotals.lean).
  GIVEN WITH THE SEED: the statements are not yours to turn. If you find one false, say at which input.
  Laid BY PROGRAM, IN A SANDBOX (cutbox-rows.mjs): the forced cells as the released guide's own fill.sh prints them over the translation d6d10b9c331df131… (all of the seat's roots in one cut). By AI agents, Wed Nov 11 2026. No macro, syntax, notation, axiom, sorry.
-/
import Derived.Test.YtkgnoemagklmiaaChecked
import GoSem.Claim
import GoSem.ClaimJoined
import GoSem.ClaimMapViews
import Derived.JoinedTies
import Derived.KernelRfl
namespace Go.Proofs.Ytkgnoemagklmiaa
/- THE CELL 'sum', in the pinned program and in every row, IS THE sha256 OF THE DUMP (.gsa) THAT YtkgnoemagklmiaaProg.lean LOADS. Nothing in Lean hashes anything: it is a label: what it is worth is what the hold of that sum in a sandbox is worth. -/
noncomputable def Try.pinned : Pinned := { name := "ytkgnoemagklmiaa", sum := "d6d10b9c331df131a73d7aa70d2524896472069d19caeacdae0e01e44287240a", checked := Try.checked }
namespace Rows
def none {H : Type} : Left H := { results := [], args := [] }

/-- 'kilnlaw07.FaceApart': WHATEVER THE INPUT: true; the input reads as it did. -/
def faceApartSpec : ChangeSpec := { name := "faceApart", fn := fun _ => fun
  | [d1, d2] => { results := [.lit (.bool true)], args := [d1, d2] }
  | _ => none }
def faceApartRow : OpenClaim := { program := "ytkgnoemagklmiaa", sum := "d6d10b9c331df131a73d7aa70d2524896472069d19caeacdae0e01e44287240a", func := "kiln/kilnlaw07.FaceApart", spec := "faceApart", inPlace := ["internal/bytealg.abigen_runtime_cmpstring"], unfollowed := true, recurses := true, apart := false }
def FaceApartSaid : Prop := faceApartRow.holds Try.pinned (OpenSpec.ofChange faceApartSpec)

/-- ITS FALSE NEIGHBOUR: 'it returns false'. Refute it at one input. -/
def faceApartWrong : ChangeSpec := { name := "faceApart", fn := fun _ => fun
  | [d1, d2] => { results := [.lit (.bool false)], args := [d1, d2] }
  | _ => none }
def FaceApartWrongFalsely : Prop := faceApartRow.holds Try.pinned (OpenSpec.ofChange faceApartWrong)

/-- 'kilnlaw07.FaceOrders': WHATEVER THE INPUT: true; the input reads as it did. -/
def faceOrdersSpec : ChangeSpec := { name := "faceOrders", fn := fun _ => fun
  | [d1, d2] => { results := [.lit (.bool true)], args := [d1, d2] }
  | _ => none }
def faceOrdersRow : OpenClaim := { program := "ytkgnoemagklmiaa", sum := "d6d10b9c331df131a73d7aa70d2524896472069d19caeacdae0e01e44287240a", func := "kiln/kilnlaw07.FaceOrders", spec := "faceOrders", inPlace := ["internal/bytealg.abigen_runtime_cmpstring"], unfollowed := true, recurses := true, loops := true, apart := false }
def FaceOrdersSaid : Prop := faceOrdersRow.holds Try.pinned (OpenSpec.ofChange faceOrdersSpec)

/-- ITS FALSE NEIGHBOUR: 'it returns false'. Refute it at one input. -/
def faceOrdersWrong : ChangeSpec := { name := "faceOrders", fn := fun _ => fun
  | [d1, d2] => { results := [.lit (.bool false)], args := [d1, d2] }
  | _ => none }
def FaceOrdersWrongFalsely : Prop := faceOrdersRow.holds Try.pinned (OpenSpec.ofChange faceOrdersWrong)

/-- 'kilnlaw07.FaceFinds': WHATEVER THE INPUT: true; the input reads as it did. -/
def faceFindsSpec : ChangeSpec := { name := "faceFinds", fn := fun _ => fun
  | [d1, d2] => { results := [.lit (.bool true)], args := [d1, d2] }
  | _ => none }
def faceFindsRow : OpenClaim := { program := "ytkgnoemagklmiaa", sum := "d6d10b9c331df131a73d7aa70d2524896472069d19caeacdae0e01e44287240a", func := "kiln/kilnlaw07.FaceFinds", spec := "faceFinds", inPlace := ["internal/bytealg.abigen_runtime_cmpstring"], unfollowed := true, recurses := true, apart := false }
def FaceFindsSaid : Prop := faceFindsRow.holds Try.pinned (OpenSpec.ofChange faceFindsSpec)

/-- ITS FALSE NEIGHBOUR: 'it returns false'. Refute it at one input. -/
def faceFindsWrong : ChangeSpec := { name := "faceFinds", fn := fun _ => fun
  | [d1, d2] => { results := [.lit (.bool false)], args := [d1, d2] }
  | _ => none }
def FaceFindsWrongFalsely : Prop := faceFindsRow.holds Try.pinned (OpenSpec.ofChange faceFindsWrong)

/-- 'kilnlaw07.FaceReads': WHATEVER THE INPUT: true; the input reads as it did. -/
def faceReadsSpec : ChangeSpec := { name := "faceReads", fn := fun _ => fun
  | [d] => { results := [.lit (.bool true)], args := [d] }
  | _ => none }
def faceReadsRow : OpenClaim := { program := "ytkgnoemagklmiaa", sum := "d6d10b9c331df131a73d7aa70d2524896472069d19caeacdae0e01e44287240a", func := "kiln/kilnlaw07.FaceReads", spec := "faceReads", inPlace := ["internal/bytealg.abigen_runtime_cmpstring"], unfollowed := true, recurses := true, apart := false }
def FaceReadsSaid : Prop := faceReadsRow.holds Try.pinned (OpenSpec.ofChange faceReadsSpec)

/-- ITS FALSE NEIGHBOUR: 'it returns false'. Refute it at one input. -/
def faceReadsWrong : ChangeSpec := { name := "faceReads", fn := fun _ => fun
  | [d] => { results := [.lit (.bool false)], args := [d] }
  | _ => none }
def FaceReadsWrongFalsely : Prop := faceReadsRow.holds Try.pinned (OpenSpec.ofChange faceReadsWrong)

/-- 'kilnlaw07.FaceBytes': WHATEVER THE INPUT: true; the input reads as it did. -/
def faceBytesSpec : ChangeSpec := { name := "faceBytes", fn := fun _ => fun
  | [d1, d2] => { results := [.lit (.bool true)], args := [d1, d2] }
  | _ => none }
def faceBytesRow : OpenClaim := { program := "ytkgnoemagklmiaa", sum := "d6d10b9c331df131a73d7aa70d2524896472069d19caeacdae0e01e44287240a", func := "kiln/kilnlaw07.FaceBytes", spec := "faceBytes", inPlace := ["internal/bytealg.abigen_runtime_cmpstring"], unfollowed := true, recurses := true, apart := false }
def FaceBytesSaid : Prop := faceBytesRow.holds Try.pinned (OpenSpec.ofChange faceBytesSpec)

/-- ITS FALSE NEIGHBOUR: 'it returns false'. Refute it at one input. -/
def faceBytesWrong : ChangeSpec := { name := "faceBytes", fn := fun _ => fun
  | [d1, d2] => { results := [.lit (.bool false)], args := [d1, d2] }
  | _ => none }
def FaceBytesWrongFalsely : Prop := faceBytesRow.holds Try.pinned (OpenSpec.ofChange faceBytesWrong)

/- THE SECOND FORM. 'bulk': how many values and letters a reading holds, each counted each time it is reached (what is shared counts as often as it is met; a slice's spare places count too). A statement '..UptoSaid' is the law's where the arguments, and the package variables that the reading takes, are together of bulk at most 1048576: NARROWER than '..Said'. Prove '..Said' where nothing that the law and all that it calls make is longer than what came in: it says more and counts as full. Else prove '..UptoSaid'. A law counts once. -/
mutual
def uptoBulk {H : Type} : DataW H → Nat
  | .lit (.string bytes) => bytes.length + 1
  | .lit _ => 1
  | .nil => 1
  | .ptr d => uptoBulk d + 1
  | .slice elems spare => uptoBulkAll elems + uptoBulkAll spare + 1
  | .agg parts => uptoBulkAll parts + 1
  | .iface _ d => uptoBulk d + 1
  | .map entries => uptoBulkEntries entries + 1
  | .held _ => 1
def uptoBulkAll {H : Type} : List (DataW H) → Nat
  | [] => 0
  | d :: r => uptoBulk d + uptoBulkAll r
def uptoBulkEntries {H : Type} : List (Lit × DataW H) → Nat
  | [] => 0
  | x :: r => uptoBulkEntry x + uptoBulkEntries r
def uptoBulkEntry {H : Type} : Lit × DataW H → Nat
  | (.string bytes, d) => bytes.length + uptoBulk d + 1
  | (_, d) => uptoBulk d + 1
 end
def uptoSmall : (H : Type) → List (DataW H) → Bool := fun _ ds => decide (uptoBulkAll ds ≤ 1048576)
def OpenSpec.upto (s : _root_.Go.ChangeSpec) : _root_.Go.OpenSpec := { _root_.Go.OpenSpec.ofChange s with cond := some uptoSmall }

/-- 'kilnlaw07.FaceApart', WHERE WHAT IT READS IS OF BULK AT MOST 1048576: true; the input reads as it did. -/
def faceApartUptoRow : OpenClaim := { program := "ytkgnoemagklmiaa", sum := "d6d10b9c331df131a73d7aa70d2524896472069d19caeacdae0e01e44287240a", func := "kiln/kilnlaw07.FaceApart", spec := "faceApart", inPlace := ["internal/bytealg.abigen_runtime_cmpstring"], unfollowed := true, recurses := true, apart := false, narrowed := true }
def FaceApartUptoSaid : Prop := faceApartUptoRow.holds Try.pinned (OpenSpec.upto faceApartSpec)

/-- 'kilnlaw07.FaceOrders', WHERE WHAT IT READS IS OF BULK AT MOST 1048576: true; the input reads as it did. -/
def faceOrdersUptoRow : OpenClaim := { program := "ytkgnoemagklmiaa", sum := "d6d10b9c331df131a73d7aa70d2524896472069d19caeacdae0e01e44287240a", func := "kiln/kilnlaw07.FaceOrders", spec := "faceOrders", inPlace := ["internal/bytealg.abigen_runtime_cmpstring"], unfollowed := true, recurses := true, loops := true, apart := false, narrowed := true }
def FaceOrdersUptoSaid : Prop := faceOrdersUptoRow.holds Try.pinned (OpenSpec.upto faceOrdersSpec)

/-- 'kilnlaw07.FaceFinds', WHERE WHAT IT READS IS OF BULK AT MOST 1048576: true; the input reads as it did. -/
def faceFindsUptoRow : OpenClaim := { program := "ytkgnoemagklmiaa", sum := "d6d10b9c331df131a73d7aa70d2524896472069d19caeacdae0e01e44287240a", func := "kiln/kilnlaw07.FaceFinds", spec := "faceFinds", inPlace := ["internal/bytealg.abigen_runtime_cmpstring"], unfollowed := true, recurses := true, apart := false, narrowed := true }
def FaceFindsUptoSaid : Prop := faceFindsUptoRow.holds Try.pinned (OpenSpec.upto faceFindsSpec)

/-- 'kilnlaw07.FaceReads', WHERE WHAT IT READS IS OF BULK AT MOST 1048576: true; the input reads as it did. -/
def faceReadsUptoRow : OpenClaim := { program := "ytkgnoemagklmiaa", sum := "d6d10b9c331df131a73d7aa70d2524896472069d19caeacdae0e01e44287240a", func := "kiln/kilnlaw07.FaceReads", spec := "faceReads", inPlace := ["internal/bytealg.abigen_runtime_cmpstring"], unfollowed := true, recurses := true, apart := false, narrowed := true }
def FaceReadsUptoSaid : Prop := faceReadsUptoRow.holds Try.pinned (OpenSpec.upto faceReadsSpec)

/-- 'kilnlaw07.FaceBytes', WHERE WHAT IT READS IS OF BULK AT MOST 1048576: true; the input reads as it did. -/
def faceBytesUptoRow : OpenClaim := { program := "ytkgnoemagklmiaa", sum := "d6d10b9c331df131a73d7aa70d2524896472069d19caeacdae0e01e44287240a", func := "kiln/kilnlaw07.FaceBytes", spec := "faceBytes", inPlace := ["internal/bytealg.abigen_runtime_cmpstring"], unfollowed := true, recurses := true, apart := false, narrowed := true }
def FaceBytesUptoSaid : Prop := faceBytesUptoRow.holds Try.pinned (OpenSpec.upto faceBytesSpec)

end Rows
end Go.Proofs.Ytkgnoemagklmiaa
