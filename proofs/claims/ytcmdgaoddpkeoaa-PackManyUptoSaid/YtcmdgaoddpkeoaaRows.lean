/-
  No cell of these rows narrows 'for every input' (looked for: loops, veiled, ifaces, maps, wideKeys, modest, calm, conditions, laid).
  DERIVED. THE GIVEN ROWS OF THIS SEAT. 7 by the template 'for every input the law returns true; each argument reads behind the call as it read before'; 0 by the template 'total and deterministic' (their statements: YtcmdgaoddpkeoaaTotals.lean).
  GIVEN WITH THE SEED: the statements are not yours to turn. If you find one false, say at which input.
  Laid BY PROGRAM, IN A SANDBOX (cutbox-rows.mjs): the forced cells as the released guide's own fill.sh prints them over the translation eacdc1725d4ce6d3… (all of the seat's roots in one cut). By AI agents, Wed Nov 11 2026. No macro, syntax, notation, axiom, sorry.
-/
import Derived.Test.YtcmdgaoddpkeoaaChecked
import GoSem.Claim
import GoSem.ClaimJoined
import GoSem.ClaimMapViews
import Derived.JoinedTies
import Derived.KernelRfl
namespace Go.Proofs.Ytcmdgaoddpkeoaa
/- THE CELL 'sum', in the pinned program and in every row, IS THE sha256 OF THE DUMP (.gsa) THAT YtcmdgaoddpkeoaaProg.lean LOADS. Nothing in Lean hashes anything: it is a label: what it is worth is what the hold of that sum in a sandbox is worth. -/
noncomputable def Try.pinned : Pinned := { name := "ytcmdgaoddpkeoaa", sum := "eacdc1725d4ce6d35c05962937680b42103c79abd34c3009a1a8eaaa2d8657a1", checked := Try.checked }
namespace Rows
def none {H : Type} : Left H := { results := [], args := [] }

/-- 'kilnlaw02.PackApart': WHATEVER THE INPUT: true; the input reads as it did. -/
def packApartSpec : ChangeSpec := { name := "packApart", fn := fun _ => fun
  | [d1, d2] => { results := [.lit (.bool true)], args := [d1, d2] }
  | _ => none }
def packApartRow : OpenClaim := { program := "ytcmdgaoddpkeoaa", sum := "eacdc1725d4ce6d35c05962937680b42103c79abd34c3009a1a8eaaa2d8657a1", func := "kiln/kilnlaw02.PackApart", spec := "packApart", apart := false }
def PackApartSaid : Prop := packApartRow.holds Try.pinned (OpenSpec.ofChange packApartSpec)

/-- ITS FALSE NEIGHBOUR: 'it returns false'. Refute it at one input. -/
def packApartWrong : ChangeSpec := { name := "packApart", fn := fun _ => fun
  | [d1, d2] => { results := [.lit (.bool false)], args := [d1, d2] }
  | _ => none }
def PackApartWrongFalsely : Prop := packApartRow.holds Try.pinned (OpenSpec.ofChange packApartWrong)

/-- 'kilnlaw02.PackMany': WHATEVER THE INPUT: true; the input reads as it did. -/
def packManySpec : ChangeSpec := { name := "packMany", fn := fun _ => fun
  | [d1, d2, d3, d4] => { results := [.lit (.bool true)], args := [d1, d2, d3, d4] }
  | _ => none }
def packManyRow : OpenClaim := { program := "ytcmdgaoddpkeoaa", sum := "eacdc1725d4ce6d35c05962937680b42103c79abd34c3009a1a8eaaa2d8657a1", func := "kiln/kilnlaw02.PackMany", spec := "packMany", apart := false }
def PackManySaid : Prop := packManyRow.holds Try.pinned (OpenSpec.ofChange packManySpec)

/-- ITS FALSE NEIGHBOUR: 'it returns false'. Refute it at one input. -/
def packManyWrong : ChangeSpec := { name := "packMany", fn := fun _ => fun
  | [d1, d2, d3, d4] => { results := [.lit (.bool false)], args := [d1, d2, d3, d4] }
  | _ => none }
def PackManyWrongFalsely : Prop := packManyRow.holds Try.pinned (OpenSpec.ofChange packManyWrong)

/-- 'kilnlaw02.PackFlags': WHATEVER THE INPUT: true; the input reads as it did. -/
def packFlagsSpec : ChangeSpec := { name := "packFlags", fn := fun _ => fun
  | [d1, d2] => { results := [.lit (.bool true)], args := [d1, d2] }
  | _ => none }
def packFlagsRow : OpenClaim := { program := "ytcmdgaoddpkeoaa", sum := "eacdc1725d4ce6d35c05962937680b42103c79abd34c3009a1a8eaaa2d8657a1", func := "kiln/kilnlaw02.PackFlags", spec := "packFlags", apart := false }
def PackFlagsSaid : Prop := packFlagsRow.holds Try.pinned (OpenSpec.ofChange packFlagsSpec)

/-- ITS FALSE NEIGHBOUR: 'it returns false'. Refute it at one input. -/
def packFlagsWrong : ChangeSpec := { name := "packFlags", fn := fun _ => fun
  | [d1, d2] => { results := [.lit (.bool false)], args := [d1, d2] }
  | _ => none }
def PackFlagsWrongFalsely : Prop := packFlagsRow.holds Try.pinned (OpenSpec.ofChange packFlagsWrong)

/-- 'kilnlaw02.PackBelow': WHATEVER THE INPUT: true; the input reads as it did. -/
def packBelowSpec : ChangeSpec := { name := "packBelow", fn := fun _ => fun
  | [d] => { results := [.lit (.bool true)], args := [d] }
  | _ => none }
def packBelowRow : OpenClaim := { program := "ytcmdgaoddpkeoaa", sum := "eacdc1725d4ce6d35c05962937680b42103c79abd34c3009a1a8eaaa2d8657a1", func := "kiln/kilnlaw02.PackBelow", spec := "packBelow", apart := false }
def PackBelowSaid : Prop := packBelowRow.holds Try.pinned (OpenSpec.ofChange packBelowSpec)

/-- ITS FALSE NEIGHBOUR: 'it returns false'. Refute it at one input. -/
def packBelowWrong : ChangeSpec := { name := "packBelow", fn := fun _ => fun
  | [d] => { results := [.lit (.bool false)], args := [d] }
  | _ => none }
def PackBelowWrongFalsely : Prop := packBelowRow.holds Try.pinned (OpenSpec.ofChange packBelowWrong)

/-- 'kilnlaw02.PackMosts': WHATEVER THE INPUT: true; the input reads as it did. -/
def packMostsSpec : ChangeSpec := { name := "packMosts", fn := fun _ => fun
  | [d1, d2, d3] => { results := [.lit (.bool true)], args := [d1, d2, d3] }
  | _ => none }
def packMostsRow : OpenClaim := { program := "ytcmdgaoddpkeoaa", sum := "eacdc1725d4ce6d35c05962937680b42103c79abd34c3009a1a8eaaa2d8657a1", func := "kiln/kilnlaw02.PackMosts", spec := "packMosts", apart := false }
def PackMostsSaid : Prop := packMostsRow.holds Try.pinned (OpenSpec.ofChange packMostsSpec)

/-- ITS FALSE NEIGHBOUR: 'it returns false'. Refute it at one input. -/
def packMostsWrong : ChangeSpec := { name := "packMosts", fn := fun _ => fun
  | [d1, d2, d3] => { results := [.lit (.bool false)], args := [d1, d2, d3] }
  | _ => none }
def PackMostsWrongFalsely : Prop := packMostsRow.holds Try.pinned (OpenSpec.ofChange packMostsWrong)

/-- 'kilnlaw02.PackReads': WHATEVER THE INPUT: true; the input reads as it did. -/
def packReadsSpec : ChangeSpec := { name := "packReads", fn := fun _ => fun
  | [d1, d2] => { results := [.lit (.bool true)], args := [d1, d2] }
  | _ => none }
def packReadsRow : OpenClaim := { program := "ytcmdgaoddpkeoaa", sum := "eacdc1725d4ce6d35c05962937680b42103c79abd34c3009a1a8eaaa2d8657a1", func := "kiln/kilnlaw02.PackReads", spec := "packReads", apart := false }
def PackReadsSaid : Prop := packReadsRow.holds Try.pinned (OpenSpec.ofChange packReadsSpec)

/-- ITS FALSE NEIGHBOUR: 'it returns false'. Refute it at one input. -/
def packReadsWrong : ChangeSpec := { name := "packReads", fn := fun _ => fun
  | [d1, d2] => { results := [.lit (.bool false)], args := [d1, d2] }
  | _ => none }
def PackReadsWrongFalsely : Prop := packReadsRow.holds Try.pinned (OpenSpec.ofChange packReadsWrong)

/-- 'kilnlaw02.PackLays': WHATEVER THE INPUT: true; the input reads as it did. -/
def packLaysSpec : ChangeSpec := { name := "packLays", fn := fun _ => fun
  | [d] => { results := [.lit (.bool true)], args := [d] }
  | _ => none }
def packLaysRow : OpenClaim := { program := "ytcmdgaoddpkeoaa", sum := "eacdc1725d4ce6d35c05962937680b42103c79abd34c3009a1a8eaaa2d8657a1", func := "kiln/kilnlaw02.PackLays", spec := "packLays", apart := false }
def PackLaysSaid : Prop := packLaysRow.holds Try.pinned (OpenSpec.ofChange packLaysSpec)

/-- ITS FALSE NEIGHBOUR: 'it returns false'. Refute it at one input. -/
def packLaysWrong : ChangeSpec := { name := "packLays", fn := fun _ => fun
  | [d] => { results := [.lit (.bool false)], args := [d] }
  | _ => none }
def PackLaysWrongFalsely : Prop := packLaysRow.holds Try.pinned (OpenSpec.ofChange packLaysWrong)

/- THE SECOND FORM. 'bulk': how many values and letters a reading holds, each counted each time it is reached (what is shared counts as often as it is met; a slice's spare places count too). A statement '..UptoSaid' is the law's where the arguments, and the package variables that the reading takes, are together of bulk at most 1048576: NARROWER than '..Said'. Prove '..Said' where nothing that the law and all that it calls make is longer than what came in: it says more and counts as full. Else prove '..UptoSaid'. A law counts once. -/
mutual
def uptoBulk {H : Type} : DataW H → Nat
  | .lit (.string bytes) => bytes.length + 1
  | .lit _ => 1
  | .nil => 1
  | .ptr d => uptoBulk d + 1
  | .slice elems spare => uptoBulkAll elems + uptoBulkAll spare + 1
  | .agg parts => uptoBulkAll parts + 1
  | .iface _ d => uptoBulk d + 1
  | .map entries => uptoBulkEntries entries + 1
  | .held _ => 1
def uptoBulkAll {H : Type} : List (DataW H) → Nat
  | [] => 0
  | d :: r => uptoBulk d + uptoBulkAll r
def uptoBulkEntries {H : Type} : List (Lit × DataW H) → Nat
  | [] => 0
  | x :: r => uptoBulkEntry x + uptoBulkEntries r
def uptoBulkEntry {H : Type} : Lit × DataW H → Nat
  | (.string bytes, d) => bytes.length + uptoBulk d + 1
  | (_, d) => uptoBulk d + 1
 end
def uptoSmall : (H : Type) → List (DataW H) → Bool := fun _ ds => decide (uptoBulkAll ds ≤ 1048576)
def OpenSpec.upto (s : _root_.Go.ChangeSpec) : _root_.Go.OpenSpec := { _root_.Go.OpenSpec.ofChange s with cond := some uptoSmall }

/-- 'kilnlaw02.PackApart', WHERE WHAT IT READS IS OF BULK AT MOST 1048576: true; the input reads as it did. -/
def packApartUptoRow : OpenClaim := { program := "ytcmdgaoddpkeoaa", sum := "eacdc1725d4ce6d35c05962937680b42103c79abd34c3009a1a8eaaa2d8657a1", func := "kiln/kilnlaw02.PackApart", spec := "packApart", apart := false, narrowed := true }
def PackApartUptoSaid : Prop := packApartUptoRow.holds Try.pinned (OpenSpec.upto packApartSpec)

/-- 'kilnlaw02.PackMany', WHERE WHAT IT READS IS OF BULK AT MOST 1048576: true; the input reads as it did. -/
def packManyUptoRow : OpenClaim := { program := "ytcmdgaoddpkeoaa", sum := "eacdc1725d4ce6d35c05962937680b42103c79abd34c3009a1a8eaaa2d8657a1", func := "kiln/kilnlaw02.PackMany", spec := "packMany", apart := false, narrowed := true }
def PackManyUptoSaid : Prop := packManyUptoRow.holds Try.pinned (OpenSpec.upto packManySpec)

/-- 'kilnlaw02.PackFlags', WHERE WHAT IT READS IS OF BULK AT MOST 1048576: true; the input reads as it did. -/
def packFlagsUptoRow : OpenClaim := { program := "ytcmdgaoddpkeoaa", sum := "eacdc1725d4ce6d35c05962937680b42103c79abd34c3009a1a8eaaa2d8657a1", func := "kiln/kilnlaw02.PackFlags", spec := "packFlags", apart := false, narrowed := true }
def PackFlagsUptoSaid : Prop := packFlagsUptoRow.holds Try.pinned (OpenSpec.upto packFlagsSpec)

/-- 'kilnlaw02.PackBelow', WHERE WHAT IT READS IS OF BULK AT MOST 1048576: true; the input reads as it did. -/
def packBelowUptoRow : OpenClaim := { program := "ytcmdgaoddpkeoaa", sum := "eacdc1725d4ce6d35c05962937680b42103c79abd34c3009a1a8eaaa2d8657a1", func := "kiln/kilnlaw02.PackBelow", spec := "packBelow", apart := false, narrowed := true }
def PackBelowUptoSaid : Prop := packBelowUptoRow.holds Try.pinned (OpenSpec.upto packBelowSpec)

/-- 'kilnlaw02.PackMosts', WHERE WHAT IT READS IS OF BULK AT MOST 1048576: true; the input reads as it did. -/
def packMostsUptoRow : OpenClaim := { program := "ytcmdgaoddpkeoaa", sum := "eacdc1725d4ce6d35c05962937680b42103c79abd34c3009a1a8eaaa2d8657a1", func := "kiln/kilnlaw02.PackMosts", spec := "packMosts", apart := false, narrowed := true }
def PackMostsUptoSaid : Prop := packMostsUptoRow.holds Try.pinned (OpenSpec.upto packMostsSpec)

/-- 'kilnlaw02.PackReads', WHERE WHAT IT READS IS OF BULK AT MOST 1048576: true; the input reads as it did. -/
def packReadsUptoRow : OpenClaim := { program := "ytcmdgaoddpkeoaa", sum := "eacdc1725d4ce6d35c05962937680b42103c79abd34c3009a1a8eaaa2d8657a1", func := "kiln/kilnlaw02.PackReads", spec := "packReads", apart := false, narrowed := true }
def PackReadsUptoSaid : Prop := packReadsUptoRow.holds Try.pinned (OpenSpec.upto packReadsSpec)

/-- 'kilnlaw02.PackLays', WHERE WHAT IT READS IS OF BULK AT MOST 1048576: true; the input reads as it did. -/
def packLaysUptoRow : OpenClaim := { program := "ytcmdgaoddpkeoaa", sum := "eacdc1725d4ce6d35c05962937680b42103c79abd34c3009a1a8eaaa2d8657a1", func := "kiln/kilnlaw02.PackLays", spec := "packLays", apart := false, narrowed := true }
def PackLaysUptoSaid : Prop := packLaysUptoRow.holds Try.pinned (OpenSpec.upto packLaysSpec)

end Rows
end Go.Proofs.Ytcmdgaoddpkeoaa
