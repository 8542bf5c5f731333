/-
  No cell of these rows narrows 'for every input' (looked for: loops, veiled, ifaces, maps, wideKeys, modest, calm, conditions, laid).
  DERIVED. THE GIVEN ROWS OF THIS SEAT. 3 by the template 'for every input the law returns true; each argument reads behind the call as it read before'; 0 by the template 'total and deterministic' (their statements: YtbnplghbokpfmaaTotals.lean).
  GIVEN WITH THE SEED: the statements are not yours to turn. If you find one false, say at which input.
  Laid BY PROGRAM, IN A SANDBOX (cutbox-rows.mjs): the forced cells as the released guide's own fill.sh prints them over the translation 18cc4cf303569599… (all of the seat's roots in one cut). By AI agents, Wed Nov 11 2026. No macro, syntax, notation, axiom, sorry.
-/
import Derived.Test.YtbnplghbokpfmaaChecked
import GoSem.Claim
import GoSem.ClaimJoined
import GoSem.ClaimMapViews
import Derived.JoinedTies
import Derived.KernelRfl
namespace Go.Proofs.Ytbnplghbokpfmaa
/- THE CELL 'sum', in the pinned program and in every row, IS THE sha256 OF THE DUMP (.gsa) THAT YtbnplghbokpfmaaProg.lean LOADS. Nothing in Lean hashes anything: it is a label: what it is worth is what the hold of that sum in a sandbox is worth. -/
noncomputable def Try.pinned : Pinned := { name := "ytbnplghbokpfmaa", sum := "18cc4cf303569599306c0d0405149cecc4854065b9c3a90e7d13eca3d021d7bd", checked := Try.checked }
namespace Rows
def none {H : Type} : Left H := { results := [], args := [] }

/-- 'kilnlaw20.CompatGrows': WHATEVER THE INPUT: true; the input reads as it did. -/
def compatGrowsSpec : ChangeSpec := { name := "compatGrows", fn := fun _ => fun
  | [d1, d2, d3] => { results := [.lit (.bool true)], args := [d1, d2, d3] }
  | _ => none }
def compatGrowsRow : OpenClaim := { program := "ytbnplghbokpfmaa", sum := "18cc4cf303569599306c0d0405149cecc4854065b9c3a90e7d13eca3d021d7bd", func := "kiln/kilnlaw20.CompatGrows", spec := "compatGrows", unfollowed := true, recurses := true, apart := false }
def CompatGrowsSaid : Prop := compatGrowsRow.holds Try.pinned (OpenSpec.ofChange compatGrowsSpec)

/-- ITS FALSE NEIGHBOUR: 'it returns false'. Refute it at one input. -/
def compatGrowsWrong : ChangeSpec := { name := "compatGrows", fn := fun _ => fun
  | [d1, d2, d3] => { results := [.lit (.bool false)], args := [d1, d2, d3] }
  | _ => none }
def CompatGrowsWrongFalsely : Prop := compatGrowsRow.holds Try.pinned (OpenSpec.ofChange compatGrowsWrong)

/-- 'kilnlaw20.CompatPasses': WHATEVER THE INPUT: true; the input reads as it did. -/
def compatPassesSpec : ChangeSpec := { name := "compatPasses", fn := fun _ => fun
  | [d1, d2, d3, d4] => { results := [.lit (.bool true)], args := [d1, d2, d3, d4] }
  | _ => none }
def compatPassesRow : OpenClaim := { program := "ytbnplghbokpfmaa", sum := "18cc4cf303569599306c0d0405149cecc4854065b9c3a90e7d13eca3d021d7bd", func := "kiln/kilnlaw20.CompatPasses", spec := "compatPasses", unfollowed := true, recurses := true, apart := false }
def CompatPassesSaid : Prop := compatPassesRow.holds Try.pinned (OpenSpec.ofChange compatPassesSpec)

/-- ITS FALSE NEIGHBOUR: 'it returns false'. Refute it at one input. -/
def compatPassesWrong : ChangeSpec := { name := "compatPasses", fn := fun _ => fun
  | [d1, d2, d3, d4] => { results := [.lit (.bool false)], args := [d1, d2, d3, d4] }
  | _ => none }
def CompatPassesWrongFalsely : Prop := compatPassesRow.holds Try.pinned (OpenSpec.ofChange compatPassesWrong)

/-- 'kilnlaw20.CompatGoes': WHATEVER THE INPUT: true; the input reads as it did. -/
def compatGoesSpec : ChangeSpec := { name := "compatGoes", fn := fun _ => fun
  | [d1, d2, d3] => { results := [.lit (.bool true)], args := [d1, d2, d3] }
  | _ => none }
def compatGoesRow : OpenClaim := { program := "ytbnplghbokpfmaa", sum := "18cc4cf303569599306c0d0405149cecc4854065b9c3a90e7d13eca3d021d7bd", func := "kiln/kilnlaw20.CompatGoes", spec := "compatGoes", unfollowed := true, recurses := true, apart := false }
def CompatGoesSaid : Prop := compatGoesRow.holds Try.pinned (OpenSpec.ofChange compatGoesSpec)

/-- ITS FALSE NEIGHBOUR: 'it returns false'. Refute it at one input. -/
def compatGoesWrong : ChangeSpec := { name := "compatGoes", fn := fun _ => fun
  | [d1, d2, d3] => { results := [.lit (.bool false)], args := [d1, d2, d3] }
  | _ => none }
def CompatGoesWrongFalsely : Prop := compatGoesRow.holds Try.pinned (OpenSpec.ofChange compatGoesWrong)

/- THE SECOND FORM. 'bulk': how many values and letters a reading holds, each counted each time it is reached (what is shared counts as often as it is met; a slice's spare places count too). A statement '..UptoSaid' is the law's where the arguments, and the package variables that the reading takes, are together of bulk at most 1048576: NARROWER than '..Said'. Prove '..Said' where nothing that the law and all that it calls make is longer than what came in: it says more and counts as full. Else prove '..UptoSaid'. A law counts once. -/
mutual
def uptoBulk {H : Type} : DataW H → Nat
  | .lit (.string bytes) => bytes.length + 1
  | .lit _ => 1
  | .nil => 1
  | .ptr d => uptoBulk d + 1
  | .slice elems spare => uptoBulkAll elems + uptoBulkAll spare + 1
  | .agg parts => uptoBulkAll parts + 1
  | .iface _ d => uptoBulk d + 1
  | .map entries => uptoBulkEntries entries + 1
  | .held _ => 1
def uptoBulkAll {H : Type} : List (DataW H) → Nat
  | [] => 0
  | d :: r => uptoBulk d + uptoBulkAll r
def uptoBulkEntries {H : Type} : List (Lit × DataW H) → Nat
  | [] => 0
  | x :: r => uptoBulkEntry x + uptoBulkEntries r
def uptoBulkEntry {H : Type} : Lit × DataW H → Nat
  | (.string bytes, d) => bytes.length + uptoBulk d + 1
  | (_, d) => uptoBulk d + 1
 end
def uptoSmall : (H : Type) → List (DataW H) → Bool := fun _ ds => decide (uptoBulkAll ds ≤ 1048576)
def OpenSpec.upto (s : _root_.Go.ChangeSpec) : _root_.Go.OpenSpec := { _root_.Go.OpenSpec.ofChange s with cond := some uptoSmall }

/-- 'kilnlaw20.CompatGrows', WHERE WHAT IT READS IS OF BULK AT MOST 1048576: true; the input reads as it did. -/
def compatGrowsUptoRow : OpenClaim := { program := "ytbnplghbokpfmaa", sum := "18cc4cf303569599306c0d0405149cecc4854065b9c3a90e7d13eca3d021d7bd", func := "kiln/kilnlaw20.CompatGrows", spec := "compatGrows", unfollowed := true, recurses := true, apart := false, narrowed := true }
def CompatGrowsUptoSaid : Prop := compatGrowsUptoRow.holds Try.pinned (OpenSpec.upto compatGrowsSpec)

/-- 'kilnlaw20.CompatPasses', WHERE WHAT IT READS IS OF BULK AT MOST 1048576: true; the input reads as it did. -/
def compatPassesUptoRow : OpenClaim := { program := "ytbnplghbokpfmaa", sum := "18cc4cf303569599306c0d0405149cecc4854065b9c3a90e7d13eca3d021d7bd", func := "kiln/kilnlaw20.CompatPasses", spec := "compatPasses", unfollowed := true, recurses := true, apart := false, narrowed := true }
def CompatPassesUptoSaid : Prop := compatPassesUptoRow.holds Try.pinned (OpenSpec.upto compatPassesSpec)

/-- 'kilnlaw20.CompatGoes', WHERE WHAT IT READS IS OF BULK AT MOST 1048576: true; the input reads as it did. -/
def compatGoesUptoRow : OpenClaim := { program := "ytbnplghbokpfmaa", sum := "18cc4cf303569599306c0d0405149cecc4854065b9c3a90e7d13eca3d021d7bd", func := "kiln/kilnlaw20.CompatGoes", spec := "compatGoes", unfollowed := true, recurses := true, apart := false, narrowed := true }
def CompatGoesUptoSaid : Prop := compatGoesUptoRow.holds Try.pinned (OpenSpec.upto compatGoesSpec)

end Rows
end Go.Proofs.Ytbnplghbokpfmaa
