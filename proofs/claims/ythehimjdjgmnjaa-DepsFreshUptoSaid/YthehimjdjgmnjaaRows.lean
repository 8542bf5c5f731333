/-
  No cell of these rows narrows 'for every input' (looked for: loops, veiled, ifaces, maps, wideKeys, modest, calm, conditions, laid).
  DERIVED. THE GIVEN ROWS OF THIS SEAT. 2 by the template 'for every input the law returns true; each argument reads behind the call as it read before'; 0 by the template 'total and deterministic' (their statements: YthehimjdjgmnjaaTotals.lean).
  GIVEN WITH THE SEED: the statements are not yours to turn. If you find one false, say at which input.
  Laid BY PROGRAM, IN A SANDBOX (cutbox-rows.mjs): the forced cells as the released guide's own fill.sh prints them over the translation 7046925d009bcb05… (all of the seat's roots in one cut). By AI agents, Wed Nov 11 2026. No macro, syntax, notation, axiom, sorry.
-/
import Derived.Test.YthehimjdjgmnjaaChecked
import GoSem.Claim
import GoSem.ClaimJoined
import GoSem.ClaimMapViews
import Derived.JoinedTies
import Derived.KernelRfl
namespace Go.Proofs.Ythehimjdjgmnjaa
/- THE CELL 'sum', in the pinned program and in every row, IS THE sha256 OF THE DUMP (.gsa) THAT YthehimjdjgmnjaaProg.lean LOADS. Nothing in Lean hashes anything: it is a label: what it is worth is what the hold of that sum in a sandbox is worth. -/
noncomputable def Try.pinned : Pinned := { name := "ythehimjdjgmnjaa", sum := "7046925d009bcb059f0fc854fa504cf87359a0348bbf75d3c85d1c905c87506b", checked := Try.checked }
namespace Rows
def none {H : Type} : Left H := { results := [], args := [] }

/-- 'kilnlaw19.DepsStale': WHATEVER THE INPUT: true; the input reads as it did. -/
def depsStaleSpec : ChangeSpec := { name := "depsStale", fn := fun _ => fun
  | [d1, d2, d3, d4] => { results := [.lit (.bool true)], args := [d1, d2, d3, d4] }
  | _ => none }
def depsStaleRow : OpenClaim := { program := "ythehimjdjgmnjaa", sum := "7046925d009bcb059f0fc854fa504cf87359a0348bbf75d3c85d1c905c87506b", func := "kiln/kilnlaw19.DepsStale", spec := "depsStale", unfollowed := true, recurses := true, apart := false }
def DepsStaleSaid : Prop := depsStaleRow.holds Try.pinned (OpenSpec.ofChange depsStaleSpec)

/-- ITS FALSE NEIGHBOUR: 'it returns false'. Refute it at one input. -/
def depsStaleWrong : ChangeSpec := { name := "depsStale", fn := fun _ => fun
  | [d1, d2, d3, d4] => { results := [.lit (.bool false)], args := [d1, d2, d3, d4] }
  | _ => none }
def DepsStaleWrongFalsely : Prop := depsStaleRow.holds Try.pinned (OpenSpec.ofChange depsStaleWrong)

/-- 'kilnlaw19.DepsFresh': WHATEVER THE INPUT: true; the input reads as it did. -/
def depsFreshSpec : ChangeSpec := { name := "depsFresh", fn := fun _ => fun
  | [d1, d2, d3, d4] => { results := [.lit (.bool true)], args := [d1, d2, d3, d4] }
  | _ => none }
def depsFreshRow : OpenClaim := { program := "ythehimjdjgmnjaa", sum := "7046925d009bcb059f0fc854fa504cf87359a0348bbf75d3c85d1c905c87506b", func := "kiln/kilnlaw19.DepsFresh", spec := "depsFresh", unfollowed := true, recurses := true, apart := false }
def DepsFreshSaid : Prop := depsFreshRow.holds Try.pinned (OpenSpec.ofChange depsFreshSpec)

/-- ITS FALSE NEIGHBOUR: 'it returns false'. Refute it at one input. -/
def depsFreshWrong : ChangeSpec := { name := "depsFresh", fn := fun _ => fun
  | [d1, d2, d3, d4] => { results := [.lit (.bool false)], args := [d1, d2, d3, d4] }
  | _ => none }
def DepsFreshWrongFalsely : Prop := depsFreshRow.holds Try.pinned (OpenSpec.ofChange depsFreshWrong)

/- THE SECOND FORM. 'bulk': how many values and letters a reading holds, each counted each time it is reached (what is shared counts as often as it is met; a slice's spare places count too). A statement '..UptoSaid' is the law's where the arguments, and the package variables that the reading takes, are together of bulk at most 1048576: NARROWER than '..Said'. Prove '..Said' where nothing that the law and all that it calls make is longer than what came in: it says more and counts as full. Else prove '..UptoSaid'. A law counts once. -/
mutual
def uptoBulk {H : Type} : DataW H → Nat
  | .lit (.string bytes) => bytes.length + 1
  | .lit _ => 1
  | .nil => 1
  | .ptr d => uptoBulk d + 1
  | .slice elems spare => uptoBulkAll elems + uptoBulkAll spare + 1
  | .agg parts => uptoBulkAll parts + 1
  | .iface _ d => uptoBulk d + 1
  | .map entries => uptoBulkEntries entries + 1
  | .held _ => 1
def uptoBulkAll {H : Type} : List (DataW H) → Nat
  | [] => 0
  | d :: r => uptoBulk d + uptoBulkAll r
def uptoBulkEntries {H : Type} : List (Lit × DataW H) → Nat
  | [] => 0
  | x :: r => uptoBulkEntry x + uptoBulkEntries r
def uptoBulkEntry {H : Type} : Lit × DataW H → Nat
  | (.string bytes, d) => bytes.length + uptoBulk d + 1
  | (_, d) => uptoBulk d + 1
 end
def uptoSmall : (H : Type) → List (DataW H) → Bool := fun _ ds => decide (uptoBulkAll ds ≤ 1048576)
def OpenSpec.upto (s : _root_.Go.ChangeSpec) : _root_.Go.OpenSpec := { _root_.Go.OpenSpec.ofChange s with cond := some uptoSmall }

/-- 'kilnlaw19.DepsStale', WHERE WHAT IT READS IS OF BULK AT MOST 1048576: true; the input reads as it did. -/
def depsStaleUptoRow : OpenClaim := { program := "ythehimjdjgmnjaa", sum := "7046925d009bcb059f0fc854fa504cf87359a0348bbf75d3c85d1c905c87506b", func := "kiln/kilnlaw19.DepsStale", spec := "depsStale", unfollowed := true, recurses := true, apart := false, narrowed := true }
def DepsStaleUptoSaid : Prop := depsStaleUptoRow.holds Try.pinned (OpenSpec.upto depsStaleSpec)

/-- 'kilnlaw19.DepsFresh', WHERE WHAT IT READS IS OF BULK AT MOST 1048576: true; the input reads as it did. -/
def depsFreshUptoRow : OpenClaim := { program := "ythehimjdjgmnjaa", sum := "7046925d009bcb059f0fc854fa504cf87359a0348bbf75d3c85d1c905c87506b", func := "kiln/kilnlaw19.DepsFresh", spec := "depsFresh", unfollowed := true, recurses := true, apart := false, narrowed := true }
def DepsFreshUptoSaid : Prop := depsFreshUptoRow.holds Try.pinned (OpenSpec.upto depsFreshSpec)

end Rows
end Go.Proofs.Ythehimjdjgmnjaa
