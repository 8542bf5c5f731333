/-
  No cell of these rows narrows 'for every input' (looked for: loops, veiled, ifaces, maps, wideKeys, modest, calm, conditions, laid).
  DERIVED. THE GIVEN ROWS OF THIS SEAT. 3 by the template 'for every input the law returns true; each argument reads behind the call as it read before'; 0 by the template 'total and deterministic' (their statements: YtclgiapmbmbknaaTotals.lean).
  GIVEN WITH THE SEED: the statements are not yours to turn. If you find one false, say at which input.
  Laid BY PROGRAM, IN A SANDBOX (cutbox-rows.mjs): the forced cells as the released guide's own fill.sh prints them over the translation e98f57d8fab85eda… (all of the seat's roots in one cut). By AI agents, Wed Nov 11 2026. No macro, syntax, notation, axiom, sorry.
-/
import Derived.Test.YtclgiapmbmbknaaChecked
import GoSem.Claim
import GoSem.ClaimJoined
import GoSem.ClaimMapViews
import Derived.JoinedTies
import Derived.KernelRfl
namespace Go.Proofs.Ytclgiapmbmbknaa
/- THE CELL 'sum', in the pinned program and in every row, IS THE sha256 OF THE DUMP (.gsa) THAT YtclgiapmbmbknaaProg.lean LOADS. Nothing in Lean hashes anything: it is a label: what it is worth is what the hold of that sum in a sandbox is worth. -/
noncomputable def Try.pinned : Pinned := { name := "ytclgiapmbmbknaa", sum := "e98f57d8fab85eda7dd406d1c5eedbb6600880d88ae921ffd16db39c5629ca57", checked := Try.checked }
namespace Rows
def none {H : Type} : Left H := { results := [], args := [] }

/-- 'kilnlaw18.RepoBad': WHATEVER THE INPUT: true; the input reads as it did. -/
def repoBadSpec : ChangeSpec := { name := "repoBad", fn := fun _ => fun
  | [d1, d2, d3] => { results := [.lit (.bool true)], args := [d1, d2, d3] }
  | _ => none }
def repoBadRow : OpenClaim := { program := "ytclgiapmbmbknaa", sum := "e98f57d8fab85eda7dd406d1c5eedbb6600880d88ae921ffd16db39c5629ca57", func := "kiln/kilnlaw18.RepoBad", spec := "repoBad", inPlace := ["maps.clone"], unfollowed := true, recurses := true, plainKeys := false, apart := false }
def RepoBadSaid : Prop := repoBadRow.holds Try.pinned (OpenSpec.ofChange repoBadSpec)

/-- ITS FALSE NEIGHBOUR: 'it returns false'. Refute it at one input. -/
def repoBadWrong : ChangeSpec := { name := "repoBad", fn := fun _ => fun
  | [d1, d2, d3] => { results := [.lit (.bool false)], args := [d1, d2, d3] }
  | _ => none }
def RepoBadWrongFalsely : Prop := repoBadRow.holds Try.pinned (OpenSpec.ofChange repoBadWrong)

/-- 'kilnlaw18.RepoAgain': WHATEVER THE INPUT: true; the input reads as it did. -/
def repoAgainSpec : ChangeSpec := { name := "repoAgain", fn := fun _ => fun
  | [d1, d2, d3] => { results := [.lit (.bool true)], args := [d1, d2, d3] }
  | _ => none }
def repoAgainRow : OpenClaim := { program := "ytclgiapmbmbknaa", sum := "e98f57d8fab85eda7dd406d1c5eedbb6600880d88ae921ffd16db39c5629ca57", func := "kiln/kilnlaw18.RepoAgain", spec := "repoAgain", inPlace := ["maps.clone"], unfollowed := true, recurses := true, plainKeys := false, apart := false }
def RepoAgainSaid : Prop := repoAgainRow.holds Try.pinned (OpenSpec.ofChange repoAgainSpec)

/-- ITS FALSE NEIGHBOUR: 'it returns false'. Refute it at one input. -/
def repoAgainWrong : ChangeSpec := { name := "repoAgain", fn := fun _ => fun
  | [d1, d2, d3] => { results := [.lit (.bool false)], args := [d1, d2, d3] }
  | _ => none }
def RepoAgainWrongFalsely : Prop := repoAgainRow.holds Try.pinned (OpenSpec.ofChange repoAgainWrong)

/-- 'kilnlaw18.RepoCommits': WHATEVER THE INPUT: true; the input reads as it did. -/
def repoCommitsSpec : ChangeSpec := { name := "repoCommits", fn := fun _ => fun
  | [d1, d2] => { results := [.lit (.bool true)], args := [d1, d2] }
  | _ => none }
def repoCommitsRow : OpenClaim := { program := "ytclgiapmbmbknaa", sum := "e98f57d8fab85eda7dd406d1c5eedbb6600880d88ae921ffd16db39c5629ca57", func := "kiln/kilnlaw18.RepoCommits", spec := "repoCommits", inPlace := ["maps.clone"], unfollowed := true, recurses := true, plainKeys := false, apart := false }
def RepoCommitsSaid : Prop := repoCommitsRow.holds Try.pinned (OpenSpec.ofChange repoCommitsSpec)

/-- ITS FALSE NEIGHBOUR: 'it returns false'. Refute it at one input. -/
def repoCommitsWrong : ChangeSpec := { name := "repoCommits", fn := fun _ => fun
  | [d1, d2] => { results := [.lit (.bool false)], args := [d1, d2] }
  | _ => none }
def RepoCommitsWrongFalsely : Prop := repoCommitsRow.holds Try.pinned (OpenSpec.ofChange repoCommitsWrong)

/- THE SECOND FORM. 'bulk': how many values and letters a reading holds, each counted each time it is reached (what is shared counts as often as it is met; a slice's spare places count too). A statement '..UptoSaid' is the law's where the arguments, and the package variables that the reading takes, are together of bulk at most 1048576: NARROWER than '..Said'. Prove '..Said' where nothing that the law and all that it calls make is longer than what came in: it says more and counts as full. Else prove '..UptoSaid'. A law counts once. -/
mutual
def uptoBulk {H : Type} : DataW H → Nat
  | .lit (.string bytes) => bytes.length + 1
  | .lit _ => 1
  | .nil => 1
  | .ptr d => uptoBulk d + 1
  | .slice elems spare => uptoBulkAll elems + uptoBulkAll spare + 1
  | .agg parts => uptoBulkAll parts + 1
  | .iface _ d => uptoBulk d + 1
  | .map entries => uptoBulkEntries entries + 1
  | .held _ => 1
def uptoBulkAll {H : Type} : List (DataW H) → Nat
  | [] => 0
  | d :: r => uptoBulk d + uptoBulkAll r
def uptoBulkEntries {H : Type} : List (Lit × DataW H) → Nat
  | [] => 0
  | x :: r => uptoBulkEntry x + uptoBulkEntries r
def uptoBulkEntry {H : Type} : Lit × DataW H → Nat
  | (.string bytes, d) => bytes.length + uptoBulk d + 1
  | (_, d) => uptoBulk d + 1
 end
def uptoSmall : (H : Type) → List (DataW H) → Bool := fun _ ds => decide (uptoBulkAll ds ≤ 1048576)
def OpenSpec.upto (s : _root_.Go.ChangeSpec) : _root_.Go.OpenSpec := { _root_.Go.OpenSpec.ofChange s with cond := some uptoSmall }

/-- 'kilnlaw18.RepoBad', WHERE WHAT IT READS IS OF BULK AT MOST 1048576: true; the input reads as it did. -/
def repoBadUptoRow : OpenClaim := { program := "ytclgiapmbmbknaa", sum := "e98f57d8fab85eda7dd406d1c5eedbb6600880d88ae921ffd16db39c5629ca57", func := "kiln/kilnlaw18.RepoBad", spec := "repoBad", inPlace := ["maps.clone"], unfollowed := true, recurses := true, plainKeys := false, apart := false, narrowed := true }
def RepoBadUptoSaid : Prop := repoBadUptoRow.holds Try.pinned (OpenSpec.upto repoBadSpec)

/-- 'kilnlaw18.RepoAgain', WHERE WHAT IT READS IS OF BULK AT MOST 1048576: true; the input reads as it did. -/
def repoAgainUptoRow : OpenClaim := { program := "ytclgiapmbmbknaa", sum := "e98f57d8fab85eda7dd406d1c5eedbb6600880d88ae921ffd16db39c5629ca57", func := "kiln/kilnlaw18.RepoAgain", spec := "repoAgain", inPlace := ["maps.clone"], unfollowed := true, recurses := true, plainKeys := false, apart := false, narrowed := true }
def RepoAgainUptoSaid : Prop := repoAgainUptoRow.holds Try.pinned (OpenSpec.upto repoAgainSpec)

/-- 'kilnlaw18.RepoCommits', WHERE WHAT IT READS IS OF BULK AT MOST 1048576: true; the input reads as it did. -/
def repoCommitsUptoRow : OpenClaim := { program := "ytclgiapmbmbknaa", sum := "e98f57d8fab85eda7dd406d1c5eedbb6600880d88ae921ffd16db39c5629ca57", func := "kiln/kilnlaw18.RepoCommits", spec := "repoCommits", inPlace := ["maps.clone"], unfollowed := true, recurses := true, plainKeys := false, apart := false, narrowed := true }
def RepoCommitsUptoSaid : Prop := repoCommitsUptoRow.holds Try.pinned (OpenSpec.upto repoCommitsSpec)

end Rows
end Go.Proofs.Ytclgiapmbmbknaa
