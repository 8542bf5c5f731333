/-
  No cell of these rows narrows 'for every input' (looked for: loops, veiled, ifaces, maps, wideKeys, modest, calm, conditions, laid).
  DERIVED. THE GIVEN ROWS OF THIS SEAT. 6 by the template 'for every input the law returns true; each argument reads behind the call as it read before'; 0 by the template 'total and deterministic' (their statements: YtmhnfilingebfaaTotals.lean).
  GIVEN WITH THE SEED: the statements are not yours to turn. If you find one false, say at which input.
  Laid BY PROGRAM, IN A SANDBOX (cutbox-rows.mjs): the forced cells as the released guide's own fill.sh prints them over the translation de5e7b848da04c4d… (all of the seat's roots in one cut). By AI agents, Wed Nov 11 2026. No macro, syntax, notation, axiom, sorry.
-/
import Derived.Test.YtmhnfilingebfaaChecked
import GoSem.Claim
import GoSem.ClaimJoined
import GoSem.ClaimMapViews
import Derived.JoinedTies
import Derived.KernelRfl
namespace Go.Proofs.Ytmhnfilingebfaa
/- THE CELL 'sum', in the pinned program and in every row, IS THE sha256 OF THE DUMP (.gsa) THAT YtmhnfilingebfaaProg.lean LOADS. Nothing in Lean hashes anything: it is a label: what it is worth is what the hold of that sum in a sandbox is worth. -/
noncomputable def Try.pinned : Pinned := { name := "ytmhnfilingebfaa", sum := "de5e7b848da04c4db7e5cc882b6686d6b3fc795886bfd3ca948b1d1f4de1498c", checked := Try.checked }
namespace Rows
def none {H : Type} : Left H := { results := [], args := [] }

/-- 'kilnlaw08.HierOrders': WHATEVER THE INPUT: true; the input reads as it did. -/
def hierOrdersSpec : ChangeSpec := { name := "hierOrders", fn := fun _ => fun
  | [d1, d2, d3, d4] => { results := [.lit (.bool true)], args := [d1, d2, d3, d4] }
  | _ => none }
def hierOrdersRow : OpenClaim := { program := "ytmhnfilingebfaa", sum := "de5e7b848da04c4db7e5cc882b6686d6b3fc795886bfd3ca948b1d1f4de1498c", func := "kiln/kilnlaw08.HierOrders", spec := "hierOrders", apart := false }
def HierOrdersSaid : Prop := hierOrdersRow.holds Try.pinned (OpenSpec.ofChange hierOrdersSpec)

/-- ITS FALSE NEIGHBOUR: 'it returns false'. Refute it at one input. -/
def hierOrdersWrong : ChangeSpec := { name := "hierOrders", fn := fun _ => fun
  | [d1, d2, d3, d4] => { results := [.lit (.bool false)], args := [d1, d2, d3, d4] }
  | _ => none }
def HierOrdersWrongFalsely : Prop := hierOrdersRow.holds Try.pinned (OpenSpec.ofChange hierOrdersWrong)

/-- 'kilnlaw08.HierAbove': WHATEVER THE INPUT: true; the input reads as it did. -/
def hierAboveSpec : ChangeSpec := { name := "hierAbove", fn := fun _ => fun
  | [d1, d2, d3] => { results := [.lit (.bool true)], args := [d1, d2, d3] }
  | _ => none }
def hierAboveRow : OpenClaim := { program := "ytmhnfilingebfaa", sum := "de5e7b848da04c4db7e5cc882b6686d6b3fc795886bfd3ca948b1d1f4de1498c", func := "kiln/kilnlaw08.HierAbove", spec := "hierAbove", unfollowed := true, recurses := true, apart := false }
def HierAboveSaid : Prop := hierAboveRow.holds Try.pinned (OpenSpec.ofChange hierAboveSpec)

/-- ITS FALSE NEIGHBOUR: 'it returns false'. Refute it at one input. -/
def hierAboveWrong : ChangeSpec := { name := "hierAbove", fn := fun _ => fun
  | [d1, d2, d3] => { results := [.lit (.bool false)], args := [d1, d2, d3] }
  | _ => none }
def HierAboveWrongFalsely : Prop := hierAboveRow.holds Try.pinned (OpenSpec.ofChange hierAboveWrong)

/-- 'kilnlaw08.HierFits': WHATEVER THE INPUT: true; the input reads as it did. -/
def hierFitsSpec : ChangeSpec := { name := "hierFits", fn := fun _ => fun
  | [d1, d2, d3] => { results := [.lit (.bool true)], args := [d1, d2, d3] }
  | _ => none }
def hierFitsRow : OpenClaim := { program := "ytmhnfilingebfaa", sum := "de5e7b848da04c4db7e5cc882b6686d6b3fc795886bfd3ca948b1d1f4de1498c", func := "kiln/kilnlaw08.HierFits", spec := "hierFits", unfollowed := true, recurses := true, apart := false }
def HierFitsSaid : Prop := hierFitsRow.holds Try.pinned (OpenSpec.ofChange hierFitsSpec)

/-- ITS FALSE NEIGHBOUR: 'it returns false'. Refute it at one input. -/
def hierFitsWrong : ChangeSpec := { name := "hierFits", fn := fun _ => fun
  | [d1, d2, d3] => { results := [.lit (.bool false)], args := [d1, d2, d3] }
  | _ => none }
def HierFitsWrongFalsely : Prop := hierFitsRow.holds Try.pinned (OpenSpec.ofChange hierFitsWrong)

/-- 'kilnlaw08.HierMembers': WHATEVER THE INPUT: true; the input reads as it did. -/
def hierMembersSpec : ChangeSpec := { name := "hierMembers", fn := fun _ => fun
  | [d1, d2, d3, d4] => { results := [.lit (.bool true)], args := [d1, d2, d3, d4] }
  | _ => none }
def hierMembersRow : OpenClaim := { program := "ytmhnfilingebfaa", sum := "de5e7b848da04c4db7e5cc882b6686d6b3fc795886bfd3ca948b1d1f4de1498c", func := "kiln/kilnlaw08.HierMembers", spec := "hierMembers", apart := false }
def HierMembersSaid : Prop := hierMembersRow.holds Try.pinned (OpenSpec.ofChange hierMembersSpec)

/-- ITS FALSE NEIGHBOUR: 'it returns false'. Refute it at one input. -/
def hierMembersWrong : ChangeSpec := { name := "hierMembers", fn := fun _ => fun
  | [d1, d2, d3, d4] => { results := [.lit (.bool false)], args := [d1, d2, d3, d4] }
  | _ => none }
def HierMembersWrongFalsely : Prop := hierMembersRow.holds Try.pinned (OpenSpec.ofChange hierMembersWrong)

/-- 'kilnlaw08.HierChecks': WHATEVER THE INPUT: true; the input reads as it did. -/
def hierChecksSpec : ChangeSpec := { name := "hierChecks", fn := fun _ => fun
  | [d1, d2] => { results := [.lit (.bool true)], args := [d1, d2] }
  | _ => none }
def hierChecksRow : OpenClaim := { program := "ytmhnfilingebfaa", sum := "de5e7b848da04c4db7e5cc882b6686d6b3fc795886bfd3ca948b1d1f4de1498c", func := "kiln/kilnlaw08.HierChecks", spec := "hierChecks", apart := false }
def HierChecksSaid : Prop := hierChecksRow.holds Try.pinned (OpenSpec.ofChange hierChecksSpec)

/-- ITS FALSE NEIGHBOUR: 'it returns false'. Refute it at one input. -/
def hierChecksWrong : ChangeSpec := { name := "hierChecks", fn := fun _ => fun
  | [d1, d2] => { results := [.lit (.bool false)], args := [d1, d2] }
  | _ => none }
def HierChecksWrongFalsely : Prop := hierChecksRow.holds Try.pinned (OpenSpec.ofChange hierChecksWrong)

/-- 'kilnlaw08.HierAll': WHATEVER THE INPUT: true; the input reads as it did. -/
def hierAllSpec : ChangeSpec := { name := "hierAll", fn := fun _ => fun
  | [d] => { results := [.lit (.bool true)], args := [d] }
  | _ => none }
def hierAllRow : OpenClaim := { program := "ytmhnfilingebfaa", sum := "de5e7b848da04c4db7e5cc882b6686d6b3fc795886bfd3ca948b1d1f4de1498c", func := "kiln/kilnlaw08.HierAll", spec := "hierAll", apart := false }
def HierAllSaid : Prop := hierAllRow.holds Try.pinned (OpenSpec.ofChange hierAllSpec)

/-- ITS FALSE NEIGHBOUR: 'it returns false'. Refute it at one input. -/
def hierAllWrong : ChangeSpec := { name := "hierAll", fn := fun _ => fun
  | [d] => { results := [.lit (.bool false)], args := [d] }
  | _ => none }
def HierAllWrongFalsely : Prop := hierAllRow.holds Try.pinned (OpenSpec.ofChange hierAllWrong)

/- THE SECOND FORM. 'bulk': how many values and letters a reading holds, each counted each time it is reached (what is shared counts as often as it is met; a slice's spare places count too). A statement '..UptoSaid' is the law's where the arguments, and the package variables that the reading takes, are together of bulk at most 1048576: NARROWER than '..Said'. Prove '..Said' where nothing that the law and all that it calls make is longer than what came in: it says more and counts as full. Else prove '..UptoSaid'. A law counts once. -/
mutual
def uptoBulk {H : Type} : DataW H → Nat
  | .lit (.string bytes) => bytes.length + 1
  | .lit _ => 1
  | .nil => 1
  | .ptr d => uptoBulk d + 1
  | .slice elems spare => uptoBulkAll elems + uptoBulkAll spare + 1
  | .agg parts => uptoBulkAll parts + 1
  | .iface _ d => uptoBulk d + 1
  | .map entries => uptoBulkEntries entries + 1
  | .held _ => 1
def uptoBulkAll {H : Type} : List (DataW H) → Nat
  | [] => 0
  | d :: r => uptoBulk d + uptoBulkAll r
def uptoBulkEntries {H : Type} : List (Lit × DataW H) → Nat
  | [] => 0
  | x :: r => uptoBulkEntry x + uptoBulkEntries r
def uptoBulkEntry {H : Type} : Lit × DataW H → Nat
  | (.string bytes, d) => bytes.length + uptoBulk d + 1
  | (_, d) => uptoBulk d + 1
 end
def uptoSmall : (H : Type) → List (DataW H) → Bool := fun _ ds => decide (uptoBulkAll ds ≤ 1048576)
def OpenSpec.upto (s : _root_.Go.ChangeSpec) : _root_.Go.OpenSpec := { _root_.Go.OpenSpec.ofChange s with cond := some uptoSmall }

/-- 'kilnlaw08.HierOrders', WHERE WHAT IT READS IS OF BULK AT MOST 1048576: true; the input reads as it did. -/
def hierOrdersUptoRow : OpenClaim := { program := "ytmhnfilingebfaa", sum := "de5e7b848da04c4db7e5cc882b6686d6b3fc795886bfd3ca948b1d1f4de1498c", func := "kiln/kilnlaw08.HierOrders", spec := "hierOrders", apart := false, narrowed := true }
def HierOrdersUptoSaid : Prop := hierOrdersUptoRow.holds Try.pinned (OpenSpec.upto hierOrdersSpec)

/-- 'kilnlaw08.HierAbove', WHERE WHAT IT READS IS OF BULK AT MOST 1048576: true; the input reads as it did. -/
def hierAboveUptoRow : OpenClaim := { program := "ytmhnfilingebfaa", sum := "de5e7b848da04c4db7e5cc882b6686d6b3fc795886bfd3ca948b1d1f4de1498c", func := "kiln/kilnlaw08.HierAbove", spec := "hierAbove", unfollowed := true, recurses := true, apart := false, narrowed := true }
def HierAboveUptoSaid : Prop := hierAboveUptoRow.holds Try.pinned (OpenSpec.upto hierAboveSpec)

/-- 'kilnlaw08.HierFits', WHERE WHAT IT READS IS OF BULK AT MOST 1048576: true; the input reads as it did. -/
def hierFitsUptoRow : OpenClaim := { program := "ytmhnfilingebfaa", sum := "de5e7b848da04c4db7e5cc882b6686d6b3fc795886bfd3ca948b1d1f4de1498c", func := "kiln/kilnlaw08.HierFits", spec := "hierFits", unfollowed := true, recurses := true, apart := false, narrowed := true }
def HierFitsUptoSaid : Prop := hierFitsUptoRow.holds Try.pinned (OpenSpec.upto hierFitsSpec)

/-- 'kilnlaw08.HierMembers', WHERE WHAT IT READS IS OF BULK AT MOST 1048576: true; the input reads as it did. -/
def hierMembersUptoRow : OpenClaim := { program := "ytmhnfilingebfaa", sum := "de5e7b848da04c4db7e5cc882b6686d6b3fc795886bfd3ca948b1d1f4de1498c", func := "kiln/kilnlaw08.HierMembers", spec := "hierMembers", apart := false, narrowed := true }
def HierMembersUptoSaid : Prop := hierMembersUptoRow.holds Try.pinned (OpenSpec.upto hierMembersSpec)

/-- 'kilnlaw08.HierChecks', WHERE WHAT IT READS IS OF BULK AT MOST 1048576: true; the input reads as it did. -/
def hierChecksUptoRow : OpenClaim := { program := "ytmhnfilingebfaa", sum := "de5e7b848da04c4db7e5cc882b6686d6b3fc795886bfd3ca948b1d1f4de1498c", func := "kiln/kilnlaw08.HierChecks", spec := "hierChecks", apart := false, narrowed := true }
def HierChecksUptoSaid : Prop := hierChecksUptoRow.holds Try.pinned (OpenSpec.upto hierChecksSpec)

/-- 'kilnlaw08.HierAll', WHERE WHAT IT READS IS OF BULK AT MOST 1048576: true; the input reads as it did. -/
def hierAllUptoRow : OpenClaim := { program := "ytmhnfilingebfaa", sum := "de5e7b848da04c4db7e5cc882b6686d6b3fc795886bfd3ca948b1d1f4de1498c", func := "kiln/kilnlaw08.HierAll", spec := "hierAll", apart := false, narrowed := true }
def HierAllUptoSaid : Prop := hierAllUptoRow.holds Try.pinned (OpenSpec.upto hierAllSpec)

end Rows
end Go.Proofs.Ytmhnfilingebfaa
