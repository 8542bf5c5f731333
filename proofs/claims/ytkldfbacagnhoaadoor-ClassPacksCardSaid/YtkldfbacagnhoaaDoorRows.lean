/-
  NARROWER THAN 'FOR EVERY INPUT', by the rows' own cells (each row's printed sentence says how): ClassReads: laid · ClassMany: laid · ClassLimits: laid · ClassBytes: laid · ClassPacks: laid · ClassApart: laid.
  DERIVED. THE GIVEN ROWS OF THIS SEAT. 6 by the template 'for every input the law returns true; each argument reads behind the call as it read before'; 0 by the template 'total and deterministic' (their statements: YtkldfbacagnhoaaDoorTotals.lean).
  GIVEN WITH THE SEED: the statements are not yours to turn. If you find one false, say at which input.
  Laid BY PROGRAM, IN A SANDBOX (cutbox-rows.mjs): the forced cells as the released guide's own fill.sh prints them over the translation c45ea43f180e2ec0… (all of the seat's roots in one cut). By AI agents, Wed Nov 11 2026. No macro, syntax, notation, axiom, sorry.
-/
import Derived.Test.YtkldfbacagnhoaaDoorChecked
import GoSem.Claim
import GoSem.ClaimJoined
import GoSem.ClaimMapViews
import Derived.JoinedTies
import Derived.KernelRfl
namespace Go.Proofs.YtkldfbacagnhoaaDoor
/- THE CELL 'sum', in the pinned program and in every row, IS THE sha256 OF THE DUMP (.gsa) THAT YtkldfbacagnhoaaDoorProg.lean LOADS. Nothing in Lean hashes anything: it is a label: what it is worth is what the hold of that sum in a sandbox is worth. -/
noncomputable def Tryd.pinned : Pinned := { name := "ytkldfbacagnhoaadoor", sum := "c45ea43f180e2ec0b8b09c49363fc69671ee8ff3af0d31c7095fb9fefc10a32b", checked := Tryd.checked }
namespace Rows
def none {H : Type} : Left H := { results := [], args := [] }

/- WHAT THE LISTED PACKAGE-LEVEL VARIABLES READ AS WHEN THE CALL BEGINS. Each datum BY PROGRAM (the guide's laid-datum.mjs) off the statement by which the dump's own 'gosem.cut.vars' lays the variable. In a bare row this is a premise. The card (YtkldfbacagnhoaaDoorCards.lean) ties it to the program's text. -/
def laid_kiln_op_shapes {H : Type} : DataW H := .agg [.agg [.lit (.string []), .lit (.int .i32 0)], .agg [.lit (.string [105, 110, 116]), .lit (.int .i32 110)], .agg [.lit (.string [110, 117, 108, 108]), .lit (.int .i32 0)], .agg [.lit (.string [108, 111, 99, 97, 108]), .lit (.int .i32 108)], .agg [.lit (.string [115, 116, 111, 114, 101]), .lit (.int .i32 108)], .agg [.lit (.string [97, 100, 100]), .lit (.int .i32 0)], .agg [.lit (.string [115, 117, 98]), .lit (.int .i32 0)], .agg [.lit (.string [109, 117, 108]), .lit (.int .i32 0)], .agg [.lit (.string [100, 105, 118]), .lit (.int .i32 0)], .agg [.lit (.string [109, 111, 100]), .lit (.int .i32 0)], .agg [.lit (.string [108, 101, 115, 115]), .lit (.int .i32 0)], .agg [.lit (.string [109, 111, 115, 116]), .lit (.int .i32 0)], .agg [.lit (.string [115, 97, 109, 101]), .lit (.int .i32 0)], .agg [.lit (.string [111, 116, 104, 101, 114]), .lit (.int .i32 0)], .agg [.lit (.string [110, 101, 103]), .lit (.int .i32 0)], .agg [.lit (.string [110, 111, 116]), .lit (.int .i32 0)], .agg [.lit (.string [103, 101, 116]), .lit (.int .i32 102)], .agg [.lit (.string [112, 117, 116]), .lit (.int .i32 102)], .agg [.lit (.string [110, 101, 119]), .lit (.int .i32 99)], .agg [.lit (.string [97, 114, 114, 97, 121]), .lit (.int .i32 116)], .agg [.lit (.string [108, 111, 97, 100]), .lit (.int .i32 116)], .agg [.lit (.string [115, 97, 118, 101]), .lit (.int .i32 116)], .agg [.lit (.string [108, 101, 110, 103, 116, 104]), .lit (.int .i32 0)], .agg [.lit (.string [99, 97, 115, 116]), .lit (.int .i32 99)], .agg [.lit (.string [105, 115]), .lit (.int .i32 99)], .agg [.lit (.string [99, 97, 108, 108]), .lit (.int .i32 109)], .agg [.lit (.string [115, 116, 97, 116, 105, 99]), .lit (.int .i32 109)], .agg [.lit (.string [106, 117, 109, 112]), .lit (.int .i32 106)], .agg [.lit (.string [117, 110, 108, 101, 115, 115]), .lit (.int .i32 106)], .agg [.lit (.string [114, 101, 116, 117, 114, 110]), .lit (.int .i32 0)], .agg [.lit (.string [112, 114, 105, 110, 116]), .lit (.int .i32 0)], .agg [.lit (.string [112, 111, 112]), .lit (.int .i32 0)], .agg [.lit (.string [98, 111, 111, 108]), .lit (.int .i32 98)]]

/-- 'kilnlaw12.ClassReads': WHATEVER THE INPUT: true; the input reads as it did. -/
def classReadsSpec : ChangeSpec := { name := "classReads", fn := fun _ => fun
  | [d] => { results := [.lit (.bool true)], args := [d] }
  | _ => none }
def classReadsRow : OpenClaim := { program := "ytkldfbacagnhoaadoor", sum := "c45ea43f180e2ec0b8b09c49363fc69671ee8ff3af0d31c7095fb9fefc10a32b", func := "kiln/kilnlaw12.ClassReads", spec := "classReads", unfollowed := true, recurses := true, named := ["kiln/op.shapes"], apart := false, laid := [("kiln/op.shapes", laid_kiln_op_shapes)] }
def ClassReadsSaid : Prop := classReadsRow.holds Tryd.pinned (OpenSpec.ofChange classReadsSpec)

/-- ITS FALSE NEIGHBOUR: 'it returns false'. Refute it at one input. -/
def classReadsWrong : ChangeSpec := { name := "classReads", fn := fun _ => fun
  | [d] => { results := [.lit (.bool false)], args := [d] }
  | _ => none }
def ClassReadsWrongFalsely : Prop := classReadsRow.holds Tryd.pinned (OpenSpec.ofChange classReadsWrong)

/-- 'kilnlaw12.ClassMany': WHATEVER THE INPUT: true; the input reads as it did. -/
def classManySpec : ChangeSpec := { name := "classMany", fn := fun _ => fun
  | [d] => { results := [.lit (.bool true)], args := [d] }
  | _ => none }
def classManyRow : OpenClaim := { program := "ytkldfbacagnhoaadoor", sum := "c45ea43f180e2ec0b8b09c49363fc69671ee8ff3af0d31c7095fb9fefc10a32b", func := "kiln/kilnlaw12.ClassMany", spec := "classMany", unfollowed := true, recurses := true, named := ["kiln/op.shapes"], apart := false, laid := [("kiln/op.shapes", laid_kiln_op_shapes)] }
def ClassManySaid : Prop := classManyRow.holds Tryd.pinned (OpenSpec.ofChange classManySpec)

/-- ITS FALSE NEIGHBOUR: 'it returns false'. Refute it at one input. -/
def classManyWrong : ChangeSpec := { name := "classMany", fn := fun _ => fun
  | [d] => { results := [.lit (.bool false)], args := [d] }
  | _ => none }
def ClassManyWrongFalsely : Prop := classManyRow.holds Tryd.pinned (OpenSpec.ofChange classManyWrong)

/-- 'kilnlaw12.ClassLimits': WHATEVER THE INPUT: true; the input reads as it did. -/
def classLimitsSpec : ChangeSpec := { name := "classLimits", fn := fun _ => fun
  | [d1, d2, d3, d4, d5, d6] => { results := [.lit (.bool true)], args := [d1, d2, d3, d4, d5, d6] }
  | _ => none }
def classLimitsRow : OpenClaim := { program := "ytkldfbacagnhoaadoor", sum := "c45ea43f180e2ec0b8b09c49363fc69671ee8ff3af0d31c7095fb9fefc10a32b", func := "kiln/kilnlaw12.ClassLimits", spec := "classLimits", unfollowed := true, recurses := true, named := ["kiln/op.shapes"], apart := false, laid := [("kiln/op.shapes", laid_kiln_op_shapes)] }
def ClassLimitsSaid : Prop := classLimitsRow.holds Tryd.pinned (OpenSpec.ofChange classLimitsSpec)

/-- ITS FALSE NEIGHBOUR: 'it returns false'. Refute it at one input. -/
def classLimitsWrong : ChangeSpec := { name := "classLimits", fn := fun _ => fun
  | [d1, d2, d3, d4, d5, d6] => { results := [.lit (.bool false)], args := [d1, d2, d3, d4, d5, d6] }
  | _ => none }
def ClassLimitsWrongFalsely : Prop := classLimitsRow.holds Tryd.pinned (OpenSpec.ofChange classLimitsWrong)

/-- 'kilnlaw12.ClassBytes': WHATEVER THE INPUT: true; the input reads as it did. -/
def classBytesSpec : ChangeSpec := { name := "classBytes", fn := fun _ => fun
  | [d1, d2] => { results := [.lit (.bool true)], args := [d1, d2] }
  | _ => none }
def classBytesRow : OpenClaim := { program := "ytkldfbacagnhoaadoor", sum := "c45ea43f180e2ec0b8b09c49363fc69671ee8ff3af0d31c7095fb9fefc10a32b", func := "kiln/kilnlaw12.ClassBytes", spec := "classBytes", unfollowed := true, recurses := true, named := ["kiln/op.shapes"], apart := false, laid := [("kiln/op.shapes", laid_kiln_op_shapes)] }
def ClassBytesSaid : Prop := classBytesRow.holds Tryd.pinned (OpenSpec.ofChange classBytesSpec)

/-- ITS FALSE NEIGHBOUR: 'it returns false'. Refute it at one input. -/
def classBytesWrong : ChangeSpec := { name := "classBytes", fn := fun _ => fun
  | [d1, d2] => { results := [.lit (.bool false)], args := [d1, d2] }
  | _ => none }
def ClassBytesWrongFalsely : Prop := classBytesRow.holds Tryd.pinned (OpenSpec.ofChange classBytesWrong)

/-- 'kilnlaw12.ClassPacks': WHATEVER THE INPUT: true; the input reads as it did. -/
def classPacksSpec : ChangeSpec := { name := "classPacks", fn := fun _ => fun
  | [d1, d2] => { results := [.lit (.bool true)], args := [d1, d2] }
  | _ => none }
def classPacksRow : OpenClaim := { program := "ytkldfbacagnhoaadoor", sum := "c45ea43f180e2ec0b8b09c49363fc69671ee8ff3af0d31c7095fb9fefc10a32b", func := "kiln/kilnlaw12.ClassPacks", spec := "classPacks", unfollowed := true, recurses := true, named := ["kiln/op.shapes"], apart := false, laid := [("kiln/op.shapes", laid_kiln_op_shapes)] }
def ClassPacksSaid : Prop := classPacksRow.holds Tryd.pinned (OpenSpec.ofChange classPacksSpec)

/-- ITS FALSE NEIGHBOUR: 'it returns false'. Refute it at one input. -/
def classPacksWrong : ChangeSpec := { name := "classPacks", fn := fun _ => fun
  | [d1, d2] => { results := [.lit (.bool false)], args := [d1, d2] }
  | _ => none }
def ClassPacksWrongFalsely : Prop := classPacksRow.holds Tryd.pinned (OpenSpec.ofChange classPacksWrong)

/-- 'kilnlaw12.ClassApart': WHATEVER THE INPUT: true; the input reads as it did. -/
def classApartSpec : ChangeSpec := { name := "classApart", fn := fun _ => fun
  | [d1, d2] => { results := [.lit (.bool true)], args := [d1, d2] }
  | _ => none }
def classApartRow : OpenClaim := { program := "ytkldfbacagnhoaadoor", sum := "c45ea43f180e2ec0b8b09c49363fc69671ee8ff3af0d31c7095fb9fefc10a32b", func := "kiln/kilnlaw12.ClassApart", spec := "classApart", unfollowed := true, recurses := true, named := ["kiln/op.shapes"], apart := false, laid := [("kiln/op.shapes", laid_kiln_op_shapes)] }
def ClassApartSaid : Prop := classApartRow.holds Tryd.pinned (OpenSpec.ofChange classApartSpec)

/-- ITS FALSE NEIGHBOUR: 'it returns false'. Refute it at one input. -/
def classApartWrong : ChangeSpec := { name := "classApart", fn := fun _ => fun
  | [d1, d2] => { results := [.lit (.bool false)], args := [d1, d2] }
  | _ => none }
def ClassApartWrongFalsely : Prop := classApartRow.holds Tryd.pinned (OpenSpec.ofChange classApartWrong)

/- THE SECOND FORM. 'bulk': how many values and letters a reading holds, each counted each time it is reached (what is shared counts as often as it is met; a slice's spare places count too). A statement '..UptoSaid' is the law's where the arguments, and the package variables that the reading takes, are together of bulk at most 1048576: NARROWER than '..Said'. Prove '..Said' where nothing that the law and all that it calls make is longer than what came in: it says more and counts as full. Else prove '..UptoSaid'. A law counts once. -/
mutual
def uptoBulk {H : Type} : DataW H → Nat
  | .lit (.string bytes) => bytes.length + 1
  | .lit _ => 1
  | .nil => 1
  | .ptr d => uptoBulk d + 1
  | .slice elems spare => uptoBulkAll elems + uptoBulkAll spare + 1
  | .agg parts => uptoBulkAll parts + 1
  | .iface _ d => uptoBulk d + 1
  | .map entries => uptoBulkEntries entries + 1
  | .held _ => 1
def uptoBulkAll {H : Type} : List (DataW H) → Nat
  | [] => 0
  | d :: r => uptoBulk d + uptoBulkAll r
def uptoBulkEntries {H : Type} : List (Lit × DataW H) → Nat
  | [] => 0
  | x :: r => uptoBulkEntry x + uptoBulkEntries r
def uptoBulkEntry {H : Type} : Lit × DataW H → Nat
  | (.string bytes, d) => bytes.length + uptoBulk d + 1
  | (_, d) => uptoBulk d + 1
 end
def uptoSmall : (H : Type) → List (DataW H) → Bool := fun _ ds => decide (uptoBulkAll ds ≤ 1048576)
def OpenSpec.upto (s : _root_.Go.ChangeSpec) : _root_.Go.OpenSpec := { _root_.Go.OpenSpec.ofChange s with cond := some uptoSmall }

/-- 'kilnlaw12.ClassReads', WHERE WHAT IT READS IS OF BULK AT MOST 1048576: true; the input reads as it did. -/
def classReadsUptoRow : OpenClaim := { program := "ytkldfbacagnhoaadoor", sum := "c45ea43f180e2ec0b8b09c49363fc69671ee8ff3af0d31c7095fb9fefc10a32b", func := "kiln/kilnlaw12.ClassReads", spec := "classReads", unfollowed := true, recurses := true, named := ["kiln/op.shapes"], apart := false, laid := [("kiln/op.shapes", laid_kiln_op_shapes)], narrowed := true }
def ClassReadsUptoSaid : Prop := classReadsUptoRow.holds Tryd.pinned (OpenSpec.upto classReadsSpec)

/-- 'kilnlaw12.ClassMany', WHERE WHAT IT READS IS OF BULK AT MOST 1048576: true; the input reads as it did. -/
def classManyUptoRow : OpenClaim := { program := "ytkldfbacagnhoaadoor", sum := "c45ea43f180e2ec0b8b09c49363fc69671ee8ff3af0d31c7095fb9fefc10a32b", func := "kiln/kilnlaw12.ClassMany", spec := "classMany", unfollowed := true, recurses := true, named := ["kiln/op.shapes"], apart := false, laid := [("kiln/op.shapes", laid_kiln_op_shapes)], narrowed := true }
def ClassManyUptoSaid : Prop := classManyUptoRow.holds Tryd.pinned (OpenSpec.upto classManySpec)

/-- 'kilnlaw12.ClassLimits', WHERE WHAT IT READS IS OF BULK AT MOST 1048576: true; the input reads as it did. -/
def classLimitsUptoRow : OpenClaim := { program := "ytkldfbacagnhoaadoor", sum := "c45ea43f180e2ec0b8b09c49363fc69671ee8ff3af0d31c7095fb9fefc10a32b", func := "kiln/kilnlaw12.ClassLimits", spec := "classLimits", unfollowed := true, recurses := true, named := ["kiln/op.shapes"], apart := false, laid := [("kiln/op.shapes", laid_kiln_op_shapes)], narrowed := true }
def ClassLimitsUptoSaid : Prop := classLimitsUptoRow.holds Tryd.pinned (OpenSpec.upto classLimitsSpec)

/-- 'kilnlaw12.ClassBytes', WHERE WHAT IT READS IS OF BULK AT MOST 1048576: true; the input reads as it did. -/
def classBytesUptoRow : OpenClaim := { program := "ytkldfbacagnhoaadoor", sum := "c45ea43f180e2ec0b8b09c49363fc69671ee8ff3af0d31c7095fb9fefc10a32b", func := "kiln/kilnlaw12.ClassBytes", spec := "classBytes", unfollowed := true, recurses := true, named := ["kiln/op.shapes"], apart := false, laid := [("kiln/op.shapes", laid_kiln_op_shapes)], narrowed := true }
def ClassBytesUptoSaid : Prop := classBytesUptoRow.holds Tryd.pinned (OpenSpec.upto classBytesSpec)

/-- 'kilnlaw12.ClassPacks', WHERE WHAT IT READS IS OF BULK AT MOST 1048576: true; the input reads as it did. -/
def classPacksUptoRow : OpenClaim := { program := "ytkldfbacagnhoaadoor", sum := "c45ea43f180e2ec0b8b09c49363fc69671ee8ff3af0d31c7095fb9fefc10a32b", func := "kiln/kilnlaw12.ClassPacks", spec := "classPacks", unfollowed := true, recurses := true, named := ["kiln/op.shapes"], apart := false, laid := [("kiln/op.shapes", laid_kiln_op_shapes)], narrowed := true }
def ClassPacksUptoSaid : Prop := classPacksUptoRow.holds Tryd.pinned (OpenSpec.upto classPacksSpec)

/-- 'kilnlaw12.ClassApart', WHERE WHAT IT READS IS OF BULK AT MOST 1048576: true; the input reads as it did. -/
def classApartUptoRow : OpenClaim := { program := "ytkldfbacagnhoaadoor", sum := "c45ea43f180e2ec0b8b09c49363fc69671ee8ff3af0d31c7095fb9fefc10a32b", func := "kiln/kilnlaw12.ClassApart", spec := "classApart", unfollowed := true, recurses := true, named := ["kiln/op.shapes"], apart := false, laid := [("kiln/op.shapes", laid_kiln_op_shapes)], narrowed := true }
def ClassApartUptoSaid : Prop := classApartUptoRow.holds Tryd.pinned (OpenSpec.upto classApartSpec)

end Rows
end Go.Proofs.YtkldfbacagnhoaaDoor
