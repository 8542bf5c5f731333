/-
  NARROWER THAN 'FOR EVERY INPUT', by the rows' own cells (each row's printed sentence says how): AstKids: loops, laid · AstTypes: laid · AstExprs: loops, laid · AstSames: loops, laid · AstStmts: loops, laid · AstLines: loops, laid · AstClasses: loops, laid.
  DERIVED. THE GIVEN ROWS OF THIS SEAT. 7 by the template 'for every input the law returns true; each argument reads behind the call as it read before'; 0 by the template 'total and deterministic' (their statements: YtleccalfcnkklaaDoorTotals.lean).
  GIVEN WITH THE SEED: the statements are not yours to turn. If you find one false, say at which input.
  Laid BY PROGRAM, IN A SANDBOX (cutbox-rows.mjs): the forced cells as the released guide's own fill.sh prints them over the translation 5a7ca005981e7c50… (all of the seat's roots in one cut). By AI agents, Wed Nov 11 2026. No macro, syntax, notation, axiom, sorry.
-/
import Derived.Test.YtleccalfcnkklaaDoorChecked
import GoSem.Claim
import GoSem.ClaimJoined
import GoSem.ClaimMapViews
import Derived.JoinedTies
import Derived.KernelRfl
namespace Go.Proofs.YtleccalfcnkklaaDoor
/- THE CELL 'sum', in the pinned program and in every row, IS THE sha256 OF THE DUMP (.gsa) THAT YtleccalfcnkklaaDoorProg.lean LOADS. Nothing in Lean hashes anything: it is a label: what it is worth is what the hold of that sum in a sandbox is worth. -/
noncomputable def Tryd.pinned : Pinned := { name := "ytleccalfcnkklaadoor", sum := "5a7ca005981e7c505084f722d5c70039b60ce39427d0de9b1d1b7a68a000dd10", checked := Tryd.checked }
namespace Rows
def none {H : Type} : Left H := { results := [], args := [] }

/- WHAT THE LISTED PACKAGE-LEVEL VARIABLES READ AS WHEN THE CALL BEGINS. Each datum BY PROGRAM (the guide's laid-datum.mjs) off the statement by which the dump's own 'gosem.cut.vars' lays the variable. In a bare row this is a premise. The card (YtleccalfcnkklaaDoorCards.lean) ties it to the program's text. -/
def laid_math_bits_deBruijn32tab {H : Type} : DataW H := .agg [.lit (.int .u8 0), .lit (.int .u8 1), .lit (.int .u8 28), .lit (.int .u8 2), .lit (.int .u8 29), .lit (.int .u8 14), .lit (.int .u8 24), .lit (.int .u8 3), .lit (.int .u8 30), .lit (.int .u8 22), .lit (.int .u8 20), .lit (.int .u8 15), .lit (.int .u8 25), .lit (.int .u8 17), .lit (.int .u8 4), .lit (.int .u8 8), .lit (.int .u8 31), .lit (.int .u8 27), .lit (.int .u8 13), .lit (.int .u8 23), .lit (.int .u8 21), .lit (.int .u8 19), .lit (.int .u8 16), .lit (.int .u8 7), .lit (.int .u8 26), .lit (.int .u8 12), .lit (.int .u8 18), .lit (.int .u8 6), .lit (.int .u8 11), .lit (.int .u8 5), .lit (.int .u8 10), .lit (.int .u8 9)]
def laid_math_bits_deBruijn64tab {H : Type} : DataW H := .agg [.lit (.int .u8 0), .lit (.int .u8 1), .lit (.int .u8 56), .lit (.int .u8 2), .lit (.int .u8 57), .lit (.int .u8 49), .lit (.int .u8 28), .lit (.int .u8 3), .lit (.int .u8 61), .lit (.int .u8 58), .lit (.int .u8 42), .lit (.int .u8 50), .lit (.int .u8 38), .lit (.int .u8 29), .lit (.int .u8 17), .lit (.int .u8 4), .lit (.int .u8 62), .lit (.int .u8 47), .lit (.int .u8 59), .lit (.int .u8 36), .lit (.int .u8 45), .lit (.int .u8 43), .lit (.int .u8 51), .lit (.int .u8 22), .lit (.int .u8 53), .lit (.int .u8 39), .lit (.int .u8 33), .lit (.int .u8 30), .lit (.int .u8 24), .lit (.int .u8 18), .lit (.int .u8 12), .lit (.int .u8 5), .lit (.int .u8 63), .lit (.int .u8 55), .lit (.int .u8 48), .lit (.int .u8 27), .lit (.int .u8 60), .lit (.int .u8 41), .lit (.int .u8 37), .lit (.int .u8 16), .lit (.int .u8 46), .lit (.int .u8 35), .lit (.int .u8 44), .lit (.int .u8 21), .lit (.int .u8 52), .lit (.int .u8 32), .lit (.int .u8 23), .lit (.int .u8 11), .lit (.int .u8 54), .lit (.int .u8 26), .lit (.int .u8 40), .lit (.int .u8 15), .lit (.int .u8 34), .lit (.int .u8 20), .lit (.int .u8 31), .lit (.int .u8 10), .lit (.int .u8 25), .lit (.int .u8 14), .lit (.int .u8 19), .lit (.int .u8 9), .lit (.int .u8 13), .lit (.int .u8 8), .lit (.int .u8 7), .lit (.int .u8 6)]
def laid_internal_strconv_uint64pow10 {H : Type} : DataW H := .agg [.lit (.int .u64 1), .lit (.int .u64 10), .lit (.int .u64 100), .lit (.int .u64 1000), .lit (.int .u64 10000), .lit (.int .u64 100000), .lit (.int .u64 1000000), .lit (.int .u64 10000000), .lit (.int .u64 100000000), .lit (.int .u64 1000000000), .lit (.int .u64 10000000000), .lit (.int .u64 100000000000), .lit (.int .u64 1000000000000), .lit (.int .u64 10000000000000), .lit (.int .u64 100000000000000), .lit (.int .u64 1000000000000000), .lit (.int .u64 10000000000000000), .lit (.int .u64 100000000000000000), .lit (.int .u64 1000000000000000000), .lit (.int .u64 10000000000000000000)]

/-- 'kilnlaw05.AstKids': WHATEVER THE INPUT: true; the input reads as it did. -/
def astKidsSpec : ChangeSpec := { name := "astKids", fn := fun _ => fun
  | [d1, d2] => { results := [.lit (.bool true)], args := [d1, d2] }
  | _ => none }
def astKidsRow : OpenClaim := { program := "ytleccalfcnkklaadoor", sum := "5a7ca005981e7c505084f722d5c70039b60ce39427d0de9b1d1b7a68a000dd10", func := "kiln/kilnlaw05.AstKids", spec := "astKids", inPlace := ["internal/abi.NoEscape", "internal/bytealg.MakeNoZero"], recurses := true, named := ["internal/strconv.uint64pow10", "math/bits.deBruijn32tab", "math/bits.deBruijn64tab"], loops := true, apart := false, laid := [("math/bits.deBruijn32tab", laid_math_bits_deBruijn32tab), ("math/bits.deBruijn64tab", laid_math_bits_deBruijn64tab), ("internal/strconv.uint64pow10", laid_internal_strconv_uint64pow10)] }
def AstKidsSaid : Prop := astKidsRow.holds Tryd.pinned (OpenSpec.ofChange astKidsSpec)

/-- ITS FALSE NEIGHBOUR: 'it returns false'. Refute it at one input. -/
def astKidsWrong : ChangeSpec := { name := "astKids", fn := fun _ => fun
  | [d1, d2] => { results := [.lit (.bool false)], args := [d1, d2] }
  | _ => none }
def AstKidsWrongFalsely : Prop := astKidsRow.holds Tryd.pinned (OpenSpec.ofChange astKidsWrong)

/-- 'kilnlaw05.AstTypes': WHATEVER THE INPUT: true; the input reads as it did. -/
def astTypesSpec : ChangeSpec := { name := "astTypes", fn := fun _ => fun
  | [d] => { results := [.lit (.bool true)], args := [d] }
  | _ => none }
def astTypesRow : OpenClaim := { program := "ytleccalfcnkklaadoor", sum := "5a7ca005981e7c505084f722d5c70039b60ce39427d0de9b1d1b7a68a000dd10", func := "kiln/kilnlaw05.AstTypes", spec := "astTypes", inPlace := ["internal/abi.NoEscape", "internal/bytealg.MakeNoZero"], recurses := true, named := ["internal/strconv.uint64pow10", "math/bits.deBruijn32tab", "math/bits.deBruijn64tab"], apart := false, laid := [("math/bits.deBruijn32tab", laid_math_bits_deBruijn32tab), ("math/bits.deBruijn64tab", laid_math_bits_deBruijn64tab), ("internal/strconv.uint64pow10", laid_internal_strconv_uint64pow10)] }
def AstTypesSaid : Prop := astTypesRow.holds Tryd.pinned (OpenSpec.ofChange astTypesSpec)

/-- ITS FALSE NEIGHBOUR: 'it returns false'. Refute it at one input. -/
def astTypesWrong : ChangeSpec := { name := "astTypes", fn := fun _ => fun
  | [d] => { results := [.lit (.bool false)], args := [d] }
  | _ => none }
def AstTypesWrongFalsely : Prop := astTypesRow.holds Tryd.pinned (OpenSpec.ofChange astTypesWrong)

/-- 'kilnlaw05.AstExprs': WHATEVER THE INPUT: true; the input reads as it did. -/
def astExprsSpec : ChangeSpec := { name := "astExprs", fn := fun _ => fun
  | [d] => { results := [.lit (.bool true)], args := [d] }
  | _ => none }
def astExprsRow : OpenClaim := { program := "ytleccalfcnkklaadoor", sum := "5a7ca005981e7c505084f722d5c70039b60ce39427d0de9b1d1b7a68a000dd10", func := "kiln/kilnlaw05.AstExprs", spec := "astExprs", inPlace := ["internal/abi.NoEscape", "internal/bytealg.MakeNoZero"], unfollowed := true, recurses := true, named := ["internal/strconv.uint64pow10", "math/bits.deBruijn32tab", "math/bits.deBruijn64tab"], loops := true, apart := false, laid := [("math/bits.deBruijn32tab", laid_math_bits_deBruijn32tab), ("math/bits.deBruijn64tab", laid_math_bits_deBruijn64tab), ("internal/strconv.uint64pow10", laid_internal_strconv_uint64pow10)] }
def AstExprsSaid : Prop := astExprsRow.holds Tryd.pinned (OpenSpec.ofChange astExprsSpec)

/-- ITS FALSE NEIGHBOUR: 'it returns false'. Refute it at one input. -/
def astExprsWrong : ChangeSpec := { name := "astExprs", fn := fun _ => fun
  | [d] => { results := [.lit (.bool false)], args := [d] }
  | _ => none }
def AstExprsWrongFalsely : Prop := astExprsRow.holds Tryd.pinned (OpenSpec.ofChange astExprsWrong)

/-- 'kilnlaw05.AstSames': WHATEVER THE INPUT: true; the input reads as it did. -/
def astSamesSpec : ChangeSpec := { name := "astSames", fn := fun _ => fun
  | [d1, d2, d3] => { results := [.lit (.bool true)], args := [d1, d2, d3] }
  | _ => none }
def astSamesRow : OpenClaim := { program := "ytleccalfcnkklaadoor", sum := "5a7ca005981e7c505084f722d5c70039b60ce39427d0de9b1d1b7a68a000dd10", func := "kiln/kilnlaw05.AstSames", spec := "astSames", inPlace := ["internal/abi.NoEscape", "internal/bytealg.MakeNoZero"], unfollowed := true, recurses := true, named := ["internal/strconv.uint64pow10", "math/bits.deBruijn32tab", "math/bits.deBruijn64tab"], loops := true, apart := false, laid := [("math/bits.deBruijn32tab", laid_math_bits_deBruijn32tab), ("math/bits.deBruijn64tab", laid_math_bits_deBruijn64tab), ("internal/strconv.uint64pow10", laid_internal_strconv_uint64pow10)] }
def AstSamesSaid : Prop := astSamesRow.holds Tryd.pinned (OpenSpec.ofChange astSamesSpec)

/-- ITS FALSE NEIGHBOUR: 'it returns false'. Refute it at one input. -/
def astSamesWrong : ChangeSpec := { name := "astSames", fn := fun _ => fun
  | [d1, d2, d3] => { results := [.lit (.bool false)], args := [d1, d2, d3] }
  | _ => none }
def AstSamesWrongFalsely : Prop := astSamesRow.holds Tryd.pinned (OpenSpec.ofChange astSamesWrong)

/-- 'kilnlaw05.AstStmts': WHATEVER THE INPUT: true; the input reads as it did. -/
def astStmtsSpec : ChangeSpec := { name := "astStmts", fn := fun _ => fun
  | [d1, d2] => { results := [.lit (.bool true)], args := [d1, d2] }
  | _ => none }
def astStmtsRow : OpenClaim := { program := "ytleccalfcnkklaadoor", sum := "5a7ca005981e7c505084f722d5c70039b60ce39427d0de9b1d1b7a68a000dd10", func := "kiln/kilnlaw05.AstStmts", spec := "astStmts", inPlace := ["internal/abi.NoEscape", "internal/bytealg.MakeNoZero"], unfollowed := true, recurses := true, named := ["internal/strconv.uint64pow10", "math/bits.deBruijn32tab", "math/bits.deBruijn64tab"], loops := true, apart := false, laid := [("math/bits.deBruijn32tab", laid_math_bits_deBruijn32tab), ("math/bits.deBruijn64tab", laid_math_bits_deBruijn64tab), ("internal/strconv.uint64pow10", laid_internal_strconv_uint64pow10)] }
def AstStmtsSaid : Prop := astStmtsRow.holds Tryd.pinned (OpenSpec.ofChange astStmtsSpec)

/-- ITS FALSE NEIGHBOUR: 'it returns false'. Refute it at one input. -/
def astStmtsWrong : ChangeSpec := { name := "astStmts", fn := fun _ => fun
  | [d1, d2] => { results := [.lit (.bool false)], args := [d1, d2] }
  | _ => none }
def AstStmtsWrongFalsely : Prop := astStmtsRow.holds Tryd.pinned (OpenSpec.ofChange astStmtsWrong)

/-- 'kilnlaw05.AstLines': WHATEVER THE INPUT: true; the input reads as it did. -/
def astLinesSpec : ChangeSpec := { name := "astLines", fn := fun _ => fun
  | [d] => { results := [.lit (.bool true)], args := [d] }
  | _ => none }
def astLinesRow : OpenClaim := { program := "ytleccalfcnkklaadoor", sum := "5a7ca005981e7c505084f722d5c70039b60ce39427d0de9b1d1b7a68a000dd10", func := "kiln/kilnlaw05.AstLines", spec := "astLines", inPlace := ["internal/abi.NoEscape", "internal/bytealg.MakeNoZero"], unfollowed := true, recurses := true, named := ["internal/strconv.uint64pow10", "math/bits.deBruijn32tab", "math/bits.deBruijn64tab"], loops := true, apart := false, laid := [("math/bits.deBruijn32tab", laid_math_bits_deBruijn32tab), ("math/bits.deBruijn64tab", laid_math_bits_deBruijn64tab), ("internal/strconv.uint64pow10", laid_internal_strconv_uint64pow10)] }
def AstLinesSaid : Prop := astLinesRow.holds Tryd.pinned (OpenSpec.ofChange astLinesSpec)

/-- ITS FALSE NEIGHBOUR: 'it returns false'. Refute it at one input. -/
def astLinesWrong : ChangeSpec := { name := "astLines", fn := fun _ => fun
  | [d] => { results := [.lit (.bool false)], args := [d] }
  | _ => none }
def AstLinesWrongFalsely : Prop := astLinesRow.holds Tryd.pinned (OpenSpec.ofChange astLinesWrong)

/-- 'kilnlaw05.AstClasses': WHATEVER THE INPUT: true; the input reads as it did. -/
def astClassesSpec : ChangeSpec := { name := "astClasses", fn := fun _ => fun
  | [d] => { results := [.lit (.bool true)], args := [d] }
  | _ => none }
def astClassesRow : OpenClaim := { program := "ytleccalfcnkklaadoor", sum := "5a7ca005981e7c505084f722d5c70039b60ce39427d0de9b1d1b7a68a000dd10", func := "kiln/kilnlaw05.AstClasses", spec := "astClasses", inPlace := ["internal/abi.NoEscape", "internal/bytealg.MakeNoZero"], unfollowed := true, recurses := true, named := ["internal/strconv.uint64pow10", "math/bits.deBruijn32tab", "math/bits.deBruijn64tab"], loops := true, apart := false, laid := [("math/bits.deBruijn32tab", laid_math_bits_deBruijn32tab), ("math/bits.deBruijn64tab", laid_math_bits_deBruijn64tab), ("internal/strconv.uint64pow10", laid_internal_strconv_uint64pow10)] }
def AstClassesSaid : Prop := astClassesRow.holds Tryd.pinned (OpenSpec.ofChange astClassesSpec)

/-- ITS FALSE NEIGHBOUR: 'it returns false'. Refute it at one input. -/
def astClassesWrong : ChangeSpec := { name := "astClasses", fn := fun _ => fun
  | [d] => { results := [.lit (.bool false)], args := [d] }
  | _ => none }
def AstClassesWrongFalsely : Prop := astClassesRow.holds Tryd.pinned (OpenSpec.ofChange astClassesWrong)

/- THE SECOND FORM. 'bulk': how many values and letters a reading holds, each counted each time it is reached (what is shared counts as often as it is met; a slice's spare places count too). A statement '..UptoSaid' is the law's where the arguments, and the package variables that the reading takes, are together of bulk at most 1048576: NARROWER than '..Said'. Prove '..Said' where nothing that the law and all that it calls make is longer than what came in: it says more and counts as full. Else prove '..UptoSaid'. A law counts once. -/
mutual
def uptoBulk {H : Type} : DataW H → Nat
  | .lit (.string bytes) => bytes.length + 1
  | .lit _ => 1
  | .nil => 1
  | .ptr d => uptoBulk d + 1
  | .slice elems spare => uptoBulkAll elems + uptoBulkAll spare + 1
  | .agg parts => uptoBulkAll parts + 1
  | .iface _ d => uptoBulk d + 1
  | .map entries => uptoBulkEntries entries + 1
  | .held _ => 1
def uptoBulkAll {H : Type} : List (DataW H) → Nat
  | [] => 0
  | d :: r => uptoBulk d + uptoBulkAll r
def uptoBulkEntries {H : Type} : List (Lit × DataW H) → Nat
  | [] => 0
  | x :: r => uptoBulkEntry x + uptoBulkEntries r
def uptoBulkEntry {H : Type} : Lit × DataW H → Nat
  | (.string bytes, d) => bytes.length + uptoBulk d + 1
  | (_, d) => uptoBulk d + 1
 end
def uptoSmall : (H : Type) → List (DataW H) → Bool := fun _ ds => decide (uptoBulkAll ds ≤ 1048576)
def OpenSpec.upto (s : _root_.Go.ChangeSpec) : _root_.Go.OpenSpec := { _root_.Go.OpenSpec.ofChange s with cond := some uptoSmall }

/-- 'kilnlaw05.AstKids', WHERE WHAT IT READS IS OF BULK AT MOST 1048576: true; the input reads as it did. -/
def astKidsUptoRow : OpenClaim := { program := "ytleccalfcnkklaadoor", sum := "5a7ca005981e7c505084f722d5c70039b60ce39427d0de9b1d1b7a68a000dd10", func := "kiln/kilnlaw05.AstKids", spec := "astKids", inPlace := ["internal/abi.NoEscape", "internal/bytealg.MakeNoZero"], recurses := true, named := ["internal/strconv.uint64pow10", "math/bits.deBruijn32tab", "math/bits.deBruijn64tab"], loops := true, apart := false, laid := [("math/bits.deBruijn32tab", laid_math_bits_deBruijn32tab), ("math/bits.deBruijn64tab", laid_math_bits_deBruijn64tab), ("internal/strconv.uint64pow10", laid_internal_strconv_uint64pow10)], narrowed := true }
def AstKidsUptoSaid : Prop := astKidsUptoRow.holds Tryd.pinned (OpenSpec.upto astKidsSpec)

/-- 'kilnlaw05.AstTypes', WHERE WHAT IT READS IS OF BULK AT MOST 1048576: true; the input reads as it did. -/
def astTypesUptoRow : OpenClaim := { program := "ytleccalfcnkklaadoor", sum := "5a7ca005981e7c505084f722d5c70039b60ce39427d0de9b1d1b7a68a000dd10", func := "kiln/kilnlaw05.AstTypes", spec := "astTypes", inPlace := ["internal/abi.NoEscape", "internal/bytealg.MakeNoZero"], recurses := true, named := ["internal/strconv.uint64pow10", "math/bits.deBruijn32tab", "math/bits.deBruijn64tab"], apart := false, laid := [("math/bits.deBruijn32tab", laid_math_bits_deBruijn32tab), ("math/bits.deBruijn64tab", laid_math_bits_deBruijn64tab), ("internal/strconv.uint64pow10", laid_internal_strconv_uint64pow10)], narrowed := true }
def AstTypesUptoSaid : Prop := astTypesUptoRow.holds Tryd.pinned (OpenSpec.upto astTypesSpec)

/-- 'kilnlaw05.AstExprs', WHERE WHAT IT READS IS OF BULK AT MOST 1048576: true; the input reads as it did. -/
def astExprsUptoRow : OpenClaim := { program := "ytleccalfcnkklaadoor", sum := "5a7ca005981e7c505084f722d5c70039b60ce39427d0de9b1d1b7a68a000dd10", func := "kiln/kilnlaw05.AstExprs", spec := "astExprs", inPlace := ["internal/abi.NoEscape", "internal/bytealg.MakeNoZero"], unfollowed := true, recurses := true, named := ["internal/strconv.uint64pow10", "math/bits.deBruijn32tab", "math/bits.deBruijn64tab"], loops := true, apart := false, laid := [("math/bits.deBruijn32tab", laid_math_bits_deBruijn32tab), ("math/bits.deBruijn64tab", laid_math_bits_deBruijn64tab), ("internal/strconv.uint64pow10", laid_internal_strconv_uint64pow10)], narrowed := true }
def AstExprsUptoSaid : Prop := astExprsUptoRow.holds Tryd.pinned (OpenSpec.upto astExprsSpec)

/-- 'kilnlaw05.AstSames', WHERE WHAT IT READS IS OF BULK AT MOST 1048576: true; the input reads as it did. -/
def astSamesUptoRow : OpenClaim := { program := "ytleccalfcnkklaadoor", sum := "5a7ca005981e7c505084f722d5c70039b60ce39427d0de9b1d1b7a68a000dd10", func := "kiln/kilnlaw05.AstSames", spec := "astSames", inPlace := ["internal/abi.NoEscape", "internal/bytealg.MakeNoZero"], unfollowed := true, recurses := true, named := ["internal/strconv.uint64pow10", "math/bits.deBruijn32tab", "math/bits.deBruijn64tab"], loops := true, apart := false, laid := [("math/bits.deBruijn32tab", laid_math_bits_deBruijn32tab), ("math/bits.deBruijn64tab", laid_math_bits_deBruijn64tab), ("internal/strconv.uint64pow10", laid_internal_strconv_uint64pow10)], narrowed := true }
def AstSamesUptoSaid : Prop := astSamesUptoRow.holds Tryd.pinned (OpenSpec.upto astSamesSpec)

/-- 'kilnlaw05.AstStmts', WHERE WHAT IT READS IS OF BULK AT MOST 1048576: true; the input reads as it did. -/
def astStmtsUptoRow : OpenClaim := { program := "ytleccalfcnkklaadoor", sum := "5a7ca005981e7c505084f722d5c70039b60ce39427d0de9b1d1b7a68a000dd10", func := "kiln/kilnlaw05.AstStmts", spec := "astStmts", inPlace := ["internal/abi.NoEscape", "internal/bytealg.MakeNoZero"], unfollowed := true, recurses := true, named := ["internal/strconv.uint64pow10", "math/bits.deBruijn32tab", "math/bits.deBruijn64tab"], loops := true, apart := false, laid := [("math/bits.deBruijn32tab", laid_math_bits_deBruijn32tab), ("math/bits.deBruijn64tab", laid_math_bits_deBruijn64tab), ("internal/strconv.uint64pow10", laid_internal_strconv_uint64pow10)], narrowed := true }
def AstStmtsUptoSaid : Prop := astStmtsUptoRow.holds Tryd.pinned (OpenSpec.upto astStmtsSpec)

/-- 'kilnlaw05.AstLines', WHERE WHAT IT READS IS OF BULK AT MOST 1048576: true; the input reads as it did. -/
def astLinesUptoRow : OpenClaim := { program := "ytleccalfcnkklaadoor", sum := "5a7ca005981e7c505084f722d5c70039b60ce39427d0de9b1d1b7a68a000dd10", func := "kiln/kilnlaw05.AstLines", spec := "astLines", inPlace := ["internal/abi.NoEscape", "internal/bytealg.MakeNoZero"], unfollowed := true, recurses := true, named := ["internal/strconv.uint64pow10", "math/bits.deBruijn32tab", "math/bits.deBruijn64tab"], loops := true, apart := false, laid := [("math/bits.deBruijn32tab", laid_math_bits_deBruijn32tab), ("math/bits.deBruijn64tab", laid_math_bits_deBruijn64tab), ("internal/strconv.uint64pow10", laid_internal_strconv_uint64pow10)], narrowed := true }
def AstLinesUptoSaid : Prop := astLinesUptoRow.holds Tryd.pinned (OpenSpec.upto astLinesSpec)

/-- 'kilnlaw05.AstClasses', WHERE WHAT IT READS IS OF BULK AT MOST 1048576: true; the input reads as it did. -/
def astClassesUptoRow : OpenClaim := { program := "ytleccalfcnkklaadoor", sum := "5a7ca005981e7c505084f722d5c70039b60ce39427d0de9b1d1b7a68a000dd10", func := "kiln/kilnlaw05.AstClasses", spec := "astClasses", inPlace := ["internal/abi.NoEscape", "internal/bytealg.MakeNoZero"], unfollowed := true, recurses := true, named := ["internal/strconv.uint64pow10", "math/bits.deBruijn32tab", "math/bits.deBruijn64tab"], loops := true, apart := false, laid := [("math/bits.deBruijn32tab", laid_math_bits_deBruijn32tab), ("math/bits.deBruijn64tab", laid_math_bits_deBruijn64tab), ("internal/strconv.uint64pow10", laid_internal_strconv_uint64pow10)], narrowed := true }
def AstClassesUptoSaid : Prop := astClassesUptoRow.holds Tryd.pinned (OpenSpec.upto astClassesSpec)

end Rows
end Go.Proofs.YtleccalfcnkklaaDoor
