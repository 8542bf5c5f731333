/- What the laid variables give the walks that print numbers: the marks, and the table of powers of ten; no statement of the seat is proved here. -/
import Derived.Test.YtoilalfchnglcaaDoorLexLaid
import Derived.Lib.ItoaNum
namespace Go.Proofs.YtoilalfchnglcaaDoor
open Go.ChangeShapes Go.WideShapes Go.ChangeAt Go.RowKit

theorem gTab : Tryd.prog.globalNamed "internal/strconv.uint64pow10" = some 1 := by kernel_rfl
theorem tTab : (Tryd.prog.globals[1]?).map (·.type) = some 69 := by kernel_rfl
theorem tab_laid : (Rows.laid_internal_strconv_uint64pow10 : DataW Unit) = Lib.tabData .u64 Lib.pow10Tab := by kernel_rfl

structure Laid2 (w : World) : Prop where
  ms : Laid w
  tab : Lib.TabIs Tryd.prog w "internal/strconv.uint64pow10" .u64 Lib.pow10Tab

theorem laid_of2 {w : World} (h : laidMetH Tryd.prog [("math/bits.deBruijn32tab", Rows.laid_math_bits_deBruijn32tab), ("math/bits.deBruijn64tab", Rows.laid_math_bits_deBruijn64tab), ("internal/strconv.uint64pow10", Rows.laid_internal_strconv_uint64pow10), ("kiln/lex.marks", Rows.laid_kiln_lex_marks)] w) : Laid2 w := by
  rw [MakeChecks.laidMetH_plain _ _ _ (by kernel_rfl)] at h
  obtain ⟨ps, ⟨g0, t0, cs0, f0, p0, q0, hg0, ht0, hv0, hd0, ⟨g1, t1, cs1, f1, p1, q1, hg1, ht1, hv1, hd1, ⟨g2, t2, cs2, f2, p2, q2, hg2, ht2, hv2, hd2, ⟨g3, t3, cs3, f3, p3, q3, hg3, ht3, hv3, hd3, _, _⟩, _⟩, _⟩, _⟩, _, _⟩ := h
  obtain rfl := Option.some.inj (gTab.symm.trans hg2)
  obtain rfl := Option.some.inj (gMarks.symm.trans hg3)
  obtain rfl := Option.some.inj (tTab.symm.trans ht2)
  obtain rfl := Option.some.inj (tMarks.symm.trans ht3)
  refine ⟨?_, ?_⟩
  · have := cells_of_texts (n := 22) (zs := marksL) Tryd.underlying61 Tryd.underlying9 (by kernel_rfl) rfl (by rw [← marks_laid]; exact hd3)
    refine ⟨fun j v hv => ?_, var_lt gMarks hv3⟩
    rw [World.var?_cell gMarks hv3, Nat.zero_add]
    have hj : j < marksL.length := by
      have := (List.getElem?_eq_some_iff.1 hv).1
      simpa using this
    have h2 := this j hj
    rw [List.getElem?_map, List.getElem?_eq_getElem hj] at hv
    injection hv with hv
    rw [← hv, ← h2]
    exact (Array.getElem?_toList).symm
  · unfold Lib.TabIs
    rw [hv2, ← Lib.cells_of_tab Tryd.underlying69 Tryd.underlying41 (by kernel_rfl) (by kernel_rfl) (by rw [← tab_laid]; exact hd2)]
end Go.Proofs.YtoilalfchnglcaaDoor
