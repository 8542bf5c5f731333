/- What the laid variable gives the walks: the marks; no statement of the seat is proved here. -/
import Derived.Test.YtoilalfchnglcaaDoorLexSkip
import Derived.Test.YtoilalfchnglcaaDoorLexNum
import Derived.Test.YtoilalfchnglcaaDoorLexWord
import Derived.Test.YtoilalfchnglcaaDoorRows
import Derived.Lib.LaidTab
import Derived.Deep.MidRow
import Derived.ChangeSame
import Derived.OpenShut
import Derived.WalkSmall
import Derived.MakeChecks
import Derived.ProofKit
import Derived.Stop.Joined
namespace Go.Proofs.YtoilalfchnglcaaDoor
open Go.ChangeShapes Go.WideShapes Go.ChangeAt Go.RowKit

/-- An array of texts, that reads as the list, holds it cell for cell. -/
theorem cells_of_texts {H : Type} {enc : TypeId × Value → H} {P : Program} {w : World} {base : Nat} {sp : Nat → Bool} {held : Bool} {fuel : Nat} {t e : TypeId} {n : Nat} {cs : List Value} {zs : List (List UInt8)} {p : List MemPlace}
    (ht : P.underlying t = some (.array n e)) (he : P.underlying e = some .string) (hce : P.cellsOf e = 1) (hl : zs.length = n)
    (h : DataW.trod enc P w base sp held fuel t cs = some (.agg (zs.map fun z => .lit (.string z)), p)) :
    ∀ i (hi : i < zs.length), cs[i]? = some (S zs[i]) := by
  obtain ⟨xs, m, _, hx, _, hxl, hel⟩ := DataW.trod_array ht h
  intro i hi
  have hq := hel i (by omega)
  rw [hce, List.getElem?_eq_getElem (by omega)] at hq
  have hxi : xs[i].1 = .lit (.string zs[i]) := by
    have h2 := congrArg Prod.fst hx
    simp only [DataW.agg.injEq] at h2
    have h3 := congrArg (fun l => l[i]?) h2
    simp [hxl ▸ (by omega : i < n), hi] at h3
    exact h3.symm
  obtain ⟨s, hs, hz, _⟩ := DataW.trod_string he hq
  rw [hz] at hxi
  simp only [DataW.lit.injEq, Lit.string.injEq] at hxi
  have g0 := congrArg (fun l => l[0]?) hs
  simp at g0
  rw [← hxi]
  rw [g0]

theorem gMarks : Tryd.prog.globalNamed "kiln/lex.marks" = some 0 := by kernel_rfl
theorem tMarks : (Tryd.prog.globals[0]?).map (·.type) = some 61 := by kernel_rfl

/-- The marks as they lie in memory. -/
def Laid (w : World) : Prop := w.rangeAt 0 0 (marksL.map S) ∧ 0 < w.heap.size

theorem var_lt {P : Program} {w : World} {n : String} {g : Nat} {cs : Array Value} (hg : P.globalNamed n = some g) (h : w.var? P n = some cs) : g < w.heap.size := by
  unfold World.var? at h
  rw [hg, Option.bind_some] at h
  rcases Nat.lt_or_ge g w.heap.size with h2 | h2
  · exact h2
  · rw [Array.getElem?_eq_none h2] at h
    simp at h
theorem Laid.keep {w w' : World} {F : Nat → Prop} (h : Laid w) (hk : Keep F w w') (hF : ¬ F 0) : Laid w' :=
  ⟨fun j v hv => (hk.cell (p := ⟨0, 0 + j, none⟩) h.2 hF).trans (h.1 j v hv), Nat.lt_of_lt_of_le h.2 hk.size⟩
theorem Laid.below {w w' : World} {B : Nat} (h : Laid w) (hb : Below B w w') (hB : w.heap.size ≤ B) : Laid w' :=
  ⟨fun j v hv => (hb.cell (p := ⟨0, 0 + j, none⟩) (Nat.lt_of_lt_of_le h.2 hB)).trans (h.1 j v hv), Nat.lt_of_lt_of_le h.2 hb.size⟩

theorem marks_laid : (Rows.laid_kiln_lex_marks : DataW Unit) = .agg (marksL.map fun z => .lit (.string z)) := rfl

theorem laid_of {w : World} (h : laidMetH Tryd.prog [("kiln/lex.marks", Rows.laid_kiln_lex_marks)] w) : Laid w := by
  rw [MakeChecks.laidMetH_plain _ _ _ (by kernel_rfl)] at h
  obtain ⟨ps, ⟨g0, t0, cs0, f0, p0, q0, hg0, ht0, hv0, hd0, _, _⟩, _, _⟩ := h
  obtain rfl := Option.some.inj (gMarks.symm.trans hg0)
  obtain rfl := Option.some.inj (tMarks.symm.trans ht0)
  have := cells_of_texts (n := 22) (zs := marksL) Tryd.underlying61 Tryd.underlying9 (by kernel_rfl) rfl (by rw [← marks_laid]; exact hd0)
  refine ⟨fun j v hv => ?_, var_lt gMarks hv0⟩
  rw [World.var?_cell gMarks hv0, Nat.zero_add]
  have hj : j < marksL.length := by
    have := (List.getElem?_eq_some_iff.1 hv).1
    simpa using this
  have h2 := this j hj
  rw [List.getElem?_map, List.getElem?_eq_getElem hj] at hv
  injection hv with hv
  rw [← hv, ← h2]
  exact (Array.getElem?_toList).symm
end Go.Proofs.YtoilalfchnglcaaDoor
