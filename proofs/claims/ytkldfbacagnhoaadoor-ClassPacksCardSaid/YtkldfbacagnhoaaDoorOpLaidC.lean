/- What the laid variables give the walks: the shapes' cells, the table of powers of ten; no statement of the seat is proved here. -/
import Derived.Test.YtkldfbacagnhoaaDoorBase
import Derived.Test.YtkldfbacagnhoaaDoorRows
import Derived.Test.YtkldfbacagnhoaaDoorChecked
import Derived.Lib.LaidTab
import Derived.ChangeSame
import Derived.OpenShut
import Derived.WalkSmall
import Derived.MakeChecks
import Derived.ProofKit
import Derived.Stop.Joined
namespace Go.Proofs.YtkldfbacagnhoaaDoor
open Go.ChangeShapes Go.WideShapes Go.ChangeAt Go.RowKit

def shapes : List (List UInt8 × Int) := [([], 0), ([105, 110, 116], 110), ([110, 117, 108, 108], 0), ([108, 111, 99, 97, 108], 108), ([115, 116, 111, 114, 101], 108), ([97, 100, 100], 0), ([115, 117, 98], 0), ([109, 117, 108], 0), ([100, 105, 118], 0), ([109, 111, 100], 0), ([108, 101, 115, 115], 0), ([109, 111, 115, 116], 0), ([115, 97, 109, 101], 0), ([111, 116, 104, 101, 114], 0), ([110, 101, 103], 0), ([110, 111, 116], 0), ([103, 101, 116], 102), ([112, 117, 116], 102), ([110, 101, 119], 99), ([97, 114, 114, 97, 121], 116), ([108, 111, 97, 100], 116), ([115, 97, 118, 101], 116), ([108, 101, 110, 103, 116, 104], 0), ([99, 97, 115, 116], 99), ([105, 115], 99), ([99, 97, 108, 108], 109), ([115, 116, 97, 116, 105, 99], 109), ([106, 117, 109, 112], 106), ([117, 110, 108, 101, 115, 115], 106), ([114, 101, 116, 117, 114, 110], 0), ([112, 114, 105, 110, 116], 0), ([112, 111, 112], 0), ([98, 111, 111, 108], 98)]

/-- An array of pairs of a text and a number, that reads as the list, holds it cell for cell. -/
theorem cells_of_pairs {H : Type} {enc : TypeId × Value → H} {P : Program} {w : World} {base : Nat} {sp : Nat → Bool} {held : Bool} {fuel : Nat} {t e : TypeId} {n : Nat} {f0 f1 : Field} {cs : List Value} {zs : List (List UInt8 × Int)} {p : List MemPlace}
    (ht : P.underlying t = some (.array n e)) (he : P.underlying e = some (.struct #[f0, f1])) (h0 : P.underlying f0.type = some .string) (h1 : P.underlying f1.type = some (.int .i32)) (ho0 : f0.offset = 0) (ho1 : f1.offset = 1)
    (hc0 : P.cellsOf f0.type = 1) (hc1 : P.cellsOf f1.type = 1) (hce : P.cellsOf e = 2) (hl : zs.length = n)
    (h : DataW.trod enc P w base sp held fuel t cs = some (.agg (zs.map fun z => .agg [.lit (.string z.1), .lit (.int .i32 z.2)]), p)) :
    ∀ i, i < n → cs[2 * i]? = some (S (zs.getD i ([], 0)).1) ∧ cs[2 * i + 1]? = some (.int .i32 (zs.getD i ([], 0)).2) := by
  obtain ⟨xs, m, _, hx, _, hxl, hel⟩ := DataW.trod_array ht h
  intro i hi
  have hq := hel i hi
  rw [hce, List.getElem?_eq_getElem (by omega)] at hq
  have hxi : xs[i].1 = .agg [.lit (.string zs[i].1), .lit (.int .i32 zs[i].2)] := by
    have h2 := congrArg Prod.fst hx
    simp only [DataW.agg.injEq] at h2
    have h3 := congrArg (fun l => l[i]?) h2
    simp [hxl ▸ hi, hl ▸ hi] at h3
    exact h3.symm
  obtain ⟨y0, y1, m', hy, _, e0, e1⟩ := trod_struct2 he hq
  rw [hy] at hxi
  simp only [DataW.agg.injEq, List.cons.injEq, and_true] at hxi
  rw [ho0, hc0] at e0
  rw [ho1, hc1] at e1
  obtain ⟨s, hs, rfl, _⟩ := DataW.trod_string h0 e0
  obtain ⟨k, hk, rfl, _⟩ := DataW.trod_int h1 e1
  simp only [DataW.lit.injEq, Lit.string.injEq, Lit.int.injEq, true_and] at hxi
  have g0 := congrArg (fun l => l[0]?) hs
  have g1 := congrArg (fun l => l[0]?) hk
  simp [List.getElem?_drop] at g0 g1
  have hz : zs.getD i ([], 0) = zs[i] := by simp [List.getD, hl ▸ hi]
  rw [hz, ← hxi.1, ← hxi.2, Nat.mul_comm 2 i]
  exact ⟨by rw [g0], g1⟩

theorem gShapes : Tryd.prog.globalNamed "kiln/op.shapes" = some 0 := by kernel_rfl
theorem tShapes : (Tryd.prog.globals[0]?).map (·.type) = some 87 := by kernel_rfl

structure Laid (w : World) : Prop where
  sh : ∃ cs, w.var? Tryd.prog "kiln/op.shapes" = some cs ∧ ∀ i, i < 33 → cs[2 * i]? = some (S (shapes.getD i ([], 0)).1) ∧ cs[2 * i + 1]? = some (.int .i32 (shapes.getD i ([], 0)).2)

theorem var_lt {P : Program} {w : World} {n : String} {g : Nat} {cs : Array Value} (hg : P.globalNamed n = some g) (h : w.var? P n = some cs) : g < w.heap.size := by
  unfold World.var? at h
  rw [hg, Option.bind_some] at h
  rcases Nat.lt_or_ge g w.heap.size with h2 | h2
  · exact h2
  · rw [Array.getElem?_eq_none h2] at h
    simp at h
theorem Laid.below {w w' : World} {B : Nat} (h : Laid w) (hb : Below B w w') (hB : w.heap.size ≤ B) : Laid w' := by
  obtain ⟨cs, h1, h2⟩ := h.sh
  have k1 := var_lt gShapes h1
  exact ⟨⟨cs, var?_below hb gShapes (by omega) h1, h2⟩⟩
theorem Laid.name {w : World} (h : Laid w) (i : Nat) (hi : i < 33) : w.cell? ⟨0, i * 2, none⟩ = some (S (shapes.getD i ([], 0)).1) := by
  obtain ⟨cs, h1, h2⟩ := h.sh
  rw [World.var?_cell gShapes h1, Nat.mul_comm i 2, (h2 i hi).1]
theorem Laid.pool {w : World} (h : Laid w) (i : Nat) (hi : i < 33) : w.cell? ⟨0, i * 2 + 1, none⟩ = some (.int .i32 (shapes.getD i ([], 0)).2) := by
  obtain ⟨cs, h1, h2⟩ := h.sh
  rw [World.var?_cell gShapes h1, Nat.mul_comm i 2, (h2 i hi).2]

theorem shapes_laid : (Rows.laid_kiln_op_shapes : DataW Unit) = .agg (shapes.map fun z => .agg [.lit (.string z.1), .lit (.int .i32 z.2)]) := rfl

theorem laid_of {w : World} (h : laidMetH Tryd.prog [("kiln/op.shapes", Rows.laid_kiln_op_shapes)] w) : Laid w := by
  rw [MakeChecks.laidMetH_plain _ _ _ (by kernel_rfl)] at h
  obtain ⟨ps, ⟨g3, t3, cs3, f3, p3, q3, hg3, ht3, hv3, hd3, _, _⟩, _, _⟩ := h
  obtain rfl := Option.some.inj (gShapes.symm.trans hg3)
  obtain rfl := Option.some.inj (tShapes.symm.trans ht3)
  refine ⟨⟨cs3, hv3, ?_⟩⟩
  have := cells_of_pairs (n := 33) Tryd.underlying87 Tryd.underlying86 Tryd.underlying9 Tryd.underlying21 rfl rfl (by kernel_rfl) (by kernel_rfl) (by kernel_rfl) rfl (by rw [← shapes_laid]; exact hd3)
  simpa using this
end Go.Proofs.YtkldfbacagnhoaaDoor
