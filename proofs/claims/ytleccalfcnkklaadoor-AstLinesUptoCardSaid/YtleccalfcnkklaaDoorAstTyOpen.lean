/- An argument that is a type, opened; no statement of the seat is proved here. -/
import Derived.Test.YtleccalfcnkklaaDoorRecs
import Derived.Test.YtleccalfcnkklaaDoorAstTypesW
namespace Go.Proofs.YtleccalfcnkklaaDoor
open Go.ChangeShapes Go.WideShapes Go.ChangeAt Go.RowKit Go.Deep

section
variable {H : Type} {enc : TypeId × Value → H} {w : World} {base : Nat} {spare : Nat → Bool} {held : Bool} {r : Reach} {b0 : Nat} {v : Value} {d : DataW H} {p : List MemPlace}
set_option maxRecDepth 100000 in
theorem trod_typ {cs : List Value} {n : Nat} {y : DataW H × List MemPlace} (h : DataW.trod enc Tryd.prog w base spare held n 26 cs = some y) : ∃ s a, cs = [S s, .bool a] ∧ s.length ≤ 9223372036854775807 := by
  obtain ⟨hl, n', hf⟩ := trod_fld Tryd.underlying26 h
  obtain ⟨a, b, rfl⟩ := cs2 (hl.trans (by kernel_rfl))
  obtain ⟨_, f0⟩ := hf 0 _ rfl
  obtain ⟨_, f1⟩ := hf 1 _ rfl
  obtain ⟨s, hs, hsl⟩ := trod_str Tryd.underlying9 f0
  obtain ⟨q, hq, _⟩ := DataW.trod_bool Tryd.underlying4 f1
  have hs' : [a] = [S s] := hs
  have hq' : [b] = [.bool q] := hq
  injection hs' with hs'
  injection hq' with hq'
  exact ⟨s, q, by rw [hs', hq'], hsl⟩
set_option maxRecDepth 100000 in
theorem open_typ (hv : Value.okWide Tryd.prog w r b0 26 v) (h : DataW.Trod enc Tryd.prog w base spare held 26 v d p) : ∃ s a, v = .agg #[S s, .bool a] := by
  obtain ⟨cs, rfl, _⟩ := okWide_struct Tryd.underlying26 hv
  obtain ⟨fuel, hf⟩ := h
  have hc : (Value.agg cs).cells.toList = cs.toList := by simp [Value.cells]
  rw [hc] at hf
  obtain ⟨s, a, ht, _⟩ := trod_typ hf
  exact ⟨s, a, by rw [show cs = cs.toList.toArray by simp, ht]⟩
end
end Go.Proofs.YtleccalfcnkklaaDoor
