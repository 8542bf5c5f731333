/- An argument that is a type, or a face, opened; no statement of the seat is proved here. -/
import Derived.Test.YtkgnoemagklmiaaFaceDataC
namespace Go.Proofs.Ytkgnoemagklmiaa
open Go.ChangeShapes Go.WideShapes Go.ChangeAt Go.RowKit Go.Deep

section
variable {H : Type} {enc : TypeId × Value → H} {w : World} {base : Nat} {spare : Nat → Bool} {held : Bool} {r : Reach} {b0 : Nat} {v : Value} {d : DataW H} {p : List MemPlace}
set_option maxRecDepth 100000 in
theorem open_ty (hv : Value.okWide Try.prog w r b0 43 v) (h : DataW.Trod enc Try.prog w base spare held 43 v d p) : ∃ t : Ty, v = t.val ∧ t.ok := by
  obtain ⟨cs, rfl, _⟩ := okWide_struct Try.underlying43 hv
  obtain ⟨fuel, hf⟩ := h
  have hc : (Value.agg cs).cells.toList = cs.toList := by simp [Value.cells]
  rw [hc] at hf
  obtain ⟨t, ht, hok⟩ := trod_ty hf
  exact ⟨t, by rw [show cs = cs.toList.toArray by simp, ht], hok⟩

set_option maxRecDepth 100000 in
theorem open_face (hv : Value.okWide Try.prog w r b0 25 v) (h : DataW.Trod enc Try.prog w base spare held 25 v d p) : ∃ f : Fc, v = f.val ∧ f.at_ w (fun _ => False) := by
  obtain ⟨cs, rfl, _⟩ := okWide_struct Try.underlying25 hv
  obtain ⟨fuel, hf⟩ := h
  have hc : (Value.agg cs).cells.toList = cs.toList := by simp [Value.cells]
  rw [hc] at hf
  obtain ⟨t, ht, hok⟩ := trod_fc hf
  exact ⟨t, by rw [show cs = cs.toList.toArray by simp, ht], hok⟩
end
end Go.Proofs.Ytkgnoemagklmiaa
