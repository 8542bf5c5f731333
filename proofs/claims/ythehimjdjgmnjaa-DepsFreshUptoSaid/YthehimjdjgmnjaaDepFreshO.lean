/- Names that come in; no statement of the seat is proved here. -/
import Derived.Test.YthehimjdjgmnjaaDepFreshW
import Derived.Test.YthehimjdjgmnjaaDepBulk
namespace Go.Proofs.Ythehimjdjgmnjaa
open Go.ChangeShapes Go.WideShapes Go.ChangeAt Go.RowKit Go.Deep
set_option linter.unusedVariables false

section
variable {H : Type} {enc : TypeId × Value → H} {w : World} {base : Nat} {spare : Nat → Bool} {held : Bool}
set_option maxRecDepth 100000 in
theorem open_names {r : Reach} {b0 : Nat} {v : Value} {d : DataW H} {p : List MemPlace} (hv : Value.okWide Try.prog w r b0 33 v) (h : DataW.Trod enc Try.prog w base spare held 33 v d p) :
    ∃ (A : Option Addr) (n c : Nat) (l : List (List UInt8)), v = .slice A n c ∧ Rd w (fun k => w.heap.size ≤ k) 1 A n (l.map S) ∧ l.length = n ∧ n ≤ 9223372036854775807 ∧ ∀ x ∈ l, short x := by
  obtain ⟨A, n, c, rfl⟩ := okWide_slice Try.underlying33 hv
  obtain ⟨fuel, hf⟩ := h
  have hc : (Value.slice A n c).cells.toList = [.slice A n c] := by simp [Value.cells]
  rw [hc] at hf
  obtain ⟨l, hr, hll, hok, hk⟩ := open_recs (f := fun s => [S s]) (size := 1) short Try.underlying33 (by kernel_rfl) (by decide) (fun _ => rfl) (fun cs n' y h => trod_str Try.underlying9 h) hf
  exact ⟨A, n, c, l, rfl, by rw [List.map_eq_flatMap]; exact hr.old, hll, hk, hok⟩
end
end Go.Proofs.Ythehimjdjgmnjaa
