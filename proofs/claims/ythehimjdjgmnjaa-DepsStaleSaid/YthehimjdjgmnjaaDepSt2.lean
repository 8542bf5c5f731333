/- What the turns leave of the faces; no statement of the seat is proved here. -/
import Derived.Test.YthehimjdjgmnjaaDepSt1
namespace Go.Proofs.Ythehimjdjgmnjaa
open Go.RowKit Go.Maps Go.Sort
set_option linter.unusedVariables false

/-- Faces that are few, their supers' names j longer at most. -/
def Lite (w : World) (F : Nat → Prop) (j : Nat) (T : List Fc) : Prop := ∀ f ∈ T, f.at_ w F ∧ f.n.length ≤ 60 ∧ f.su.length ≤ 60 + j ∧ f.fl ≤ 12 ∧ f.ml ≤ 12 ∧ (∀ v ∈ f.fs, v.few) ∧ ∀ m ∈ f.ms, m.few
theorem Lite.of_few {w : World} {F : Nat → Prop} {T : List Fc} (h : ∀ f ∈ T, f.at_ w F) (hf : ∀ f ∈ T, f.few) : Lite w F 0 T := fun f hm => by
  have a := hf f hm
  exact ⟨h f hm, a.2.2.1, a.2.2.2.1, a.1, a.2.1, a.2.2.2.2.1, a.2.2.2.2.2⟩
theorem Lite.mono {w : World} {F : Nat → Prop} {T : List Fc} {j k : Nat} (h : Lite w F j T) (hj : j ≤ k) : Lite w F k T := fun f hm => by
  obtain ⟨a, b, c, d⟩ := h f hm
  exact ⟨a, b, by omega, d⟩
theorem suX_len (n : List UInt8) (T : List Fc) : (suX n T).length = T.length := by simp [suX]
theorem Lite.suX {w : World} {F : Nat → Prop} {T : List Fc} {j : Nat} (h : Lite w F j T) (hj : j ≤ 100) (n : List UInt8) : Lite w F (j + 1) (suX n T) := fun f hm => by
  obtain ⟨x, hx, rfl⟩ := List.mem_map.1 hm
  obtain ⟨a, b, c, d⟩ := h x hx
  by_cases e : x.n = n
  · rw [if_pos e]
    refine ⟨⟨a.1, a.2.1, a.2.2.1, ?_⟩, b, ?_, d⟩
    · show (x.su ++ [88]).length ≤ 9223372036854775807
      rw [List.length_append]; simp; omega
    · show (x.su ++ [88]).length ≤ 60 + (j + 1)
      rw [List.length_append]; simp; omega
  · rw [if_neg e]
    exact ⟨a, b, by omega, d⟩
theorem trT_len (T : List Fc) (x : Trn) : (trT T x).length = T.length := by unfold trT; split <;> simp [suX_len]
theorem Lite.trT {w : World} {F : Nat → Prop} {T : List Fc} {j : Nat} (h : Lite w F j T) (hj : j ≤ 100) (x : Trn) : Lite w F (j + 1) (trT T x) := by
  unfold Proofs.Ythehimjdjgmnjaa.trT
  split
  · exact h.suX hj _
  · exact h.mono (by omega)
end Go.Proofs.Ythehimjdjgmnjaa
