/- What the turns leave of the texts; no statement of the seat is proved here. -/
import Derived.Test.YthehimjdjgmnjaaDepSt2
namespace Go.Proofs.Ythehimjdjgmnjaa
open Go.RowKit Go.Maps Go.Sort
set_option linter.unusedVariables false

/-- Texts of the four names, each a digest. -/
def FdOk (F : Fd) : Prop := ∀ k d, F k = some d → d.length = 32 ∧ k ∈ nmA
theorem FdOk.none : FdOk (fun _ => none) := fun k d h => by cases h
theorem FdOk.set {F : Fd} (h : FdOk F) {n d : List UInt8} (hn : n ∈ nmA) (hd : d.length = 32) : FdOk (F.set n d) := fun k e he => by
  unfold Fd.set at he
  by_cases hk : k = n
  · rw [if_pos hk] at he
    injection he with he
    rw [← he, hk]
    exact ⟨hd, hn⟩
  · rw [if_neg hk] at he
    exact h k e he
theorem FdOk.del {F : Fd} (h : FdOk F) (n : List UInt8) : FdOk (F.del n) := fun k e he => by
  unfold Fd.del at he
  by_cases hk : k = n
  · rw [if_pos hk] at he; cases he
  · rw [if_neg hk] at he; exact h k e he
theorem nmG_mem {i : Nat} (hi : i < 4) : nmG i ∈ nmA := by
  match i, hi with
  | 0, _ => simp [nmG, nmA]
  | 1, _ => simp [nmG, nmA]
  | 2, _ => simp [nmG, nmA]
  | 3, _ => simp [nmG, nmA]
theorem nmA_short {k : List UInt8} (h : k ∈ nmA) : short k := by
  simp [nmA] at h
  rcases h with rfl | rfl | rfl | rfl <;> simp [short]
theorem F1_ok : ∀ i, i ≤ 4 → FdOk (F1 i)
  | 0, _ => FdOk.none
  | i + 1, h => (F1_ok i (by omega)).set (nmG_mem (by omega)) (sumM_len _)
theorem trF_ok {F : Fd} (h : FdOk F) {x : Trn} (hx : x.nm ∈ nmA) : FdOk (trF F x) := by
  unfold trF
  split
  · exact h.set hx (sumM_len _)
  · split
    · exact h
    · exact h.del _
end Go.Proofs.Ythehimjdjgmnjaa
