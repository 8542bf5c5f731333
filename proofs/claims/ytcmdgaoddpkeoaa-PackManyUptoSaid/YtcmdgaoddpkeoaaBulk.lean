/- What the bound of a second-form statement gives for texts: their lengths together. -/
import Derived.Test.YtcmdgaoddpkeoaaOpen
import Derived.Test.YtcmdgaoddpkeoaaRows
namespace Go.Proofs.Ytcmdgaoddpkeoaa
open Go.ChangeShapes Go.WideShapes Go.ChangeAt Go.RowKit Go.Deep
open Go.ChangeMaps (open_string shut_string)

section
variable {H : Type} {enc : TypeId × Value → H} {P : Program} {w : World} {base : Nat} {spare : Nat → Bool} {held : Bool}

theorem bulk_strs (ss : List ByteArray) : ((ss.map (·.data.toList)).map List.length).sum ≤ Rows.uptoBulkAll (H := H) (strs ss) := by
  induction ss with
  | nil => simp [strs, Rows.uptoBulkAll]
  | cons s r ih =>
    simp only [strs, List.map_cons, List.sum_cons, Rows.uptoBulkAll, Rows.uptoBulk] at ih ⊢
    omega

theorem bulk_part {d : DataW H} {l : List (DataW H)} (h : d ∈ l) : Rows.uptoBulk d ≤ Rows.uptoBulkAll l := by
  induction l with
  | nil => cases h
  | cons x r ih =>
    simp only [Rows.uptoBulkAll]
    cases List.mem_cons.1 h with
    | inl e => subst e; omega
    | inr e => have := ih e; omega

theorem of_small {l : List (DataW H)} {d : DataW H} {n : Nat} (hk : Rows.uptoSmall H l = true) (hm : d ∈ l) (hs : n ≤ Rows.uptoBulk d) : n ≤ 1048576 := by
  have h : Rows.uptoBulkAll l ≤ 1048576 := by simpa [Rows.uptoSmall] using hk
  have := bulk_part hm
  omega

theorem open_slice_strings' {t e : TypeId} {r : Reach} {b0 : Nat} {v : Value} {d : DataW H} {p : List MemPlace} (ht : P.underlying t = some (.slice e)) (he : P.underlying e = some .string) (hc : P.cellsOf e = 1)
    (hv : Value.okWide P w r b0 t v) (h : DataW.Trod enc P w base spare held t v d p) :
    ∃ (A : Option Addr) (n c : Nat) (l : List (List UInt8)), v = .slice A n c ∧ Rd w (fun _ => False) 1 A n (l.map S) ∧ (∀ x ∈ l, x.length ≤ maxLen) ∧ n ≤ maxLen ∧ (l.map List.length).sum ≤ Rows.uptoBulk d := by
  obtain ⟨A, n, c, rfl⟩ := okWide_slice ht hv
  obtain ⟨fuel, hf⟩ := h
  rcases open_strings ht he hc hf with ⟨hcs, _⟩ | ⟨x, l, c', zs, hcs, _, hl, hm, hz, hd, hcell, hwz⟩
  · simp [Value.cells] at hcs
    obtain ⟨rfl, rfl, rfl⟩ := hcs
    exact ⟨none, 0, 0, [], rfl, Rd.nil _ _ _ _, by simp, by simp [maxLen], by simp⟩
  · simp [Value.cells] at hcs
    obtain ⟨rfl, rfl, rfl⟩ := hcs
    have hle : n ≤ zs.length := by rw [hz]; split <;> omega
    injection hd with hd _
    refine ⟨some x, n, c, (zs.take n).map (·.data.toList), rfl, Rd.of_cells (by simp; omega) (fun i hi => ?_), fun y hy => ?_, by omega, ?_⟩
    · rw [hcell i (by omega)]
      simp [hi, List.getD, show i < zs.length by omega]
    · obtain ⟨s, hs, rfl⟩ := List.mem_map.1 hy
      rw [← Lib.size_eq]
      exact hwz s (List.mem_of_mem_take hs)
    · rw [hd]
      simp only [Rows.uptoBulk]
      have := bulk_strs (H := H) (zs.take n)
      omega
end
end Go.Proofs.Ytcmdgaoddpkeoaa
