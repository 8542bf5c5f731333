/- An argument that is a slice of parts, opened. -/
import Derived.Test.YtcmdgaoddpkeoaaOpen
import Derived.Test.YtcmdgaoddpkeoaaPackLays
namespace Go.Proofs.Ytcmdgaoddpkeoaa
open Go.ChangeShapes Go.WideShapes Go.ChangeAt Go.RowKit Go.Deep

theorem le63 {n : Nat} (h : n ≤ maxLen) : n ≤ 9223372036854775807 := by simpa [maxLen] using h

theorem open_parts {H : Type} {enc : TypeId × Value → H} {w : World} {r : Reach} {b0 base : Nat} {spare : Nat → Bool} {held : Bool} {v : Value} {d : DataW H} {p : List MemPlace}
    (hv : Value.okWide Try.prog w r b0 52 v) (h : DataW.Trod enc Try.prog w base spare held 52 v d p) :
    ∃ (A : Option Addr) (n c : Nat) (ps : List Part), v = .slice A n c ∧ Rd w (fun _ => False) 3 A n (ps.flatMap pcells) ∧ ps.length = n ∧ (∀ q ∈ ps, q.ok) ∧ n ≤ 9223372036854775807 := by
  obtain ⟨A, n, c, rfl⟩ := okWide_slice Try.underlying52 hv
  obtain ⟨fuel, hf⟩ := h
  rcases open_slice_fields Try.underlying52 Try.underlying49 (by kernel_rfl) (by kernel_rfl) hf with ⟨hcs, _⟩ | ⟨x, l, c', m, D, Pl, hcs, _, hl, hm, hmm, _, hx⟩
  · simp [Value.cells] at hcs
    obtain ⟨rfl, rfl, rfl⟩ := hcs
    exact ⟨none, 0, 0, [], rfl, Rd.nil _ _ _ _, rfl, by simp, by omega⟩
  · simp [Value.cells] at hcs
    obtain ⟨rfl, rfl, rfl⟩ := hcs
    have hle : n ≤ m := by rw [hmm]; split <;> omega
    obtain ⟨X, hX⟩ := choose_lt (α := Part) (n := m) (p := fun i q => q.ok ∧ ∀ j u, (pcells q)[j]? = some u → w.cell? (x.add (i * 3 + j)) = some u) (fun i hi => by
      obtain ⟨ys, n', _, _, _, hfs⟩ := hx i hi
      obtain ⟨v0, y0, hc0, _, ht0⟩ := hfs 0 _ rfl
      obtain ⟨v1, y1, hc1, _, ht1⟩ := hfs 1 _ rfl
      obtain ⟨v2, y2, hc2, _, ht2⟩ := hfs 2 _ rfl
      obtain ⟨z0, e0, _, w0⟩ := DataW.trod_int Try.underlying3 ht0
      obtain ⟨z1, e1, _, w1⟩ := DataW.trod_int Try.underlying3 ht1
      obtain ⟨z2, e2, _, w2⟩ := DataW.trod_string Try.underlying9 ht2
      simp at e0 e1 e2
      subst e0 e1 e2
      simp [Lit.wf, IntKind.min, IntKind.max, IntKind.signed, IntKind.bits] at w0 w1
      refine ⟨⟨z0, z1, z2.data.toList⟩, ?_, fun j u hu => ?_⟩
      · unfold Part.ok
        simp only
        have : z2.data.toList.length ≤ 9223372036854775807 := by rw [← Lib.size_eq]; simpa [maxLen] using w2
        omega
      · match j, hu with
        | 0, hu => simp [pcells] at hu; subst hu; exact hc0
        | 1, hu => simp [pcells] at hu; subst hu; exact hc1
        | 2, hu =>
          simp only [pcells, List.getElem?_cons_succ, List.getElem?_cons_zero, Option.some.injEq] at hu
          subst hu
          rw [← S_of]
          exact hc2)
    refine ⟨some x, n, c, (List.range n).map X, rfl, Rd.of_recs (size := 3) (by omega) (fun _ => rfl) (fun i hi => (hX i (by omega)).2), by simp, fun q hq => ?_, le63 (Nat.le_trans hl hm)⟩
    obtain ⟨i, hi, rfl⟩ := List.mem_map.1 hq
    exact (hX i (by have := List.mem_range.1 hi; omega)).1

end Go.Proofs.Ytcmdgaoddpkeoaa
