/- What the rows' own bound on an argument's sizes tells of its parts; no statement of the seat is proved here. -/
import Derived.Test.YtleccalfcnkklaaDoorRecs
import GoSem.ClaimJoined
namespace Go.Proofs.YtleccalfcnkklaaDoor
open Go.ChangeShapes Go.WideShapes Go.ChangeAt Go.RowKit Go.Deep

section
variable {H : Type} {enc : TypeId × Value → H} {P : Program} {w : World} {base : Nat} {spare : Nat → Bool} {held : Bool}

/-- No part of a datum takes more than the row's bound. -/
def Light (P : Program) (t : TypeId) (d : DataW H) : Prop := ∀ x ∈ d.weights P t, x ≤ 140737488351232
theorem weightsAll_mem {e : TypeId} {d : DataW H} {x : Nat} : ∀ {l : List (DataW H)}, d ∈ l → x ∈ d.weights P e → x ∈ DataW.weightsAll P e l
  | [], h, _ => by cases h
  | a :: l, h, hx => by
    rw [DataW.weightsAll, List.mem_append]
    rcases List.mem_cons.1 h with rfl | h
    · exact Or.inl hx
    · exact Or.inr (weightsAll_mem h hx)
theorem weightsEach_mem {t : TypeId} {d : DataW H} {x : Nat} : ∀ {ts : List TypeId} {l : List (DataW H)} {i : Nat}, ts[i]? = some t → l[i]? = some d → x ∈ d.weights P t → x ∈ DataW.weightsEach P ts l
  | [], _, _, h, _, _ => by simp at h
  | _ :: _, [], _, _, h, _ => by simp at h
  | a :: ts, b :: l, 0, h1, h2, hx => by
    simp only [List.getElem?_cons_zero, Option.some.injEq] at h1 h2
    subst h1 h2
    rw [DataW.weightsEach, List.mem_append]
    exact Or.inl hx
  | a :: ts, b :: l, i + 1, h1, h2, hx => by
    simp only [List.getElem?_cons_succ] at h1 h2
    rw [DataW.weightsEach, List.mem_append]
    exact Or.inr (weightsEach_mem h1 h2 hx)
theorem light_str {t : TypeId} {l : List UInt8} (h : Light P t (.lit (.string l) : DataW H)) : l.length ≤ 140737488351232 := h _ (by rw [DataW.weights]; exact List.mem_singleton.2 rfl)
theorem light_slice {t e : TypeId} {elems sp : List (DataW H)} (ht : P.underlying t = some (.slice e)) (h : Light P t (.slice elems sp)) : ∀ d ∈ elems, Light P e d := by
  intro d hd x hx
  refine h x ?_
  rw [DataW.weights]
  simp only [ht]
  exact List.mem_cons_of_mem _ (List.mem_append_left _ (weightsAll_mem hd hx))
theorem light_len {t e : TypeId} {elems sp : List (DataW H)} (ht : P.underlying t = some (.slice e)) (h : Light P t (.slice elems sp)) : (elems.length + sp.length) * P.bytesOf e ≤ 140737488351232 := by
  refine h _ ?_
  rw [DataW.weights]
  simp only [ht]
  exact List.mem_cons_self
theorem light_agg {t : TypeId} {fs : Array Field} {parts : List (DataW H)} (ht : P.underlying t = some (.struct fs)) (h : Light P t (.agg parts)) {i : Nat} {f : Field} {d : DataW H} (hf : fs[i]? = some f) (hd : parts[i]? = some d) : Light P f.type d := by
  intro x hx
  refine h x ?_
  rw [DataW.weights]
  simp only [ht]
  exact weightsEach_mem (i := i) (t := f.type) (by simp [hf]) hd hx
theorem lights {ts : List TypeId} {ds : List (DataW H)} (h : (DataW.weightsEach P ts ds).all (· ≤ reachBytes) = true) {i : Nat} {t : TypeId} {d : DataW H} (ht : ts[i]? = some t) (hd : ds[i]? = some d) : Light P t d := by
  intro x hx
  have := List.all_eq_true.1 h x (weightsEach_mem ht hd hx)
  have e : reachBytes = 140737488351232 := rfl
  rw [e] at this
  simpa using this

/-- A struct's fields, each with its datum. -/
theorem trod_fldW {t : TypeId} {fs : Array Field} {fuel : Nat} {cs : List Value} {x : DataW H × List MemPlace} (ht : P.underlying t = some (.struct fs)) (h : DataW.trod enc P w base spare held fuel t cs = some x) (hl : Light P t x.1) :
    cs.length = P.cellsOf t ∧ ∃ n, ∀ (i : Nat) (f : Field), fs[i]? = some f → ∃ y, DataW.trod enc P w base spare held n f.type ((cs.drop f.offset).take (P.cellsOf f.type)) = some y ∧ Light P f.type y.1 := by
  obtain ⟨xs, n', _, hx, hcl, hxl, hf⟩ := DataW.trod_struct ht h
  refine ⟨hcl, n', fun i f hi => ?_⟩
  have hix : i < xs.length := by have := (Array.getElem?_eq_some_iff.1 hi).1; omega
  refine ⟨_, (hf i f hi).trans (List.getElem?_eq_getElem hix), ?_⟩
  rw [hx] at hl
  exact light_agg ht hl hi (by simp [hix])
/-- A string, with its bound. -/
theorem trod_strW {t : TypeId} {fuel : Nat} {cs : List Value} {y : DataW H × List MemPlace} (ht : P.underlying t = some .string) (h : DataW.trod enc P w base spare held fuel t cs = some y) (hl : Light P t y.1) : ∃ s : List UInt8, cs = [S s] ∧ s.length ≤ 140737488351232 := by
  obtain ⟨s, rfl, hy, hs⟩ := DataW.trod_string ht h
  rw [hy] at hl
  exact ⟨s.data.toList, by rw [← S_of], light_str hl⟩
/-- A slice whose elements are read by a law of their own, with their bounds. -/
theorem open_recsW {t e : TypeId} {α : Type} {f : α → List Value} {size fuel : Nat} {A : Option Addr} {n c : Nat} {y : DataW H × List MemPlace} (OK : α → Prop) (ht : P.underlying t = some (.slice e)) (hC : P.cellsOf e = size) (hs : 0 < size) (hf : ∀ x, (f x).length = size)
    (hel : ∀ cs n' y, DataW.trod enc P w base spare held n' e cs = some y → Light P e y.1 → ∃ x, cs = f x ∧ OK x)
    (h : DataW.trod enc P w base spare held fuel t [.slice A n c] = some y) (hl : Light P t y.1) :
    ∃ l : List α, Rd w (fun _ => False) size A n (l.flatMap f) ∧ l.length = n ∧ (∀ x ∈ l, OK x) ∧ n ≤ 9223372036854775807 := by
  rcases open_slice ht h with ⟨hcs, _⟩ | ⟨a, len, cap, m, n', D, Pl, hcs, _, hl', hm, hmm, hy, hx⟩
  · simp at hcs
    obtain ⟨rfl, rfl, rfl⟩ := hcs
    exact ⟨[], Rd.nil _ _ _ _, rfl, by simp, by omega⟩
  · simp at hcs
    obtain ⟨rfl, rfl, rfl⟩ := hcs
    have hle : n ≤ m := by rw [hmm]; split <;> omega
    rw [hy] at hl
    have hLD : ∀ i, i < n → Light P e (D i) := fun i hi => light_slice ht hl _ (List.mem_map.2 ⟨i, List.mem_range.2 hi, rfl⟩)
    have hX' : ∃ X : Nat → Option α, ∀ i, i < n → ∃ q, X i = some q ∧ OK q ∧ ∀ j u, (f q)[j]? = some u → w.cell? (a.add (i * size + j)) = some u := by
      refine choose_lt (α := Option α) (n := n) (p := fun i q' => ∃ q, q' = some q ∧ OK q ∧ ∀ j u, (f q)[j]? = some u → w.cell? (a.add (i * size + j)) = some u) (fun i hi => ?_)
      obtain ⟨cs', hc, hd⟩ := hx i (by omega)
      obtain ⟨q, rfl, hok⟩ := hel cs' n' _ hd (hLD i hi)
      refine ⟨some q, q, rfl, hok, fun j u hu => ?_⟩
      obtain ⟨_, hcl, hat⟩ := World.cells?_some hc
      rw [hC] at hcl hat
      have hj : j < size := by
        have := (List.getElem?_eq_some_iff.1 hu).1
        rwa [hf] at this
      rw [← Go.Deep.add_add, hat j hj, hu]
    obtain ⟨X, hX⟩ := hX'
    rcases Nat.eq_zero_or_pos n with h0 | h0
    · subst h0
      exact ⟨[], Rd.nil _ _ _ _, rfl, by simp, by omega⟩
    · obtain ⟨q0, _⟩ := hX 0 (by omega)
      let Y : Nat → α := fun i => (X i).getD q0
      have hY : ∀ i, i < n → OK (Y i) ∧ ∀ j u, (f (Y i))[j]? = some u → w.cell? (a.add (i * size + j)) = some u := by
        intro i hi
        obtain ⟨q, e1, e2, e3⟩ := hX i hi
        have : Y i = q := by show (X i).getD q0 = q; rw [e1]; rfl
        rw [this]
        exact ⟨e2, e3⟩
      refine ⟨(List.range n).map Y, Rd.of_recs (size := size) hs hf (fun i hi => (hY i (by omega)).2), by simp, fun q hq => ?_, le63 (Nat.le_trans hl' hm)⟩
      obtain ⟨i, hi, rfl⟩ := List.mem_map.1 hq
      exact (hY i (by have := List.mem_range.1 hi; omega)).1
end
end Go.Proofs.YtleccalfcnkklaaDoor
