/- Chains of classes in plain Lean: who is above whom goes on, the lowest common one is the same from both sides; no program in sight. -/
import Derived.Test.YtmhnfilingebfaaHierUp
namespace Go.Proofs.Ytmhnfilingebfaa

/-- The chain from a name on, where it ends. -/
def ch (T : List Fc) : Nat → List UInt8 → Option (List (List UInt8))
  | 0, _ => none
  | j + 1, nm => if nm = [] then some [] else if (get T nm).isSome = true then (ch T j (faceF T nm).su).map (nm :: ·) else none

theorem ch_mono (T : List Fc) : ∀ (j : Nat) (nm : List UInt8) (t : List (List UInt8)), ch T j nm = some t → ∀ j', j ≤ j' → ch T j' nm = some t
  | 0, nm, t, h, _, _ => by simp [ch] at h
  | j + 1, nm, t, h, 0, hj => by omega
  | j + 1, nm, t, h, j' + 1, hj => by
    unfold ch at h ⊢
    split
    · rename_i e; rwa [if_pos e] at h
    · rename_i e
      rw [if_neg e] at h
      split
      · rename_i hg
        rw [if_pos hg] at h
        cases hc : ch T j (faceF T nm).su with
        | none => rw [hc] at h; simp at h
        | some u => rw [ch_mono T j _ u hc j' (by omega)]; rw [hc] at h; exact h
      · rename_i hg
        rw [if_neg hg] at h; simp at h

theorem ch_det {T : List Fc} {j j' : Nat} {nm : List UInt8} {t t' : List (List UInt8)} (h : ch T j nm = some t) (h' : ch T j' nm = some t') : t = t' := by
  have h1 := ch_mono T j nm t h (max j j') (by omega)
  have h2 := ch_mono T j' nm t' h' (max j j') (by omega)
  rw [h1] at h2
  injection h2

theorem ch_suffix (T : List Fc) : ∀ (p : List (List UInt8)) (j : Nat) (nm x : List UInt8) (q : List (List UInt8)), ch T j nm = some (p ++ x :: q) → ∃ j', j' ≤ j ∧ ch T j' x = some (x :: q)
  | _, 0, nm, x, q, h => by simp [ch] at h
  | [], j + 1, nm, x, q, h => by
    have h0 := h
    unfold ch at h
    split at h
    · simp at h
    · split at h
      · cases hc : ch T j (faceF T nm).su with
        | none => rw [hc] at h; simp at h
        | some u =>
          rw [hc] at h
          simp at h
          obtain ⟨rfl, rfl⟩ := h
          exact ⟨j + 1, Nat.le_refl _, h0⟩
      · simp at h
  | y :: p, j + 1, nm, x, q, h => by
    unfold ch at h
    split at h
    · simp at h
    · split at h
      · cases hc : ch T j (faceF T nm).su with
        | none => rw [hc] at h; simp at h
        | some u =>
          rw [hc] at h
          simp at h
          obtain ⟨rfl, rfl⟩ := h
          obtain ⟨j', hj, hx⟩ := ch_suffix T p j _ x q hc
          exact ⟨j', by omega, hx⟩
      · simp at h

theorem up_ch (T : List Fc) : ∀ (j : Nat) (out : List (List UInt8)) (nm : List UInt8), (up T j out nm).2 = true → out.Nodup → ∃ t, ch T j nm = some t ∧ (up T j out nm).1 = out ++ t ∧ (out ++ t).Nodup
  | 0, out, nm, h, _ => by simp [up] at h
  | j + 1, out, nm, h, hn => by
    unfold up at h ⊢
    unfold ch
    split at h
    · rename_i e
      rw [if_pos e, if_pos e]
      exact ⟨[], rfl, by simp, by simpa using hn⟩
    · rename_i e
      rw [if_neg e, if_neg e]
      split at h
      · rename_i hg
        rw [if_pos hg, if_pos hg.1]
        obtain ⟨t, h1, h2, h3⟩ := up_ch T j (out ++ [nm]) _ h (by
          rw [List.nodup_append]
          exact ⟨hn, by simp, fun x hx y hy => by rw [List.mem_singleton] at hy; subst hy; rintro rfl; exact hg.2 hx⟩)
        exact ⟨nm :: t, by rw [h1]; rfl, by rw [h2]; simp, by simpa using h3⟩
      · simp at h

/-- A whole chain. -/
theorem whole_ch {T : List Fc} {a : List UInt8} (h : (up T 20 [] a).2 = true) : ch T 20 a = some (up T 20 [] a).1 ∧ (up T 20 [] a).1.Nodup := by
  obtain ⟨t, h1, h2, h3⟩ := up_ch T 20 [] a h List.nodup_nil
  rw [List.nil_append] at h2 h3
  rw [h2]
  exact ⟨h1, h3⟩

theorem up_trans {T : List Fc} {a b c : List UInt8} (ha : (up T 20 [] a).2 = true) (hb : (up T 20 [] b).2 = true) (h1 : b ∈ (up T 20 [] a).1) (h2 : c ∈ (up T 20 [] b).1) : c ∈ (up T 20 [] a).1 := by
  obtain ⟨ca, _⟩ := whole_ch ha
  obtain ⟨cb, _⟩ := whole_ch hb
  obtain ⟨p, q, e⟩ := List.append_of_mem h1
  rw [e] at ca
  obtain ⟨j', _, hx⟩ := ch_suffix T p 20 a b q ca
  rw [ch_det cb hx] at h2
  rw [e]
  exact List.mem_append_right _ h2

theorem find_symm {T : List Fc} {a b : List UInt8} (ha : (up T 20 [] a).2 = true) (hb : (up T 20 [] b).2 = true) {x : List UInt8} (h : (up T 20 [] a).1.find? (fun x => decide (x ∈ (up T 20 [] b).1)) = some x) :
    (up T 20 [] b).1.find? (fun x => decide (x ∈ (up T 20 [] a).1)) = some x := by
  obtain ⟨ca, na⟩ := whole_ch ha
  obtain ⟨cb, nb⟩ := whole_ch hb
  obtain ⟨hx, p, q, e, hp⟩ := List.find?_eq_some_iff_append.1 h
  have hxb : x ∈ (up T 20 [] b).1 := by simpa using hx
  obtain ⟨p', q', e'⟩ := List.append_of_mem hxb
  have ca' := ca
  have cb' := cb
  rw [e] at ca'
  rw [e'] at cb'
  obtain ⟨_, _, h1⟩ := ch_suffix T p 20 a x q ca'
  obtain ⟨_, _, h2⟩ := ch_suffix T p' 20 b x q' cb'
  have hq := ch_det h1 h2
  injection hq with _ hq
  subst hq
  rw [List.find?_eq_some_iff_append]
  refine ⟨by rw [e]; simp, p', q, e', fun y hy => ?_⟩
  have hyb : y ∈ (up T 20 [] b).1 := by rw [e']; exact List.mem_append_left _ hy
  rw [e', List.nodup_append] at nb
  have hyx : y ∉ x :: q := fun hm => nb.2.2 y hy y hm rfl
  have : y ∉ (up T 20 [] a).1 := by
    rw [e]
    intro hm
    rcases List.mem_append.1 hm with h | h
    · have := hp y h
      simp at this
      exact this hyb
    · exact hyx h
  simpa using this

theorem common_symm {T : List Fc} {a b : List UInt8} (ha : (up T 20 [] a).2 = true) (hb : (up T 20 [] b).2 = true) : common T a b = common T b a := by
  unfold common
  cases h : (up T 20 [] a).1.find? (fun x => decide (x ∈ (up T 20 [] b).1)) with
  | some x => rw [find_symm ha hb h]
  | none =>
    cases h' : (up T 20 [] b).1.find? (fun x => decide (x ∈ (up T 20 [] a).1)) with
    | none => rfl
    | some x => rw [find_symm hb ha h'] at h; cases h

theorem common_mem {T : List Fc} {a b : List UInt8} (h : common T a b ≠ []) : common T a b ∈ (up T 20 [] a).1 ∧ common T a b ∈ (up T 20 [] b).1 := by
  unfold common at h ⊢
  cases hf : (up T 20 [] a).1.find? (fun x => decide (x ∈ (up T 20 [] b).1)) with
  | none => rw [hf] at h; exact absurd rfl h
  | some x =>
    have h1 := List.mem_of_find?_eq_some hf
    have h2 := List.find?_some hf
    exact ⟨h1, by simpa using h2⟩
end Go.Proofs.Ytmhnfilingebfaa
