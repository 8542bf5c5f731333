/- FaceOrders, in plain words: of one name the first one; turned round; whatever order, one face; no statement of the seat is proved here. -/
import Derived.Test.YtkgnoemagklmiaaOf
namespace Go.Proofs.Ytkgnoemagklmiaa
open Go.RowKit

theorem snoc_ind {α : Type} {P : List α → Prop} (h0 : P []) (hs : ∀ l v, P l → P (l ++ [v])) : ∀ l, P l := by
  intro l
  rw [← List.reverse_reverse l]
  induction l.reverse with
  | nil => exact h0
  | cons a t ih =>
    rw [List.reverse_cons]
    exact hs _ _ ih
section
variable {α : Type} (key : α → List UInt8)
/-- Of one name the first one. -/
def firsts (l : List α) : List α := l.foldl (fun acc v => if acc.any (fun a => key a == key v) then acc else acc ++ [v]) []
theorem any_key {l : List α} {k : List UInt8} : (l.any fun a => key a == k) = true ↔ k ∈ l.map key := by
  simp only [List.any_eq_true, beq_iff_eq, List.mem_map]
theorem firsts_snoc (l : List α) (v : α) : firsts key (l ++ [v]) = if (firsts key l).any (fun a => key a == key v) then firsts key l else firsts key l ++ [v] := by
  unfold firsts
  rw [List.foldl_append]
  rfl
theorem firsts_keys (l : List α) : ∀ k, k ∈ (firsts key l).map key ↔ k ∈ l.map key := by
  induction l using snoc_ind with
  | h0 => intro k; exact Iff.rfl
  | hs l v ih =>
    intro k
    rw [firsts_snoc]
    split
    · rename_i h
      have h1 := (ih (key v)).1 ((any_key key).1 h)
      rw [ih k, List.map_append, List.mem_append]
      constructor
      · exact Or.inl
      · rintro (h2 | h2)
        · exact h2
        · simp only [List.map_cons, List.map_nil, List.mem_singleton] at h2
          rw [h2]; exact h1
    · rw [List.map_append, List.map_append, List.mem_append, List.mem_append, ih k]
theorem firsts_step {l : List α} {j : Nat} (h : j < l.length) : firsts key (l.take (j + 1)) = if key l[j] ∈ (l.take j).map key then firsts key (l.take j) else firsts key (l.take j) ++ [l[j]] := by
  rw [List.take_succ_eq_append_getElem h, firsts_snoc]
  by_cases hc : key l[j] ∈ (l.take j).map key
  · rw [if_pos hc, if_pos ((any_key key).2 ((firsts_keys key _ _).2 hc))]
  · rw [if_neg hc, if_neg (fun e => hc ((firsts_keys key _ _).1 ((any_key key).1 e)))]
theorem firsts_len (l : List α) : (firsts key l).length ≤ l.length := by
  induction l using snoc_ind with
  | h0 => exact Nat.le_refl _
  | hs l v ih =>
    rw [firsts_snoc, List.length_append]
    split
    · simp only [List.length_cons, List.length_nil]; omega
    · rw [List.length_append]; omega
theorem firsts_mem {l : List α} : ∀ v ∈ firsts key l, v ∈ l := by
  induction l using snoc_ind with
  | h0 => intro v h; exact h
  | hs l v ih =>
    intro u hu
    rw [firsts_snoc] at hu
    split at hu
    · exact List.mem_append_left _ (ih u hu)
    · rcases List.mem_append.1 hu with h | h
      · exact List.mem_append_left _ (ih u h)
      · exact List.mem_append_right _ h
/-- No two have one name. -/
theorem firsts_one (l : List α) : ∀ a ∈ firsts key l, ∀ b ∈ firsts key l, key a = key b → a = b := by
  induction l using snoc_ind with
  | h0 => intro a h; cases h
  | hs l v ih =>
    rw [firsts_snoc]
    split
    · exact ih
    · rename_i hn
      have hno : ∀ a ∈ firsts key l, key a ≠ key v := fun a ha e => hn ((any_key key).2 (List.mem_map.2 ⟨a, ha, e⟩))
      intro a ha b hb e
      rcases List.mem_append.1 ha with ha1 | ha1
      · rcases List.mem_append.1 hb with hb1 | hb1
        · exact ih a ha1 b hb1 e
        · exact absurd (e.trans (by rw [List.mem_singleton.1 hb1])) (hno a ha1)
      · rcases List.mem_append.1 hb with hb1 | hb1
        · exact absurd (e.symm.trans (by rw [List.mem_singleton.1 ha1])) (hno b hb1)
        · rw [List.mem_singleton.1 ha1, List.mem_singleton.1 hb1]

/-- Turned round. -/
def turnd (r : Nat) (l : List α) : List α := l.drop (r % l.length) ++ l.take (r % l.length)
omit key in
theorem turnd_len (r : Nat) (l : List α) : (turnd r l).length = l.length := by
  unfold turnd
  rw [List.length_append, List.length_drop, List.length_take]
  rcases Nat.eq_zero_or_pos l.length with h | h
  · rw [h]; simp
  · have := Nat.mod_lt r h
    omega
omit key in
theorem turnd_perm (r : Nat) (l : List α) : (turnd r l).Perm l := by
  unfold turnd
  refine List.perm_append_comm.trans ?_
  rw [List.take_append_drop]
omit key in
theorem turnd_at (r : Nat) (l : List α) {i : Nat} (h : i < l.length) : (turnd r l)[i]'(by rw [turnd_len]; exact h) = l[(i + r) % l.length]'(Nat.mod_lt _ (by omega)) := by
  have hp : 0 < l.length := by omega
  have hm := Nat.mod_lt r hp
  have he : (i + r) % l.length = (i + r % l.length) % l.length := by rw [Nat.add_mod_mod]
  unfold turnd
  rw [List.getElem_append]
  split
  · rename_i h1
    rw [List.length_drop] at h1
    have e1 : (i + r) % l.length = i + r % l.length := by rw [he]; exact Nat.mod_eq_of_lt (by omega)
    rw [List.getElem_drop]
    congr 1
    rw [e1]
    omega
  · rename_i h1
    rw [List.length_drop] at h1
    have e2 : (i + r) % l.length = i + r % l.length - l.length := by
      rw [he, Nat.mod_eq_sub_mod (by omega)]
      exact Nat.mod_eq_of_lt (by omega)
    rw [List.getElem_take]
    congr 1
    rw [e2, List.length_drop]
    omega
end

/-- Whatever the order of members: one face. -/
theorem face_one {f g : Fc} {X Y : List Vr} {A B : List SgQ} (hn : f.n = g.n) (hs : f.su = g.su) (hf : f.fs.Perm X) (hg : g.fs.Perm Y) (hXY : Y.Perm X) (rf : Ris Vr.n f.fs) (rg : Ris Vr.n g.fs) (ho : ∀ a ∈ X, ∀ b ∈ X, a.n = b.n → a = b)
    (mf : (f.ms.map Sg.p).Perm A) (mg : (g.ms.map Sg.p).Perm B) (hAB : B.Perm A) (qf : Ris Sg.n f.ms) (qg : Ris Sg.n g.ms) (hp : ∀ a ∈ A, ∀ b ∈ A, a.1 = b.1 → a = b) : f.p = g.p := by
  have h1 : f.fs = g.fs := ris_unique rf rg (hf.trans (hXY.symm.trans hg.symm)) (fun a ha b hb e => ho a (hf.mem_iff.1 ha) b (hf.mem_iff.1 hb) e)
  have h2 : f.ms.map Sg.p = g.ms.map Sg.p := by
    refine ris_unique (key := fun x : SgQ => x.1) ?_ ?_ (mf.trans (hAB.symm.trans mg.symm)) (fun a ha b hb e => hp a (mf.mem_iff.1 ha) b (mf.mem_iff.1 hb) e)
    · unfold Ris at qf ⊢
      rw [List.pairwise_map]
      exact qf
    · unfold Ris at qg ⊢
      rw [List.pairwise_map]
      exact qg
  simp only [Fc.p, hn, hs, h1, h2]
end Go.Proofs.Ytkgnoemagklmiaa
