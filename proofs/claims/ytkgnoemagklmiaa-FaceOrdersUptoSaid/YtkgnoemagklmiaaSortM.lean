/- Texts compared, and rows in order of their texts: the plain laws; no statement of the seat is proved here. -/
import Derived.Test.YtkgnoemagklmiaaFaceM
import Derived.Lib.Bytealg
namespace Go.Proofs.Ytkgnoemagklmiaa
open Go.RowKit

theorem cb_self : ∀ a : List UInt8, Lib.compareBytes a a = 0
  | [] => rfl
  | x :: a => by simp [Lib.compareBytes, cb_self a]
theorem cb_anti : ∀ a b : List UInt8, Lib.compareBytes b a = - Lib.compareBytes a b
  | [], [] => rfl
  | [], _ :: _ => rfl
  | _ :: _, [] => rfl
  | x :: a, y :: b => by
    simp only [Lib.compareBytes]
    by_cases h1 : x < y
    · have h2 : ¬ y < x := fun h => by simp only [UInt8.lt_iff_toNat_lt] at *; omega
      simp [h1, h2]
    · by_cases h2 : y < x
      · simp [h1, h2]
      · simp [h1, h2, cb_anti a b]
theorem cb_zero : ∀ {a b : List UInt8}, Lib.compareBytes a b = 0 → a = b
  | [], [], _ => rfl
  | [], _ :: _, h => by simp [Lib.compareBytes] at h
  | _ :: _, [], h => by simp [Lib.compareBytes] at h
  | x :: a, y :: b, h => by
    simp only [Lib.compareBytes] at h
    split at h
    · cases h
    · split at h
      · cases h
      · rename_i h1 h2
        rw [cb_zero h, show x = y from UInt8.toNat_inj.1 (by simp only [UInt8.lt_iff_toNat_lt] at *; omega)]
theorem cb_range : ∀ a b : List UInt8, Lib.compareBytes a b = -1 ∨ Lib.compareBytes a b = 0 ∨ Lib.compareBytes a b = 1
  | [], [] => .inr (.inl rfl)
  | [], _ :: _ => .inl rfl
  | _ :: _, [] => .inr (.inr rfl)
  | x :: a, y :: b => by
    simp only [Lib.compareBytes]
    split
    · exact .inl rfl
    · split
      · exact .inr (.inr rfl)
      · exact cb_range a b
/-- Not behind. -/
def leN (a b : List UInt8) : Prop := Lib.compareBytes a b ≤ 0
theorem leN_trans : ∀ {a b c : List UInt8}, leN a b → leN b c → leN a c
  | [], _, [], _, _ => by simp [leN, Lib.compareBytes]
  | [], _, _ :: _, _, _ => by simp [leN, Lib.compareBytes]
  | _ :: _, [], _, h, _ => by simp [leN, Lib.compareBytes] at h
  | _ :: _, _ :: _, [], _, h => by simp [leN, Lib.compareBytes] at h
  | x :: a, y :: b, z :: c, h1, h2 => by
    unfold leN at *
    simp only [Lib.compareBytes] at *
    by_cases e1 : x < z
    · simp [e1]
    · simp only [UInt8.lt_iff_toNat_lt] at *
      by_cases e2 : x.toNat < y.toNat
      · have : z.toNat < y.toNat := by omega
        rw [if_neg (by omega), if_pos this] at h2
        omega
      · rw [if_neg e2] at h1
        by_cases e3 : y.toNat < x.toNat
        · rw [if_pos e3] at h1; omega
        · rw [if_neg e3] at h1
          by_cases e4 : y.toNat < z.toNat
          · omega
          · rw [if_neg e4] at h2
            by_cases e5 : z.toNat < y.toNat
            · rw [if_pos e5] at h2; omega
            · rw [if_neg e5] at h2
              rw [if_neg e1, if_neg (by omega)]
              exact leN_trans h1 h2
theorem leN_of_lt {a b : List UInt8} (h : Lib.compareBytes a b < 0) : leN a b := by unfold leN; omega
theorem leN_of_not {a b : List UInt8} (h : ¬ Lib.compareBytes a b < 0) : leN b a := by unfold leN; rw [cb_anti]; omega
theorem leN_antisymm {a b : List UInt8} (h1 : leN a b) (h2 : leN b a) : a = b := by
  unfold leN at *
  rw [cb_anti] at h2
  exact cb_zero (by omega)

section
variable {α : Type} (key : α → List UInt8)
/-- In order of their texts. -/
def Ris (l : List α) : Prop := l.Pairwise (fun a b => leN (key a) (key b))
variable {key}
theorem ris_one (x : α) : Ris key [x] := List.pairwise_singleton _ _
/-- x goes in where it belongs. -/
theorem ris_ins {A B : List α} {x : α} (h : Ris key (A ++ B)) (hb : ∀ b ∈ B, Lib.compareBytes (key x) (key b) < 0) (ha : ∀ A' a, A = A' ++ [a] → ¬ Lib.compareBytes (key x) (key a) < 0) : Ris key (A ++ x :: B) := by
  unfold Ris at *
  rw [List.pairwise_append] at h ⊢
  obtain ⟨h1, h2, h3⟩ := h
  have hax : ∀ a ∈ A, leN (key a) (key x) := by
    intro a hm
    rcases List.eq_nil_or_concat A with rfl | ⟨A', y, rfl⟩
    · cases hm
    · have hy := leN_of_not (ha A' y (by simp))
      rw [List.concat_eq_append] at hm h1
      rcases List.mem_append.1 hm with hm | hm
      · rw [List.pairwise_append] at h1
        exact leN_trans (h1.2.2 a hm y (by simp)) hy
      · obtain rfl := List.mem_singleton.1 hm
        exact hy
  refine ⟨h1, List.pairwise_cons.2 ⟨fun b hm => leN_of_lt (hb b hm), h2⟩, ?_⟩
  intro a hm b hb'
  rcases List.mem_cons.1 hb' with rfl | hb'
  · exact hax a hm
  · exact h3 a hm b hb'
/-- Of one order there is one row, where no two have one text. -/
theorem ris_unique {l l' : List α} (h : Ris key l) (h' : Ris key l') (hp : l.Perm l') (hk : ∀ a ∈ l, ∀ b ∈ l, key a = key b → a = b) : l = l' := by
  refine List.Perm.eq_of_pairwise (le := fun a b => leN (key a) (key b)) ?_ h h' hp
  intro a b ha hb h1 h2
  exact hk a ha b (hp.mem_iff.2 hb) (leN_antisymm h1 h2)

theorem flat_len' {f : α → List Value} {k : Nat} (hf : ∀ x, (f x).length = k) (l : List α) : (l.flatMap f).length = l.length * k := by
  induction l with
  | nil => simp
  | cons x l ih => rw [List.flatMap_cons, List.length_append, hf, ih, List.length_cons, Nat.succ_mul]; omega
theorem flat_mid {f : α → List Value} {k : Nat} (hf : ∀ x, (f x).length = k) (A R : List α) (x : α) (tl : List Value) (i : Nat) (hi : i < k) : ((A ++ x :: R).flatMap f ++ tl).toArray[A.length * k + i]? = (f x)[i]? := by
  rw [List.getElem?_toArray, List.flatMap_append, List.flatMap_cons, List.append_assoc, List.getElem?_append_right (by rw [flat_len' hf]; omega), flat_len' hf, Nat.add_sub_cancel_left, List.append_assoc, List.getElem?_append_left (by rw [hf]; exact hi)]
theorem set_at (L M : List Value) (n i : Nat) (v : Value) (h : L.length = n) : (L ++ M).set (n + i) v = L ++ M.set i v := by
  subst h
  rw [List.set_append_right _ _ (by omega), Nat.add_sub_cancel_left]
theorem set_at0 (L M : List Value) (n : Nat) (v : Value) (h : L.length = n) : (L ++ M).set n v = L ++ M.set 0 v := set_at L M n 0 v h
theorem flat_at' {f : α → List Value} {k : Nat} (hf : ∀ x, (f x).length = k) (A R : List α) (x : α) (tl : List Value) (i : Nat) (hi : i < k) {j : Nat} (hj : A.length = j) : ((A ++ x :: R).flatMap f ++ tl).toArray[j * k + i]? = (f x)[i]? := by
  subst hj; exact flat_mid hf A R x tl i hi
end
end Go.Proofs.Ytkgnoemagklmiaa
