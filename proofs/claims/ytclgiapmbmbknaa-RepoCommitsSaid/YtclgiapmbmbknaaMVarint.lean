/- Plain mathematics of package pack's numbers: seven bits a byte, the lowest first; no program in sight. -/
namespace Go.Proofs.Ytclgiapmbmbknaa

/-- A number as bytes, seven bits each. -/
def vi (n : Nat) : List UInt8 := if h : n < 128 then [UInt8.ofNat n] else UInt8.ofNat (n % 128 + 128) :: vi (n / 128)
termination_by n
decreasing_by omega

theorem vi_small {n : Nat} (h : n < 128) : vi n = [UInt8.ofNat n] := by rw [vi, dif_pos h]
theorem vi_big {n : Nat} (h : ¬ n < 128) : vi n = UInt8.ofNat (n % 128 + 128) :: vi (n / 128) := by rw [vi, dif_neg h]

theorem vi_pos (n : Nat) : 1 ≤ (vi n).length := by
  by_cases h : n < 128
  · rw [vi_small h]; simp
  · rw [vi_big h]; simp

theorem vi_ne (n : Nat) : vi n ≠ [] := by
  intro h
  have := vi_pos n
  rw [h] at this
  simp at this

theorem vi_len_mono : ∀ (m n : Nat), m ≤ n → (vi m).length ≤ (vi n).length := by
  intro m
  induction m using Nat.strongRecOn with
  | ind m ih =>
    intro n hn
    by_cases h : m < 128
    · rw [vi_small h]
      exact vi_pos n
    · rw [vi_big h, vi_big (n := n) (by omega)]
      simp only [List.length_cons]
      have := ih (m / 128) (by omega) (n / 128) (Nat.div_le_div_right hn)
      omega

/-- At most ten bytes. -/
theorem vi_len_le (n : Nat) (k : Nat) (h : n < 128 ^ (k + 1)) : (vi n).length ≤ k + 1 := by
  induction k generalizing n with
  | zero => rw [vi_small (by simpa using h)]; simp
  | succ k ih =>
    by_cases hs : n < 128
    · rw [vi_small hs]; simp
    · rw [vi_big hs]
      simp only [List.length_cons]
      have : n / 128 < 128 ^ (k + 1) := by
        rw [Nat.div_lt_iff_lt_mul (by omega), ← Nat.pow_succ]
        exact h
      have := ih _ this
      omega

theorem vi_len_10 (n : Nat) (h : n < 18446744073709551616) : (vi n).length ≤ 10 := vi_len_le n 9 (Nat.lt_of_lt_of_le h (by decide))

theorem toNat_ofNat_u8 {a : Nat} (h : a < 256) : (UInt8.ofNat a).toNat = a := by simp; omega

/-- No number's bytes are the beginning of another one's. -/
theorem vi_inj : ∀ (m n : Nat) (r s : List UInt8), vi m ++ r = vi n ++ s → m = n ∧ r = s := by
  intro m
  induction m using Nat.strongRecOn with
  | ind m ih =>
    intro n r s h
    by_cases hm : m < 128 <;> by_cases hn : n < 128
    · rw [vi_small hm, vi_small hn] at h
      simp only [List.cons_append, List.nil_append, List.cons.injEq] at h
      have e := congrArg UInt8.toNat h.1
      rw [toNat_ofNat_u8 (by omega), toNat_ofNat_u8 (by omega)] at e
      exact ⟨e, h.2⟩
    · rw [vi_small hm, vi_big hn] at h
      simp only [List.cons_append, List.cons.injEq] at h
      have e := congrArg UInt8.toNat h.1
      rw [toNat_ofNat_u8 (by omega), toNat_ofNat_u8 (by omega)] at e
      omega
    · rw [vi_big hm, vi_small hn] at h
      simp only [List.cons_append, List.cons.injEq] at h
      have e := congrArg UInt8.toNat h.1
      rw [toNat_ofNat_u8 (by omega), toNat_ofNat_u8 (by omega)] at e
      omega
    · rw [vi_big hm, vi_big hn] at h
      simp only [List.cons_append, List.cons.injEq] at h
      have e := congrArg UInt8.toNat h.1
      rw [toNat_ofNat_u8 (by omega), toNat_ofNat_u8 (by omega)] at e
      have := ih (m / 128) (by omega) (n / 128) r s h.2
      exact ⟨by omega, this.2⟩

/-- Many numbers, one behind the other. -/
def vis (l : List Nat) : List UInt8 := l.flatMap vi
theorem vis_nil : vis [] = [] := rfl
theorem vis_cons (n : Nat) (l : List Nat) : vis (n :: l) = vi n ++ vis l := rfl
theorem vis_append (a b : List Nat) : vis (a ++ b) = vis a ++ vis b := by simp [vis]
theorem vis_len (l : List Nat) (h : ∀ n ∈ l, n < 18446744073709551616) : (vis l).length ≤ 10 * l.length := by
  induction l with
  | nil => simp [vis]
  | cons n l ih =>
    rw [vis_cons, List.length_append, List.length_cons]
    have h1 := vi_len_10 n (h n (by simp))
    have h2 := ih fun m hm => h m (by simp [hm])
    omega

theorem vis_inj : ∀ (a b : List Nat) (r s : List UInt8), a.length = b.length → vis a ++ r = vis b ++ s → a = b ∧ r = s := by
  intro a
  induction a with
  | nil =>
    intro b r s hl h
    have : b = [] := List.eq_nil_of_length_eq_zero (by simpa using hl.symm)
    subst this
    exact ⟨rfl, by simpa [vis] using h⟩
  | cons m a ih =>
    intro b r s hl h
    cases b with
    | nil => simp at hl
    | cons n b =>
      rw [vis_cons, vis_cons, List.append_assoc, List.append_assoc] at h
      obtain ⟨rfl, h2⟩ := vi_inj m n _ _ h
      obtain ⟨rfl, h3⟩ := ih b r s (by simpa using hl) h2
      exact ⟨rfl, h3⟩

/-- The first k of a row of Go's numbers; below nought is nought. -/
def visTo (l : List Int) (k : Nat) : List UInt8 := vis ((l.take k).map Int.toNat)
def visAll (l : List Int) : List UInt8 := vis (l.map Int.toNat)
theorem visTo_zero (l : List Int) : visTo l 0 = [] := rfl
theorem visTo_succ (l : List Int) (k : Nat) (h : k < l.length) : visTo l (k + 1) = visTo l k ++ vi l[k].toNat := by
  unfold visTo
  rw [List.take_succ_eq_append_getElem h, List.map_append, vis_append]
  simp [vis]
theorem visTo_all (l : List Int) (k : Nat) (h : l.length ≤ k) : visTo l k = visAll l := by
  unfold visTo visAll
  rw [List.take_of_length_le h]
theorem visTo_len (l : List Int) (k : Nat) (h : ∀ x ∈ l, x ≤ 9223372036854775807) : (visTo l k).length ≤ 10 * k := by
  have := vis_len ((l.take k).map Int.toNat) (by
    intro m hm
    simp only [List.mem_map] at hm
    obtain ⟨z, hzm, rfl⟩ := hm
    have := h z (List.mem_of_mem_take hzm)
    omega)
  simp only [List.length_map, List.length_take] at this
  unfold visTo
  omega

/-- What a list's elements are as bytes, one behind the other: the first k of them. -/
def catTo {α : Type} (f : α → List UInt8) (l : List α) (k : Nat) : List UInt8 := (l.take k).flatMap f
def catAll {α : Type} (f : α → List UInt8) (l : List α) : List UInt8 := l.flatMap f
section
variable {α : Type} (f : α → List UInt8) (l : List α)
theorem catTo_zero : catTo f l 0 = [] := rfl
theorem catTo_succ (k : Nat) (h : k < l.length) : catTo f l (k + 1) = catTo f l k ++ f l[k] := by
  unfold catTo
  rw [List.take_succ_eq_append_getElem h, List.flatMap_append]
  simp
theorem catTo_all (k : Nat) (h : l.length ≤ k) : catTo f l k = catAll f l := by
  unfold catTo catAll
  rw [List.take_of_length_le h]
theorem catTo_le (k : Nat) (h : k < l.length) : (catTo f l k).length + (f l[k]).length ≤ (catAll f l).length := by
  have e : catAll f l = catTo f l (k + 1) ++ (l.drop (k + 1)).flatMap f := by
    unfold catAll catTo
    rw [← List.flatMap_append, List.take_append_drop]
  rw [e, catTo_succ f l k h, List.length_append, List.length_append]
  omega
theorem catAll_cons (x : α) : catAll f (x :: l) = f x ++ catAll f l := rfl
theorem catAll_append (m : List α) : catAll f (l ++ m) = catAll f l ++ catAll f m := by simp [catAll]
theorem catAll_len (B : Nat) (h : ∀ x ∈ l, (f x).length ≤ B) : (catAll f l).length ≤ B * l.length := by
  induction l with
  | nil => simp [catAll]
  | cons x l ih =>
    rw [catAll_cons, List.length_append, List.length_cons]
    have h1 := h x (by simp)
    have h2 := ih fun y hy => h y (by simp [hy])
    rw [Nat.mul_add]
    omega
end

/-- A text as bytes; a flag; a number with a sign. -/
def tx (s : List UInt8) : List UInt8 := vi s.length ++ s
def fl (b : Bool) : List UInt8 := [if b then 1 else 0]
def zz (n : Int) : Nat := if 0 ≤ n then (2 * n).toNat else (-2 * n - 1).toNat
def zi (n : Int) : List UInt8 := vi (zz n / 4294967296) ++ vi (zz n % 4294967296)

end Go.Proofs.Ytclgiapmbmbknaa
