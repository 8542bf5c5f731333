/- Plain mathematics: what was laid is read again, and what is read stands there; no program in sight. -/
import Derived.Test.YtclgiapmbmbknaaMReadFn
namespace Go.Proofs.Ytclgiapmbmbknaa

theorem vi_len_9 (n : Nat) (h : n < 9223372036854775808) : (vi n).length ≤ 9 := vi_len_le n 8 (Nat.lt_of_lt_of_le h (by decide))

theorem rdF_vi (m : Nat) : ∀ (n f k x : Nat) (r : List UInt8), (vi n).length ≤ f → (k = 0 ∨ 0 < n) → rdF m f k x (vi n ++ r) = if m < x + n * 128 ^ k then none else some (x + n * 128 ^ k, r) := by
  intro n
  induction n using Nat.strongRecOn with
  | ind n ih =>
    intro f k x r hf hk
    by_cases hn : n < 128
    · rw [vi_small hn] at hf ⊢
      obtain ⟨f, rfl⟩ : ∃ f', f = f' + 1 := ⟨f - 1, by simp at hf; omega⟩
      rw [List.singleton_append, rdF, toNat_ofNat_u8 (by omega), if_neg (by omega)]
      by_cases hm : m < x + n * 128 ^ k
      · rw [if_pos (.inr hm), if_pos hm]
      · rw [if_neg (by omega), if_neg hm]
    · rw [vi_big hn] at hf ⊢
      obtain ⟨f, rfl⟩ : ∃ f', f = f' + 1 := ⟨f - 1, by simp at hf; omega⟩
      rw [List.cons_append, rdF, toNat_ofNat_u8 (by omega), if_pos (by omega), ih (n / 128) (by omega) f (k + 1) _ r (by simpa using hf) (.inr (by omega))]
      have e : x + (n % 128 + 128) % 128 * 128 ^ k + n / 128 * 128 ^ (k + 1) = x + n * 128 ^ k := by
        rw [show (n % 128 + 128) % 128 = n % 128 by omega, Nat.pow_succ, Nat.mul_comm (128 ^ k) 128, ← Nat.mul_assoc, Nat.add_assoc, ← Nat.add_mul]
        congr 2
        omega
      rw [e]

theorem rdNum_vi (m n : Nat) (r : List UInt8) (h : n < 9223372036854775808) : rdNum m (vi n ++ r) = if m < n then none else some (n, r) := by
  unfold rdNum
  rw [rdF_vi m n 9 0 0 r (vi_len_9 n h) (.inl rfl)]
  simp

theorem numR_vi {m n : Nat} (r : List UInt8) (h : n < 9223372036854775808) (hm : n ≤ m) : numR m (some (vi n ++ r)) = (n, some r) :=
  numR_yes (by rw [rdNum_vi m n r h, if_neg (by omega)])
theorem numR_vi_over {m n : Nat} (r : List UInt8) (h : n < 9223372036854775808) (hm : m < n) : numR m (some (vi n ++ r)) = (0, none) :=
  numR_no (by rw [rdNum_vi m n r h, if_pos hm])

/-- What is read stands there, in its one form. -/
theorem rdF_inv (m : Nat) : ∀ (f k x : Nat) (l : List UInt8) (y : Nat) (r : List UInt8), rdF m f k x l = some (y, r) → ∃ n, l = vi n ++ r ∧ y = x + n * 128 ^ k ∧ (k = 0 ∨ 0 < n)
  | 0, _, _, _, _, _, h => by simp [rdF] at h
  | _ + 1, _, _, [], _, _, h => by simp [rdF] at h
  | f + 1, k, x, c :: l, y, r, h => by
    have hc := c.toNat_lt
    unfold rdF at h
    by_cases h1 : 128 ≤ c.toNat
    · rw [if_pos h1] at h
      obtain ⟨n, e1, e2, e3⟩ := rdF_inv m f _ _ l y r h
      have hn : 0 < n := by omega
      refine ⟨n * 128 + c.toNat % 128, ?_, ?_, .inr (by omega)⟩
      · rw [vi_big (by omega), show (n * 128 + c.toNat % 128) % 128 + 128 = c.toNat by omega, show (n * 128 + c.toNat % 128) / 128 = n by omega, e1]
        simp
      · rw [e2, Nat.pow_succ, Nat.add_mul, Nat.mul_comm (128 ^ k) 128, ← Nat.mul_assoc]
        omega
    · rw [if_neg h1] at h
      by_cases h2 : (0 < k ∧ c.toNat = 0) ∨ m < x + c.toNat * 128 ^ k
      · rw [if_pos h2] at h; cases h
      · rw [if_neg h2] at h
        simp only [Option.some.injEq, Prod.mk.injEq] at h
        obtain ⟨rfl, rfl⟩ := h
        refine ⟨c.toNat, ?_, rfl, by omega⟩
        rw [vi_small (by omega)]
        simp
theorem rdNum_inv {m : Nat} {l r : List UInt8} {x : Nat} (h : rdNum m l = some (x, r)) : l = vi x ++ r ∧ x ≤ m := by
  obtain ⟨n, e1, e2, _⟩ := rdF_inv m 9 0 0 l x r h
  have e3 : x = n := by simpa using e2
  subst e3
  exact ⟨e1, (rdF_len m 9 0 0 l x r h).2⟩
theorem numR_inv {m : Nat} {l r : List UInt8} {x : Nat} (h : numR m (some l) = (x, some r)) : l = vi x ++ r ∧ x ≤ m := by
  rcases numR_cases m (some l) with h' | ⟨l', x', r', e, h1, h2⟩
  · rw [h'] at h; cases h
  · cases e
    rw [h2] at h
    cases h
    exact rdNum_inv h1

theorem fl_vi (b : Bool) : fl b = vi (if b then 1 else 0) := by
  cases b
  · rw [if_neg (by decide), vi_small (by omega)]; rfl
  · rw [if_pos rfl, vi_small (by omega)]; rfl
theorem flagR_fl (b : Bool) (r : List UInt8) : flagR (some (fl b ++ r)) = (b, some r) := by
  unfold flagR
  rw [fl_vi, numR_vi r (by split <;> omega) (by split <;> omega)]
  cases b <;> rfl
theorem flagR_none : flagR none = (false, none) := rfl
theorem flagR_one (c : UInt8) : flagR (some [c]) = if c.toNat < 2 then (c.toNat == 1, some []) else (false, none) := by
  unfold flagR
  by_cases h : c.toNat < 128
  · have e : [c] = vi c.toNat ++ [] := by rw [vi_small h]; simp
    by_cases h2 : c.toNat < 2
    · rw [if_pos h2, e, numR_vi [] (by omega) (by omega)]
    · rw [if_neg h2, e, numR_vi_over [] (by omega) (by omega)]
      rfl
  · rw [if_neg (by omega)]
    have e : numR 1 (some [c]) = (0, none) := numR_no (by
      unfold rdNum
      rw [rdF, if_pos (by omega)]
      rfl)
    rw [e]
    rfl

theorem unzz_zz (n : Int) (h1 : -9223372036854775808 ≤ n) (h2 : n ≤ 9223372036854775807) : unzz (zz n / 4294967296) (zz n % 4294967296) = n := by
  unfold unzz zz
  split <;> split <;> omega
theorem zz_le (n : Int) (h1 : -9223372036854775808 ≤ n) (h2 : n ≤ 9223372036854775807) : zz n ≤ 18446744073709551615 := by
  unfold zz
  split <;> omega
theorem intR_zi (n : Int) (r : List UInt8) (h1 : -9223372036854775808 ≤ n) (h2 : n ≤ 9223372036854775807) : intR (some (zi n ++ r)) = (n, some r) := by
  have := zz_le n h1 h2
  unfold intR zi
  rw [List.append_assoc, numR_vi _ (by omega) (by omega), numR_vi _ (by omega) (by omega), unzz_zz n h1 h2]

theorem textR_tx {m : Nat} (s r : List UInt8) (h : s.length < 9223372036854775808) (hm : s.length ≤ m) : textR m (some (tx s ++ r)) = (s, some r) := by
  unfold textR tx
  rw [List.append_assoc, numR_vi _ h hm]
  simp

theorem doneR_nil : doneR (some []) = 0 := rfl

end Go.Proofs.Ytclgiapmbmbknaa
