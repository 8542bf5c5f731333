/- Numbers and names as great and long as may be: the plain law; no statement of the seat is proved here. -/
import Derived.Test.YtoilalfchnglcaaDoorLexWords
import Derived.Test.YtoilalfchnglcaaDoorLexLaw
import Derived.Lib.ItoaNum
namespace Go.Proofs.YtoilalfchnglcaaDoor
open Go.RowKit

theorem numGo_snoc (c : UInt8) : ∀ (xs : List UInt8) (m : Nat), numGo m (xs ++ [c]) = match numGo m xs with
    | none => none
    | some v => if 288230376151711744 < v * 10 + (c.toNat - 48) then none else some (v * 10 + (c.toNat - 48))
  | [], m => rfl
  | x :: xs, m => by
    simp only [List.cons_append, numGo]
    split
    · rfl
    · exact numGo_snoc c xs _
theorem dec_digit (d : Nat) (h : d < 10) : (UInt8.ofNat (48 + d)).toNat = 48 + d := by
  simp [UInt8.toNat_ofNat]
  omega
theorem numGo_dec (u : Nat) : numGo 0 (Lib.decDigits u) = if 288230376151711744 < u then none else some u := by
  induction u using Nat.strongRecOn with
  | ind u ih =>
    by_cases h : u < 10
    · rw [Lib.decDigits_one h, if_neg (by omega), numGo, dec_digit u h, if_neg (by omega), numGo]
      congr 1; omega
    · have e : Lib.decDigits u = Lib.decDigits (u / 10) ++ [UInt8.ofNat (48 + u % 10)] := by rw [Lib.decDigits, dif_neg h]
      rw [e, numGo_snoc, ih (u / 10) (by omega), dec_digit _ (by omega)]
      by_cases h2 : 288230376151711744 < u / 10
      · rw [if_pos h2, if_pos (by omega)]
      · rw [if_neg h2]
        simp only
        have : u / 10 * 10 + (48 + u % 10 - 48) = u := by omega
        rw [this]
theorem dec_all (u : Nat) : (Lib.decDigits u).all digitB = true := by
  induction u using Nat.strongRecOn with
  | ind u ih =>
    by_cases h : u < 10
    · rw [Lib.decDigits_one h]
      simp [digitB]
      omega
    · have e : Lib.decDigits u = Lib.decDigits (u / 10) ++ [UInt8.ofNat (48 + u % 10)] := by rw [Lib.decDigits, dif_neg h]
      rw [e, List.all_append, ih (u / 10) (by omega)]
      simp [digitB]
      omega
theorem dec_ne (u : Nat) : ∃ c l, Lib.decDigits u = c :: l ∧ digitB c = true := by
  have h1 := dec_all u
  have h2 := Lib.decDigits_length u
  have h3 := Lib.nDigits_pos u
  cases h : Lib.decDigits u with
  | nil => rw [h] at h2; simp at h2; omega
  | cons c l => rw [h] at h1; simp at h1; exact ⟨c, l, rfl, h1.1⟩
theorem tw_every (p : UInt8 → Bool) : ∀ l : List UInt8, l.all p = true → l.takeWhile p = l
  | [], _ => rfl
  | c :: l, h => by
    simp only [List.all_cons, Bool.and_eq_true] at h
    rw [List.takeWhile_cons, if_pos h.1, tw_every p l h.2]
theorem digit_not {c : UInt8} (h : digitB c = true) : greatB c = false ∧ smallB c = false ∧ blankB c = false ∧ innerB c = true ∧ c ≠ 47 := by
  have hi : innerB c = true := by simp [innerB, h]
  refine ⟨?_, ?_, not_blank hi, hi, ?_⟩
  · simp [digitB] at h; simp [greatB]; omega
  · simp [digitB] at h; simp [smallB]; omega
  · rintro rfl; simp [digitB] at h
theorem nextM_dec (u : Nat) : nextM (Lib.decDigits u) = if 288230376151711744 < u then .error 22 else .ok ⟨4, Lib.decDigits u, u⟩ := by
  obtain ⟨c, l, e, hc⟩ := dec_ne u
  obtain ⟨h1, h2, _, _, _⟩ := digit_not hc
  have h : nextM (Lib.decDigits u) = match numGo 0 ((Lib.decDigits u).takeWhile digitB) with
      | none => .error 22
      | some n => .ok ⟨4, (Lib.decDigits u).takeWhile digitB, n⟩ := by
    rw [e]
    simp only [nextM, h1, h2, hc, Bool.false_eq_true, if_false, if_true]
    rfl
  rw [h, tw_every _ _ (dec_all u), numGo_dec]
  split
  · next h => split at h <;> simp_all
  · next n h => split at h <;> simp_all
theorem skip_dec (u : Nat) : skipR false (32 :: Lib.decDigits u) = Lib.decDigits u := by
  obtain ⟨c, l, e, hc⟩ := dec_ne u
  obtain ⟨_, _, h3, _, h5⟩ := digit_not hc
  have hb : blankB 32 = true := by decide
  rw [e, skipR, if_pos hb, skipR, h3]
  simp [h5]
theorem lexM_dec (u : Nat) (hl : (Lib.decDigits u).length ≤ 20) : lexM (32 :: Lib.decDigits u) = if 288230376151711744 < u then .error (22, 1) else .ok [(⟨4, Lib.decDigits u, u⟩, 1), (⟨0, [], 0⟩, 1 + (Lib.decDigits u).length)] := by
  rw [lexM, if_neg (by simp; omega), lexR_succ _ _ _ 0 1 (skip_dec u) (by simp; omega), nextM_dec]
  by_cases h : 288230376151711744 < u
  · rw [if_pos h, if_pos h]
  · rw [if_neg h, if_neg h]
    have hs : skipR false ([] : List UInt8) = [] := rfl
    simp only [List.drop_length]
    rw [show (32 :: Lib.decDigits u).length = (Lib.decDigits u).length + 1 from rfl, lexR_succ _ _ _ _ (1 + (Lib.decDigits u).length) hs rfl]
    rfl
def nameL (k : Nat) : List UInt8 := 120 :: List.replicate k 121
theorem name_ok : ∀ k : Fin 40, okB (lexM (nameL k.val)) [(⟨3, nameL k.val, 0⟩, 0), (⟨0, [], 0⟩, k.val + 1)] = true := by decide +kernel
def erB (x : Except (Nat × Nat) (List (Tk × Nat))) (er p : Nat) : Bool := match x with
  | .error e => e == (er, p)
  | .ok _ => false
theorem erB_iff {x : Except (Nat × Nat) (List (Tk × Nat))} {er p : Nat} (h : erB x er p = true) : x = .error (er, p) := by
  cases x with
  | ok _ => cases h
  | error e => simp only [erB, beq_iff_eq] at h; rw [h]
theorem name_bad : ∀ k : Fin 24, erB (lexM (nameL (40 + k.val))) 4 0 = true := by decide +kernel
end Go.Proofs.YtoilalfchnglcaaDoor
