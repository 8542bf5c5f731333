/- Plain mathematics of package pack's reader: a number out of bytes; no program in sight. -/
import Derived.Test.YtclgiapmbmbknaaMVarint
namespace Go.Proofs.Ytclgiapmbmbknaa

/-- A number up to m out of at most f bytes, k having been read, which make x. -/
def rdF (m : Nat) : Nat → Nat → Nat → List UInt8 → Option (Nat × List UInt8)
  | 0, _, _, _ => none
  | _ + 1, _, _, [] => none
  | f + 1, k, x, c :: r =>
    if 128 ≤ c.toNat then rdF m f (k + 1) (x + c.toNat % 128 * 128 ^ k) r
    else if (0 < k ∧ c.toNat = 0) ∨ m < x + c.toNat * 128 ^ k then none else some (x + c.toNat * 128 ^ k, r)
def rdNum (m : Nat) (l : List UInt8) : Option (Nat × List UInt8) := rdF m 9 0 0 l

/-- A reader's state: what is left; none: there was an error. -/
def numR (m : Nat) : Option (List UInt8) → Nat × Option (List UInt8)
  | none => (0, none)
  | some l => match rdNum m l with
    | none => (0, none)
    | some (x, r) => (x, some r)

theorem rdF_len (m : Nat) : ∀ (f k x : Nat) (l : List UInt8) (y : Nat) (r : List UInt8), rdF m f k x l = some (y, r) → r.length < l.length ∧ y ≤ m
  | 0, _, _, _, _, _, h => by simp [rdF] at h
  | _ + 1, _, _, [], _, _, h => by simp [rdF] at h
  | f + 1, k, x, c :: l, y, r, h => by
    unfold rdF at h
    by_cases h1 : 128 ≤ c.toNat
    · rw [if_pos h1] at h
      have := rdF_len m f _ _ l y r h
      simp only [List.length_cons]
      omega
    · rw [if_neg h1] at h
      by_cases h2 : (0 < k ∧ c.toNat = 0) ∨ m < x + c.toNat * 128 ^ k
      · rw [if_pos h2] at h; cases h
      · rw [if_neg h2] at h
        simp only [Option.some.injEq, Prod.mk.injEq] at h
        obtain ⟨rfl, rfl⟩ := h
        simp only [List.length_cons]
        omega

/-- How much is left. -/
def left_ (st : Option (List UInt8)) : Nat := (st.getD []).length
theorem numR_no {m : Nat} {l : List UInt8} (h : rdNum m l = none) : numR m (some l) = (0, none) := by simp only [numR, h]
theorem numR_yes {m : Nat} {l r : List UInt8} {x : Nat} (h : rdNum m l = some (x, r)) : numR m (some l) = (x, some r) := by simp only [numR, h]
theorem numR_cases (m : Nat) (st : Option (List UInt8)) : numR m st = (0, none) ∨ ∃ l x r, st = some l ∧ rdNum m l = some (x, r) ∧ numR m st = (x, some r) := by
  cases st with
  | none => exact .inl rfl
  | some l =>
    cases h : rdNum m l with
    | none => exact .inl (numR_no h)
    | some p => exact .inr ⟨l, p.1, p.2, rfl, h, numR_yes h⟩
theorem numR_left (m : Nat) (st : Option (List UInt8)) : left_ (numR m st).2 ≤ left_ st := by
  rcases numR_cases m st with h | ⟨l, x, r, rfl, h1, h2⟩
  · rw [h]; simp [left_]
  · rw [h2]
    have := (rdF_len m 9 0 0 l x r h1).1
    simp [left_]
    omega
theorem numR_le (m : Nat) (st : Option (List UInt8)) : (numR m st).1 ≤ m := by
  rcases numR_cases m st with h | ⟨l, x, r, rfl, h1, h2⟩
  · rw [h]; exact Nat.zero_le _
  · rw [h2]
    exact (rdF_len m 9 0 0 l x r h1).2
/-- After an error it is nought. -/
theorem numR_none {m : Nat} {st : Option (List UInt8)} (h : (numR m st).2 = none) : (numR m st).1 = 0 := by
  rcases numR_cases m st with h' | ⟨l, x, r, rfl, h1, h2⟩
  · rw [h']
  · rw [h2] at h; cases h

/-- A text of at most m bytes; so many parts; a number with a sign; a flag. -/
def textR (m : Nat) (st : Option (List UInt8)) : List UInt8 × Option (List UInt8) :=
  match (numR m st).2 with
  | none => ([], none)
  | some l => if l.length < (numR m st).1 then ([], none) else (l.take (numR m st).1, some (l.drop (numR m st).1))
def manyR (m : Nat) (st : Option (List UInt8)) : Nat × Option (List UInt8) :=
  if left_ (numR m st).2 < (numR m st).1 then (0, none) else ((numR m st).1, (numR m st).2)
def unzz (a b : Nat) : Int := if b % 2 = 0 then ((a * 4294967296 + b) / 2 : Nat) else -((a * 4294967296 + b) / 2 : Nat) - 1
def intR (st : Option (List UInt8)) : Int × Option (List UInt8) :=
  (unzz (numR 4294967295 st).1 (numR 4294967295 (numR 4294967295 st).2).1, (numR 4294967295 (numR 4294967295 st).2).2)
def flagR (st : Option (List UInt8)) : Bool × Option (List UInt8) := ((numR 1 st).1 == 1, (numR 1 st).2)
def doneR (st : Option (List UInt8)) : Int := if st = some [] then 0 else 2

end Go.Proofs.Ytclgiapmbmbknaa
