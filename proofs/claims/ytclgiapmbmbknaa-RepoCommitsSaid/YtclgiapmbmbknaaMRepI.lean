/- What was read stands there; no statement of the seat is proved here. -/
import Derived.Test.YtclgiapmbmbknaaMRound
import Derived.Test.YtclgiapmbmbknaaMBase
namespace Go.Proofs.Ytclgiapmbmbknaa
open Go.RowKit

theorem name_world {P : Program} {c : Code} {Q : Exit → Act → World → Prop} {a : Act} {w : World} (h : ∀ wB, wB = w → c.wp P Q a wB) : c.wp P Q a w := h w rfl

theorem textR_inv {m : Nat} {l t r : List UInt8} (h : textR m (some l) = (t, some r)) : l = tx t ++ r ∧ t.length ≤ m := by
  unfold textR at h
  rcases numR_cases m (some l) with h' | ⟨l', x, r', e, h1, h2⟩
  · rw [h'] at h; cases h
  · cases e
    rw [h2] at h
    simp only at h
    obtain ⟨rfl, hx⟩ := rdNum_inv h1
    by_cases hl : r'.length < x
    · rw [if_pos hl] at h; cases h
    · rw [if_neg hl] at h
      simp only [Prod.mk.injEq, Option.some.injEq] at h
      obtain ⟨rfl, rfl⟩ := h
      have e : (List.take x r').length = x := by simp; omega
      refine ⟨?_, by omega⟩
      unfold tx
      rw [e, List.append_assoc, List.take_append_drop]

abbrev St := Option (List UInt8)
/-- What was read stands there. -/
def Inv {α : Type} (f : St → α × St) (g : α → List UInt8) : Prop := ∀ st r, (f st).2 = some r → st = some (g (f st).1 ++ r)
theorem numI (m : Nat) : Inv (numR m) vi := by
  intro st r h
  cases st with
  | none => cases h
  | some l => exact congrArg some (numR_inv (m := m) (l := l) (r := r) (x := (numR m (some l)).1) (by rw [← h])).1
theorem textI (m : Nat) : Inv (textR m) tx := by
  intro st r h
  cases st with
  | none => cases h
  | some l => exact congrArg some (textR_inv (m := m) (l := l) (r := r) (t := (textR m (some l)).1) (by rw [← h])).1
theorem manyI (m : Nat) : Inv (manyR m) vi := by
  intro st r h
  unfold manyR at h ⊢
  split at h
  · cases h
  · rename_i hn
    rw [if_neg hn]
    exact numI m st r h
/-- So many parts, one behind the other. -/
def iterR {α : Type} (f : St → α × St) : Nat → St → List α × St
  | 0, st => ([], st)
  | k + 1, st => ((iterR f k st).1 ++ [(f (iterR f k st).2).1], (f (iterR f k st).2).2)
theorem iterR_len {α : Type} (f : St → α × St) : ∀ k st, (iterR f k st).1.length = k
  | 0, _ => rfl
  | k + 1, st => by rw [iterR, List.length_append, iterR_len f k st]; rfl
theorem iterI {α : Type} {f : St → α × St} {g : α → List UInt8} (h : Inv f g) : ∀ k, Inv (iterR f k) (catAll g)
  | 0, st, r, hr => by simpa [iterR, catAll] using hr
  | k + 1, st, r, hr => by
    have h1 := h _ r hr
    have h2 := iterI h k st _ h1
    rw [iterR, catAll_append, List.append_assoc]
    simpa [catAll] using h2

def secR {α : Type} (f : St → α × St) (m : Nat) (st : St) : List α × St := iterR f (manyR m st).1 (manyR m st).2
def secL {α : Type} (g : α → List UInt8) (l : List α) : List UInt8 := vi l.length ++ catAll g l
theorem secI {α : Type} {f : St → α × St} {g : α → List UInt8} (h : Inv f g) (m : Nat) : Inv (secR f m) (secL g) := by
  intro st r hr
  have h2 := iterI h _ _ r hr
  have h1 := manyI m _ _ h2
  rw [secL, List.append_assoc]
  unfold secR
  rw [iterR_len]
  exact h1

theorem iterR_cons {α : Type} (f : St → α × St) : ∀ k st, iterR f (k + 1) st = ((f st).1 :: (iterR f k (f st).2).1, (iterR f k (f st).2).2)
  | 0, _ => rfl
  | k + 1, st => by
    have ih := iterR_cons f k st
    show ((iterR f (k + 1) st).1 ++ [(f (iterR f (k + 1) st).2).1], (f (iterR f (k + 1) st).2).2) = _
    rw [ih]
    rfl
end Go.Proofs.Ytclgiapmbmbknaa
