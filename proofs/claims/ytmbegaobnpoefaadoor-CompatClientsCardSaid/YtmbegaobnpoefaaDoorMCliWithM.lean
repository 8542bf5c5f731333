/- A file with a static method more, in plain Lean; parts of rows; no statement of the seat is proved here. (Written by gen/vwith.py.) -/
import Derived.Test.YtmbegaobnpoefaaDoorMLnkOps
import Derived.Test.YtmbegaobnpoefaaDoorMCliChkM
namespace Go.Proofs.YtmbegaobnpoefaaDoor
open Go.RowKit Go.Maps
set_option linter.unusedVariables false
def insW (r : Ty) (k : Nat) : Int × Int := if r = kI then (1, (k : Int)) else if r = kB then (32, 0) else (2, 0)
def numsW (r : Ty) (nums : List Int) : List Int := if r = kI then nums ++ [7] else nums
def sigW (nm : List UInt8) (r : Ty) : SgP := ⟨nm, true, [], r⟩
def bodyW (r : Ty) (k : Nat) : BdP := ⟨0, 1, [insW r k, (29, 0)]⟩
def withM (F : FileP) (nm : List UInt8) (r : Ty) (a : Nat) : FileP :=
 ⟨⟨F.f.n, F.f.su, F.f.fs, F.f.ms.take a ++ sigW nm r :: F.f.ms.drop a⟩, { F.p with nums := numsW r F.p.nums }, F.b.take a ++ bodyW r F.p.nums.length :: F.b.drop a⟩
theorem take_flat {α : Type} {f : α → List Value} {size : Nat} (hf : ∀ x, (f x).length = size) : ∀ (k : Nat) (l : List α), (l.take k).flatMap f = (l.flatMap f).take (k * size)
 | 0, l => by simp
 | k + 1, [] => by simp
 | k + 1, a :: l => by
  rw [List.take_succ_cons, List.flatMap_cons, List.flatMap_cons, take_flat hf k l, Nat.succ_mul, Nat.add_comm, ← hf a, List.take_append, List.take_of_length_le (l := f a) (by omega), Nat.add_sub_cancel_left]
theorem drop_flat {α : Type} {f : α → List Value} {size : Nat} (hf : ∀ x, (f x).length = size) : ∀ (k : Nat) (l : List α), (l.drop k).flatMap f = (l.flatMap f).drop (k * size)
 | 0, l => by simp
 | k + 1, [] => by simp
 | k + 1, a :: l => by
  rw [List.drop_succ_cons, drop_flat hf k l, List.flatMap_cons, Nat.succ_mul, Nat.add_comm, ← hf a, ← List.drop_drop, List.drop_left]
theorem Rd.take {α : Type} {f : α → List Value} {size : Nat} (hf : ∀ x, (f x).length = size) {w : World} {F : Nat → Prop} {A : Option Addr} {n : Nat} {l : List α} (h : Rd w F size A n (l.flatMap f)) (hl : l.length = n) {k : Nat} (hk : k ≤ n) : Rd w F size A k ((l.take k).flatMap f) := by
 refine ⟨?_, fun h0 => ?_⟩
 ·rw [flat_len f size hf, List.length_take, hl, Nat.min_eq_left hk]
 ·obtain ⟨b, o, e, hb, hlt, hc⟩ := h.2 (by omega)
  refine ⟨b, o, e, hb, hlt, fun j u hu => hc j u ?_⟩
  rw [take_flat hf] at hu
  have h9 := (List.getElem?_eq_some_iff.1 hu).1
  rw [List.length_take] at h9
  rw [List.getElem?_take_of_lt (by omega)] at hu
  exact hu
theorem Rd.drop {α : Type} {f : α → List Value} {size : Nat} (hf : ∀ x, (f x).length = size) {w : World} {F : Nat → Prop} {b o : Nat} {n : Nat} {l : List α} (h : Rd w F size (some ⟨b, o, none⟩) n (l.flatMap f)) (hl : l.length = n) {k : Nat} (hk : k ≤ n) : Rd w F size (some ⟨b, o + k * size, none⟩) (n - k) ((l.drop k).flatMap f) := by
 refine ⟨?_, fun h0 => ?_⟩
 ·rw [flat_len f size hf, List.length_drop, hl]
 ·obtain ⟨b', o', e, hb, hlt, hc⟩ := h.2 (by omega)
  injection e with e
  injection e with e1 e2
  subst e1 e2
  refine ⟨b, o + k * size, rfl, hb, hlt, fun j u hu => ?_⟩
  rw [drop_flat hf, List.getElem?_drop] at hu
  have := hc _ u hu
  rwa [← Nat.add_assoc] at this
theorem Rd.none0 {w : World} {F : Nat → Prop} {size : Nat} {A : Option Addr} {α : Type} {f : α → List Value} {l : List α} {k n : Nat} (hl : l.length = n) (hk : n ≤ k) : Rd w F size A 0 ((l.drop k).flatMap f) := by
 rw [List.drop_of_length_le (by omega)]; exact Rd.nil _ _ _ _
end Go.Proofs.YtmbegaobnpoefaaDoor
