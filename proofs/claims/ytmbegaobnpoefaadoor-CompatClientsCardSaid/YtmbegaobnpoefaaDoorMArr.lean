/- Arrays in blocks of their own: a whole array read and written; no statement of the seat is proved here. -/
import Derived.Test.YtmbegaobnpoefaaDoorMBase
import Derived.Deep.MidRow
import Derived.Test.YtmbegaobnpoefaaDoorMCliWith
import Derived.Test.YtmbegaobnpoefaaDoorMCliRunC
namespace Go.Proofs.YtmbegaobnpoefaaDoor
open Go.RowKit
section
variable {F : Nat → Prop} {w w1 : World} {g : Nat} {t : TypeId} {cs : Array Value}
theorem Keep.setCells {b : Nat} (hp : b < w.heap.size → F b) : ∀ (vs : List Value) (o : Nat) {w1 : World}, Keep F w w1 → Keep F w (w1.setCells b o vs)
 | [], _, _, h => h
 | v :: r, o, _, h => Keep.setCells hp r (o + 1) (h.setCell (p := ⟨b, o, none⟩) hp v)
theorem Blk.cells_ : ∀ (vs : List Value) (o : Nat) {w : World} {cs : Array Value}, Blk w g t cs → o + vs.length ≤ cs.size →
  ∃ ds : Array Value, Blk (w.setCells g o vs) g t ds ∧ ds.size = cs.size ∧ ∀ i, ds[i]? = if o ≤ i ∧ i < o + vs.length then vs[i - o]? else cs[i]?
 | [], o, w, cs, h, _ => ⟨cs, h, rfl, fun i => by rw [if_neg (by simp)]⟩
 | v :: r, o, w, cs, h, hl => by
  simp at hl
  obtain ⟨ds, h1, h2, h3⟩ := Blk.cells_ r (o + 1) (h.set_ o v) (by simp; omega)
  refine ⟨ds, h1, by rw [h2]; simp, fun i => ?_⟩
  rw [h3 i]
  by_cases hi : i = o
  ·subst hi
   rw [if_neg (by omega), if_pos (by simp)]
   have : i < cs.size := by omega
   simp [this]
  ·by_cases hr : o + 1 ≤ i ∧ i < o + 1 + r.length
   ·rw [if_pos hr, if_pos (by simp; omega)]
    obtain ⟨m, rfl⟩ : ∃ m, i = o + 1 + m := ⟨i - (o + 1), by omega⟩
    rw [show o + 1 + m - o = m + 1 by omega, show o + 1 + m - (o + 1) = m by omega]
    simp
   ·rw [if_neg hr, if_neg (by simp; omega), Array.getElem?_setIfInBounds_ne (by omega)]
end
end Go.Proofs.YtmbegaobnpoefaaDoor
namespace Go.Proofs.YtmbegaobnpoefaaDoor
open Go.RowKit Go.Maps
set_option linter.unusedVariables false
theorem flat_at9 {α : Type} {f : α → List Value} {size : Nat} (hf : ∀ x, (f x).length = size) : ∀ (l : List α) (i r : Nat), r < size → (l.flatMap f)[i * size + r]? = (l[i]?).bind (fun x => (f x)[r]?)
 | [], i, r, _ => by simp
 | a :: l, 0, r, hr => by
  rw [List.flatMap_cons, Nat.zero_mul, Nat.zero_add, List.getElem?_append_left (by rw [hf]; exact hr)]
  simp
 | a :: l, i + 1, r, hr => by
  rw [List.flatMap_cons, List.getElem?_append_right (by rw [hf, Nat.succ_mul]; omega), hf, show (i + 1) * size + r - size = i * size + r by rw [Nat.succ_mul]; omega, flat_at9 hf l i r hr]
  simp
theorem rd_set10 {w : World} {B n c bb o : Nat} {l : List Fl} (h : w.ownsRow B 52 10 (.slice (some ⟨bb, o, none⟩) n c) n (l.flatMap Fl.cells)) {k : Nat} (hk : k < l.length) (g : Fl) {F : Nat → Prop} (hF : ¬ F bb) :
  o = 0 ∧ Rd (w.setCells bb (k * 10) g.cells) F 10 (some ⟨bb, 0, none⟩) n ((l.set k g).flatMap Fl.cells) ∧ (∀ i, w.frozen? ⟨bb, i, none⟩ = false) ∧ B ≤ bb := by
 have hl := h.1
 rcases h.2 with ⟨e, _⟩ | ⟨g0, cap, cur, hv, hb, hh, hnc, hcm, hcs, ht⟩
 ·injection e with e; cases e
 ·injection hv with e1 e3 e4
  injection e1 with e1
  injection e1 with e1 e2
  subst e1 e2 e4
  have hB : Blk w bb 52 cur := hh
  have hlen : l.length = n := by have := flat_len Fl.cells 10 (fun _ => rfl) l; omega
  have hg : g.cells.length = 10 := rfl
  have hcn : n * 10 ≤ cur.size := by
   have h9 := congrArg List.length ht
   rw [List.length_take, hl] at h9
   simp at h9
   omega
  obtain ⟨ds, h1, h2, h3⟩ := Blk.cells_ g.cells (k * 10) hB (by omega)
  refine ⟨rfl, ⟨?_, fun _ => ⟨bb, 0, rfl, hF, h1.lt, fun j u hu => ?_⟩⟩, fun i => hB.frozen i, hb⟩
  ·rw [flat_len Fl.cells 10 (fun _ => rfl), List.length_set, hlen]
  ·rw [Nat.zero_add, h1.cell j, h3 j]
   have hj : j = j / 10 * 10 + j % 10 := by omega
   have hr : j % 10 < 10 := Nat.mod_lt _ (by decide)
   rw [hj, flat_at9 (f := Fl.cells) (size := 10) (fun _ => rfl) _ _ _ hr] at hu
   by_cases hi : j / 10 = k
   ·rw [hi, List.getElem?_set_self hk] at hu
    rw [if_pos (by omega), show j - k * 10 = j % 10 by omega]
    simpa using hu
   ·rw [List.getElem?_set_ne (fun e => hi e.symm), ← flat_at9 (f := Fl.cells) (size := 10) (fun _ => rfl) _ _ _ hr, ← hj, ← ht, List.getElem?_take] at hu
    rw [if_neg (by omega)]
    split at hu
    ·simpa using hu
    ·cases hu
end Go.Proofs.YtmbegaobnpoefaaDoor
