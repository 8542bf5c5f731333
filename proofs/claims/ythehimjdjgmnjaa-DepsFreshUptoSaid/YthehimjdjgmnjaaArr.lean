/- Arrays in blocks of their own: a whole array read and written; no statement of the seat is proved here. -/
import Derived.Test.YthehimjdjgmnjaaBase
import Derived.Deep.MidRow
namespace Go.Proofs.Ythehimjdjgmnjaa
open Go.RowKit

section
variable {F : Nat → Prop} {w w1 : World} {g : Nat} {t : TypeId} {cs : Array Value}
theorem Keep.setCells {b : Nat} (hp : b < w.heap.size → F b) : ∀ (vs : List Value) (o : Nat) {w1 : World}, Keep F w w1 → Keep F w (w1.setCells b o vs)
  | [], _, _, h => h
  | v :: r, o, _, h => Keep.setCells hp r (o + 1) (h.setCell (p := ⟨b, o, none⟩) hp v)
theorem bcells {B b : Nat} (hp : B ≤ b) : ∀ (vs : List Value) (o : Nat) {w1 : World}, Below B w w1 → Below B w (w1.setCells b o vs)
  | [], _, _, h => h
  | v :: r, o, _, h => bcells hp r (o + 1) (h.setCell (p := ⟨b, o, none⟩) hp v)
theorem Blk.range (h : Blk w g t cs) : w.rangeAt g 0 cs.toList := fun j v hv => by
  rw [h.cell (0 + j), Nat.zero_add]
  simpa using hv
theorem Blk.there_ (h : Blk w g t cs) {n : Nat} (hn : n = cs.size) : w.there g 0 n := fun j hj => by
  rw [h.cell (0 + j), h.frozen, Nat.zero_add]
  have : j < cs.size := by omega
  simp [this]
theorem Blk.cells_ : ∀ (vs : List Value) (o : Nat) {w : World} {cs : Array Value}, Blk w g t cs → o + vs.length ≤ cs.size →
    ∃ ds : Array Value, Blk (w.setCells g o vs) g t ds ∧ ds.size = cs.size ∧ ∀ i, ds[i]? = if o ≤ i ∧ i < o + vs.length then vs[i - o]? else cs[i]?
  | [], o, w, cs, h, _ => ⟨cs, h, rfl, fun i => by rw [if_neg (by simp)]⟩
  | v :: r, o, w, cs, h, hl => by
    simp at hl
    obtain ⟨ds, h1, h2, h3⟩ := Blk.cells_ r (o + 1) (h.set_ o v) (by simp; omega)
    refine ⟨ds, h1, by rw [h2]; simp, fun i => ?_⟩
    rw [h3 i]
    by_cases hi : i = o
    · subst hi
      rw [if_neg (by omega), if_pos (by simp)]
      have : i < cs.size := by omega
      simp [this]
    · by_cases hr : o + 1 ≤ i ∧ i < o + 1 + r.length
      · rw [if_pos hr, if_pos (by simp; omega)]
        obtain ⟨m, rfl⟩ : ∃ m, i = o + 1 + m := ⟨i - (o + 1), by omega⟩
        rw [show o + 1 + m - o = m + 1 by omega, show o + 1 + m - (o + 1) = m by omega]
        simp
      · rw [if_neg hr, if_neg (by simp; omega), Array.getElem?_setIfInBounds_ne (by omega)]
/-- The whole array is written. -/
theorem Blk.cells_all (h : Blk w g t cs) (vs : List Value) (hl : vs.length = cs.size) : Blk (w.setCells g 0 vs) g t vs.toArray := by
  obtain ⟨ds, h1, h2, h3⟩ := Blk.cells_ vs 0 h (by omega)
  have : ds = vs.toArray := by
    apply Array.ext_getElem?
    intro i
    rw [h3 i]
    by_cases hi : i < vs.length
    · rw [if_pos (by omega)]; simp
    · rw [if_neg (by omega), Array.getElem?_eq_none (by omega)]; simp; omega
  rw [← this]
  exact h1
theorem Blk.cells_far {b : Nat} (h : Blk w g t cs) (hne : g ≠ b) : ∀ (vs : List Value) (o : Nat) {w : World}, Blk w g t cs → Blk (w.setCells b o vs) g t cs
  | [], _, _, h => h
  | v :: r, o, _, h' => Blk.cells_far h hne r (o + 1) (h'.far (p := ⟨b, o, none⟩) hne v)
theorem Blk.cfar {b : Nat} (h : Blk w g t cs) (hne : g ≠ b) (vs : List Value) (o : Nat) : Blk (w.setCells b o vs) g t cs := Blk.cells_far h hne vs o h
theorem Blk.loads {P : Program} {ty : TypeId} {d : TypeDesc} (h : Blk w g t cs) (hu : P.underlying ty = some d) (hd : d.isRow = true) (hi : (P.info? ty).map (·.size) = some cs.size) :
    (loadVar ty ⟨g, 0, none⟩).run P w = .ok (.agg cs) w := by
  have := run_loadVar_mid (P := P) w g 0 ty cs.toList d h.range hu hd (by simpa using hi)
  simpa using this
end

theorem results_cell1 {P : Program} {fn : Func} {p : Tmp} {tp : TypeId} (h : fn.results = #[.cell p tp]) (tmps : Array Value) (w : World) (a : Addr) (v : Value)
    (hp : tmps.getD p undef = .pointer (some a)) (hl : (loadVar tp a).run P w = .ok v w) : (results fn tmps).run P w = .ok v w := by
  have hp' : tmps[p]?.getD undef = .pointer (some a) := by simpa using hp
  simp [results, h, hp', asAddr, hl]
theorem results_cell2 {P : Program} {fn : Func} {p q : Tmp} {tp tq : TypeId} (h : fn.results = #[.cell p tp, .cell q tq]) (tmps : Array Value) (w : World) (a b : Addr) (v u : Value)
    (hp : tmps.getD p undef = .pointer (some a)) (hl : (loadVar tp a).run P w = .ok v w) (hq : tmps.getD q undef = .pointer (some b)) (hm : (loadVar tq b).run P w = .ok u w) : (results fn tmps).run P w = .ok (.tuple #[v, u]) w := by
  have hp' : tmps[p]?.getD undef = .pointer (some a) := by simpa using hp
  have hq' : tmps[q]?.getD undef = .pointer (some b) := by simpa using hq
  simp [results, h, hp', hq', asAddr, hl, hm]
end Go.Proofs.Ythehimjdjgmnjaa
