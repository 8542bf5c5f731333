/- Types: which are a class's, walked; no statement of the seat is proved here. -/
import Derived.Test.YtclgiapmbmbknaaMBase
import Derived.Test.YtclgiapmbmbknaaChecked
namespace Go.Proofs.Ytclgiapmbmbknaa
open Go.RowKit

/-- Does a name begin as a class's does? -/
def great : List UInt8 → Bool
  | [] => false
  | c :: _ => decide (65 ≤ (c.toNat : Int)) && decide ((c.toNat : Int) ≤ 90)
def clsB (n : List UInt8) (a : Bool) : Bool := !a && great n
set_option maxRecDepth 100000 in
theorem class_any (n : List UInt8) (a : Bool) (w : World) : Calls Try.prog 36 #[.agg #[S n, .bool a]] w (Gives w (.bool (clsB n a))) := by
  have hb : ∀ o, Below w.heap.size w (w.alloc o) := fun o => (Below.refl _ _).alloc (Nat.le_refl _) o
  cases a with
  | true =>
    go_enter Try.func36, Try.ntmps36
    go_wp2_with fail
    go_ret
    exact ⟨rfl, hb _⟩
  | false =>
    rcases n with _ | ⟨c, r⟩
    · go_enter Try.func36, Try.ntmps36
      go_wp2_with fail
      go_ret
      exact ⟨rfl, hb _⟩
    · by_cases h1 : 65 ≤ (c.toNat : Int)
      · have d1 : decide (65 ≤ (c.toNat : Int)) = true := by simpa using h1
        by_cases h2 : (c.toNat : Int) ≤ 90
        · have d2 : decide ((c.toNat : Int) ≤ 90) = true := by simpa using h2
          have H : Hid (clsB (c :: r) false = true) := hide (by simp [clsB, great, d1, d2])
          go_enter Try.func36, Try.ntmps36
          go_wp2_with fail
          go_ret
          exact ⟨by rw [H.out] <;> rfl, hb _⟩
        · have d2 : decide ((c.toNat : Int) ≤ 90) = false := by simpa using h2
          have H : Hid (clsB (c :: r) false = false) := hide (by simp [clsB, great, d1, d2])
          go_enter Try.func36, Try.ntmps36
          go_wp2_with fail
          go_ret
          exact ⟨by rw [H.out] <;> rfl, hb _⟩
      · have d1 : decide (65 ≤ (c.toNat : Int)) = false := by simpa using h1
        have H : Hid (clsB (c :: r) false = false) := hide (by simp [clsB, great, d1])
        go_enter Try.func36, Try.ntmps36
        go_wp2_with fail
        go_ret
        exact ⟨by rw [H.out] <;> rfl, hb _⟩

theorem set_below' {w w2 : World} (h : Below w.heap.size w w2) {p : Addr} (hp : w.heap.size ≤ p.block) (u : Value) : Below w.heap.size w (w2.setCell p u) :=
  ((Keep.of_below (F := fun _ => False) h (fun k h1 h2 => by omega)).setCell (fun h => by omega) u).below (Nat.le_refl _) (fun k hk => absurd hk id)

set_option maxRecDepth 100000 in
theorem of_any (n : List UInt8) (w : World) : Calls Try.prog 35 #[S n] w (Gives w (.agg #[S n, .bool false])) := by
  have hb : ∀ o, Below w.heap.size w (w.alloc o) := fun o => (Below.refl _ _).alloc (Nat.le_refl _) o
  go_enter Try.func35, Try.ntmps35
  go_wp2_with fail
  refine bodyPost_ret (v := .agg #[S n, .bool false]) ?_ rfl ?_
  · simp [results, Try.results35, go_sem]
  · first
      | exact ⟨rfl, hb _⟩
      | exact ⟨rfl, set_below' (hb _) (Nat.le_refl _) _⟩
      | exact ⟨rfl, set_below' (set_below' (hb _) (Nat.le_refl _) _) (Nat.le_refl _) _⟩
end Go.Proofs.Ytclgiapmbmbknaa
