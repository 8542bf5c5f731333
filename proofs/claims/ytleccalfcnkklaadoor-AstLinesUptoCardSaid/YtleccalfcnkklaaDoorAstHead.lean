/- The layer's example, as text; no statement of the seat is proved here. -/
import Derived.Test.YtleccalfcnkklaaDoorBase
import Derived.Test.YtleccalfcnkklaaDoorChecked
namespace Go.Proofs.YtleccalfcnkklaaDoor
open Go.RowKit

theorem set_belowH {w w2 : World} (h : Below w.heap.size w w2) {p : Addr} (hp : w.heap.size ≤ p.block) (u : Value) : Below w.heap.size w (w2.setCell p u) :=
  h.setCell hp u
theorem blk_at {w : World} {t : TypeId} {cs : Array Value} {g : Nat} (h : g = w.heap.size) : Blk (w.alloc (.cells cs t)) g t cs := h ▸ Blk.new w t cs

section
variable (w : World)
set_option maxRecDepth 100000 in
set_option maxHeartbeats 4000000 in
theorem num_any (n : Int) : Calls Tryd.prog 32 #[.int .i64 n] w (Gives w (.agg #[.int .i64 1, .int .i64 0, .int .i64 0, .int .i64 n, S [], S [], .bool false, .slice none 0 0, S [], .bool false, S []])) := by
  have hb : ∀ o, Below w.heap.size w (w.alloc o) := fun o => (Below.refl _ _).alloc (Nat.le_refl _) o
  go_enter Tryd.func32, Tryd.ntmps32
  go_wp2_with fail
  refine bodyPost_ret (v := .agg #[.int .i64 1, .int .i64 0, .int .i64 0, .int .i64 n, S [], S [], .bool false, .slice none 0 0, S [], .bool false, S []]) ?_ rfl ?_
  · simp [results, Tryd.results32, go_sem]
  · first
      | exact ⟨rfl, hb _⟩
      | exact ⟨rfl, set_belowH (hb _) (Nat.le_refl _) _⟩

set_option maxRecDepth 100000 in
set_option maxHeartbeats 4000000 in
theorem local_any (n : List UInt8) : Calls Tryd.prog 33 #[S n] w (Gives w (.agg #[.int .i64 6, .int .i64 0, .int .i64 0, .int .i64 0, S n, S [], .bool false, .slice none 0 0, S [], .bool false, S []])) := by
  have hb : ∀ o, Below w.heap.size w (w.alloc o) := fun o => (Below.refl _ _).alloc (Nat.le_refl _) o
  go_enter Tryd.func33, Tryd.ntmps33
  go_wp2_with fail
  refine bodyPost_ret (v := .agg #[.int .i64 6, .int .i64 0, .int .i64 0, .int .i64 0, S n, S [], .bool false, .slice none 0 0, S [], .bool false, S []]) ?_ rfl ?_
  · simp [results, Tryd.results33, go_sem]
  · first
      | exact ⟨rfl, hb _⟩
      | exact ⟨rfl, set_belowH (hb _) (Nat.le_refl _) _⟩

set_option maxRecDepth 100000 in
set_option maxHeartbeats 4000000 in
theorem form_one : Calls Tryd.prog 34 #[.int .i64 1, .int .i64 10] w (Gives w (S [49])) := by
  have h1 : ∀ w', Calls Tryd.prog 60 #[.int .i64 1] w' (Gives w' (S [49])) := by
    intro w'
    go_enter Tryd.func60, Tryd.ntmps60
    go_wp2_with fail
    go_ret
    exact ⟨rfl, Below.refl _ _⟩
  have H1 := hide h1
  clear h1
  have h2 : ∀ w', Calls Tryd.prog 53 #[.int .i64 1, .int .i64 10] w' (Gives w' (S [49])) := by
    intro w'
    have hb0 : ∀ o, Below w'.heap.size w' (w'.alloc o) := fun o => (Below.refl _ _).alloc (Nat.le_refl _) o
    go_enter Tryd.func53, Tryd.ntmps53
    go_wp2_with (go_at_call 60; refine (H1.out _).mono ?_; rintro e w' ⟨rfl, hb⟩)
    go_ret
    exact ⟨rfl, hb⟩
  have H2 := hide h2
  clear h2
  go_enter Tryd.func34, Tryd.ntmps34
  go_wp2_with (go_at_call 53; refine (H2.out _).mono ?_; rintro e w' ⟨rfl, hb⟩)
  go_ret
  exact ⟨rfl, hb⟩

set_option maxRecDepth 100000 in
set_option maxHeartbeats 4000000 in
theorem two_any (op : List UInt8) (k1 n1 : Int) (m1 : List UInt8) (A1 : Option Addr) (l1 c1 : Nat) (k2 n2 : Int) (m2 : List UInt8) (A2 : Option Addr) (l2 c2 : Nat) : Calls Tryd.prog 12 #[.agg #[.int .i64 k1, .int .i64 0, .int .i64 0, .int .i64 n1, S m1, S [], .bool false, .slice A1 l1 c1, S [], .bool false, S []], .agg #[.int .i64 k2, .int .i64 0, .int .i64 0, .int .i64 n2, S m2, S [], .bool false, .slice A2 l2 c2, S [], .bool false, S []], S op] w (fun e w' => ∃ g, w.heap.size ≤ g ∧ e = .returned (.agg #[.int .i64 16, .int .i64 0, .int .i64 0, .int .i64 0, S op, S [], .bool false, .slice (some ⟨g, 0, none⟩) 2 2, S [], .bool false, S []]) ∧ Below w.heap.size w w' ∧ Blk w' g 29 #[.int .i64 k1, .int .i64 0, .int .i64 0, .int .i64 n1, S m1, S [], .bool false, .slice A1 l1 c1, S [], .bool false, S [], .int .i64 k2, .int .i64 0, .int .i64 0, .int .i64 n2, S m2, S [], .bool false, .slice A2 l2 c2, S [], .bool false, S []]) := by
  have hb : ∀ o, Below w.heap.size w (w.alloc o) := fun o => (Below.refl _ _).alloc (Nat.le_refl _) o
  go_enter Tryd.func12, Tryd.ntmps12
  go_wp2_with fail
  refine bodyPost_ret (v := .agg #[.int .i64 16, .int .i64 0, .int .i64 0, .int .i64 0, S op, S [], .bool false, .slice (some ⟨w.heap.size + 1 + 1 + 1, 0, none⟩) 2 2, S [], .bool false, S []]) ?_ rfl ?_
  · simp [results, Tryd.results12, go_sem]
  · refine ⟨w.heap.size + 1 + 1 + 1, by omega, rfl, ?_, ?_⟩
    · have a := hb (.cells #[.int .i64 k1, .int .i64 0, .int .i64 0, .int .i64 n1, S m1, S [], .bool false, .slice A1 l1 c1, S [], .bool false, S []] 29)
      have b := a.alloc a.size (.cells #[.int .i64 k2, .int .i64 0, .int .i64 0, .int .i64 n2, S m2, S [], .bool false, .slice A2 l2 c2, S [], .bool false, S []] 29)
      have c := fun o => b.alloc b.size o
      exact (c _).alloc (c _).size _
    · exact blk_at (by simp only [World.alloc, Array.size_push])

set_option maxRecDepth 100000 in
set_option maxHeartbeats 4000000 in
theorem form_two : Calls Tryd.prog 34 #[.int .i64 2, .int .i64 10] w (Gives w (S [50])) := by
  have h1 : ∀ w', Calls Tryd.prog 60 #[.int .i64 2] w' (Gives w' (S [50])) := by
    intro w'
    go_enter Tryd.func60, Tryd.ntmps60
    go_wp2_with fail
    go_ret
    exact ⟨rfl, Below.refl _ _⟩
  have H1 := hide h1
  clear h1
  have h2 : ∀ w', Calls Tryd.prog 53 #[.int .i64 2, .int .i64 10] w' (Gives w' (S [50])) := by
    intro w'
    go_enter Tryd.func53, Tryd.ntmps53
    go_wp2_with (go_at_call 60; refine (H1.out _).mono ?_; rintro e w' ⟨rfl, hb⟩)
    go_ret
    exact ⟨rfl, hb⟩
  have H2 := hide h2
  clear h2
  go_enter Tryd.func34, Tryd.ntmps34
  go_wp2_with (go_at_call 53; refine (H2.out _).mono ?_; rintro e w' ⟨rfl, hb⟩)
  go_ret
  exact ⟨rfl, hb⟩

set_option maxRecDepth 100000 in
set_option maxHeartbeats 4000000 in
theorem text_num (n : Int) (l : List UInt8) (hC : ∀ w', Calls Tryd.prog 34 #[.int .i64 n, .int .i64 10] w' (Gives w' (S l))) : Calls Tryd.prog 13 #[.agg #[.int .i64 1, .int .i64 0, .int .i64 0, .int .i64 n, S [], S [], .bool false, .slice none 0 0, S [], .bool false, S []]] w (Gives w (S l)) := by
  have hb : ∀ o, Below w.heap.size w (w.alloc o) := fun o => (Below.refl _ _).alloc (Nat.le_refl _) o
  have HB := hide hb
  have H := hide hC
  clear hb hC
  go_enter Tryd.func13, Tryd.ntmps13
  go_wp2_with (go_at_call 34; refine (H.out _).mono ?_; rintro e w' ⟨rfl, hb⟩)
  go_ret
  exact ⟨rfl, (HB.out _).trans (hb.mono (HB.out _).size)⟩

set_option maxRecDepth 100000 in
set_option maxHeartbeats 4000000 in
theorem text_local (l : List UInt8) : Calls Tryd.prog 13 #[.agg #[.int .i64 6, .int .i64 0, .int .i64 0, .int .i64 0, S l, S [], .bool false, .slice none 0 0, S [], .bool false, S []]] w (Gives w (S l)) := by
  have hb : ∀ o, Below w.heap.size w (w.alloc o) := fun o => (Below.refl _ _).alloc (Nat.le_refl _) o
  go_enter Tryd.func13, Tryd.ntmps13
  go_wp2_with fail
  go_ret
  exact ⟨rfl, hb _⟩
end
end Go.Proofs.YtleccalfcnkklaaDoor
