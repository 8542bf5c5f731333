/- Types: which are a class's, which have objects, walked; no statement of the seat is proved here. -/
import Derived.Test.YtleccalfcnkklaaDoorBase
import Derived.Test.YtleccalfcnkklaaDoorChecked
import Derived.Deep.DeepCutAuto
namespace Go.Proofs.YtleccalfcnkklaaDoor
open Go.RowKit

/-- Does a name begin as a class's does? -/
def great : List UInt8 → Bool
  | [] => false
  | c :: _ => decide (65 ≤ (c.toNat : Int)) && decide ((c.toNat : Int) ≤ 90)
def clsB (n : List UInt8) (a : Bool) : Bool := !a && great n
def objB (n : List UInt8) (a : Bool) : Bool := a || great n || n == [110, 117, 108, 108]

set_option maxRecDepth 100000 in
theorem class_any (n : List UInt8) (a : Bool) (w : World) : Calls Tryd.prog 15 #[.agg #[S n, .bool a]] w (Gives w (.bool (clsB n a))) := by
  have hb : ∀ o, Below w.heap.size w (w.alloc o) := fun o => (Below.refl _ _).alloc (Nat.le_refl _) o
  cases a with
  | true =>
    go_enter Tryd.func15, Tryd.ntmps15
    go_wp2_with fail
    go_ret
    exact ⟨rfl, hb _⟩
  | false =>
    rcases n with _ | ⟨c, r⟩
    · go_enter Tryd.func15, Tryd.ntmps15
      go_wp2_with fail
      go_ret
      exact ⟨rfl, hb _⟩
    · by_cases h1 : 65 ≤ (c.toNat : Int)
      · have d1 : decide (65 ≤ (c.toNat : Int)) = true := by simpa using h1
        by_cases h2 : (c.toNat : Int) ≤ 90
        · have d2 : decide ((c.toNat : Int) ≤ 90) = true := by simpa using h2
          have H : Hid (clsB (c :: r) false = true) := hide (by simp [clsB, great, d1, d2])
          go_enter Tryd.func15, Tryd.ntmps15
          go_wp2_with fail
          go_ret
          exact ⟨by rw [H.out] <;> rfl, hb _⟩
        · have d2 : decide ((c.toNat : Int) ≤ 90) = false := by simpa using h2
          have H : Hid (clsB (c :: r) false = false) := hide (by simp [clsB, great, d1, d2])
          go_enter Tryd.func15, Tryd.ntmps15
          go_wp2_with fail
          go_ret
          exact ⟨by rw [H.out] <;> rfl, hb _⟩
      · have d1 : decide (65 ≤ (c.toNat : Int)) = false := by simpa using h1
        have H : Hid (clsB (c :: r) false = false) := hide (by simp [clsB, great, d1])
        go_enter Tryd.func15, Tryd.ntmps15
        go_wp2_with fail
        go_ret
        exact ⟨by rw [H.out] <;> rfl, hb _⟩

theorem set_below' {w w2 : World} (h : Below w.heap.size w w2) {p : Addr} (hp : w.heap.size ≤ p.block) (u : Value) : Below w.heap.size w (w2.setCell p u) :=
  ((Keep.of_below (F := fun _ => False) h (fun k h1 h2 => by omega)).setCell (fun h => by omega) u).below (Nat.le_refl _) (fun k hk => absurd hk id)

set_option maxRecDepth 100000 in
theorem of_any (n : List UInt8) (w : World) : Calls Tryd.prog 14 #[S n] w (Gives w (.agg #[S n, .bool false])) := by
  have hb : ∀ o, Below w.heap.size w (w.alloc o) := fun o => (Below.refl _ _).alloc (Nat.le_refl _) o
  go_enter Tryd.func14, Tryd.ntmps14
  go_wp2_with fail
  refine bodyPost_ret (v := .agg #[S n, .bool false]) ?_ rfl ?_
  · simp [results, Tryd.results14, go_sem]
  · first
      | exact ⟨rfl, hb _⟩
      | exact ⟨rfl, set_below' (hb _) (Nat.le_refl _) _⟩
      | exact ⟨rfl, set_below' (set_below' (hb _) (Nat.le_refl _) _) (Nat.le_refl _) _⟩



theorem tint_any (w : World) : Calls Tryd.prog 18 #[] w (Gives w (.agg #[S [105, 110, 116], .bool false])) := by
  have hb : ∀ o, Below w.heap.size w (w.alloc o) := fun o => (Below.refl _ _).alloc (Nat.le_refl _) o
  go_enter Tryd.func18, Tryd.ntmps18
  go_wp2_with fail
  refine bodyPost_ret (v := .agg #[S [105, 110, 116], .bool false]) ?_ rfl ?_
  · simp [results, Tryd.results18, go_sem]
  · first
      | exact ⟨rfl, hb _⟩
      | exact ⟨rfl, set_below' (hb _) (Nat.le_refl _) _⟩

theorem tbool_any (w : World) : Calls Tryd.prog 19 #[] w (Gives w (.agg #[S [98, 111, 111, 108], .bool false])) := by
  have hb : ∀ o, Below w.heap.size w (w.alloc o) := fun o => (Below.refl _ _).alloc (Nat.le_refl _) o
  go_enter Tryd.func19, Tryd.ntmps19
  go_wp2_with fail
  refine bodyPost_ret (v := .agg #[S [98, 111, 111, 108], .bool false]) ?_ rfl ?_
  · simp [results, Tryd.results19, go_sem]
  · first
      | exact ⟨rfl, hb _⟩
      | exact ⟨rfl, set_below' (hb _) (Nat.le_refl _) _⟩

theorem tnone_any (w : World) : Calls Tryd.prog 20 #[] w (Gives w (.agg #[S [110, 117, 108, 108], .bool false])) := by
  have hb : ∀ o, Below w.heap.size w (w.alloc o) := fun o => (Below.refl _ _).alloc (Nat.le_refl _) o
  go_enter Tryd.func20, Tryd.ntmps20
  go_wp2_with fail
  refine bodyPost_ret (v := .agg #[S [110, 117, 108, 108], .bool false]) ?_ rfl ?_
  · simp [results, Tryd.results20, go_sem]
  · first
      | exact ⟨rfl, hb _⟩
      | exact ⟨rfl, set_below' (hb _) (Nat.le_refl _) _⟩

set_option maxRecDepth 100000 in
theorem elem_any (n : List UInt8) (a : Bool) (w : World) : Calls Tryd.prog 17 #[.agg #[S n, .bool a]] w (Gives w (.agg #[S n, .bool false])) := by
  have hb : ∀ o o', Below w.heap.size w ((w.alloc o).alloc o') := fun o o' => ((Below.refl _ _).alloc (Nat.le_refl _) o).alloc (by simp) o'
  go_enter Tryd.func17, Tryd.ntmps17
  go_wp2_with fail
  refine bodyPost_ret (v := .agg #[S n, .bool false]) ?_ rfl ?_
  · simp [results, Tryd.results17, go_sem]
  · first
      | exact ⟨rfl, hb _ _⟩
      | exact ⟨rfl, set_below' (hb _ _) (by simp) _⟩

set_option maxRecDepth 100000 in
theorem object_any (n : List UInt8) (a : Bool) (w : World) : Calls Tryd.prog 16 #[.agg #[S n, .bool a]] w (Gives w (.bool (objB n a))) := by
  obtain ⟨wA, hwA⟩ : ∃ wA, wA = w.alloc (.cells #[S n, .bool a] 26) := ⟨_, rfl⟩
  have hB : Below w.heap.size w wA := by rw [hwA]; exact (Below.refl _ _).alloc (Nat.le_refl _) _
  have hblk : Blk wA w.heap.size 26 #[S n, .bool a] := by rw [hwA]; exact Blk.new _ _ _
  have p0 : ∀ t : After wA, t.val.cell? ⟨w.heap.size, 0, none⟩ = some (S n) := fun t => (hblk.below t.prop hblk.lt).cell 0
  have p1 : ∀ t : After wA, t.val.cell? ⟨w.heap.size, 1, none⟩ = some (.bool a) := fun t => (hblk.below t.prop hblk.lt).cell 1
  obtain ⟨G, hG⟩ : ∃ G, G = great n := ⟨_, rfl⟩
  obtain ⟨Z, hZ⟩ : ∃ Z, (n == [110, 117, 108, 108]) = Z := ⟨_, rfl⟩
  have HC : Hid (∀ t : After wA, Calls Tryd.prog 15 #[.agg #[S n, .bool a]] t.val (Gives t.val (.bool (!a && G)))) := hide (fun t => by rw [hG]; exact class_any n a t.val)
  have HN : Hid (∀ t : After wA, Calls Tryd.prog 20 #[] t.val (Gives t.val (.agg #[S [110, 117, 108, 108], .bool false]))) := hide (fun t => tnone_any t.val)
  have HR : Hid (objB n a = (a || G || Z)) := hide (by rw [hG, ← hZ]; rfl)
  have HB := hide hB
  rw [HR.out]
  clear hB hblk hG
  by_cases e : n = [110, 117, 108, 108]
  · subst e
    obtain rfl : true = Z := hZ
    cases a <;> cases G
    all_goals
      go_enter Tryd.func16, Tryd.ntmps16
      go_upto_region 1 with fail
      rw [← hwA]
      refine region_after (by kernel_rfl) (by kernel_rfl) ?_
      repeat (go_big_quiet_step (first | (go_at_call 15; refine call_after (HC.out _)) | (go_at_call 20; refine call_after (HN.out _))))
      refine wpQuiet_nil ?_
      rintro _ ⟨t, rfl⟩
      have HB2 := hide (HB.out.trans (t.prop.mono HB.out.size))
      clear p0 p1 HC HN
      go_wp2_with fail
      go_ret
      exact ⟨by simp, HB2.out⟩
  · obtain rfl : false = Z := by rw [← hZ]; simp [e]
    clear e
    cases a <;> cases G
    all_goals
      go_enter Tryd.func16, Tryd.ntmps16
      go_upto_region 1 with fail
      rw [← hwA]
      refine region_after (by kernel_rfl) (by kernel_rfl) ?_
      repeat (go_big_quiet_step (first | (go_at_call 15; refine call_after (HC.out _)) | (go_at_call 20; refine call_after (HN.out _))))
      refine wpQuiet_nil ?_
      rintro _ ⟨t, rfl⟩
      have HB2 := hide (HB.out.trans (t.prop.mono HB.out.size))
      clear p0 p1 HC HN
      go_wp2_with fail
      go_ret
      exact ⟨by simp, HB2.out⟩
end Go.Proofs.YtleccalfcnkklaaDoor
