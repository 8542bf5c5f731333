/- The law's own page of a file that is right: its names, its counts, its instructions, walked; no statement of the seat is proved here. -/
import Derived.Test.YtkldfbacagnhoaaDoorOpRightC
import Derived.Test.YtkldfbacagnhoaaDoorClsR1
import Derived.Laws.RangeAny
namespace Go.Proofs.YtkldfbacagnhoaaDoor
open Go.RowKit

set_option maxRecDepth 100000 in
theorem lawc_any (s : List UInt8) (w : World) : Calls Tryd.prog 39 #[S s] w (Gives w (.bool (cname s))) := by
  rcases s with _ | ⟨c, r⟩
  · go_enter Tryd.func39, Tryd.ntmps39
    go_wp2_with fail
    go_ret
    exact ⟨rfl, Below.refl _ _⟩
  · obtain ⟨R, hR⟩ : ∃ R, R = cname (c :: r) := ⟨_, rfl⟩
    rw [← hR]
    obtain ⟨b1, d1⟩ : ∃ b, decide (65 ≤ (c.toNat : Int)) = b := ⟨_, rfl⟩
    obtain ⟨b2, d2⟩ : ∃ b, decide ((c.toNat : Int) ≤ 90) = b := ⟨_, rfl⟩
    obtain ⟨n, hn⟩ : ∃ n, n = (c :: r).length := ⟨_, rfl⟩
    have hRR : R = (b1 && b2 && decide (n ≤ 40)) := by rw [hR, ← d1, ← d2, hn]; rfl
    have HR := hide (fun _ : Unit => hRR)
    have hn1 : r.length + 1 = n := by rw [hn]; rfl
    clear hR hRR hn
    by_cases h4 : n ≤ 40
    all_goals
      first
        | have d3 : decide ((r.length : Int) + 1 ≤ 40) = true := by simp; omega
        | have d3 : decide ((r.length : Int) + 1 ≤ 40) = false := by simp; omega
      first
        | have d4 : decide (r.length + 1 ≤ 40) = true := by simp; omega
        | have d4 : decide (r.length + 1 ≤ 40) = false := by simp; omega
      first
        | have d5 : decide (r.length < 40) = true := by simp; omega
        | have d5 : decide (r.length < 40) = false := by simp; omega
      first
        | have d6 : decide (r.length ≤ 39) = true := by simp; omega
        | have d6 : decide (r.length ≤ 39) = false := by simp; omega
      cases b1 <;> cases b2
      all_goals
        go_enter Tryd.func39, Tryd.ntmps39
        go_wp2_with fail
        go_ret
        exact ⟨by rw [HR.out ()]; simp <;> omega, Below.refl _ _⟩



theorem wpos {w : World} {o : Obj} : Below w.heap.size w (w.alloc o) := (Below.refl _ _).alloc (Nat.le_refl _) _

set_option maxRecDepth 100000 in
set_option maxHeartbeats 8000000 in
theorem cntL_any (f : Fl) (b : Bd) (k : Int) (g1 g2 : Nat) (w : World) (h1 : Blk w g1 36 f.cells.toArray) (h2 : Blk w g2 58 b.cells.toArray) (hk : k = 110 ∨ k = 99 ∨ k = 116 ∨ k = 102 ∨ k = 109 ∨ k = 108 ∨ k = 106 ∨ k = 98) :
    Calls Tryd.prog 41 #[.int .i32 k, .pointer (some ⟨g1, 0, none⟩), .pointer (some ⟨g2, 0, none⟩)] w (Gives w (.int .i64 (cntV f b k))) := by
  have HH1 := hide h1
  have HH2 := hide h2
  have HB := hide (fun o o' => show Below w.heap.size w ((w.alloc o).alloc o') from ((Below.refl _ _).alloc (Nat.le_refl _) _).alloc (by simp) _)
  clear h1 h2
  obtain ⟨lo, sk, bA, bk, bc, code⟩ := b
  obtain ⟨R, hR⟩ : ∃ R, R = cntV f ⟨lo, sk, bA, bk, bc, code⟩ k := ⟨_, rfl⟩
  rw [← hR]

  rcases hk with rfl | rfl | rfl | rfl | rfl | rfl | rfl | rfl
  · have HR := hide (fun _ : Unit => hR)
    clear hR
    go_enter Tryd.func41, Tryd.ntmps41
    go_wp2_with fail
    go_loopw [4] (fun n w' => ∃ j : Nat, j ≤ 0 ∧ n = .int .i64 0 ∧ w' = w.iter (ByteArray.mk #[110, 99, 116, 102, 109, 108, 106, 98]) j) (fun _ w' => 8 - w'.iterPos w.heap.size)
    case atStart => exact ⟨0, by omega, rfl, rfl⟩
    case round =>
      obtain ⟨j, hj, rfl, rfl⟩ := hrel
      obtain rfl : j = 0 := by omega
      · have hnx : ∀ ty, (Instr.next (.pointer (some ⟨w.heap.size, 0, none⟩)) true ty).run Tryd.prog (w.iter (ByteArray.mk #[110, 99, 116, 102, 109, 108, 106, 98]) 0) = .ok (.tuple #[.bool true, .int .i64 0, .int .i32 110]) (w.iter (ByteArray.mk #[110, 99, 116, 102, 109, 108, 106, 98]) 1) := fun ty => run_next_ascii w (ByteArray.mk #[110, 99, 116, 102, 109, 108, 106, 98]) 0 ty (by decide) (by decide)
        have c4 : (w.iter (ByteArray.mk #[110, 99, 116, 102, 109, 108, 106, 98]) 1).cell? ⟨g1, 4, none⟩ = f.cells.toArray[4]? := (HH1.out.alloc _).cell 4
        have c5 : (w.iter (ByteArray.mk #[110, 99, 116, 102, 109, 108, 106, 98]) 1).cell? ⟨g1, 5, none⟩ = f.cells.toArray[5]? := (HH1.out.alloc _).cell 5
        have c6 : (w.iter (ByteArray.mk #[110, 99, 116, 102, 109, 108, 106, 98]) 1).cell? ⟨g1, 6, none⟩ = f.cells.toArray[6]? := (HH1.out.alloc _).cell 6
        have c7 : (w.iter (ByteArray.mk #[110, 99, 116, 102, 109, 108, 106, 98]) 1).cell? ⟨g1, 7, none⟩ = f.cells.toArray[7]? := (HH1.out.alloc _).cell 7
        have c8 : (w.iter (ByteArray.mk #[110, 99, 116, 102, 109, 108, 106, 98]) 1).cell? ⟨g1, 8, none⟩ = f.cells.toArray[8]? := (HH1.out.alloc _).cell 8
        have d0 : (w.iter (ByteArray.mk #[110, 99, 116, 102, 109, 108, 106, 98]) 1).cell? ⟨g2, 0, none⟩ = (Bd.cells ⟨lo, sk, bA, bk, bc, code⟩).toArray[0]? := (HH2.out.alloc _).cell 0
        have d2 : (w.iter (ByteArray.mk #[110, 99, 116, 102, 109, 108, 106, 98]) 1).cell? ⟨g2, 2, none⟩ = (Bd.cells ⟨lo, sk, bA, bk, bc, code⟩).toArray[2]? := (HH2.out.alloc _).cell 2
        simp at c4 c5 c6 c7 c8 d0 d2
        go_wp2_with fail
        go_ret
        exact ⟨by rw [HR.out ()] <;> rfl, HB.out _ _⟩
  · have HR := hide (fun _ : Unit => hR)
    clear hR
    go_enter Tryd.func41, Tryd.ntmps41
    go_wp2_with fail
    go_loopw [4] (fun n w' => ∃ j : Nat, j ≤ 1 ∧ n = .int .i64 0 ∧ w' = w.iter (ByteArray.mk #[110, 99, 116, 102, 109, 108, 106, 98]) j) (fun _ w' => 8 - w'.iterPos w.heap.size)
    case atStart => exact ⟨0, by omega, rfl, rfl⟩
    case round =>
      obtain ⟨j, hj, rfl, rfl⟩ := hrel
      obtain rfl | rfl : j = 0 ∨ j = 1 := by omega
      · have hnx : ∀ ty, (Instr.next (.pointer (some ⟨w.heap.size, 0, none⟩)) true ty).run Tryd.prog (w.iter (ByteArray.mk #[110, 99, 116, 102, 109, 108, 106, 98]) 0) = .ok (.tuple #[.bool true, .int .i64 0, .int .i32 110]) (w.iter (ByteArray.mk #[110, 99, 116, 102, 109, 108, 106, 98]) 1) := fun ty => run_next_ascii w (ByteArray.mk #[110, 99, 116, 102, 109, 108, 106, 98]) 0 ty (by decide) (by decide)
        go_wp2_with fail
        go_roundw
        case rel => exact ⟨1, by omega, rfl, rfl⟩
        case measure => simp
      · have hnx : ∀ ty, (Instr.next (.pointer (some ⟨w.heap.size, 0, none⟩)) true ty).run Tryd.prog (w.iter (ByteArray.mk #[110, 99, 116, 102, 109, 108, 106, 98]) 1) = .ok (.tuple #[.bool true, .int .i64 1, .int .i32 99]) (w.iter (ByteArray.mk #[110, 99, 116, 102, 109, 108, 106, 98]) 2) := fun ty => run_next_ascii w (ByteArray.mk #[110, 99, 116, 102, 109, 108, 106, 98]) 1 ty (by decide) (by decide)
        have c4 : (w.iter (ByteArray.mk #[110, 99, 116, 102, 109, 108, 106, 98]) 2).cell? ⟨g1, 4, none⟩ = f.cells.toArray[4]? := (HH1.out.alloc _).cell 4
        have c5 : (w.iter (ByteArray.mk #[110, 99, 116, 102, 109, 108, 106, 98]) 2).cell? ⟨g1, 5, none⟩ = f.cells.toArray[5]? := (HH1.out.alloc _).cell 5
        have c6 : (w.iter (ByteArray.mk #[110, 99, 116, 102, 109, 108, 106, 98]) 2).cell? ⟨g1, 6, none⟩ = f.cells.toArray[6]? := (HH1.out.alloc _).cell 6
        have c7 : (w.iter (ByteArray.mk #[110, 99, 116, 102, 109, 108, 106, 98]) 2).cell? ⟨g1, 7, none⟩ = f.cells.toArray[7]? := (HH1.out.alloc _).cell 7
        have c8 : (w.iter (ByteArray.mk #[110, 99, 116, 102, 109, 108, 106, 98]) 2).cell? ⟨g1, 8, none⟩ = f.cells.toArray[8]? := (HH1.out.alloc _).cell 8
        have d0 : (w.iter (ByteArray.mk #[110, 99, 116, 102, 109, 108, 106, 98]) 2).cell? ⟨g2, 0, none⟩ = (Bd.cells ⟨lo, sk, bA, bk, bc, code⟩).toArray[0]? := (HH2.out.alloc _).cell 0
        have d2 : (w.iter (ByteArray.mk #[110, 99, 116, 102, 109, 108, 106, 98]) 2).cell? ⟨g2, 2, none⟩ = (Bd.cells ⟨lo, sk, bA, bk, bc, code⟩).toArray[2]? := (HH2.out.alloc _).cell 2
        simp at c4 c5 c6 c7 c8 d0 d2
        go_wp2_with fail
        go_ret
        exact ⟨by rw [HR.out ()] <;> rfl, HB.out _ _⟩
  · have HR := hide (fun _ : Unit => hR)
    clear hR
    go_enter Tryd.func41, Tryd.ntmps41
    go_wp2_with fail
    go_loopw [4] (fun n w' => ∃ j : Nat, j ≤ 2 ∧ n = .int .i64 0 ∧ w' = w.iter (ByteArray.mk #[110, 99, 116, 102, 109, 108, 106, 98]) j) (fun _ w' => 8 - w'.iterPos w.heap.size)
    case atStart => exact ⟨0, by omega, rfl, rfl⟩
    case round =>
      obtain ⟨j, hj, rfl, rfl⟩ := hrel
      obtain rfl | rfl | rfl : j = 0 ∨ j = 1 ∨ j = 2 := by omega
      · have hnx : ∀ ty, (Instr.next (.pointer (some ⟨w.heap.size, 0, none⟩)) true ty).run Tryd.prog (w.iter (ByteArray.mk #[110, 99, 116, 102, 109, 108, 106, 98]) 0) = .ok (.tuple #[.bool true, .int .i64 0, .int .i32 110]) (w.iter (ByteArray.mk #[110, 99, 116, 102, 109, 108, 106, 98]) 1) := fun ty => run_next_ascii w (ByteArray.mk #[110, 99, 116, 102, 109, 108, 106, 98]) 0 ty (by decide) (by decide)
        go_wp2_with fail
        go_roundw
        case rel => exact ⟨1, by omega, rfl, rfl⟩
        case measure => simp
      · have hnx : ∀ ty, (Instr.next (.pointer (some ⟨w.heap.size, 0, none⟩)) true ty).run Tryd.prog (w.iter (ByteArray.mk #[110, 99, 116, 102, 109, 108, 106, 98]) 1) = .ok (.tuple #[.bool true, .int .i64 1, .int .i32 99]) (w.iter (ByteArray.mk #[110, 99, 116, 102, 109, 108, 106, 98]) 2) := fun ty => run_next_ascii w (ByteArray.mk #[110, 99, 116, 102, 109, 108, 106, 98]) 1 ty (by decide) (by decide)
        go_wp2_with fail
        go_roundw
        case rel => exact ⟨2, by omega, rfl, rfl⟩
        case measure => simp
      · have hnx : ∀ ty, (Instr.next (.pointer (some ⟨w.heap.size, 0, none⟩)) true ty).run Tryd.prog (w.iter (ByteArray.mk #[110, 99, 116, 102, 109, 108, 106, 98]) 2) = .ok (.tuple #[.bool true, .int .i64 2, .int .i32 116]) (w.iter (ByteArray.mk #[110, 99, 116, 102, 109, 108, 106, 98]) 3) := fun ty => run_next_ascii w (ByteArray.mk #[110, 99, 116, 102, 109, 108, 106, 98]) 2 ty (by decide) (by decide)
        have c4 : (w.iter (ByteArray.mk #[110, 99, 116, 102, 109, 108, 106, 98]) 3).cell? ⟨g1, 4, none⟩ = f.cells.toArray[4]? := (HH1.out.alloc _).cell 4
        have c5 : (w.iter (ByteArray.mk #[110, 99, 116, 102, 109, 108, 106, 98]) 3).cell? ⟨g1, 5, none⟩ = f.cells.toArray[5]? := (HH1.out.alloc _).cell 5
        have c6 : (w.iter (ByteArray.mk #[110, 99, 116, 102, 109, 108, 106, 98]) 3).cell? ⟨g1, 6, none⟩ = f.cells.toArray[6]? := (HH1.out.alloc _).cell 6
        have c7 : (w.iter (ByteArray.mk #[110, 99, 116, 102, 109, 108, 106, 98]) 3).cell? ⟨g1, 7, none⟩ = f.cells.toArray[7]? := (HH1.out.alloc _).cell 7
        have c8 : (w.iter (ByteArray.mk #[110, 99, 116, 102, 109, 108, 106, 98]) 3).cell? ⟨g1, 8, none⟩ = f.cells.toArray[8]? := (HH1.out.alloc _).cell 8
        have d0 : (w.iter (ByteArray.mk #[110, 99, 116, 102, 109, 108, 106, 98]) 3).cell? ⟨g2, 0, none⟩ = (Bd.cells ⟨lo, sk, bA, bk, bc, code⟩).toArray[0]? := (HH2.out.alloc _).cell 0
        have d2 : (w.iter (ByteArray.mk #[110, 99, 116, 102, 109, 108, 106, 98]) 3).cell? ⟨g2, 2, none⟩ = (Bd.cells ⟨lo, sk, bA, bk, bc, code⟩).toArray[2]? := (HH2.out.alloc _).cell 2
        simp at c4 c5 c6 c7 c8 d0 d2
        go_wp2_with fail
        go_ret
        exact ⟨by rw [HR.out ()] <;> rfl, HB.out _ _⟩
  · have HR := hide (fun _ : Unit => hR)
    clear hR
    go_enter Tryd.func41, Tryd.ntmps41
    go_wp2_with fail
    go_loopw [4] (fun n w' => ∃ j : Nat, j ≤ 3 ∧ n = .int .i64 0 ∧ w' = w.iter (ByteArray.mk #[110, 99, 116, 102, 109, 108, 106, 98]) j) (fun _ w' => 8 - w'.iterPos w.heap.size)
    case atStart => exact ⟨0, by omega, rfl, rfl⟩
    case round =>
      obtain ⟨j, hj, rfl, rfl⟩ := hrel
      obtain rfl | rfl | rfl | rfl : j = 0 ∨ j = 1 ∨ j = 2 ∨ j = 3 := by omega
      · have hnx : ∀ ty, (Instr.next (.pointer (some ⟨w.heap.size, 0, none⟩)) true ty).run Tryd.prog (w.iter (ByteArray.mk #[110, 99, 116, 102, 109, 108, 106, 98]) 0) = .ok (.tuple #[.bool true, .int .i64 0, .int .i32 110]) (w.iter (ByteArray.mk #[110, 99, 116, 102, 109, 108, 106, 98]) 1) := fun ty => run_next_ascii w (ByteArray.mk #[110, 99, 116, 102, 109, 108, 106, 98]) 0 ty (by decide) (by decide)
        go_wp2_with fail
        go_roundw
        case rel => exact ⟨1, by omega, rfl, rfl⟩
        case measure => simp
      · have hnx : ∀ ty, (Instr.next (.pointer (some ⟨w.heap.size, 0, none⟩)) true ty).run Tryd.prog (w.iter (ByteArray.mk #[110, 99, 116, 102, 109, 108, 106, 98]) 1) = .ok (.tuple #[.bool true, .int .i64 1, .int .i32 99]) (w.iter (ByteArray.mk #[110, 99, 116, 102, 109, 108, 106, 98]) 2) := fun ty => run_next_ascii w (ByteArray.mk #[110, 99, 116, 102, 109, 108, 106, 98]) 1 ty (by decide) (by decide)
        go_wp2_with fail
        go_roundw
        case rel => exact ⟨2, by omega, rfl, rfl⟩
        case measure => simp
      · have hnx : ∀ ty, (Instr.next (.pointer (some ⟨w.heap.size, 0, none⟩)) true ty).run Tryd.prog (w.iter (ByteArray.mk #[110, 99, 116, 102, 109, 108, 106, 98]) 2) = .ok (.tuple #[.bool true, .int .i64 2, .int .i32 116]) (w.iter (ByteArray.mk #[110, 99, 116, 102, 109, 108, 106, 98]) 3) := fun ty => run_next_ascii w (ByteArray.mk #[110, 99, 116, 102, 109, 108, 106, 98]) 2 ty (by decide) (by decide)
        go_wp2_with fail
        go_roundw
        case rel => exact ⟨3, by omega, rfl, rfl⟩
        case measure => simp
      · have hnx : ∀ ty, (Instr.next (.pointer (some ⟨w.heap.size, 0, none⟩)) true ty).run Tryd.prog (w.iter (ByteArray.mk #[110, 99, 116, 102, 109, 108, 106, 98]) 3) = .ok (.tuple #[.bool true, .int .i64 3, .int .i32 102]) (w.iter (ByteArray.mk #[110, 99, 116, 102, 109, 108, 106, 98]) 4) := fun ty => run_next_ascii w (ByteArray.mk #[110, 99, 116, 102, 109, 108, 106, 98]) 3 ty (by decide) (by decide)
        have c4 : (w.iter (ByteArray.mk #[110, 99, 116, 102, 109, 108, 106, 98]) 4).cell? ⟨g1, 4, none⟩ = f.cells.toArray[4]? := (HH1.out.alloc _).cell 4
        have c5 : (w.iter (ByteArray.mk #[110, 99, 116, 102, 109, 108, 106, 98]) 4).cell? ⟨g1, 5, none⟩ = f.cells.toArray[5]? := (HH1.out.alloc _).cell 5
        have c6 : (w.iter (ByteArray.mk #[110, 99, 116, 102, 109, 108, 106, 98]) 4).cell? ⟨g1, 6, none⟩ = f.cells.toArray[6]? := (HH1.out.alloc _).cell 6
        have c7 : (w.iter (ByteArray.mk #[110, 99, 116, 102, 109, 108, 106, 98]) 4).cell? ⟨g1, 7, none⟩ = f.cells.toArray[7]? := (HH1.out.alloc _).cell 7
        have c8 : (w.iter (ByteArray.mk #[110, 99, 116, 102, 109, 108, 106, 98]) 4).cell? ⟨g1, 8, none⟩ = f.cells.toArray[8]? := (HH1.out.alloc _).cell 8
        have d0 : (w.iter (ByteArray.mk #[110, 99, 116, 102, 109, 108, 106, 98]) 4).cell? ⟨g2, 0, none⟩ = (Bd.cells ⟨lo, sk, bA, bk, bc, code⟩).toArray[0]? := (HH2.out.alloc _).cell 0
        have d2 : (w.iter (ByteArray.mk #[110, 99, 116, 102, 109, 108, 106, 98]) 4).cell? ⟨g2, 2, none⟩ = (Bd.cells ⟨lo, sk, bA, bk, bc, code⟩).toArray[2]? := (HH2.out.alloc _).cell 2
        simp at c4 c5 c6 c7 c8 d0 d2
        go_wp2_with fail
        go_ret
        exact ⟨by rw [HR.out ()] <;> rfl, HB.out _ _⟩
  · have HR := hide (fun _ : Unit => hR)
    clear hR
    go_enter Tryd.func41, Tryd.ntmps41
    go_wp2_with fail
    go_loopw [4] (fun n w' => ∃ j : Nat, j ≤ 4 ∧ n = .int .i64 0 ∧ w' = w.iter (ByteArray.mk #[110, 99, 116, 102, 109, 108, 106, 98]) j) (fun _ w' => 8 - w'.iterPos w.heap.size)
    case atStart => exact ⟨0, by omega, rfl, rfl⟩
    case round =>
      obtain ⟨j, hj, rfl, rfl⟩ := hrel
      obtain rfl | rfl | rfl | rfl | rfl : j = 0 ∨ j = 1 ∨ j = 2 ∨ j = 3 ∨ j = 4 := by omega
      · have hnx : ∀ ty, (Instr.next (.pointer (some ⟨w.heap.size, 0, none⟩)) true ty).run Tryd.prog (w.iter (ByteArray.mk #[110, 99, 116, 102, 109, 108, 106, 98]) 0) = .ok (.tuple #[.bool true, .int .i64 0, .int .i32 110]) (w.iter (ByteArray.mk #[110, 99, 116, 102, 109, 108, 106, 98]) 1) := fun ty => run_next_ascii w (ByteArray.mk #[110, 99, 116, 102, 109, 108, 106, 98]) 0 ty (by decide) (by decide)
        go_wp2_with fail
        go_roundw
        case rel => exact ⟨1, by omega, rfl, rfl⟩
        case measure => simp
      · have hnx : ∀ ty, (Instr.next (.pointer (some ⟨w.heap.size, 0, none⟩)) true ty).run Tryd.prog (w.iter (ByteArray.mk #[110, 99, 116, 102, 109, 108, 106, 98]) 1) = .ok (.tuple #[.bool true, .int .i64 1, .int .i32 99]) (w.iter (ByteArray.mk #[110, 99, 116, 102, 109, 108, 106, 98]) 2) := fun ty => run_next_ascii w (ByteArray.mk #[110, 99, 116, 102, 109, 108, 106, 98]) 1 ty (by decide) (by decide)
        go_wp2_with fail
        go_roundw
        case rel => exact ⟨2, by omega, rfl, rfl⟩
        case measure => simp
      · have hnx : ∀ ty, (Instr.next (.pointer (some ⟨w.heap.size, 0, none⟩)) true ty).run Tryd.prog (w.iter (ByteArray.mk #[110, 99, 116, 102, 109, 108, 106, 98]) 2) = .ok (.tuple #[.bool true, .int .i64 2, .int .i32 116]) (w.iter (ByteArray.mk #[110, 99, 116, 102, 109, 108, 106, 98]) 3) := fun ty => run_next_ascii w (ByteArray.mk #[110, 99, 116, 102, 109, 108, 106, 98]) 2 ty (by decide) (by decide)
        go_wp2_with fail
        go_roundw
        case rel => exact ⟨3, by omega, rfl, rfl⟩
        case measure => simp
      · have hnx : ∀ ty, (Instr.next (.pointer (some ⟨w.heap.size, 0, none⟩)) true ty).run Tryd.prog (w.iter (ByteArray.mk #[110, 99, 116, 102, 109, 108, 106, 98]) 3) = .ok (.tuple #[.bool true, .int .i64 3, .int .i32 102]) (w.iter (ByteArray.mk #[110, 99, 116, 102, 109, 108, 106, 98]) 4) := fun ty => run_next_ascii w (ByteArray.mk #[110, 99, 116, 102, 109, 108, 106, 98]) 3 ty (by decide) (by decide)
        go_wp2_with fail
        go_roundw
        case rel => exact ⟨4, by omega, rfl, rfl⟩
        case measure => simp
      · have hnx : ∀ ty, (Instr.next (.pointer (some ⟨w.heap.size, 0, none⟩)) true ty).run Tryd.prog (w.iter (ByteArray.mk #[110, 99, 116, 102, 109, 108, 106, 98]) 4) = .ok (.tuple #[.bool true, .int .i64 4, .int .i32 109]) (w.iter (ByteArray.mk #[110, 99, 116, 102, 109, 108, 106, 98]) 5) := fun ty => run_next_ascii w (ByteArray.mk #[110, 99, 116, 102, 109, 108, 106, 98]) 4 ty (by decide) (by decide)
        have c4 : (w.iter (ByteArray.mk #[110, 99, 116, 102, 109, 108, 106, 98]) 5).cell? ⟨g1, 4, none⟩ = f.cells.toArray[4]? := (HH1.out.alloc _).cell 4
        have c5 : (w.iter (ByteArray.mk #[110, 99, 116, 102, 109, 108, 106, 98]) 5).cell? ⟨g1, 5, none⟩ = f.cells.toArray[5]? := (HH1.out.alloc _).cell 5
        have c6 : (w.iter (ByteArray.mk #[110, 99, 116, 102, 109, 108, 106, 98]) 5).cell? ⟨g1, 6, none⟩ = f.cells.toArray[6]? := (HH1.out.alloc _).cell 6
        have c7 : (w.iter (ByteArray.mk #[110, 99, 116, 102, 109, 108, 106, 98]) 5).cell? ⟨g1, 7, none⟩ = f.cells.toArray[7]? := (HH1.out.alloc _).cell 7
        have c8 : (w.iter (ByteArray.mk #[110, 99, 116, 102, 109, 108, 106, 98]) 5).cell? ⟨g1, 8, none⟩ = f.cells.toArray[8]? := (HH1.out.alloc _).cell 8
        have d0 : (w.iter (ByteArray.mk #[110, 99, 116, 102, 109, 108, 106, 98]) 5).cell? ⟨g2, 0, none⟩ = (Bd.cells ⟨lo, sk, bA, bk, bc, code⟩).toArray[0]? := (HH2.out.alloc _).cell 0
        have d2 : (w.iter (ByteArray.mk #[110, 99, 116, 102, 109, 108, 106, 98]) 5).cell? ⟨g2, 2, none⟩ = (Bd.cells ⟨lo, sk, bA, bk, bc, code⟩).toArray[2]? := (HH2.out.alloc _).cell 2
        simp at c4 c5 c6 c7 c8 d0 d2
        go_wp2_with fail
        go_ret
        exact ⟨by rw [HR.out ()] <;> rfl, HB.out _ _⟩
  · have HR := hide (fun _ : Unit => hR)
    clear hR
    go_enter Tryd.func41, Tryd.ntmps41
    go_wp2_with fail
    go_loopw [4] (fun n w' => ∃ j : Nat, j ≤ 5 ∧ n = .int .i64 0 ∧ w' = w.iter (ByteArray.mk #[110, 99, 116, 102, 109, 108, 106, 98]) j) (fun _ w' => 8 - w'.iterPos w.heap.size)
    case atStart => exact ⟨0, by omega, rfl, rfl⟩
    case round =>
      obtain ⟨j, hj, rfl, rfl⟩ := hrel
      obtain rfl | rfl | rfl | rfl | rfl | rfl : j = 0 ∨ j = 1 ∨ j = 2 ∨ j = 3 ∨ j = 4 ∨ j = 5 := by omega
      · have hnx : ∀ ty, (Instr.next (.pointer (some ⟨w.heap.size, 0, none⟩)) true ty).run Tryd.prog (w.iter (ByteArray.mk #[110, 99, 116, 102, 109, 108, 106, 98]) 0) = .ok (.tuple #[.bool true, .int .i64 0, .int .i32 110]) (w.iter (ByteArray.mk #[110, 99, 116, 102, 109, 108, 106, 98]) 1) := fun ty => run_next_ascii w (ByteArray.mk #[110, 99, 116, 102, 109, 108, 106, 98]) 0 ty (by decide) (by decide)
        go_wp2_with fail
        go_roundw
        case rel => exact ⟨1, by omega, rfl, rfl⟩
        case measure => simp
      · have hnx : ∀ ty, (Instr.next (.pointer (some ⟨w.heap.size, 0, none⟩)) true ty).run Tryd.prog (w.iter (ByteArray.mk #[110, 99, 116, 102, 109, 108, 106, 98]) 1) = .ok (.tuple #[.bool true, .int .i64 1, .int .i32 99]) (w.iter (ByteArray.mk #[110, 99, 116, 102, 109, 108, 106, 98]) 2) := fun ty => run_next_ascii w (ByteArray.mk #[110, 99, 116, 102, 109, 108, 106, 98]) 1 ty (by decide) (by decide)
        go_wp2_with fail
        go_roundw
        case rel => exact ⟨2, by omega, rfl, rfl⟩
        case measure => simp
      · have hnx : ∀ ty, (Instr.next (.pointer (some ⟨w.heap.size, 0, none⟩)) true ty).run Tryd.prog (w.iter (ByteArray.mk #[110, 99, 116, 102, 109, 108, 106, 98]) 2) = .ok (.tuple #[.bool true, .int .i64 2, .int .i32 116]) (w.iter (ByteArray.mk #[110, 99, 116, 102, 109, 108, 106, 98]) 3) := fun ty => run_next_ascii w (ByteArray.mk #[110, 99, 116, 102, 109, 108, 106, 98]) 2 ty (by decide) (by decide)
        go_wp2_with fail
        go_roundw
        case rel => exact ⟨3, by omega, rfl, rfl⟩
        case measure => simp
      · have hnx : ∀ ty, (Instr.next (.pointer (some ⟨w.heap.size, 0, none⟩)) true ty).run Tryd.prog (w.iter (ByteArray.mk #[110, 99, 116, 102, 109, 108, 106, 98]) 3) = .ok (.tuple #[.bool true, .int .i64 3, .int .i32 102]) (w.iter (ByteArray.mk #[110, 99, 116, 102, 109, 108, 106, 98]) 4) := fun ty => run_next_ascii w (ByteArray.mk #[110, 99, 116, 102, 109, 108, 106, 98]) 3 ty (by decide) (by decide)
        go_wp2_with fail
        go_roundw
        case rel => exact ⟨4, by omega, rfl, rfl⟩
        case measure => simp
      · have hnx : ∀ ty, (Instr.next (.pointer (some ⟨w.heap.size, 0, none⟩)) true ty).run Tryd.prog (w.iter (ByteArray.mk #[110, 99, 116, 102, 109, 108, 106, 98]) 4) = .ok (.tuple #[.bool true, .int .i64 4, .int .i32 109]) (w.iter (ByteArray.mk #[110, 99, 116, 102, 109, 108, 106, 98]) 5) := fun ty => run_next_ascii w (ByteArray.mk #[110, 99, 116, 102, 109, 108, 106, 98]) 4 ty (by decide) (by decide)
        go_wp2_with fail
        go_roundw
        case rel => exact ⟨5, by omega, rfl, rfl⟩
        case measure => simp
      · have hnx : ∀ ty, (Instr.next (.pointer (some ⟨w.heap.size, 0, none⟩)) true ty).run Tryd.prog (w.iter (ByteArray.mk #[110, 99, 116, 102, 109, 108, 106, 98]) 5) = .ok (.tuple #[.bool true, .int .i64 5, .int .i32 108]) (w.iter (ByteArray.mk #[110, 99, 116, 102, 109, 108, 106, 98]) 6) := fun ty => run_next_ascii w (ByteArray.mk #[110, 99, 116, 102, 109, 108, 106, 98]) 5 ty (by decide) (by decide)
        have c4 : (w.iter (ByteArray.mk #[110, 99, 116, 102, 109, 108, 106, 98]) 6).cell? ⟨g1, 4, none⟩ = f.cells.toArray[4]? := (HH1.out.alloc _).cell 4
        have c5 : (w.iter (ByteArray.mk #[110, 99, 116, 102, 109, 108, 106, 98]) 6).cell? ⟨g1, 5, none⟩ = f.cells.toArray[5]? := (HH1.out.alloc _).cell 5
        have c6 : (w.iter (ByteArray.mk #[110, 99, 116, 102, 109, 108, 106, 98]) 6).cell? ⟨g1, 6, none⟩ = f.cells.toArray[6]? := (HH1.out.alloc _).cell 6
        have c7 : (w.iter (ByteArray.mk #[110, 99, 116, 102, 109, 108, 106, 98]) 6).cell? ⟨g1, 7, none⟩ = f.cells.toArray[7]? := (HH1.out.alloc _).cell 7
        have c8 : (w.iter (ByteArray.mk #[110, 99, 116, 102, 109, 108, 106, 98]) 6).cell? ⟨g1, 8, none⟩ = f.cells.toArray[8]? := (HH1.out.alloc _).cell 8
        have d0 : (w.iter (ByteArray.mk #[110, 99, 116, 102, 109, 108, 106, 98]) 6).cell? ⟨g2, 0, none⟩ = (Bd.cells ⟨lo, sk, bA, bk, bc, code⟩).toArray[0]? := (HH2.out.alloc _).cell 0
        have d2 : (w.iter (ByteArray.mk #[110, 99, 116, 102, 109, 108, 106, 98]) 6).cell? ⟨g2, 2, none⟩ = (Bd.cells ⟨lo, sk, bA, bk, bc, code⟩).toArray[2]? := (HH2.out.alloc _).cell 2
        simp at c4 c5 c6 c7 c8 d0 d2
        go_wp2_with fail
        go_ret
        exact ⟨by rw [HR.out ()] <;> rfl, HB.out _ _⟩
  · have HR := hide (fun _ : Unit => hR)
    clear hR
    go_enter Tryd.func41, Tryd.ntmps41
    go_wp2_with fail
    go_loopw [4] (fun n w' => ∃ j : Nat, j ≤ 6 ∧ n = .int .i64 0 ∧ w' = w.iter (ByteArray.mk #[110, 99, 116, 102, 109, 108, 106, 98]) j) (fun _ w' => 8 - w'.iterPos w.heap.size)
    case atStart => exact ⟨0, by omega, rfl, rfl⟩
    case round =>
      obtain ⟨j, hj, rfl, rfl⟩ := hrel
      obtain rfl | rfl | rfl | rfl | rfl | rfl | rfl : j = 0 ∨ j = 1 ∨ j = 2 ∨ j = 3 ∨ j = 4 ∨ j = 5 ∨ j = 6 := by omega
      · have hnx : ∀ ty, (Instr.next (.pointer (some ⟨w.heap.size, 0, none⟩)) true ty).run Tryd.prog (w.iter (ByteArray.mk #[110, 99, 116, 102, 109, 108, 106, 98]) 0) = .ok (.tuple #[.bool true, .int .i64 0, .int .i32 110]) (w.iter (ByteArray.mk #[110, 99, 116, 102, 109, 108, 106, 98]) 1) := fun ty => run_next_ascii w (ByteArray.mk #[110, 99, 116, 102, 109, 108, 106, 98]) 0 ty (by decide) (by decide)
        go_wp2_with fail
        go_roundw
        case rel => exact ⟨1, by omega, rfl, rfl⟩
        case measure => simp
      · have hnx : ∀ ty, (Instr.next (.pointer (some ⟨w.heap.size, 0, none⟩)) true ty).run Tryd.prog (w.iter (ByteArray.mk #[110, 99, 116, 102, 109, 108, 106, 98]) 1) = .ok (.tuple #[.bool true, .int .i64 1, .int .i32 99]) (w.iter (ByteArray.mk #[110, 99, 116, 102, 109, 108, 106, 98]) 2) := fun ty => run_next_ascii w (ByteArray.mk #[110, 99, 116, 102, 109, 108, 106, 98]) 1 ty (by decide) (by decide)
        go_wp2_with fail
        go_roundw
        case rel => exact ⟨2, by omega, rfl, rfl⟩
        case measure => simp
      · have hnx : ∀ ty, (Instr.next (.pointer (some ⟨w.heap.size, 0, none⟩)) true ty).run Tryd.prog (w.iter (ByteArray.mk #[110, 99, 116, 102, 109, 108, 106, 98]) 2) = .ok (.tuple #[.bool true, .int .i64 2, .int .i32 116]) (w.iter (ByteArray.mk #[110, 99, 116, 102, 109, 108, 106, 98]) 3) := fun ty => run_next_ascii w (ByteArray.mk #[110, 99, 116, 102, 109, 108, 106, 98]) 2 ty (by decide) (by decide)
        go_wp2_with fail
        go_roundw
        case rel => exact ⟨3, by omega, rfl, rfl⟩
        case measure => simp
      · have hnx : ∀ ty, (Instr.next (.pointer (some ⟨w.heap.size, 0, none⟩)) true ty).run Tryd.prog (w.iter (ByteArray.mk #[110, 99, 116, 102, 109, 108, 106, 98]) 3) = .ok (.tuple #[.bool true, .int .i64 3, .int .i32 102]) (w.iter (ByteArray.mk #[110, 99, 116, 102, 109, 108, 106, 98]) 4) := fun ty => run_next_ascii w (ByteArray.mk #[110, 99, 116, 102, 109, 108, 106, 98]) 3 ty (by decide) (by decide)
        go_wp2_with fail
        go_roundw
        case rel => exact ⟨4, by omega, rfl, rfl⟩
        case measure => simp
      · have hnx : ∀ ty, (Instr.next (.pointer (some ⟨w.heap.size, 0, none⟩)) true ty).run Tryd.prog (w.iter (ByteArray.mk #[110, 99, 116, 102, 109, 108, 106, 98]) 4) = .ok (.tuple #[.bool true, .int .i64 4, .int .i32 109]) (w.iter (ByteArray.mk #[110, 99, 116, 102, 109, 108, 106, 98]) 5) := fun ty => run_next_ascii w (ByteArray.mk #[110, 99, 116, 102, 109, 108, 106, 98]) 4 ty (by decide) (by decide)
        go_wp2_with fail
        go_roundw
        case rel => exact ⟨5, by omega, rfl, rfl⟩
        case measure => simp
      · have hnx : ∀ ty, (Instr.next (.pointer (some ⟨w.heap.size, 0, none⟩)) true ty).run Tryd.prog (w.iter (ByteArray.mk #[110, 99, 116, 102, 109, 108, 106, 98]) 5) = .ok (.tuple #[.bool true, .int .i64 5, .int .i32 108]) (w.iter (ByteArray.mk #[110, 99, 116, 102, 109, 108, 106, 98]) 6) := fun ty => run_next_ascii w (ByteArray.mk #[110, 99, 116, 102, 109, 108, 106, 98]) 5 ty (by decide) (by decide)
        go_wp2_with fail
        go_roundw
        case rel => exact ⟨6, by omega, rfl, rfl⟩
        case measure => simp
      · have hnx : ∀ ty, (Instr.next (.pointer (some ⟨w.heap.size, 0, none⟩)) true ty).run Tryd.prog (w.iter (ByteArray.mk #[110, 99, 116, 102, 109, 108, 106, 98]) 6) = .ok (.tuple #[.bool true, .int .i64 6, .int .i32 106]) (w.iter (ByteArray.mk #[110, 99, 116, 102, 109, 108, 106, 98]) 7) := fun ty => run_next_ascii w (ByteArray.mk #[110, 99, 116, 102, 109, 108, 106, 98]) 6 ty (by decide) (by decide)
        have c4 : (w.iter (ByteArray.mk #[110, 99, 116, 102, 109, 108, 106, 98]) 7).cell? ⟨g1, 4, none⟩ = f.cells.toArray[4]? := (HH1.out.alloc _).cell 4
        have c5 : (w.iter (ByteArray.mk #[110, 99, 116, 102, 109, 108, 106, 98]) 7).cell? ⟨g1, 5, none⟩ = f.cells.toArray[5]? := (HH1.out.alloc _).cell 5
        have c6 : (w.iter (ByteArray.mk #[110, 99, 116, 102, 109, 108, 106, 98]) 7).cell? ⟨g1, 6, none⟩ = f.cells.toArray[6]? := (HH1.out.alloc _).cell 6
        have c7 : (w.iter (ByteArray.mk #[110, 99, 116, 102, 109, 108, 106, 98]) 7).cell? ⟨g1, 7, none⟩ = f.cells.toArray[7]? := (HH1.out.alloc _).cell 7
        have c8 : (w.iter (ByteArray.mk #[110, 99, 116, 102, 109, 108, 106, 98]) 7).cell? ⟨g1, 8, none⟩ = f.cells.toArray[8]? := (HH1.out.alloc _).cell 8
        have d0 : (w.iter (ByteArray.mk #[110, 99, 116, 102, 109, 108, 106, 98]) 7).cell? ⟨g2, 0, none⟩ = (Bd.cells ⟨lo, sk, bA, bk, bc, code⟩).toArray[0]? := (HH2.out.alloc _).cell 0
        have d2 : (w.iter (ByteArray.mk #[110, 99, 116, 102, 109, 108, 106, 98]) 7).cell? ⟨g2, 2, none⟩ = (Bd.cells ⟨lo, sk, bA, bk, bc, code⟩).toArray[2]? := (HH2.out.alloc _).cell 2
        simp at c4 c5 c6 c7 c8 d0 d2
        go_wp2_with fail
        go_ret
        exact ⟨by rw [HR.out ()] <;> rfl, HB.out _ _⟩
  · have HR := hide (fun _ : Unit => hR)
    clear hR
    go_enter Tryd.func41, Tryd.ntmps41
    go_wp2_with fail
    go_loopw [4] (fun n w' => ∃ j : Nat, j ≤ 7 ∧ n = .int .i64 0 ∧ w' = w.iter (ByteArray.mk #[110, 99, 116, 102, 109, 108, 106, 98]) j) (fun _ w' => 8 - w'.iterPos w.heap.size)
    case atStart => exact ⟨0, by omega, rfl, rfl⟩
    case round =>
      obtain ⟨j, hj, rfl, rfl⟩ := hrel
      obtain rfl | rfl | rfl | rfl | rfl | rfl | rfl | rfl : j = 0 ∨ j = 1 ∨ j = 2 ∨ j = 3 ∨ j = 4 ∨ j = 5 ∨ j = 6 ∨ j = 7 := by omega
      · have hnx : ∀ ty, (Instr.next (.pointer (some ⟨w.heap.size, 0, none⟩)) true ty).run Tryd.prog (w.iter (ByteArray.mk #[110, 99, 116, 102, 109, 108, 106, 98]) 0) = .ok (.tuple #[.bool true, .int .i64 0, .int .i32 110]) (w.iter (ByteArray.mk #[110, 99, 116, 102, 109, 108, 106, 98]) 1) := fun ty => run_next_ascii w (ByteArray.mk #[110, 99, 116, 102, 109, 108, 106, 98]) 0 ty (by decide) (by decide)
        go_wp2_with fail
        go_roundw
        case rel => exact ⟨1, by omega, rfl, rfl⟩
        case measure => simp
      · have hnx : ∀ ty, (Instr.next (.pointer (some ⟨w.heap.size, 0, none⟩)) true ty).run Tryd.prog (w.iter (ByteArray.mk #[110, 99, 116, 102, 109, 108, 106, 98]) 1) = .ok (.tuple #[.bool true, .int .i64 1, .int .i32 99]) (w.iter (ByteArray.mk #[110, 99, 116, 102, 109, 108, 106, 98]) 2) := fun ty => run_next_ascii w (ByteArray.mk #[110, 99, 116, 102, 109, 108, 106, 98]) 1 ty (by decide) (by decide)
        go_wp2_with fail
        go_roundw
        case rel => exact ⟨2, by omega, rfl, rfl⟩
        case measure => simp
      · have hnx : ∀ ty, (Instr.next (.pointer (some ⟨w.heap.size, 0, none⟩)) true ty).run Tryd.prog (w.iter (ByteArray.mk #[110, 99, 116, 102, 109, 108, 106, 98]) 2) = .ok (.tuple #[.bool true, .int .i64 2, .int .i32 116]) (w.iter (ByteArray.mk #[110, 99, 116, 102, 109, 108, 106, 98]) 3) := fun ty => run_next_ascii w (ByteArray.mk #[110, 99, 116, 102, 109, 108, 106, 98]) 2 ty (by decide) (by decide)
        go_wp2_with fail
        go_roundw
        case rel => exact ⟨3, by omega, rfl, rfl⟩
        case measure => simp
      · have hnx : ∀ ty, (Instr.next (.pointer (some ⟨w.heap.size, 0, none⟩)) true ty).run Tryd.prog (w.iter (ByteArray.mk #[110, 99, 116, 102, 109, 108, 106, 98]) 3) = .ok (.tuple #[.bool true, .int .i64 3, .int .i32 102]) (w.iter (ByteArray.mk #[110, 99, 116, 102, 109, 108, 106, 98]) 4) := fun ty => run_next_ascii w (ByteArray.mk #[110, 99, 116, 102, 109, 108, 106, 98]) 3 ty (by decide) (by decide)
        go_wp2_with fail
        go_roundw
        case rel => exact ⟨4, by omega, rfl, rfl⟩
        case measure => simp
      · have hnx : ∀ ty, (Instr.next (.pointer (some ⟨w.heap.size, 0, none⟩)) true ty).run Tryd.prog (w.iter (ByteArray.mk #[110, 99, 116, 102, 109, 108, 106, 98]) 4) = .ok (.tuple #[.bool true, .int .i64 4, .int .i32 109]) (w.iter (ByteArray.mk #[110, 99, 116, 102, 109, 108, 106, 98]) 5) := fun ty => run_next_ascii w (ByteArray.mk #[110, 99, 116, 102, 109, 108, 106, 98]) 4 ty (by decide) (by decide)
        go_wp2_with fail
        go_roundw
        case rel => exact ⟨5, by omega, rfl, rfl⟩
        case measure => simp
      · have hnx : ∀ ty, (Instr.next (.pointer (some ⟨w.heap.size, 0, none⟩)) true ty).run Tryd.prog (w.iter (ByteArray.mk #[110, 99, 116, 102, 109, 108, 106, 98]) 5) = .ok (.tuple #[.bool true, .int .i64 5, .int .i32 108]) (w.iter (ByteArray.mk #[110, 99, 116, 102, 109, 108, 106, 98]) 6) := fun ty => run_next_ascii w (ByteArray.mk #[110, 99, 116, 102, 109, 108, 106, 98]) 5 ty (by decide) (by decide)
        go_wp2_with fail
        go_roundw
        case rel => exact ⟨6, by omega, rfl, rfl⟩
        case measure => simp
      · have hnx : ∀ ty, (Instr.next (.pointer (some ⟨w.heap.size, 0, none⟩)) true ty).run Tryd.prog (w.iter (ByteArray.mk #[110, 99, 116, 102, 109, 108, 106, 98]) 6) = .ok (.tuple #[.bool true, .int .i64 6, .int .i32 106]) (w.iter (ByteArray.mk #[110, 99, 116, 102, 109, 108, 106, 98]) 7) := fun ty => run_next_ascii w (ByteArray.mk #[110, 99, 116, 102, 109, 108, 106, 98]) 6 ty (by decide) (by decide)
        go_wp2_with fail
        go_roundw
        case rel => exact ⟨7, by omega, rfl, rfl⟩
        case measure => simp
      · have hnx : ∀ ty, (Instr.next (.pointer (some ⟨w.heap.size, 0, none⟩)) true ty).run Tryd.prog (w.iter (ByteArray.mk #[110, 99, 116, 102, 109, 108, 106, 98]) 7) = .ok (.tuple #[.bool true, .int .i64 7, .int .i32 98]) (w.iter (ByteArray.mk #[110, 99, 116, 102, 109, 108, 106, 98]) 8) := fun ty => run_next_ascii w (ByteArray.mk #[110, 99, 116, 102, 109, 108, 106, 98]) 7 ty (by decide) (by decide)
        have c4 : (w.iter (ByteArray.mk #[110, 99, 116, 102, 109, 108, 106, 98]) 8).cell? ⟨g1, 4, none⟩ = f.cells.toArray[4]? := (HH1.out.alloc _).cell 4
        have c5 : (w.iter (ByteArray.mk #[110, 99, 116, 102, 109, 108, 106, 98]) 8).cell? ⟨g1, 5, none⟩ = f.cells.toArray[5]? := (HH1.out.alloc _).cell 5
        have c6 : (w.iter (ByteArray.mk #[110, 99, 116, 102, 109, 108, 106, 98]) 8).cell? ⟨g1, 6, none⟩ = f.cells.toArray[6]? := (HH1.out.alloc _).cell 6
        have c7 : (w.iter (ByteArray.mk #[110, 99, 116, 102, 109, 108, 106, 98]) 8).cell? ⟨g1, 7, none⟩ = f.cells.toArray[7]? := (HH1.out.alloc _).cell 7
        have c8 : (w.iter (ByteArray.mk #[110, 99, 116, 102, 109, 108, 106, 98]) 8).cell? ⟨g1, 8, none⟩ = f.cells.toArray[8]? := (HH1.out.alloc _).cell 8
        have d0 : (w.iter (ByteArray.mk #[110, 99, 116, 102, 109, 108, 106, 98]) 8).cell? ⟨g2, 0, none⟩ = (Bd.cells ⟨lo, sk, bA, bk, bc, code⟩).toArray[0]? := (HH2.out.alloc _).cell 0
        have d2 : (w.iter (ByteArray.mk #[110, 99, 116, 102, 109, 108, 106, 98]) 8).cell? ⟨g2, 2, none⟩ = (Bd.cells ⟨lo, sk, bA, bk, bc, code⟩).toArray[2]? := (HH2.out.alloc _).cell 2
        simp at c4 c5 c6 c7 c8 d0 d2
        go_wp2_with fail
        go_ret
        exact ⟨by rw [HR.out ()] <;> rfl, HB.out _ _⟩

set_option maxRecDepth 100000 in
set_option maxHeartbeats 4000000 in
theorem orightL_any (c a v : Int) (p1 p2 : Value) (w : World) (h : Laid w) (hc : (pl c == 0) = false → ∀ w', Below w.heap.size w w' → Calls Tryd.prog 41 #[.int .i32 (pl c), p1, p2] w' (Gives w' (.int .i64 v))) :
    Calls Tryd.prog 35 #[.agg #[.int .i64 c, .int .i64 a], .func (.func 41) #[] #[p1, p2]] w (Gives w (.bool (rt c a v))) := by
  obtain ⟨wB, hwB⟩ : ∃ wB, wB = w.alloc (.cells #[.int .i64 c, .int .i64 a] 55) := ⟨_, rfl⟩
  have hB : Below w.heap.size w wB := by rw [hwB]; exact (Below.refl _ _).alloc (Nat.le_refl _) _
  have hL : Laid wB := h.below hB (Nat.le_refl _)
  have hblk : Blk wB w.heap.size 55 #[.int .i64 c, .int .i64 a] := by rw [hwB]; exact Blk.new _ _ _
  have c0 : wB.cell? ⟨w.heap.size, 0, none⟩ = some (.int .i64 c) := hblk.cell 0
  have c1 : wB.cell? ⟨w.heap.size, 1, none⟩ = some (.int .i64 a) := hblk.cell 1
  have qt1 : ∀ t : After wB, t.val.cell? ⟨w.heap.size, 1, none⟩ = some (.int .i64 a) := fun t => (hblk.below t.prop hblk.lt).cell 1
  have HCT : Hid ((pl c == 0) = false → ∀ t : After wB, Calls Tryd.prog 41 #[.int .i32 (pl c), p1, p2] t.val (Gives t.val (.int .i64 v))) := hide (fun hz t => hc hz t.val (hB.trans (t.prop.mono hB.size)))
  have HK := hide (known_any c wB)
  have HP := hide (pool_any c wB hL)
  have HB := hide hB
  obtain ⟨R, hR⟩ : ∃ R, R = rt c a v := ⟨_, rfl⟩
  rw [← hR]
  unfold rt at hR
  have hpk : kn c = false → pl c = 0 := pl_kn
  obtain ⟨kk, hkk⟩ : ∃ kk, kk = kn c := ⟨_, rfl⟩
  rw [← hkk] at hR HK hpk
  obtain ⟨p, hp⟩ : ∃ p, p = pl c := ⟨_, rfl⟩
  rw [← hp] at hR HP HCT hpk
  clear hp hkk h hB hL hblk hc
  cases kk with
  | false =>
    have HR : Hid (R = false) := hide (by rw [hR]; rfl)
    clear hR hpk
    go_enter Tryd.func35, Tryd.ntmps35
    go_wp2_with fail
    rw [← hwB]
    clear hwB
    refine HK.out.mono ?_
    rintro e w' ⟨rfl, hw'⟩
    subst w'
    go_wp2_with fail
    go_ret
    exact ⟨by rw [HR.out]; rfl, HB.out⟩
  | true =>
    clear hpk
    cases hz : (p == 0) with
    | true =>
      have HR : Hid (R = (a == 0)) := hide (by rw [hR, hz]; rfl)
      clear hR
      go_enter Tryd.func35, Tryd.ntmps35
      go_wp2_with fail
      rw [← hwB]
      clear hwB
      refine HK.out.mono ?_
      rintro e w' ⟨rfl, hw'⟩
      subst w'
      go_wp2_with fail
      refine HP.out.mono ?_
      rintro e w' ⟨rfl, hw'⟩
      subst w'
      go_wp2_with fail
      go_ret
      exact ⟨by rw [HR.out]; rfl, HB.out⟩
    | false =>
      cases ha : decide (0 ≤ a) with
      | false =>
        have HR : Hid (R = false) := hide (by rw [hR, hz, ha]; rfl)
        clear hR
        go_enter Tryd.func35, Tryd.ntmps35
        go_wp2_with fail
        rw [← hwB]
        clear hwB
        refine HK.out.mono ?_
        rintro e w' ⟨rfl, hw'⟩
        subst w'
        go_wp2_with fail
        refine HP.out.mono ?_
        rintro e w' ⟨rfl, hw'⟩
        subst w'
        go_wp2_with fail
        refine region_after (by kernel_rfl) (by kernel_rfl) ?_
        repeat (go_big_quiet_step (fail))
        refine wpQuiet_nil ?_
        rintro _ ⟨t, rfl⟩
        have HB2 := hide (HB.out.trans (t.prop.mono HB.out.size))
        clear qt1 HCT
        go_wp2_with fail
        go_ret
        exact ⟨by rw [HR.out]; rfl, HB2.out⟩
      | true =>
        have HR : Hid (R = decide (a < v)) := hide (by rw [hR, hz, ha]; simp)
        clear hR
        go_enter Tryd.func35, Tryd.ntmps35
        go_wp2_with fail
        rw [← hwB]
        clear hwB
        refine HK.out.mono ?_
        rintro e w' ⟨rfl, hw'⟩
        subst w'
        go_wp2_with fail
        refine HP.out.mono ?_
        rintro e w' ⟨rfl, hw'⟩
        subst w'
        go_wp2_with fail
        refine region_after (by kernel_rfl) (by kernel_rfl) ?_
        repeat (go_big_quiet_step ((refine call_after (HCT.out hz _))))
        refine wpQuiet_nil ?_
        rintro _ ⟨t, rfl⟩
        have HB2 := hide (HB.out.trans (t.prop.mono HB.out.size))
        clear qt1 HCT
        go_wp2_with fail
        go_ret
        exact ⟨by rw [HR.out]; rfl, HB2.out⟩

/-- Of a code that is known the kind of its number: none, or one of eight. -/
theorem pl_one (c : Int) : pl c = 0 ∨ (pl c = 110 ∨ pl c = 99 ∨ pl c = 116 ∨ pl c = 102 ∨ pl c = 109 ∨ pl c = 108 ∨ pl c = 106 ∨ pl c = 98) := by
  unfold pl
  split
  · rename_i h
    obtain ⟨n, rfl, h1, h2⟩ := kn_cast h
    have : ∀ m : Nat, m ≤ 32 → ((shapes.getD (m : Int).toNat ([], 0)).2 = 0 ∨ ((shapes.getD (m : Int).toNat ([], 0)).2 = 110 ∨ (shapes.getD (m : Int).toNat ([], 0)).2 = 99 ∨ (shapes.getD (m : Int).toNat ([], 0)).2 = 116 ∨ (shapes.getD (m : Int).toNat ([], 0)).2 = 102 ∨ (shapes.getD (m : Int).toNat ([], 0)).2 = 109 ∨ (shapes.getD (m : Int).toNat ([], 0)).2 = 108 ∨ (shapes.getD (m : Int).toNat ([], 0)).2 = 106 ∨ (shapes.getD (m : Int).toNat ([], 0)).2 = 98)) := by decide
    exact this n h2
  · exact Or.inl rfl
end Go.Proofs.YtkldfbacagnhoaaDoor
