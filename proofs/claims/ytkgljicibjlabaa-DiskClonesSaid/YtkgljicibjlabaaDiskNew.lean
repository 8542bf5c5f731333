/- A disk made new; a disk's turn while no fall is set; no statement of the seat is proved here. -/
import Derived.Test.YtkgljicibjlabaaDiskFiles
namespace Go.Proofs.Ytkgljicibjlabaa
open Go.RowKit Go.Maps

set_option maxRecDepth 100000 in
set_option maxHeartbeats 2000000 in
theorem turn_up (g b n c : Nat) (A : Option Addr) (room : Int) (w : World)
    (hg : Blk w g 68 #[.map (some b), .slice A n c, .int .i64 room, .int .i64 (-1), .bool false]) :
    Calls Try.prog 31 #[.pointer (some ⟨g, 0, none⟩)] w (fun e w' => e = .returned (.int .i64 0) ∧ w' = w) := by
  have c3 : w.cell? ⟨g, 3, none⟩ = some (.int .i64 (-1)) := hg.cell 3
  have c4 : w.cell? ⟨g, 4, none⟩ = some (.bool false) := hg.cell 4
  go_enter Try.func31, Try.ntmps31
  go_wp2_with fail
  go_ret
  exact ⟨rfl, rfl⟩

set_option maxRecDepth 100000 in
set_option maxHeartbeats 2000000 in
theorem dnew_any (room : Nat) (hr : room ≤ 4194304) (w : World) :
    Calls Try.prog 12 #[.int .i64 room] w (fun e w' => e = .returned (.pointer (some ⟨w.heap.size + 1, 0, none⟩)) ∧
      w' = (w.alloc (.map #[] 0)).alloc (.cells #[.map (some w.heap.size), .slice none 0 0, .int .i64 room, .int .i64 (-1), .bool false] 68)) := by
  have hmm := @run_makeMap Try.prog
  have h1 : max (room : Int) 0 = room := by omega
  have h2 : min (room : Int) 4194304 = room := by omega
  go_enter Try.func12, Try.ntmps12
  go_wp2_with fail
  go_ret
  exact ⟨rfl, rfl⟩
end Go.Proofs.Ytkgljicibjlabaa
