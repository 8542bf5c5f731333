/- Members put in order of their names: slices.SortStableFunc of few elements, face's sort, walked; no statement of the seat is proved here. -/
import Derived.Test.YtkgnoemagklmiaaInsS
namespace Go.Proofs.Ytkgnoemagklmiaa
open Go.RowKit

/-- The row lies sorted. -/
def SrtV (g : Nat) (xs : List Vr) (tl : List Value) (w : World) (e : Ending) (w' : World) : Prop := e = .returned (.tuple #[]) ∧ ∃ ys : List Vr, ys.Perm xs ∧ Ris Vr.n ys ∧ Blk w' g 45 (ys.flatMap Vr.cells ++ tl).toArray ∧ Keep (fun k => k = g) w w'
set_option maxRecDepth 100000 in
theorem insV_nil (A : Option Addr) (c : Nat) (w : World) : Calls Try.prog 69 #[.slice A 0 c, .int .i64 0, .int .i64 0, .func (.func 55) #[] #[]] w fun e w' => e = .returned (.tuple #[]) ∧ w' = w := by
  go_enter Try.func69, Try.ntmps69
  go_wp2_with fail
  go_loopw [8] (fun i wr => i = .int .i64 1 ∧ wr = w) (fun _ _ => 0)
  case atStart => exact ⟨rfl, rfl⟩
  case round =>
    obtain ⟨rfl, rfl⟩ := hrel
    go_wp2_with fail
    go_end0
    exact ⟨rfl, rfl⟩
set_option maxRecDepth 100000 in
set_option maxHeartbeats 2000000 in
theorem stabV_nil (A : Option Addr) (c : Nat) (w : World) : Calls Try.prog 54 #[.slice A 0 c, .func (.func 55) #[] #[]] w fun e w' => e = .returned (.tuple #[]) ∧ w' = w := by
  have H2 : Hid (∀ w, Calls Try.prog 65 #[.slice A 0 c, .int .i64 0, .func (.func 55) #[] #[]] w fun e w' => e = .returned (.tuple #[]) ∧ w' = w) := hide (by
    intro w
    have H1 := fun w => hide (insV_nil A c w)
    go_enter Try.func65, Try.ntmps65
    go_wp2_with fail
    go_loopw [7, 8] (fun a i wr => a = .int .i64 0 ∧ i = .int .i64 20 ∧ wr = w) (fun _ _ _ => 0)
    case atStart => exact ⟨rfl, rfl, rfl⟩
    case round =>
      obtain ⟨rfl, rfl, rfl⟩ := hrel
      go_wp2_with (go_at_call 69; refine (H1 _).out.mono ?_; rintro e w' ⟨rfl, rfl⟩)
      go_loopw [6] (fun i w2 => i = .int .i64 20 ∧ w2 = w') (fun _ _ => 0)
      case atStart => exact ⟨rfl, rfl⟩
      case round =>
        obtain ⟨rfl, rfl⟩ := hrel
        go_wp2_with fail
        go_end0
        exact ⟨rfl, rfl⟩)
  go_enter Try.func54, Try.ntmps54
  go_wp2_with (go_at_call 65; refine (H2.out _).mono ?_; rintro e w' ⟨rfl, rfl⟩)
  go_end0
  exact ⟨rfl, rfl⟩
set_option maxRecDepth 100000 in
set_option maxHeartbeats 2000000 in
theorem stabV_any (xs : List Vr) (g n c : Nat) (tl : List Value) (w : World) (hB : Blk w g 45 (xs.flatMap Vr.cells ++ tl).toArray) (hnn : n = xs.length) (h1 : 1 ≤ n) (hn : n ≤ 19) :
    Calls Try.prog 54 #[.slice (some ⟨g, 0, none⟩) n c, .func (.func 55) #[] #[]] w (SrtV g xs tl w) := by
  have H2 : Hid (Calls Try.prog 65 #[.slice (some ⟨g, 0, none⟩) n c, .int .i64 n, .func (.func 55) #[] #[]] w (SrtV g xs tl w)) := hide (by
    have H1 := hide (insV_any xs g c tl w hB (by omega) (by omega))
    rw [← hnn] at H1
    have d1 : (n : Int) < 20 := by omega
    clear hB hnn
    go_enter Try.func65, Try.ntmps65
    go_wp2_with fail
    go_loopw [7, 8] (fun a i wr => a = .int .i64 0 ∧ i = .int .i64 20 ∧ wr = w) (fun _ _ _ => 0)
    case atStart => exact ⟨rfl, rfl, rfl⟩
    case round =>
      obtain ⟨rfl, rfl, rfl⟩ := hrel
      go_wp2_with (go_at_call 69; refine H1.out.mono ?_; rintro e w' ⟨rfl, hy⟩; have HY := hide hy; clear hy H1)
      go_loopw [6] (fun i w2 => i = .int .i64 20 ∧ w2 = w') (fun _ _ => 0)
      case atStart => exact ⟨rfl, rfl⟩
      case round =>
        obtain ⟨rfl, rfl⟩ := hrel
        go_wp2_with fail
        go_end0
        exact ⟨rfl, HY.out⟩)
  clear hB hnn
  go_enter Try.func54, Try.ntmps54
  go_wp2_with (go_at_call 65; refine H2.out.mono ?_; rintro e w' ⟨rfl, hy⟩)
  go_end0
  exact ⟨rfl, hy⟩

/-- The row lies sorted. -/
def SrtS (g : Nat) (xs : List Sg) (tl : List Value) (w : World) (e : Ending) (w' : World) : Prop := e = .returned (.tuple #[]) ∧ ∃ ys : List Sg, ys.Perm xs ∧ Ris Sg.n ys ∧ Blk w' g 58 (ys.flatMap Sg.cells ++ tl).toArray ∧ Keep (fun k => k = g) w w'
set_option maxRecDepth 100000 in
theorem insS_nil (A : Option Addr) (c : Nat) (w : World) : Calls Try.prog 72 #[.slice A 0 c, .int .i64 0, .int .i64 0, .func (.func 58) #[] #[]] w fun e w' => e = .returned (.tuple #[]) ∧ w' = w := by
  go_enter Try.func72, Try.ntmps72
  go_wp2_with fail
  go_loopw [8] (fun i wr => i = .int .i64 1 ∧ wr = w) (fun _ _ => 0)
  case atStart => exact ⟨rfl, rfl⟩
  case round =>
    obtain ⟨rfl, rfl⟩ := hrel
    go_wp2_with fail
    go_end0
    exact ⟨rfl, rfl⟩
set_option maxRecDepth 100000 in
set_option maxHeartbeats 2000000 in
theorem stabS_nil (A : Option Addr) (c : Nat) (w : World) : Calls Try.prog 57 #[.slice A 0 c, .func (.func 58) #[] #[]] w fun e w' => e = .returned (.tuple #[]) ∧ w' = w := by
  have H2 : Hid (∀ w, Calls Try.prog 67 #[.slice A 0 c, .int .i64 0, .func (.func 58) #[] #[]] w fun e w' => e = .returned (.tuple #[]) ∧ w' = w) := hide (by
    intro w
    have H1 := fun w => hide (insS_nil A c w)
    go_enter Try.func67, Try.ntmps67
    go_wp2_with fail
    go_loopw [7, 8] (fun a i wr => a = .int .i64 0 ∧ i = .int .i64 20 ∧ wr = w) (fun _ _ _ => 0)
    case atStart => exact ⟨rfl, rfl, rfl⟩
    case round =>
      obtain ⟨rfl, rfl, rfl⟩ := hrel
      go_wp2_with (go_at_call 72; refine (H1 _).out.mono ?_; rintro e w' ⟨rfl, rfl⟩)
      go_loopw [6] (fun i w2 => i = .int .i64 20 ∧ w2 = w') (fun _ _ => 0)
      case atStart => exact ⟨rfl, rfl⟩
      case round =>
        obtain ⟨rfl, rfl⟩ := hrel
        go_wp2_with fail
        go_end0
        exact ⟨rfl, rfl⟩)
  go_enter Try.func57, Try.ntmps57
  go_wp2_with (go_at_call 67; refine (H2.out _).mono ?_; rintro e w' ⟨rfl, rfl⟩)
  go_end0
  exact ⟨rfl, rfl⟩
set_option maxRecDepth 100000 in
set_option maxHeartbeats 2000000 in
theorem stabS_any (xs : List Sg) (g n c : Nat) (tl : List Value) (w : World) (hB : Blk w g 58 (xs.flatMap Sg.cells ++ tl).toArray) (hnn : n = xs.length) (h1 : 1 ≤ n) (hn : n ≤ 19) :
    Calls Try.prog 57 #[.slice (some ⟨g, 0, none⟩) n c, .func (.func 58) #[] #[]] w (SrtS g xs tl w) := by
  have H2 : Hid (Calls Try.prog 67 #[.slice (some ⟨g, 0, none⟩) n c, .int .i64 n, .func (.func 58) #[] #[]] w (SrtS g xs tl w)) := hide (by
    have H1 := hide (insS_any xs g c tl w hB (by omega) (by omega))
    rw [← hnn] at H1
    have d1 : (n : Int) < 20 := by omega
    clear hB hnn
    go_enter Try.func67, Try.ntmps67
    go_wp2_with fail
    go_loopw [7, 8] (fun a i wr => a = .int .i64 0 ∧ i = .int .i64 20 ∧ wr = w) (fun _ _ _ => 0)
    case atStart => exact ⟨rfl, rfl, rfl⟩
    case round =>
      obtain ⟨rfl, rfl, rfl⟩ := hrel
      go_wp2_with (go_at_call 72; refine H1.out.mono ?_; rintro e w' ⟨rfl, hy⟩; have HY := hide hy; clear hy H1)
      go_loopw [6] (fun i w2 => i = .int .i64 20 ∧ w2 = w') (fun _ _ => 0)
      case atStart => exact ⟨rfl, rfl⟩
      case round =>
        obtain ⟨rfl, rfl⟩ := hrel
        go_wp2_with fail
        go_end0
        exact ⟨rfl, HY.out⟩)
  clear hB hnn
  go_enter Try.func57, Try.ntmps57
  go_wp2_with (go_at_call 67; refine H2.out.mono ?_; rintro e w' ⟨rfl, hy⟩)
  go_end0
  exact ⟨rfl, hy⟩
end Go.Proofs.Ytkgnoemagklmiaa
