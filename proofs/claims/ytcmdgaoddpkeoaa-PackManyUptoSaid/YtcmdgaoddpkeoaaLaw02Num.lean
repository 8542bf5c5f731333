/- The law's own 'num', by the page: a number as bytes. -/
import Derived.Test.YtcmdgaoddpkeoaaBase
import Derived.Test.YtcmdgaoddpkeoaaVarint
import Derived.Test.YtcmdgaoddpkeoaaProg
namespace Go.Proofs.Ytcmdgaoddpkeoaa
open Go.RowKit

theorem u8_info' : (Try.prog.info? 5).map (fun i => (i.zero, i.size, i.bytes)) = some (some (.int .u8 0), 1, 1) := by kernel_rfl

set_option maxRecDepth 100000 in
set_option maxHeartbeats 1000000 in
theorem lawnum_any (z : Int) (w : World) (hz : z ≤ 9223372036854775807) :
    Calls Try.prog 13 #[.int .i64 z] w (Gives w (S (vi z.toNat))) := by
  obtain ⟨X, HX, hXz⟩ : ∃ X : Nat, Hid (z.toNat = X) ∧ X ≤ 9223372036854775807 := ⟨z.toNat, rfl, by omega⟩
  have hvl : (vi X).length ≤ 10 := vi_len_10 X (by omega)
  have hz0 : (z < 0 ∧ Hid (X = 0)) ∨ z = (X : Int) := by
    have := HX.out
    rcases Int.lt_or_le z 0 with h | h
    · exact .inl ⟨h, by unfold Hid; omega⟩
    · exact .inr (by omega)
  rcases hz0 with ⟨hs, HX0⟩ | rfl
  all_goals
    go_enter Try.func13, Try.ntmps13
    go_wp2_with fail
    go_loopw [0, 3] (fun x v wr => ∃ (m : Nat) (ds : List UInt8), x = .int .i64 m ∧ m ≤ 9223372036854775807 ∧ ds.length + (vi m).length ≤ 10 ∧ Hid (ds ++ vi m = vi X) ∧ wr.ownsRow w.heap.size 5 1 v ds.length (ds.map B8) ∧ Below w.heap.size w wr)
      (fun x _ _ => (intOf x).toNat)
    case atStart =>
      have hown := World.ownsRow_made (base := w.heap.size) (e := 5) (size := 1) w #[] 0 (Nat.le_refl _) (by unfold maxLen; omega) rfl
      first
        | exact ⟨X, [], rfl, by omega, by simpa using hvl, rfl, hown, (Below.refl _ _).alloc (Nat.le_refl _) _⟩
        | exact ⟨0, [], rfl, by omega, by rw [vi_small (by omega)]; simp, by rw [HX0.out]; rfl, hown, (Below.refl _ _).alloc (Nat.le_refl _) _⟩
    case round =>
      obtain ⟨m, ds, rfl, hm, hdm, HE, hown, hbl⟩ := hrel
      have hvp := vi_pos m
      have hbs := hbl.size
      by_cases h128 : 127 < m
      · go_wp2_with (at_builtin; refine app1 rfl (.tmp 11) (.tmp 16) 25 rfl w.heap.size 5 (.int .u8 0) 1 Try.underlying25 u8_info' rfl _ ds.length (ds.map B8) rfl hown (.int .u8 ((m : Int) % 128 + 128)) rfl rfl (by omega) (by omega) (by omega) ?_)
        intro a3 c3 w3 hown3 hg3 _
        have hb3 := hbl.grown hg3 (by omega) (fun k hk => (hown.lt k hk).1)
        clear hg3 hown
        go_wp2
        go_roundw
        case rel => exact ⟨m / 128, ds ++ [UInt8.ofNat (m % 128 + 128)], by go_num, by omega, by have := congrArg List.length (vi_big (n := m) (by omega)); simp at this ⊢; omega, by have := HE.out; rw [vi_big (n := m) (by omega)] at this; unfold Hid; simpa using this, by rw [List.length_append, List.map_append, List.map_cons, B8, toNat_ofNat_u8 (by omega)]; simpa using hown3, hb3⟩
        case measure => simp [intOf]; omega
      · have hconv : ∀ a3 c3 w3, w3.ownsRow w.heap.size 5 1 (.slice a3 (ds.length + 1) c3) (ds.length + 1) (ds.map B8 ++ [.int .u8 (m : Int)]) → (convert 25 9 (.slice a3 (ds.length + 1) c3)).run Try.prog w3 = .ok (S (vi X)) w3 := by
          intro a3 c3 w3 h3
          have e1 : vi X = ds ++ [UInt8.ofNat m] := by rw [← HE.out, vi_small (by omega)]
          rw [e1]
          refine conv_own Try.underlying25 Try.underlying5 Try.underlying9 (base := w.heap.size) ?_
          rw [List.length_append, List.map_append, List.map_cons, B8, toNat_ofNat_u8 (by omega)]
          simpa using h3
        have HC := hide hconv
        clear hconv
        go_wp2_with (at_builtin; refine app1 rfl (.tmp 18) (.tmp 21) 25 rfl w.heap.size 5 (.int .u8 0) 1 Try.underlying25 u8_info' rfl _ ds.length (ds.map B8) rfl hown (.int .u8 (m : Int)) rfl rfl (by omega) (by omega) (by omega) ?_)
        intro a3 c3 w3 hown3 hg3 _
        have hc3 := HC.out a3 c3 w3 hown3
        have hb3 := hbl.grown hg3 (by omega) (fun k hk => (hown.lt k hk).1)
        clear hg3 hown hown3
        go_wp2
        go_ret
        exact ⟨by rw [HX.out]; rfl, hb3⟩

end Go.Proofs.Ytcmdgaoddpkeoaa
