/- slices.Contains and slices.Index on texts, walked; no statement of the seat is proved here. -/
import Derived.Test.YtmhnfilingebfaaFaceFew
namespace Go.Proofs.Ytmhnfilingebfaa
open Go.RowKit

theorem S_ne {a b : List UInt8} (h : a ≠ b) : (({ data := a.toArray } : ByteArray) = { data := b.toArray }) = False := by
  rw [eq_iff_iff]
  exact ⟨fun e => h (by injection e with e; simpa using congrArg Array.toList e), False.elim⟩

set_option maxRecDepth 100000 in
theorem index_any (A : Option Addr) (n c : Nat) (l : List (List UInt8)) (x : List UInt8) (w : World) {F : Nat → Prop} (h : Rd w F 1 A n (l.map S)) (hn : n ≤ 9223372036854775807) :
    Calls Try.prog 44 #[.slice A n c, S x] w (fun e w' => w' = w ∧ ∃ j : Int, e = .returned (.int .i64 j) ∧ decide (0 ≤ j) = decide (x ∈ l)) := by
  have HL : Hid (l.length = n) := hide (by have := h.1; simpa using this)
  go_enter Try.func44, Try.ntmps44
  go_wp2_with fail
  go_loopw [8] (fun i wr => ∃ k : Nat, k ≤ n ∧ i = .int .i64 k ∧ wr = w ∧ (∀ i (hi : i < l.length), i < k → l[i] ≠ x)) (fun i _ => n - (intOf i).toNat)
  case atStart => exact ⟨0, Nat.zero_le _, rfl, rfl, by omega⟩
  case round =>
    obtain ⟨k, hk, rfl, hw, hall⟩ := hrel
    have h' : Rd wr F 1 A n (l.map S) := by rw [hw]; exact h
    have HW := hide hw
    clear hw
    have HA := hide hall
    clear hall
    by_cases hlt : k < n
    · obtain ⟨b, o, u, rfl, hu, hc⟩ := h'.at_ k hlt
      have hlk : k < l.length := by have := HL.out; omega
      obtain rfl : S l[k] = u := by simpa [hlk] using hu
      clear hu
      obtain ⟨y, hy⟩ : ∃ y, y = l[k] := ⟨_, rfl⟩
      rw [← hy] at hc
      have HY := hide hy
      clear hy
      by_cases e : x = y
      · subst e
        go_wp2_with fail
        go_ret
        exact ⟨HW.out, _, rfl, by rw [HY.out]; simp⟩
      · have d : (x == y) = false := by simpa using e
        go_wp2_with fail
        go_roundw
        case rel => exact ⟨k + 1, by omega, by go_num, HW.out, all_step (p := fun z => z ≠ x) HA.out hlk (by rw [← HY.out]; exact Ne.symm e)⟩
        case measure => simp [intOf]; omega
    · have HN : Hid (∀ z ∈ l, z ≠ x) := hide (all_done HA.out (by have := HL.out; omega))
      clear HA
      go_wp2_with fail
      go_ret
      exact ⟨HW.out, _, rfl, by rw [decide_eq_false (by omega), decide_eq_false (fun hm => HN.out x hm rfl)]⟩

set_option maxRecDepth 100000 in
theorem contains_any (A : Option Addr) (n c : Nat) (l : List (List UInt8)) (x : List UInt8) (w : World) {F : Nat → Prop} (h : Rd w F 1 A n (l.map S)) (hn : n ≤ 9223372036854775807) :
    Calls Try.prog 32 #[.slice A n c, S x] w (fun e w' => e = .returned (.bool (decide (x ∈ l))) ∧ w' = w) := by
  obtain ⟨B, hB⟩ : ∃ B, B = decide (x ∈ l) := ⟨_, rfl⟩
  rw [← hB]
  have HB := hide hB
  clear hB
  go_enter Try.func32, Try.ntmps32
  go_wp2_with fail
  refine (index_any A n c l x w h hn).mono ?_
  rintro e w' ⟨rfl, j, rfl, hj⟩
  rw [← HB.out] at hj
  go_wp2
  go_ret
  exact ⟨by first | rfl | rw [hj], rfl⟩
end Go.Proofs.Ytmhnfilingebfaa
