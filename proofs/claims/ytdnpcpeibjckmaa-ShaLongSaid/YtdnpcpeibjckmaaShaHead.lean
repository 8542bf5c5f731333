/- The law's head: the document's two examples, walked; no statement of the seat is proved here. -/
import Derived.Test.YtdnpcpeibjckmaaShaHex
import Derived.Test.YtdnpcpeibjckmaaShaEval
namespace Go.Proofs.Ytdnpcpeibjckmaa
open Go.RowKit

/-- Sum of one text that lies in a new block. -/
theorem sum_single (w : World) (l : List UInt8) (hl : l.length ≤ 65536) :
    Calls Try.prog 9 #[.slice (some ⟨w.heap.size, 0, none⟩) 1 1] (w.alloc (.cells #[S l] 9)) fun e w' => e = .returned (.agg (darr (sumM l))) ∧ Below w.heap.size (w.alloc (.cells #[S l] 9)) w' := by
  have := sum_any (w.alloc (.cells #[S l] 9)) (some ⟨w.heap.size, 0, none⟩) 1 1 [l] ⟨rfl, fun _ => ⟨w.heap.size, 0, rfl, by simp, by simp, fun j u hu => by
    rw [(Blk.new w 9 #[S l]).cell, Nat.zero_add]
    simpa using hu⟩⟩ rfl (by simpa using hl) (by decide)
  simp only [List.flatten_cons, List.flatten_nil, List.append_nil] at this
  exact this.mono fun _ _ ⟨h1, h2⟩ => ⟨h1, h2.mono (by simp)⟩
def hex_one : List UInt8 := [98, 97, 55, 56, 49, 54, 98, 102, 56, 102, 48, 49, 99, 102, 101, 97, 52, 49, 52, 49, 52, 48, 100, 101, 53, 100, 97, 101, 50, 50, 50, 51, 98, 48, 48, 51, 54, 49, 97, 51, 57, 54, 49, 55, 55, 97, 57, 99, 98, 52, 49, 48, 102, 102, 54, 49, 102, 50, 48, 48, 49, 53, 97, 100]
theorem hex_one_is : hexM (sumM msg_one) = hex_one := by rw [sum_one_is]; decide +kernel
def hex_two : List UInt8 := [50, 52, 56, 100, 54, 97, 54, 49, 100, 50, 48, 54, 51, 56, 98, 56, 101, 53, 99, 48, 50, 54, 57, 51, 48, 99, 51, 101, 54, 48, 51, 57, 97, 51, 51, 99, 101, 52, 53, 57, 54, 52, 102, 102, 50, 49, 54, 55, 102, 54, 101, 99, 101, 100, 100, 52, 49, 57, 100, 98, 48, 54, 99, 49]
theorem hex_two_is : hexM (sumM msg_two) = hex_two := by rw [sum_two_is]; decide +kernel

set_option maxRecDepth 100000 in
set_option maxHeartbeats 2000000 in
theorem head_any (w : World) : Calls Try.prog 8 #[] w (Gives w (.bool true)) := by
  have SO : ∀ w : World, Hid (Calls Try.prog 9 #[.slice (some ⟨w.heap.size, 0, none⟩) 1 1] (w.alloc (.cells #[S msg_one] 9)) fun e w' => e = .returned (.agg (darr (sumM msg_one))) ∧ Below w.heap.size (w.alloc (.cells #[S msg_one] 9)) w') := fun w => hide (sum_single w msg_one (by decide))
  have ST : ∀ w : World, Hid (Calls Try.prog 9 #[.slice (some ⟨w.heap.size, 0, none⟩) 1 1] (w.alloc (.cells #[S msg_two] 9)) fun e w' => e = .returned (.agg (darr (sumM msg_two))) ∧ Below w.heap.size (w.alloc (.cells #[S msg_two] 9)) w') := fun w => hide (sum_single w msg_two (by decide))
  have XO : ∀ w : World, Hid (Calls Try.prog 11 #[.agg (darr (sumM msg_one))] w (Gives w (S hex_one))) := fun w => hide (by rw [← hex_one_is]; exact hex_any w _ (sumM_len _))
  have XT : ∀ w : World, Hid (Calls Try.prog 11 #[.agg (darr (sumM msg_two))] w (Gives w (S hex_two))) := fun w => hide (by rw [← hex_two_is]; exact hex_any w _ (sumM_len _))
  obtain ⟨d1, hd1⟩ : ∃ d, d = darr (sumM msg_one) := ⟨_, rfl⟩
  obtain ⟨d2, hd2⟩ : ∃ d, d = darr (sumM msg_two) := ⟨_, rfl⟩
  simp only [← hd1, ← hd2] at SO ST XO XT
  clear hd1 hd2
  simp only [msg_one, msg_two, hex_one, hex_two] at SO ST XO XT
  go_enter Try.func8, Try.ntmps8
  go_wp2_with (first | (go_at_call 9; (with_reducible refine Calls.mono (SO _).out ?_); rintro e w1 ⟨rfl, hb1⟩; have HB1 := hide hb1; clear hb1) | (go_at_call 11; (with_reducible refine Calls.mono (XO _).out ?_); rintro e w2 ⟨rfl, hb2⟩; have HB2 := hide hb2; clear hb2) | (go_at_call 9; (with_reducible refine Calls.mono (ST _).out ?_); rintro e w3 ⟨rfl, hb3⟩; have HB3 := hide hb3; clear hb3) | (go_at_call 11; (with_reducible refine Calls.mono (XT _).out ?_); rintro e w4 ⟨rfl, hb4⟩; have HB4 := hide hb4; clear hb4))

  go_ret
  have k1 := ((Below.refl w.heap.size w).alloc (Nat.le_refl _) (.cells #[S msg_one] 9)).trans HB1.out
  have k2 := k1.trans (HB2.out.mono k1.size)
  have k3 := (k2.alloc k2.size (.cells #[S msg_two] 9)).trans (HB3.out.mono k2.size)
  exact ⟨rfl, k3.trans (HB4.out.mono k3.size)⟩
end Go.Proofs.Ytdnpcpeibjckmaa
