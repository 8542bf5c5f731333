/- The document's example of chapter 18, walked; no statement of the seat is proved here. -/
import Derived.Test.YtclgiapmbmbknaaMRepDecB
namespace Go.Proofs.Ytclgiapmbmbknaa
open Go.RowKit
set_option linter.unusedVariables false

theorem liL_nil : liL [] = [0] := by
  simp [liL, secL, catAll, vi_small]
theorem many_nil : manyR 200 (some [0]) = (0, some []) := by decide +kernel
theorem enc_nil : encM [] = 0 :: sumM [0] := by rw [encM, liL_nil]; rfl
theorem dec_nil : decM (0 :: sumM [0]) = some [] := by
  have hl : (sumM [0]).length = 32 := sumM_len _
  have h1 : (0 :: sumM [0]).length - 32 = 1 := by rw [List.length_cons, hl]
  have h2 : liR (some [0]) = ([], some []) := by
    unfold liR secR
    rw [many_nil]
    rfl
  unfold decM
  rw [if_neg (by rw [List.length_cons, hl]; omega), h1]
  simp only [List.take_succ_cons, List.take_zero, List.drop_succ_cons, List.drop_zero, h2]
  simp [doneR, rightL, riseE]

set_option maxRecDepth 100000 in
set_option maxHeartbeats 4000000 in
theorem head_any (w : World) : Calls Try.prog 6 #[] w (Gives w (.bool true)) := by
  obtain ⟨sm, hsm⟩ : ∃ s, s = sumM [0] := ⟨_, rfl⟩
  have hsl : sm.length = 32 := by rw [hsm, sumM_len]
  have HE : Hid (Calls Try.prog 21 #[.slice (some ⟨w.heap.size, 0, none⟩) 0 0] (w.alloc (.cells #[] 44)) (Gives (w.alloc (.cells #[] 44)) (.tuple #[S (0 :: sm), .int .i64 0]))) := hide (by
    have := enc_ok (some ⟨w.heap.size, 0, none⟩) 0 0 [] (w.alloc (.cells #[] 44)) ⟨Rd.nil _ _ _ _, rfl, Nat.zero_le _, fun e he => by cases he⟩ rfl (fun e he => by cases he) (by rw [List.map_nil, liL_nil]; decide)
    rw [List.map_nil, enc_nil, ← hsm] at this
    exact this)
  have HD : Hid (∀ w', Calls Try.prog 22 #[S (0 :: sm)] w' (fun e w'' => (∃ A c, e = .returned (.tuple #[.slice A 0 c, .int .i64 0])) ∧ Below w'.heap.size w' w'')) := hide (fun w' => by
    refine (dec_any (0 :: sm) w' (by rw [List.length_cons, hsl]; omega)).mono ?_
    rintro e w'' ⟨hb, h | ⟨A, c, L, he, hd, _⟩⟩
    · have := dec_nil
      rw [← hsm, h.1] at this
      cases this
    · have h0 := dec_nil
      rw [← hsm, hd] at h0
      injection h0 with h0
      have hL : L = [] := by cases L with
        | nil => rfl
        | cons a l => cases h0
      subst hL
      exact ⟨⟨A, c, he⟩, hb⟩)
  clear hsm
  go_enter Try.func6, Try.ntmps6
  go_wp2_with (first
    | (go_at_call 21; refine HE.out.mono ?_; rintro e w1 ⟨rfl, hb1⟩)
    | (go_at_call 22; refine (HD.out _).mono ?_; rintro e w2 ⟨⟨A, c, rfl⟩, hb2⟩))
  go_ret
  have k1 := ((Below.refl w.heap.size w).alloc (Nat.le_refl _) (.cells #[] 44)).trans (hb1.mono (by simp))
  exact ⟨rfl, k1.trans (hb2.mono k1.size)⟩
end Go.Proofs.Ytclgiapmbmbknaa
