/- ShaTexts, walked; no statement of the seat is proved here. -/
import Derived.Test.YtdnpcpeibjckmaaShaDig
namespace Go.Proofs.Ytdnpcpeibjckmaa
open Go.RowKit

set_option maxRecDepth 100000 in
set_option maxHeartbeats 1000000 in
theorem texts_any (w : World) (l : List UInt8) (hl : l.length ≤ 9223372036854775807) : Calls Try.prog 3 #[S l] w (Gives w (.bool true)) := by
  by_cases hbig : l.length ≤ 400
  · have H1 := fun W => hide (sum_single W l (by omega))
    have H2 := fun W => hide (digest_any W l (by omega))
    have HQ := fun W => hide (run_eql_darr (sumM l) (sumM l) (sumM_len l) (sumM_len l) W)
    obtain ⟨dz, hdz⟩ : ∃ dz, dz = darr (sumM l) := ⟨_, rfl⟩
    simp only [← hdz] at H1 H2 HQ
    clear hdz
    have he : ∀ W, (binOp .eql 24 (.agg dz) (.agg dz)).run Try.prog W = .ok (.bool true) W := fun W => by
      have := (HQ W).out
      rwa [show (sumM l == sumM l) = true by simp] at this
    clear HQ
    go_enter Try.func3, Try.ntmps3
    go_wp2_with (first | (go_at_call 8; refine (head_any _).mono ?_; rintro e w1 ⟨rfl, hb⟩; have HB1 := hide hb; clear hb) | (go_at_call 9; refine (H1 _).out.mono ?_; rintro e w2 ⟨rfl, hb⟩; have HB2 := hide hb; clear hb) | (go_at_call 10; refine (H2 _).out.mono ?_; rintro e w3 ⟨rfl, hb⟩; have HB3 := hide hb; clear hb))
    go_ret
    have k2 := (HB1.out.alloc HB1.out.size (.cells #[S l] 9)).trans (HB2.out.mono HB1.out.size)
    exact ⟨rfl, k2.trans (HB3.out.mono k2.size)⟩
  · go_enter Try.func3, Try.ntmps3
    go_wp2_with (first | (go_at_call 8; refine (head_any _).mono ?_; rintro e w1 ⟨rfl, hb⟩; have HB1 := hide hb; clear hb))
    go_ret
    exact ⟨rfl, HB1.out⟩
end Go.Proofs.Ytdnpcpeibjckmaa
