/- The kinds of signs, walked; no statement of the seat is proved here. -/
import Derived.Test.YtoilalfchnglcaaDoorLexStep
namespace Go.Proofs.YtoilalfchnglcaaDoor
open Go.RowKit

theorem great_any (c : UInt8) (w : World) : Calls Tryd.prog 21 #[B8 c] w fun e w' => e = .returned (.bool (greatB c)) ∧ w' = w := by
  have hcl := c.toNat_lt
  by_cases h1 : 65 ≤ c.toNat
  · by_cases h2 : c.toNat ≤ 90
    · have H : Hid (greatB c = true) := hide (by simp [greatB, h1, h2])
      go_enter Tryd.func21, Tryd.ntmps21
      go_wp2_with fail
      go_ret
      exact ⟨by rw [H.out]; first | rfl | (simp; try omega), rfl⟩
    · have H : Hid (greatB c = false) := hide (by simp [greatB, h2])
      go_enter Tryd.func21, Tryd.ntmps21
      go_wp2_with fail
      go_ret
      exact ⟨by rw [H.out]; first | rfl | (simp; try omega), rfl⟩
  · have H : Hid (greatB c = false) := hide (by simp [greatB, h1])
    go_enter Tryd.func21, Tryd.ntmps21
    go_wp2_with fail
    go_ret
    exact ⟨by rw [H.out]; first | rfl | (simp; try omega), rfl⟩
theorem small_any (c : UInt8) (w : World) : Calls Tryd.prog 24 #[B8 c] w fun e w' => e = .returned (.bool (smallB c)) ∧ w' = w := by
  have hcl := c.toNat_lt
  by_cases h1 : 97 ≤ c.toNat
  · by_cases h2 : c.toNat ≤ 122
    · have H : Hid (smallB c = true) := hide (by simp [smallB, h1, h2])
      go_enter Tryd.func24, Tryd.ntmps24
      go_wp2_with fail
      go_ret
      exact ⟨by rw [H.out]; first | rfl | (simp; try omega), rfl⟩
    · have H : Hid (smallB c = false) := hide (by simp [smallB, h2])
      go_enter Tryd.func24, Tryd.ntmps24
      go_wp2_with fail
      go_ret
      exact ⟨by rw [H.out]; first | rfl | (simp; try omega), rfl⟩
  · have H : Hid (smallB c = false) := hide (by simp [smallB, h1])
    go_enter Tryd.func24, Tryd.ntmps24
    go_wp2_with fail
    go_ret
    exact ⟨by rw [H.out]; first | rfl | (simp; try omega), rfl⟩
theorem digit_any (c : UInt8) (w : World) : Calls Tryd.prog 26 #[B8 c] w fun e w' => e = .returned (.bool (digitB c)) ∧ w' = w := by
  have hcl := c.toNat_lt
  by_cases h1 : 48 ≤ c.toNat
  · by_cases h2 : c.toNat ≤ 57
    · have H : Hid (digitB c = true) := hide (by simp [digitB, h1, h2])
      go_enter Tryd.func26, Tryd.ntmps26
      go_wp2_with fail
      go_ret
      exact ⟨by rw [H.out]; first | rfl | (simp; try omega), rfl⟩
    · have H : Hid (digitB c = false) := hide (by simp [digitB, h2])
      go_enter Tryd.func26, Tryd.ntmps26
      go_wp2_with fail
      go_ret
      exact ⟨by rw [H.out]; first | rfl | (simp; try omega), rfl⟩
  · have H : Hid (digitB c = false) := hide (by simp [digitB, h1])
    go_enter Tryd.func26, Tryd.ntmps26
    go_wp2_with fail
    go_ret
    exact ⟨by rw [H.out]; first | rfl | (simp; try omega), rfl⟩

set_option maxRecDepth 100000 in
theorem inner_any (c : UInt8) (w : World) : Calls Tryd.prog 23 #[B8 c] w fun e w' => e = .returned (.bool (innerB c)) ∧ w' = w := by
  have H1 := hide (great_any c w)
  have H2 := hide (small_any c w)
  have H3 := hide (digit_any c w)
  have HI : Hid (∀ _ : Unit, innerB c = (greatB c || smallB c || digitB c || c == 95)) := hide (fun _ => rfl)
  have hc : ((c.toNat : Int) == 95) = (c == 95) := by
    rw [Bool.eq_iff_iff, beq_iff_eq, beq_iff_eq]
    constructor
    · intro h
      exact UInt8.toNat_inj.1 (by have : c.toNat = 95 := by omega
                                  exact this)
    · rintro rfl; rfl
  generalize greatB c = b1 at H1 HI
  generalize smallB c = b2 at H2 HI
  generalize digitB c = b3 at H3 HI
  generalize (c == 95) = b4 at hc HI
  generalize innerB c = R at HI
  cases b1 <;> cases b2 <;> cases b3 <;> cases b4
  all_goals
    go_enter Tryd.func23, Tryd.ntmps23
    go_wp2_with (first | (go_at_call 21; refine H1.out.mono ?_; rintro e w' ⟨rfl, hw'⟩; subst hw') | (go_at_call 24; refine H2.out.mono ?_; rintro e w' ⟨rfl, hw'⟩; subst hw') | (go_at_call 26; refine H3.out.mono ?_; rintro e w' ⟨rfl, hw'⟩; subst hw'))
    go_ret
    exact ⟨by rw [HI.out ()]; rfl, rfl⟩
end Go.Proofs.YtoilalfchnglcaaDoor
