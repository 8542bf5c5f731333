/- Numbers and names as great and long as may be: the law's walk; no statement of the seat is proved here. -/
import Derived.Test.YtoilalfchnglcaaDoorLexFmt
import Derived.Test.YtoilalfchnglcaaDoorLexLimL
import Derived.Test.YtoilalfchnglcaaDoorLexMarkT
namespace Go.Proofs.YtoilalfchnglcaaDoor
open Go.RowKit

theorem u64_and60 (n : Int) : bits .and .u64 n 1152921504606846975 = n % 1152921504606846976 := by
  have h127 : (BitVec.ofInt 64 1152921504606846975).toNat = 2 ^ 60 - 1 := by decide
  have key : (BitVec.ofInt 64 n &&& BitVec.ofInt 64 1152921504606846975).toNat = (n % ((2 ^ 64 : Nat) : Int)).toNat % 2 ^ 60 := by
    rw [BitVec.toNat_and, BitVec.toNat_ofInt, h127, Nat.and_two_pow_sub_one_eq_mod]
  show IntKind.u64.wrap ((BitVec.ofInt 64 n &&& BitVec.ofInt 64 1152921504606846975).toNat : Nat) = n % 1152921504606846976
  rw [key, IntKind.wrap_u64]
  omega
theorem i64_and63 (n : Int) : bits .and .i64 n 63 = n % 64 := by
  have h127 : (BitVec.ofInt 64 63).toNat = 2 ^ 6 - 1 := by decide
  have key : (BitVec.ofInt 64 n &&& BitVec.ofInt 64 63).toNat = (n % ((2 ^ 64 : Nat) : Int)).toNat % 2 ^ 6 := by
    rw [BitVec.toNat_and, BitVec.toNat_ofInt, h127, Nat.and_two_pow_sub_one_eq_mod]
  show IntKind.i64.wrap ((BitVec.ofInt 64 n &&& BitVec.ofInt 64 63).toNat : Nat) = n % 64
  rw [key, IntKind.wrap_i64]
  omega
theorem Tab.below {w w' : World} {B : Nat} (h : Laid2 w) (hb : Below B w w') (hB : w.heap.size ≤ B) : Lib.TabIs Tryd.prog w' "internal/strconv.uint64pow10" .u64 Lib.pow10Tab :=
  var?_below hb gTab (Nat.lt_of_lt_of_le (var_lt gTab h.tab) hB) h.tab

set_option maxRecDepth 100000 in
set_option maxHeartbeats 4000000 in
theorem lexlimits_any (n0 n1 : Int) (b : Bool) (w : World) (hm : Laid2 w) : Calls Tryd.prog 7 #[.int .u64 n0, .int .i64 n1, .bool b] w (Gives w (.bool true)) := by
  have HH := hide (head_any w hm.ms)
  have HM := hide hm
  clear hm
  have hand1 := u64_and60 n0
  have hand2 := i64_and63 n1
  obtain ⟨u, hu, hlt⟩ : ∃ u : Nat, n0 % 1152921504606846976 = (u : Int) ∧ u < 1152921504606846976 := ⟨(n0 % 1152921504606846976).toNat, by omega, by omega⟩
  obtain ⟨k, hk, hkl⟩ : ∃ k : Nat, n1 % 64 = (k : Int) ∧ k < 64 := ⟨(n1 % 64).toNat, by omega, by omega⟩
  rw [hu] at hand1
  rw [hk] at hand2
  clear hu hk
  cases b with
  | true =>
    have hl := Lib.nDigits_le20 u (by omega)
    rw [← Lib.decDigits_length] at hl
    have HT := fun w h => hide (fmt_uint u (by omega) w h)
    have hL := lexM_dec u hl
    go_enter Tryd.func7, Tryd.ntmps7
    go_upto_region 5 with (go_at_call 9; refine HH.out.mono ?_; rintro e w1 ⟨rfl, hb1⟩)
    have HB1 := hide hb1
    clear HH hb1
    have HT1 := hide (HT _ (Tab.below HM.out HB1.out (Nat.le_refl _))).out
    clear HT
    by_cases hbig : 288230376151711744 < u
    · rw [if_pos hbig] at hL
      generalize Lib.decDigits u = ds at hL hl HT1
      have hd : decide ((u : Int) ≤ 288230376151711744) = false := by simp; omega
      have HA : ∀ w', Below w.heap.size w w' → Hid (Calls Tryd.prog 10 #[S (32 :: ds)] w' fun e w'' => Below w'.heap.size w' w'' ∧ e = .returned (.tuple #[.slice none 0 0, .agg #[.int .i64 22, .int .i64 1, .int .i64 2]])) :=
        fun w' h => hide (all_err (w := w') (s := 32 :: ds) (by simp; omega) (HM.out.ms.below h (Nat.le_refl _)) hL)
      clear hL
      go_wp2_with (first
        | (go_at_call 12; refine HT1.out.mono ?_; rintro e w2 ⟨rfl, hb2⟩; have HB2 : Hid (Below w.heap.size w w2) := hide (HB1.out.trans (hb2.mono HB1.out.size)); clear hb2)
        | (go_at_call 10; refine (HA _ HB2.out).out.mono ?_; rintro e v1 ⟨hb1, rfl⟩; have HB3 : Hid (Below w.heap.size w v1) := hide (HB2.out.trans (hb1.mono HB2.out.size)); clear hb1))
      go_ret
      exact ⟨rfl, HB3.out.alloc HB3.out.size _⟩
    · rw [if_neg hbig] at hL
      generalize Lib.decDigits u = ds at hL hl HT1
      have HL := hide (fun _ : Unit => hL)
      clear hL
      have hd : decide ((u : Int) ≤ 288230376151711744) = true := by simp; omega
      have HA := fun w' (h : Below w.heap.size w w') => hide (all_ok (w := w') (s := 32 :: ds) (by simp; omega) (HM.out.ms.below h (Nat.le_refl _)) (HL.out ()))
      go_upto_region 7 with (first
        | (go_at_call 12; refine HT1.out.mono ?_; rintro e w2 ⟨rfl, hb2⟩; have HB2 : Hid (Below w.heap.size w w2) := hide (HB1.out.trans (hb2.mono HB1.out.size)); clear hb2)
        | (go_at_call 10; refine (HA _ HB2.out).out.mono ?_; rintro e v1 ⟨hb1, A1, k1, rfl, hr1⟩))
      refine name_world ?_
      intro w4 hw4
      have HB4 : Hid (Below w.heap.size w w4) := hide (by rw [hw4]; exact (HB2.out.trans (hb1.mono HB2.out.size)).alloc (Nat.le_trans HB2.out.size hb1.size) _)
      have HR1 := hide (show Rd w4 _ 5 A1 _ _ by rw [hw4]; exact hr1.alloc _)
      have HF1 : Hid (Blk w4 v1.heap.size 28 #[.int .i64 0, .int .i64 0, .int .i64 0]) := hide (by rw [hw4]; exact Blk.new _ _ _)
      clear hw4 hb1 hr1 HA
      generalize v1.heap.size = g1 at HF1 ⊢
      obtain ⟨b1, o1, rfl, _, _, _, _, c2, _⟩ := rd_tok HR1.out 0 (by simp)
      have z0 := HF1.out.cell 0
      have z1 := HF1.out.cell 1
      have z2 := HF1.out.cell 2
      simp at z0 z1 z2 c2
      clear HR1 HF1 HL
      go_wp2_with fail
      go_ret
      exact ⟨rfl, HB4.out⟩
  | false =>
    have HL : Hid (∀ _ : Unit, k < 40 → lexM (nameL k) = .ok [(⟨3, nameL k, 0⟩, 0), (⟨0, [], 0⟩, k + 1)]) := hide (fun _ h => okB_iff (name_ok ⟨k, h⟩))
    have HE : Hid (∀ _ : Unit, ¬ k < 40 → lexM (nameL k) = .error (4, 0)) := hide (fun _ h => by
      have := erB_iff (name_bad ⟨k - 40, by omega⟩)
      rw [show 40 + (k - 40) = k by omega] at this
      exact this)
    have hnl : (nameL k).length = k + 1 := by simp [nameL]
    go_enter Tryd.func7, Tryd.ntmps7
    go_upto_region 11 with (go_at_call 9; refine HH.out.mono ?_; rintro e w1 ⟨rfl, hb1⟩)
    have HB1 := hide hb1
    clear HH hb1
    go_wp2_with fail
    go_loopw [9, 10] (fun v i wr => ∃ j : Nat, j ≤ k ∧ v = S (nameL j) ∧ i = .int .i64 ((j : Int) + 1) ∧ wr = w1) (fun _ i _ => k + 1 - (intOf i).toNat)
    case atStart => exact ⟨0, by omega, rfl, rfl, rfl⟩
    case round =>
      obtain ⟨j, hj, rfl, rfl, hw⟩ := hrel
      subst wr
      by_cases hlt : j < k
      · have hns : Hid (nameL j ++ [121] = nameL (j + 1)) := hide (by simp [nameL, List.replicate_succ'])
        have hnj : (nameL j).length = j + 1 := by simp [nameL]
        generalize nameL j = x at hns hnj ⊢
        go_wp2_with fail
        go_roundw
        case rel => exact ⟨j + 1, by omega, by rw [hns.out], by go_num, trivial⟩
        case measure => simp [intOf]; omega
      · obtain rfl : j = k := by omega
        by_cases hbig : j < 40
        · have HL1 := hide (fun _ : Unit => HL.out () hbig)
          generalize nameL j = x at HL1 hnl ⊢
          have hd : decide (1 + (j : Int) ≤ 40) = true := by simp; omega
          have HA := hide (all_ok (w := w1) (s := x) (by omega) (HM.out.ms.below HB1.out (Nat.le_refl _)) (HL1.out ()))
          go_upto_region 16 with (go_at_call 10; refine HA.out.mono ?_; rintro e v1 ⟨hb1, A1, k1, rfl, hr1⟩)
          refine name_world ?_
          intro w4 hw4
          have HB4 : Hid (Below w.heap.size w w4) := hide (by rw [hw4]; exact (HB1.out.trans (hb1.mono HB1.out.size)).alloc (Nat.le_trans HB1.out.size hb1.size) _)
          have HR1 := hide (show Rd w4 _ 5 A1 _ _ by rw [hw4]; exact hr1.alloc _)
          have HF1 : Hid (Blk w4 v1.heap.size 28 #[.int .i64 0, .int .i64 0, .int .i64 0]) := hide (by rw [hw4]; exact Blk.new _ _ _)
          clear hw4 hb1 hr1 HA HE HL
          generalize v1.heap.size = g1 at HF1 ⊢
          obtain ⟨b1, o1, rfl, _, _, _, c1, _, _⟩ := rd_tok HR1.out 0 (by simp)
          have z0 := HF1.out.cell 0
          have z1 := HF1.out.cell 1
          have z2 := HF1.out.cell 2
          simp at z0 z1 z2 c1
          clear HR1 HF1 HL1
          go_wp2_with fail
          go_ret
          exact ⟨rfl, HB4.out⟩
        · have hL := HE.out () hbig
          generalize nameL j = x at hL hnl ⊢
          have hd : decide (1 + (j : Int) ≤ 40) = false := by simp; omega
          have HA : Hid (Calls Tryd.prog 10 #[S x] w1 fun e w'' => Below w1.heap.size w1 w'' ∧ e = .returned (.tuple #[.slice none 0 0, .agg #[.int .i64 4, .int .i64 1, .int .i64 1]])) := hide (by
            have h := all_err (w := w1) (s := x) (by omega) (HM.out.ms.below HB1.out (Nat.le_refl _)) hL
            rw [pos_zero] at h
            exact h)
          clear hL HE HL
          go_wp2_with (go_at_call 10; refine HA.out.mono ?_; rintro e v1 ⟨hb1, rfl⟩)
          go_ret
          exact ⟨rfl, (HB1.out.trans (hb1.mono HB1.out.size)).alloc (Nat.le_trans HB1.out.size hb1.size) _⟩
end Go.Proofs.YtoilalfchnglcaaDoor
