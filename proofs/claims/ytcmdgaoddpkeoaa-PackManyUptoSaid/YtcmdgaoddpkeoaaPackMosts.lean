/- PackMosts, walked: it returns true for every input. -/
import Derived.Test.YtcmdgaoddpkeoaaPackLaws1
namespace Go.Proofs.Ytcmdgaoddpkeoaa
open Go.RowKit

theorem i64_mask (n : Int) (m : Nat) (hm : m < 9223372036854775808) : ∃ N : Nat, N ≤ m ∧ bits .and .i64 n (m : Int) = (N : Int) := by
  refine ⟨(BitVec.ofInt 64 n).toNat &&& m, Nat.and_le_right, ?_⟩
  show IntKind.i64.wrap ((BitVec.ofInt 64 n &&& BitVec.ofInt 64 (m : Int)).toNat : Int) = _
  have hle : (BitVec.ofInt 64 n).toNat &&& m ≤ m := Nat.and_le_right
  rw [BitVec.toNat_and, BitVec.ofInt_natCast, BitVec.toNat_ofNat, Nat.mod_eq_of_lt (a := m) (by simp; omega), IntKind.wrap_i64]
  omega

theorem rtext_none (m : Int) (w : World) : Calls Try.prog 23 #[.pointer none, .int .i64 m] w fun e w' => e = .returned (S []) ∧ w = w' := by
  go_enter Try.func23, Try.ntmps23
  go_wp2_with (go_at_call 20; refine (num_none _ _).mono ?_; rintro e w' ⟨rfl, rfl⟩)
  go_ret
  exact ⟨rfl, rfl⟩
theorem rflag_none (w : World) : Calls Try.prog 18 #[.pointer none] w fun e w' => e = .returned (.bool false) ∧ w = w' := by
  go_enter Try.func18, Try.ntmps18
  go_wp2_with (go_at_call 20; refine (num_none _ _).mono ?_; rintro e w' ⟨rfl, rfl⟩)
  go_ret
  exact ⟨rfl, rfl⟩
theorem rmany_none (m : Int) (w : World) : Calls Try.prog 24 #[.pointer none, .int .i64 m] w fun e w' => e = .returned (.int .i64 0) ∧ w = w' := by
  go_enter Try.func24, Try.ntmps24
  go_wp2
  go_ret
  exact ⟨rfl, rfl⟩
theorem rdone_none (w : World) : Calls Try.prog 21 #[.pointer none] w fun e w' => e = .returned (.int .i64 2) ∧ w = w' := by
  go_enter Try.func21, Try.ntmps21
  go_wp2_with (go_at_call 19; refine (rok_none _).mono ?_; rintro e w' ⟨rfl, rfl⟩)
  go_ret
  exact ⟨rfl, rfl⟩

/-- What the three readers come to, case by case. -/
theorem mosts_yes {M N : Nat} {rest : List UInt8} (hN : N ≤ 65535) (h : N ≤ M) (hr : N ≤ rest.length) :
    numR M (some (vi N ++ rest)) = (N, some rest) ∧ textR M (some (vi N ++ rest)) = (rest.take N, some (rest.drop N)) ∧ manyR M (some (vi N ++ rest)) = (N, some rest) := by
  have e := numR_vi (m := M) (n := N) rest (by omega) h
  refine ⟨e, ?_, ?_⟩
  · unfold textR
    rw [e]
    simp only
    rw [if_neg (by omega)]
  · unfold manyR
    rw [e]
    exact if_neg (by show ¬ rest.length < N; omega)
theorem mosts_short {M N : Nat} {rest : List UInt8} (hN : N ≤ 65535) (h : N ≤ M) (hr : rest.length < N) :
    numR M (some (vi N ++ rest)) = (N, some rest) ∧ textR M (some (vi N ++ rest)) = ([], none) ∧ manyR M (some (vi N ++ rest)) = (0, none) := by
  have e := numR_vi (m := M) (n := N) rest (by omega) h
  refine ⟨e, ?_, ?_⟩
  · unfold textR
    rw [e]
    simp only
    rw [if_pos (by omega)]
  · unfold manyR
    rw [e]
    exact if_pos hr
theorem mosts_no {M N : Nat} {rest : List UInt8} (hN : N ≤ 65535) (h : M < N) :
    numR M (some (vi N ++ rest)) = (0, none) ∧ textR M (some (vi N ++ rest)) = ([], none) ∧ manyR M (some (vi N ++ rest)) = (0, none) := by
  have e := numR_vi_over (m := M) (n := N) rest (by omega) h
  refine ⟨e, ?_, ?_⟩
  · unfold textR
    rw [e]
  · unfold manyR
    rw [e]
    simp [left_]

set_option maxRecDepth 100000 in
set_option maxHeartbeats 2000000 in
theorem mosts_main (n m : Int) (rest : List UInt8) (w : World) (hm : m ≤ 9223372036854775807) (hr : rest.length ≤ 200) :
    Calls Try.prog 7 #[.int .i64 n, .int .i64 m, S rest] w (Gives w (.bool true)) := by
  have hd1 : decide (200 < (rest.length : Int)) = false := by simp; omega
  obtain ⟨N, hN, hnm⟩ := i64_mask n 65535 (by omega)
  rw [show ((65535 : Nat) : Int) = (65535 : Int) from rfl] at hnm
  have hvl : (vi N).length ≤ 10 := vi_len_10 N (by omega)
  obtain ⟨X, hX⟩ : ∃ X, X = vi N ++ rest := ⟨_, rfl⟩
  have hXl : X.length ≤ 9223372036854775807 := by rw [hX, List.length_append]; omega
  go_enter Try.func7, Try.ntmps7
  have HX := hide hX
  clear hX
  go_wp2_with (go_at_call 10; refine (head_any _).mono ?_; rintro e w1 ⟨rfl, hb1⟩)
  refine (lawnum_any _ _ (by omega)).mono ?_
  rintro e w2 ⟨rfl, hb2⟩
  rw [Int.toNat_natCast]
  have hB2 := hb1.trans (hb2.mono hb1.size)
  go_wp2_with fail
  rw [← HX.out]
  refine (pread_any _ _).mono ?_
  rintro e w3 ⟨rfl, rfl⟩
  have hA3 := Rl.new w2 X hXl
  have hB3 := hB2.alloc hB2.size (.cells #[S X, .bool false] 58)
  have hg2 := hB2.size
  clear hb1 hb2 hB2
  go_wp2_with fail
  refine (lawnum_any _ _ (by omega)).mono ?_
  rintro e w4 ⟨rfl, hb4⟩
  rw [Int.toNat_natCast]
  have hg4 : w2.heap.size + 1 ≤ w4.heap.size := by have := hb4.size; simpa using this
  have hA4 := hA3.keep (Keep.of_below (F := fun k => w2.heap.size + 1 ≤ k) hb4 (fun k _ h => by simpa using h)) (by omega)
  have hB4 := hB3.trans (hb4.mono hB3.size)
  clear hA3 hb4 hB3
  go_wp2_with fail
  rw [← HX.out]
  refine (pread_any _ _).mono ?_
  rintro e w5 ⟨rfl, rfl⟩
  have hC5 := Rl.new w4 X hXl
  have hA5 := hA4.alloc (.cells #[S X, .bool false] 58)
  have hB5 := hB4.alloc hB4.size (.cells #[S X, .bool false] 58)
  clear hA4 hB4
  go_wp2_with fail
  refine (lawnum_any _ _ (by omega)).mono ?_
  rintro e w6 ⟨rfl, hb6⟩
  rw [Int.toNat_natCast]
  have hg6 : w4.heap.size + 1 ≤ w6.heap.size := by have := hb6.size; simpa using this
  have hk6 := Keep.of_below (F := fun k => w4.heap.size + 1 ≤ k) hb6 (fun k _ h => by simpa using h)
  have hA6 := hA5.keep hk6 (by omega)
  have hC6 := hC5.keep hk6 (by omega)
  have hB6 := hB5.trans (hb6.mono hB5.size)
  clear hA5 hC5 hB5 hb6 hk6
  go_wp2_with fail
  rw [← HX.out]
  refine (pread_any _ _).mono ?_
  rintro e w7 ⟨rfl, rfl⟩
  have hD7 := Rl.new w6 X hXl
  have hA7 := hA6.alloc (.cells #[S X, .bool false] 58)
  have hC7 := hC6.alloc (.cells #[S X, .bool false] 58)
  have hB7 := hB6.alloc hB6.size (.cells #[S X, .bool false] 58)
  clear hA6 hC6 hB6
  generalize w6.alloc (.cells #[S X, .bool false] 58) = w8 at *
  have hms : (m < 0 ∧ m.toNat = 0) ∨ ∃ M : Nat, m = M := by
    rcases Int.lt_or_le m 0 with h | h
    · exact .inl ⟨h, by omega⟩
    · exact .inr (Int.eq_ofNat_of_zero_le h)
  have hcase : (N ≤ m.toNat ∧ N ≤ rest.length) ∨ (N ≤ m.toNat ∧ rest.length < N) ∨ m.toNat < N := by omega
  rcases hms with ⟨hm0, hm1⟩ | ⟨M, rfl⟩ <;> rcases hcase with ⟨hc1, hc2⟩ | ⟨hc1, hc2⟩ | hc1
  any_goals (exfalso; omega)
  all_goals
    first
      | (have e0 := mosts_yes (rest := rest) hN hc1 hc2; obtain ⟨e1, e2, e3⟩ := e0)
      | (have e0 := mosts_short (rest := rest) hN hc1 hc2; obtain ⟨e1, e2, e3⟩ := e0)
      | (have e0 := mosts_no (rest := rest) hN hc1; obtain ⟨e1, e2, e3⟩ := e0)
    rw [← HX.out] at e1 e2 e3
    have E1 := hide e1
    have E2 := hide e2
    have E3 := hide e3
    clear e1 e2 e3
    first
      | (rw [hm1] at hc1; have HM := hide hm1; clear hm1)
      | (rw [Int.toNat_natCast] at hc1)
    go_wp2_with fail
    refine (rnum_any w2.heap.size _ _ _ hA7 (by omega)).mono ?_
    rintro e w9 ⟨rfl, h9, k9⟩
    rw [E1.out] at h9
    rw [E1.out]
    have hC9 := hC7.keep k9 (by omega)
    have hD9 := hD7.keep k9 (by omega)
    have hB9 := hB7.trans (k9.below (B := w.heap.size) hB7.size (fun k hk => by omega))
    clear k9 hA7 hC7 hD7 hB7
    go_wp2_with fail
    refine (rtext_any w4.heap.size _ _ _ hC9 (by omega)).mono ?_
    rintro e w10 ⟨rfl, h10, k10⟩
    rw [E2.out] at h10
    rw [E2.out]
    have hA10 := h9.keep k10 (by omega)
    have hD10 := hD9.keep k10 (by omega)
    have hB10 := hB9.trans (k10.below (B := w.heap.size) hB9.size (fun k hk => by omega))
    clear k10 h9 hC9 hD9 hB9
    go_wp2_with fail
    refine (rmany_any w6.heap.size _ _ _ hD10 (by omega)).mono ?_
    rintro e w11 ⟨rfl, h11, k11⟩
    rw [E3.out] at h11
    rw [E3.out]
    have hA11 := hA10.keep k11 (by omega)
    have hC11 := h10.keep k11 (by omega)
    have hB11 := hB10.trans (k11.below (B := w.heap.size) hB10.size (fun k hk => by omega))
    clear k11 h10 hA10 hD10 hB10
    go_wp2_with fail
    refine (rok_any w2.heap.size _ _ hA11).mono ?_
    rintro e w12 ⟨rfl, rfl⟩
    go_wp2_with fail
    refine (rok_any w4.heap.size _ _ hC11).mono ?_
    rintro e w13 ⟨rfl, rfl⟩
    go_wp2_with fail
    refine (rok_any w6.heap.size _ _ h11).mono ?_
    rintro e w14 ⟨rfl, rfl⟩
    go_wp2_with (first | (go_at_call 20; refine (num_none _ _).mono ?_; rintro e w' ⟨rfl, rfl⟩) | (go_at_call 23; refine (rtext_none _ _).mono ?_; rintro e w' ⟨rfl, rfl⟩) | (go_at_call 18; refine (rflag_none _).mono ?_; rintro e w' ⟨rfl, rfl⟩) | (go_at_call 24; refine (rmany_none _ _).mono ?_; rintro e w' ⟨rfl, rfl⟩) | (go_at_call 19; refine (rok_none _).mono ?_; rintro e w' ⟨rfl, rfl⟩) | (go_at_call 21; refine (rdone_none _).mono ?_; rintro e w' ⟨rfl, rfl⟩))
    go_ret
    exact ⟨rfl, hB11⟩

theorem mosts_any (n m : Int) (rest : List UInt8) (w : World) (hm : m ≤ 9223372036854775807) :
    Calls Try.prog 7 #[.int .i64 n, .int .i64 m, S rest] w (Gives w (.bool true)) := by
  by_cases h : rest.length ≤ 200
  · exact mosts_main n m rest w hm h
  · have hd1 : decide (200 < (rest.length : Int)) = true := by simp; omega
    go_enter Try.func7, Try.ntmps7
    go_wp2_with (go_at_call 10; refine (head_any _).mono ?_; rintro e w1 ⟨rfl, hb1⟩)
    go_ret
    exact ⟨rfl, hb1⟩

end Go.Proofs.Ytcmdgaoddpkeoaa
