/- Contracts of package pack's Writer, more: texts, flags, numbers with signs. -/
import Derived.Test.YthehimjdjgmnjaaWriter
namespace Go.Proofs.Ythehimjdjgmnjaa
open Go.RowKit

theorem u64_xor_ones (a : Nat) (h : a < 18446744073709551616) : a ^^^ 18446744073709551615 = 18446744073709551615 - a := by
  have e : (BitVec.ofNat 64 a ^^^ BitVec.allOnes 64).toNat = a ^^^ 18446744073709551615 := by
    rw [BitVec.toNat_xor, BitVec.toNat_ofNat, BitVec.toNat_allOnes, Nat.mod_eq_of_lt (by simpa using h)]
  rw [← e, BitVec.xor_allOnes, BitVec.toNat_not, BitVec.toNat_ofNat, Nat.mod_eq_of_lt (by simpa using h)]

/-- What the two shifts come to. -/
theorem zz_bits_pos (z : Nat) (h : z ≤ 9223372036854775807) : bits .xor .u64 ((z : Int) * 2) ((z : Int) / 9223372036854775808) = (zz z : Int) := by
  rw [show (z : Int) / 9223372036854775808 = ((0 : Nat) : Int) by omega, show (z : Int) * 2 = ((z * 2 : Nat) : Int) by omega, u64_xor_nat _ _ (by omega) (by omega), Nat.xor_zero]
  unfold zz
  rw [if_pos (by omega)]
  omega
theorem zz_bits_neg (z : Int) (h1 : z < 0) (h2 : -9223372036854775808 ≤ z) :
    bits .xor .u64 (IntKind.u64.wrap (IntKind.u64.wrap z * 2)) (IntKind.u64.wrap (z / 9223372036854775808)) = (zz z : Int) := by
  rw [show z / 9223372036854775808 = -1 by omega, IntKind.wrap_u64, IntKind.wrap_u64, IntKind.wrap_u64]
  rw [show (-1 : Int) % 18446744073709551616 = ((18446744073709551615 : Nat) : Int) by decide]
  obtain ⟨m, hm⟩ : ∃ m : Nat, z % 18446744073709551616 * 2 % 18446744073709551616 = (m : Int) := ⟨(z % 18446744073709551616 * 2 % 18446744073709551616).toNat, by omega⟩
  rw [hm, u64_xor_nat _ _ (by omega) (by omega), u64_xor_ones m (by omega)]
  unfold zz
  rw [if_neg (by omega)]
  omega

theorem zz_lt (z : Int) (h1 : -9223372036854775808 ≤ z) (h2 : z ≤ 9223372036854775807) : zz z ≤ 18446744073709551615 := by
  unfold zz
  split <;> omega

theorem u64_mask32 (a : Nat) (h : a ≤ 18446744073709551615) : bits .and .u64 (a : Int) 4294967295 = ((a % 4294967296 : Nat) : Int) := by
  have e := u64_and_nat a 4294967295 (by omega) (by omega)
  rw [show ((4294967295 : Nat) : Int) = (4294967295 : Int) from rfl] at e
  rw [e]
  congr 1
  exact Nat.and_two_pow_sub_one_eq_mod a 32

theorem vi_fl (b : Bool) : vi (if b then 1 else 0) = fl b := by
  cases b
  · rw [if_neg (by decide), vi_small (by omega)]; rfl
  · rw [if_pos rfl, vi_small (by omega)]; rfl

theorem catAll_fl (l : List Bool) : (catAll fl l).length = l.length := by
  induction l with
  | nil => rfl
  | cons b l ih => rw [catAll_cons, List.length_append, ih, List.length_cons]; simp [fl]; omega

set_option maxRecDepth 100000 in
set_option maxHeartbeats 1000000 in
theorem flag_any (g : Nat) (v : Value) (bs : List UInt8) (A : Option Addr) (n c : Nat) (l : List Bool) (w : World)
    (hw : Wr w g v bs) (hl : Rd w (Same g v) 1 A n (l.map Value.bool)) (hn : n ≤ 9223372036854775807) (hb : bs.length + (catAll fl l).length + 20 ≤ 140737488355328) :
    Calls Try.prog 39 #[.pointer (some ⟨g, 0, none⟩), .slice A n c] w (NumDone g v (bs ++ catAll fl l) w) := by
  have hnl : l.length = n := by have := hl.1; simpa using this
  have HNL := hide hnl
  clear hnl
  go_enter Try.func39, Try.ntmps39
  go_wp2_with fail
  go_loopw [10] (fun i wr => ∃ (k : Nat) (v' : Value), k ≤ n ∧ i = .int .i64 k ∧ Wrote g v w (bs ++ catTo fl l k) v' wr)
    (fun i _ => n - (intOf i).toNat)
  case atStart => exact ⟨0, v, Nat.zero_le _, rfl, by simpa [catTo_zero] using hw, Keep.refl _ _, .inl rfl⟩
  case round =>
    obtain ⟨k, v', hk, rfl, hwr⟩ := hrel
    by_cases hlt : k < n
    · obtain ⟨b, o, u, rfl, hu, hc⟩ := (hl.keep hwr.2.1).at_ k hlt
      have hlk : k < l.length := by have := HNL.out; omega
      obtain rfl : Value.bool l[k] = u := by simpa [hlk] using hu
      clear hu
      have HT : Hid (catTo fl l (k + 1) = catTo fl l k ++ fl l[k]) := catTo_succ fl l k hlk
      have hdl := catTo_le fl l k hlk
      generalize l[k] = z at *
      obtain ⟨D, hD⟩ : ∃ D, D = bs ++ catTo fl l k := ⟨_, rfl⟩
      have hDl : D.length + 20 ≤ 140737488355328 := by rw [hD, List.length_append]; omega
      rw [← hD] at hwr
      have HD := hide hD
      clear hD hdl
      cases z
      all_goals
        go_wp2_with fail
        refine (num_one g v' D _ wr wr.heap.size rfl hwr.1 (by omega) (by omega)).mono ?_
        rintro e w1 ⟨v1, rfl, h1⟩
        have h2 := hwr.trans h1
        clear h1 hwr
        go_wp2
        go_roundw
        case rel => exact ⟨k + 1, v1, by omega, by go_num, by rw [HT.out, ← List.append_assoc, ← HD.out, ← vi_fl]; exact h2⟩
        case measure => simp [intOf]; omega
    · go_wp2
      go_ret
      exact ⟨v', rfl, by rw [← catTo_all fl l k (by have := HNL.out; omega)]; exact hwr⟩

set_option maxRecDepth 100000 in
set_option maxHeartbeats 1000000 in
theorem text_any (g : Nat) (v : Value) (bs : List UInt8) (A : Option Addr) (n c : Nat) (l : List (List UInt8)) (w : World)
    (hw : Wr w g v bs) (hl : Rd w (Same g v) 1 A n (l.map S)) (hn : n ≤ 9223372036854775807) (hb : bs.length + (catAll tx l).length + 20 ≤ 140737488355328) :
    Calls Try.prog 36 #[.pointer (some ⟨g, 0, none⟩), .slice A n c] w (NumDone g v (bs ++ catAll tx l) w) := by
  have hnl : l.length = n := by have := hl.1; simpa using this
  have HNL := hide hnl
  clear hnl
  go_enter Try.func36, Try.ntmps36
  go_wp2_with fail
  go_loopw [9] (fun i wr => ∃ (k : Nat) (v' : Value), k ≤ n ∧ i = .int .i64 k ∧ Wrote g v w (bs ++ catTo tx l k) v' wr)
    (fun i _ => n - (intOf i).toNat)
  case atStart => exact ⟨0, v, Nat.zero_le _, rfl, by simpa [catTo_zero] using hw, Keep.refl _ _, .inl rfl⟩
  case round =>
    obtain ⟨k, v', hk, rfl, hwr⟩ := hrel
    by_cases hlt : k < n
    · obtain ⟨b, o, u, rfl, hu, hc⟩ := (hl.keep hwr.2.1).at_ k hlt
      have hlk : k < l.length := by have := HNL.out; omega
      obtain rfl : S l[k] = u := by simpa [hlk] using hu
      clear hu
      have HT : Hid (catTo tx l (k + 1) = catTo tx l k ++ tx l[k]) := catTo_succ tx l k hlk
      have hdl := catTo_le tx l k hlk
      generalize l[k] = s at *
      have hsl : (tx s).length = (vi s.length).length + s.length := by simp [tx]
      obtain ⟨D, hD⟩ : ∃ D, D = bs ++ catTo tx l k := ⟨_, rfl⟩
      have hDl : D.length + (vi s.length).length + s.length + 20 ≤ 140737488355328 := by rw [hD, List.length_append]; omega
      rw [← hD] at hwr
      have HD := hide hD
      clear hD hdl hsl
      go_wp2_with fail
      refine (num_one g v' D _ wr wr.heap.size rfl hwr.1 (by omega) (by omega)).mono ?_
      rintro e w1 ⟨v1, rfl, h1⟩
      rw [Int.toNat_natCast] at h1
      have h2 := hwr.trans h1
      obtain ⟨E, hE⟩ : ∃ E, E = D ++ vi s.length := ⟨_, rfl⟩
      have hEl : E.length + s.length ≤ 140737488355328 := by rw [hE, List.length_append]; omega
      rw [← hE] at h2
      have HE := hide hE
      clear h1 hwr hE
      have hown := h2.1.own
      have hc1 : w1.cell? ⟨g, 0, none⟩ = some v1 := h2.1.blk.cell 0
      go_wp2_with (at_builtin; refine app_str rfl (.tmp 22) (.tmp 23) 70 9 rfl 0 5 Try.underlying70 Try.underlying9 u8_info v1 E.length (E.map B8) rfl hown s rfl (by omega) (by omega) ?_)
      intro a3 c3 w3 hown3 hg3 hat3
      obtain ⟨hb3, HW3⟩ := h2.steps hown3 hg3 (hat3.imp id fun e => ⟨_, e, Nat.le_refl _⟩)
      have hc3 : w3.cell? ⟨g, 0, none⟩ = some v1 := hb3.cell 0
      have hf3 := hb3.frozen 0
      clear hown3 hg3 hat3 hb3 hc1 hown h2
      go_wp2
      go_roundw
      case rel => exact ⟨k + 1, _, by omega, by go_num, by rw [HT.out, tx, ← List.append_assoc, ← List.append_assoc, ← HD.out, ← HE.out]; exact HW3⟩
      case measure => simp [intOf]; omega
    · go_wp2
      go_ret
      exact ⟨v', rfl, by rw [← catTo_all tx l k (by have := HNL.out; omega)]; exact hwr⟩

/-- One flag. -/
theorem flag_one (g : Nat) (v : Value) (bs : List UInt8) (z : Bool) (w : World) (r : Nat) (hr : r = w.heap.size) (hw : Wr w g v bs) (hb : bs.length + 40 ≤ 140737488355328) :
    Calls Try.prog 39 #[.pointer (some ⟨g, 0, none⟩), .slice (some ⟨r, 0, none⟩) 1 1] (w.alloc (.cells #[.bool z] 4)) (NumDone g v (bs ++ fl z) w) := by
  subst hr
  have e0 : catAll fl [z] = fl z := by simp [catAll]
  refine (flag_any g v bs _ 1 1 [z] _ (hw.alloc _) (Rd.one w _ _ _ hw.notNew) (by omega) (by rw [e0]; simp [fl]; omega)).mono ?_
  rintro e w' ⟨v', rfl, h⟩
  refine ⟨v', rfl, ?_⟩
  rw [e0] at h
  exact Wrote.pre ((Keep.refl (Same g v) w).alloc _) h

/-- One text. -/
theorem text_one (g : Nat) (v : Value) (bs : List UInt8) (z : List UInt8) (w : World) (r : Nat) (hr : r = w.heap.size) (hw : Wr w g v bs) (hb : bs.length + z.length + 40 ≤ 140737488355328) :
    Calls Try.prog 36 #[.pointer (some ⟨g, 0, none⟩), .slice (some ⟨r, 0, none⟩) 1 1] (w.alloc (.cells #[S z] 9)) (NumDone g v (bs ++ tx z) w) := by
  subst hr
  have e0 : catAll tx [z] = tx z := by simp [catAll]
  have hl := vi_len_10 z.length (by omega)
  refine (text_any g v bs _ 1 1 [z] _ (hw.alloc _) (Rd.one w _ _ _ hw.notNew) (by omega) (by rw [e0, tx, List.length_append]; omega)).mono ?_
  rintro e w' ⟨v', rfl, h⟩
  refine ⟨v', rfl, ?_⟩
  rw [e0] at h
  exact Wrote.pre ((Keep.refl (Same g v) w).alloc _) h

end Go.Proofs.Ythehimjdjgmnjaa
