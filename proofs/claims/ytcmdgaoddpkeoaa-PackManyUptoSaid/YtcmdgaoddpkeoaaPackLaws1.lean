/- PackFlags, PackBelow, walked: each returns true for every input. -/
import Derived.Test.YtcmdgaoddpkeoaaLaw02Head
import Derived.Test.YtcmdgaoddpkeoaaWriter2
import Derived.Test.YtcmdgaoddpkeoaaReader2
import Derived.Test.YtcmdgaoddpkeoaaRound
namespace Go.Proofs.Ytcmdgaoddpkeoaa
open Go.RowKit

theorem pread_any (l : List UInt8) (w : World) : Calls Try.prog 17 #[S l] w fun e w' => e = .returned (.pointer (some ⟨w.heap.size, 0, none⟩)) ∧ w.alloc (.cells #[S l, .bool false] 58) = w' := by
  go_enter Try.func17, Try.ntmps17
  go_wp2
  go_ret
  exact ⟨rfl, rfl⟩

theorem conv_one (w : World) (r : Nat) (hr : r = w.heap.size) (b : UInt8) : (convert 25 9 (.slice (some ⟨r, 0, none⟩) 1 1)).run Try.prog (w.alloc (.cells #[B8 b] 5)) = .ok (S [b]) (w.alloc (.cells #[B8 b] 5)) := by
  subst hr
  refine run_convert_bytes_back _ _ _ 5 ⟨w.heap.size, 0, none⟩ 1 [b] Try.underlying25 Try.underlying5 Try.underlying9 fun j hj => ?_
  match j, hj with
  | 0, _ => simp [Addr.add]

set_option maxRecDepth 100000 in
set_option maxHeartbeats 1000000 in
theorem flags_main (A : Option Addr) (n c : Nat) (l : List Bool) (b : UInt8) (w : World) (hl : Rd w (fun _ => False) 1 A n (l.map Value.bool)) (hn : n ≤ 60) :
    Calls Try.prog 5 #[.slice A n c, B8 b] w (Gives w (.bool true)) := by
  have hd1 : decide (60 < (n : Int)) = false := by simp; omega
  have hnl : l.length = n := by have := hl.1; simpa using this
  have hcl : (catAll fl l).length = n := by rw [catAll_fl, hnl]
  have ha1 := hl.old
  have HC := hide hcl
  have HN := hide hnl
  clear hl hcl hnl
  go_enter Try.func5, Try.ntmps5
  go_wp2_with (go_at_call 10; refine (head_any _).mono ?_; rintro e w1 ⟨rfl, hb1⟩)
  have hs1 := hb1.size
  refine (flag_any w1.heap.size (.slice none 0 0) [] A n c l _ (wr_new w1) (((ha1.below hb1).alloc _).weak ?_) (by omega) (by rw [HC.out]; simp; omega)).mono ?_
  · rintro k _ (rfl | hk)
    · exact hs1
    · simp [Value.ownBlock] at hk
  rintro e w2 ⟨v2, rfl, h2⟩
  rw [List.nil_append] at h2
  go_wp2_with fail
  refine (string_any _ _ _ _ h2.1).mono ?_
  rintro e w3 ⟨rfl, rfl⟩
  have hbl2 : Below w.heap.size w w2 := (hb1.alloc hs1 _).trans (h2.below (B := w.heap.size) (by simp; omega) hs1 (by simp [Value.ownBlock]))
  obtain ⟨X, hX⟩ : ∃ X, X = catAll fl l := ⟨_, rfl⟩
  rw [← hX] at HC
  rw [← hX]
  have HX := hide hX
  clear hX h2
  have hXl : X.length ≤ n ∧ n ≤ X.length := by have := HC.out; omega
  obtain ⟨hX1, hX2⟩ := hXl
  have ht : ((X.length : Int) != (n : Int)) = false := by rw [HC.out]; simp
  have hcv := conv_one w2 w2.heap.size rfl b
  go_wp2_with fail
  refine (pread_any (X ++ [b]) _).mono ?_
  rintro e w4 ⟨rfl, rfl⟩
  have hrl := Rl.new (w2.alloc (.cells #[B8 b] 5)) (X ++ [b]) (by simp; omega)
  have hbl4 : Below w.heap.size w ((w2.alloc (.cells #[B8 b] 5)).alloc (.cells #[S (X ++ [b]), .bool false] 58)) :=
    (hbl2.alloc hbl2.size _).alloc (by have := hbl2.size; simp; omega) _
  have hgB : w.heap.size ≤ (w2.alloc (.cells #[B8 b] 5)).heap.size := by have := hbl2.size; simp; omega
  clear hcv
  generalize hgg : (w2.alloc (.cells #[B8 b] 5)).heap.size = g at *
  generalize (w2.alloc (.cells #[B8 b] 5)).alloc (.cells #[S (X ++ [b]), .bool false] 58) = w5 at *
  clear hgg
  have hrl5 : Rl w5 g (some (catAll fl l ++ [b])) := by rw [← HX.out]; exact hrl
  go_wp2_with fail
  go_loopw [35] (fun i wr => ∃ k : Nat, k ≤ n ∧ i = .int .i64 k ∧ Rl wr g (some (catAll fl (l.drop k) ++ [b])) ∧ Below w.heap.size w wr) (fun i _ => n - (intOf i).toNat)
  case atStart => exact ⟨0, Nat.zero_le _, rfl, hrl5, hbl4⟩
  case round =>
    obtain ⟨k, hk, rfl, hr, hb⟩ := hrel
    by_cases hlt : k < n
    · obtain ⟨x, o, u, rfl, hu, hc⟩ := (ha1.below hb).at_ k hlt
      have hlk : k < l.length := by have := HN.out; omega
      obtain rfl : Value.bool l[k] = u := by simpa [hlk] using hu
      have HD : Hid (catAll fl (l.drop k) ++ [b] = fl l[k] ++ (catAll fl (l.drop (k + 1)) ++ [b])) := by
        unfold Hid
        rw [List.drop_eq_getElem_cons hlk, catAll_cons, List.append_assoc]
      clear hu
      generalize l[k] = z at *
      rw [HD.out] at hr
      have hself : (z != z) = false := by simp
      go_wp2_with fail
      refine (rflag_any g _ wr hr).mono ?_
      rintro e w6 ⟨rfl, h6, hk6⟩
      rw [flagR_fl] at h6
      rw [flagR_fl]
      have hb6 : Below w.heap.size w w6 := hb.trans (hk6.below hb.size (fun k hk => by subst hk; exact hgB))
      clear hk6 hr hb
      go_wp2
      go_roundw
      case rel => exact ⟨k + 1, by omega, by go_num, h6, hb6⟩
      case measure => simp [intOf]; omega
    · have e : l.drop k = [] := List.drop_of_length_le (by have := HN.out; omega)
      rw [e] at hr
      have hc256 := b.toNat_lt
      go_wp2_with fail
      refine (rflag_any g _ wr hr).mono ?_
      rintro e w6 ⟨rfl, h6, hk6⟩
      have hb6 : Below w.heap.size w w6 := hb.trans (hk6.below hb.size (fun k hk => by subst hk; exact hgB))
      rw [show catAll fl [] ++ [b] = [b] from rfl, flagR_one] at h6
      rw [show catAll fl [] ++ [b] = [b] from rfl, flagR_one]
      by_cases h2 : b.toNat < 2
      · rw [if_pos h2] at h6
        rw [if_pos h2]
        have e2 : ((b.toNat : Int) == 1) = (b.toNat == 1) := by rw [Bool.eq_iff_iff]; simp; omega
        go_wp2_with fail
        refine (rok_any g _ w6 h6).mono ?_
        rintro e w7 ⟨rfl, rfl⟩
        go_wp2
        go_ret
        exact ⟨by simp, hb6⟩
      · rw [if_neg h2] at h6
        rw [if_neg h2]
        have e2 : ((b.toNat : Int) == 1) = false := by simp; omega
        have e3 : decide ((b.toNat : Int) < 2) = false := by simp; omega
        go_wp2_with fail
        refine (rok_any g _ w6 h6).mono ?_
        rintro e w7 ⟨rfl, rfl⟩
        go_wp2
        go_ret
        exact ⟨rfl, hb6⟩

theorem flags_any (A : Option Addr) (n c : Nat) (l : List Bool) (b : UInt8) (w : World) (hl : Rd w (fun _ => False) 1 A n (l.map Value.bool)) :
    Calls Try.prog 5 #[.slice A n c, B8 b] w (Gives w (.bool true)) := by
  by_cases h : n ≤ 60
  · exact flags_main A n c l b w hl h
  · have hd1 : decide (60 < (n : Int)) = true := by simp; omega
    clear hl
    go_enter Try.func5, Try.ntmps5
    go_wp2_with (go_at_call 10; refine (head_any _).mono ?_; rintro e w1 ⟨rfl, hb1⟩)
    go_ret
    exact ⟨rfl, hb1⟩

set_option maxRecDepth 100000 in
theorem below_any (z : Int) (w : World) (h1 : -9223372036854775808 ≤ z) (h2 : z ≤ 9223372036854775807) : Calls Try.prog 6 #[.int .i64 z] w (Gives w (.bool true)) := by
  go_enter Try.func6, Try.ntmps6
  go_wp2_with (go_at_call 10; refine (head_any _).mono ?_; rintro e w1 ⟨rfl, hb1⟩)
  have hs1 := hb1.size
  have hW2 := wr_new (w1.alloc (.cells #[.slice none 0 0] 27))
  rw [World.size_alloc] at hW2
  refine (num_one w1.heap.size (.slice none 0 0) [] z _ (w1.heap.size + 1 + 1) (by simp) ((wr_new w1).alloc _) h2 (by simp)).mono ?_
  rintro e w2 ⟨v2, rfl, k2⟩
  rw [List.nil_append] at k2
  go_wp2_with fail
  refine (string_any _ _ _ _ k2.1).mono ?_
  rintro e w3 ⟨rfl, rfl⟩
  go_wp2_with fail
  refine (pread_any _ _).mono ?_
  rintro e w4 ⟨rfl, rfl⟩
  have hne : ¬ Same w1.heap.size (.slice none 0 0) (w1.heap.size + 1) := by
    rintro (hk | hk)
    · omega
    · simp [Value.ownBlock] at hk
  have hW3 := (hW2.keep k2.2.1 hne (by simp [Value.ownBlock])).alloc (.cells #[S (vi z.toNat), .bool false] 58)
  have hR3 := Rl.new w2 (vi z.toNat) (by have := vi_len_9 z.toNat (by omega); omega)
  have hb2 : Below w.heap.size w w2 := ((hb1.alloc hs1 _).alloc (by simp; omega) _).trans (k2.below (B := w.heap.size) (by simp; omega) hs1 (by simp [Value.ownBlock]))
  have hg2 : w1.heap.size + 2 ≤ w2.heap.size := by have := k2.2.1.size; simpa using this
  have hb3 := hb2.alloc hb2.size (.cells #[S (vi z.toNat), .bool false] 58)
  clear k2 hW2 hb2
  go_wp2_with fail
  refine (int_one (w1.heap.size + 1) (.slice none 0 0) [] z _ (w2.heap.size + 1) (by simp) hW3 h1 h2 (by simp)).mono ?_
  rintro e w5 ⟨v5, rfl, k5⟩
  rw [List.nil_append] at k5
  have hR5 := hR3.keep k5.2.1 (by rintro (hk | hk); · omega
                                  · simp [Value.ownBlock] at hk)
  have hb5 := hb3.trans (k5.below (B := w.heap.size) hb3.size (by omega) (by simp [Value.ownBlock]))
  have hg5 : w2.heap.size + 1 ≤ w5.heap.size := by have := k5.2.1.size; simpa using this
  go_wp2_with fail
  refine (string_any _ _ _ _ k5.1).mono ?_
  rintro e w6 ⟨rfl, rfl⟩
  go_wp2_with fail
  refine (pread_any _ _).mono ?_
  rintro e w7 ⟨rfl, rfl⟩
  have hlz : (zi z).length ≤ 9223372036854775807 := by
    have hzl := zz_le z h1 h2
    unfold zi
    rw [List.length_append]
    have e1 := vi_len_10 (zz z / 4294967296) (by omega)
    have e2 := vi_len_10 (zz z % 4294967296) (by omega)
    omega
  have hR7 := Rl.new w5 (zi z) hlz
  have hR6 := hR5.alloc (.cells #[S (zi z), .bool false] 58)
  have hb7 := hb5.alloc hb5.size (.cells #[S (zi z), .bool false] 58)
  have hB : w.heap.size ≤ w2.heap.size := by omega
  clear k5 hR5 hR3 hW3 hb3 hb5
  have e1 : numR 9223372036854775807 (some (vi z.toNat)) = (z.toNat, some []) := by
    have := numR_vi (m := 9223372036854775807) (n := z.toNat) [] (by omega) (by omega)
    simpa using this
  have e2 : intR (some (zi z)) = (z, some []) := by
    have := intR_zi z [] h1 h2
    simpa using this
  have E1 := hide e1
  have E2 := hide e2
  clear e1 e2
  go_wp2_with fail
  refine (rnum_any w2.heap.size 9223372036854775807 _ _ hR6 (by omega)).mono ?_
  rintro e w8 ⟨rfl, h8, k8⟩
  rw [show (9223372036854775807 : Int).toNat = 9223372036854775807 from rfl, E1.out] at h8
  rw [show (9223372036854775807 : Int).toNat = 9223372036854775807 from rfl, E1.out]
  have hR8 := hR7.keep k8 (by omega)
  have hb8 := hb7.trans (k8.below (B := w.heap.size) hb7.size (fun k hk => by omega))
  clear k8 hR7 hR6 hb7
  rcases Int.lt_or_le z 0 with hz | hz
  all_goals
    first
      | have ht : ((z.toNat : Int) == 0) = true := by simp; omega
      | have ht : ((z.toNat : Int) == z) = true := by simp; omega
    go_wp2_with fail
    refine (rdone_any w2.heap.size _ _ h8).mono ?_
    rintro e w9 ⟨rfl, rfl⟩
    go_wp2_with fail
    refine (rint_any w5.heap.size _ _ hR8).mono ?_
    rintro e w10 ⟨rfl, h10, k10⟩
    rw [E2.out] at h10
    rw [E2.out]
    have hb10 := hb8.trans (k10.below (B := w.heap.size) hb8.size (fun k hk => by omega))
    go_wp2_with fail
    refine (rdone_any w5.heap.size _ _ h10).mono ?_
    rintro e w11 ⟨rfl, rfl⟩
    rw [doneR_nil]
    go_wp2
    go_ret
    exact ⟨rfl, hb10⟩

end Go.Proofs.Ytcmdgaoddpkeoaa
