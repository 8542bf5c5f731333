/- DiskFalls, walked: it returns true for every input. -/
import Derived.Test.YtkgljicibjlabaaDiskFall
namespace Go.Proofs.Ytkgljicibjlabaa
open Go.RowKit Go.Maps

set_option maxRecDepth 100000 in
set_option maxHeartbeats 8000000 in
theorem falls_law (x y : Int) (w : World) : Calls Try.prog 6 #[.int .i64 x, .int .i64 y] w (Gives w (.bool true)) := by
  have hp := i64_and_low' 5 31 (by decide) (by decide) x
  obtain ⟨p, hp2⟩ : ∃ p : Nat, x % ((2 ^ 5 : Nat) : Int) = p := ⟨(x % 32).toNat, by omega⟩
  rw [hp2] at hp
  have hp4 : p < 32 := by omega
  have hp : bits .and .i64 x 31 = (p : Int) := hp
  have hm := i64_and_low' 5 31 (by decide) (by decide) y
  obtain ⟨m, hm2⟩ : ∃ m : Nat, y % ((2 ^ 5 : Nat) : Int) = m := ⟨(y % 32).toNat, by omega⟩
  rw [hm2] at hm
  have hm4 : m < 32 := by omega
  have hm : bits .and .i64 y 31 = (m : Int) := hm
  clear hp2 hm2
  go_enter Try.func6, Try.ntmps6
  go_wp2_with fail
  refine (head_any w).mono ?_
  rintro e w1 ⟨rfl, hb1⟩
  go_wp2_with fail
  refine (new_dk 1000 (by omega) w1).mono ?_
  rintro e w2 ⟨g, b, rfl, h2, hb2⟩
  have HB2 := hide (hb1.trans (hb2.mono hb1.size))
  have H2 : Hid (Dk w2 w.heap.size g b 0 0 0 none [] 1000 (-1) false F0) := hide ⟨h2.blk, h2.txt, by simpa using World.ownsRow_nil w2 w.heap.size 71 3, h2.ok, Nat.le_trans hb1.size h2.bB, Nat.le_trans hb1.size h2.gB⟩
  clear h2 hb2 hb1
  go_wp2_with fail
  refine (fall_dk w.heap.size g b 0 0 0 none [] 1000 (-1) false F0 (p : Int) w2 H2.out).mono ?_
  rintro e w3 ⟨rfl, h3, hk3⟩
  rw [show max (p : Int) 0 = p by omega] at h3
  have HB3 := hide (H2.out.frame1 HB2.out hk3)
  have H3 := hide h3
  clear h3 hk3 H2 HB2 hp hm
  go_wp2_with fail
  go_loopw [6] (fun i wr => ∃ (k q : Nat) (A' : Option Addr), k ≤ m ∧ i = .int .i64 k ∧ Dk wr w.heap.size g b 0 (min k p) q A' (ws (min k p)) 1000 ((p : Int) - (min k p : Nat)) (decide (p < k)) F0 ∧ Below w.heap.size w wr) (fun i _ => m - (intOf i).toNat)
  case atStart => exact ⟨0, 0, none, Nat.zero_le _, rfl, by simpa [ws] using H3.out, HB3.out⟩
  case round =>
    obtain ⟨k, q, A', hkm, rfl, hd, hBr⟩ := hrel
    clear H3 HB3
    have HD := hide hd
    have HB := hide hBr
    clear hd hBr
    by_cases hlt : k < m
    · have hcv := conv_one' wr (97 + k) (by omega)
      rw [show (((97 + k : Nat)) : Int) = 97 + (k : Int) by omega] at hcv
      replace hcv : (convert 34 9 (.slice (some ⟨wr.heap.size, 0, none⟩) 1 1)).run Try.prog (wr.alloc (.cells #[.int .u8 (97 + (k : Int))] 5)) = .ok (S (nmK k)) (wr.alloc (.cells #[.int .u8 (97 + (k : Int))] 5)) := hcv
      have hb4 := (Below.refl wr.heap.size wr).alloc (Nat.le_refl _) (.cells #[.int .u8 (97 + (k : Int))] 5)
      have H4 := hide (HD.out.below hb4)
      have HB4 := hide (HB.out.trans (hb4.mono HB.out.size))
      have HN0 : Hid (nmK k ≠ [] ∧ (nmK k).length = 1) := hide (by simp [nmK])
      clear hb4 HD HB
      by_cases hkp : k < p
      · have e1 : min k p = k := by omega
        have e2 : decide (p < k) = false := by simp; omega
        have d0 : decide ((p : Int) ≤ (k : Int)) = false := by simp; omega
        rw [e1, e2] at H4
        go_wp2_with fail
        refine (write_ok w.heap.size g b 0 k q A' (ws k) 1000 ((p : Int) - k) F0 _ k (nmK k) [120] _ H4.out (by omega) (by omega) (by omega) (by omega) rfl (ws_tot k (by omega)) (by omega) (by omega) HN0.out.1 (by rw [HN0.out.2]; omega) (by simp) (by rw [ws_none k (by omega)]; simp; omega)).mono ?_
        rintro e w5 ⟨rfl, ⟨q5, c5, h5⟩, hk5⟩
        have HB5 := hide (H4.out.frame HB4.out hk5)
        rw [if_pos (by omega), ← ws_succ, show (p : Int) - k - 1 = (p : Int) - ((k + 1 : Nat) : Int) by omega] at h5
        have H5 := hide h5
        clear h5 hk5 hcv H4 HB4
        have HDN := hide (down_no g b (k + 1) c5 (some ⟨q5, 0, none⟩) 1000 _ w5 H5.out.blk)
        go_wp2_with fail
        refine HDN.out.mono ?_
        rintro e w6 ⟨rfl, rfl⟩
        clear HDN
        go_wp2_with fail
        go_roundw
        case rel => exact ⟨k + 1, c5, _, by omega, by go_num, by rw [show min (k + 1) p = k + 1 by omega, show decide (p < k + 1) = false by simp; omega]; exact H5.out, HB5.out⟩
        case measure => simp [intOf]; omega
      · have e1 : min k p = p := by omega
        have d0 : decide ((p : Int) ≤ (k : Int)) = true := by simp; omega
        rw [e1] at H4
        have hst : decide (p < k) = true ∨ (p : Int) - (p : Nat) = 0 := by
          rcases Nat.lt_or_ge p k with h | h
          · exact .inl (by simpa using h)
          · exact .inr (by omega)
        go_wp2_with fail
        refine (write_stop w.heap.size g b 0 p q A' (ws p) 1000 _ _ F0 (nmK k) [120] _ H4.out hst).mono ?_
        rintro e w5 ⟨rfl, h5, hk5⟩
        have HB5 := hide (H4.out.frame1 HB4.out hk5)
        have H5 := hide h5
        clear h5 hk5 hcv H4 HB4
        have HDN := hide (down_yes g b p q A' 1000 _ w5 H5.out.blk)
        go_wp2_with fail
        refine HDN.out.mono ?_
        rintro e w6 ⟨rfl, rfl⟩
        clear HDN
        go_wp2_with fail
        go_roundw
        case rel => exact ⟨k + 1, q, A', by omega, by go_num, by rw [show min (k + 1) p = p by omega, show decide (p < k + 1) = true by simp; omega]; exact H5.out, HB5.out⟩
        case measure => simp [intOf]; omega
    · obtain rfl : k = m := by omega
      have hown : (wr.alloc (.cells #[] 4)).ownsRow wr.heap.size 4 1 (.slice (some ⟨wr.heap.size, 0, none⟩) 0 0) 0 [] := World.ownsRow_made (base := wr.heap.size) (e := 4) (size := 1) wr #[] 0 (Nat.le_refl _) (by unfold maxLen; omega) rfl
      have HOW := hide hown
      clear hown
      have hb0 := (Below.refl wr.heap.size wr).alloc (Nat.le_refl _) (.cells #[] 4)
      have HB0 := hide hb0
      clear hb0
      obtain ⟨qq, hqq⟩ : ∃ qq, qq = min k p := ⟨_, rfl⟩
      rw [← hqq] at HD
      have HQ := hide hqq
      have hq32 : qq < 32 := by omega
      clear hqq
      go_wp2_with fail
      obtain ⟨wo, rfl⟩ : ∃ wo : World, wo = wr := ⟨_, rfl⟩
      go_loopw [8, 9] (fun v i wq => ∃ (t : Nat) (A2 : Option Addr) (c2 : Nat), t ≤ k ∧ i = .int .i64 t ∧ v = .slice A2 t c2 ∧ wq.ownsRow wo.heap.size 4 1 (.slice A2 t c2) t (List.replicate t (.bool true)) ∧ Below wo.heap.size wo wq) (fun _ i _ => k - (intOf i).toNat)
      case atStart => exact ⟨0, _, 0, Nat.zero_le _, rfl, rfl, HOW.out, HB0.out⟩
      case round =>
        obtain ⟨t, A2, c2, htk, rfl, rfl, hown, hbq⟩ := hrel
        by_cases hlt2 : t < k
        · have hqs := hbq.size
          go_wp2_with (at_builtin; refine app1 rfl (.tmp 51) (.tmp 52) 23 rfl wo.heap.size 4 (.bool false) 1 Try.underlying23 bool_info rfl (.slice A2 t c2) t (List.replicate t (.bool true)) rfl hown (.bool true) rfl rfl (by omega) (by omega) hqs ?_)
          intro a3 c3 w4 hown4 hg4 _
          have hb4 := below_grown hbq hqs hg4 (fun j hj => (own_base' hown hj).1)
          rw [← List.replicate_succ'] at hown4
          clear hg4 hown
          go_wp2_with fail
          go_roundw
          case rel => exact ⟨t + 1, a3, c3, by omega, by go_num, rfl, hown4, hb4⟩
          case measure => simp [intOf]; omega
        · obtain rfl : t = k := by omega
          have HDQ := hide (HD.out.below hbq)
          have HBQ := hide (HB.out.trans (hbq.mono HB.out.size))
          have HRD : Hid (Rd wr (fun j => wr.heap.size ≤ j) 1 A2 t ((List.replicate t true).map .bool)) := hide (by rw [List.map_replicate]; exact (Rd.of_own2 hown).old)
          clear hown hbq HD HB HOW HB0
          go_wp2_with fail
          have hka : (kept (List.replicate t true) (ws qq)).foldl chDo F0 = (ws qq).foldl chDo F0 := by rw [kept_all t (ws qq) (by have := HQ.out; simp [ws]; omega)]
          refine (crash_dk w.heap.size g b 0 qq q t c2 A' A2 (ws qq) (List.replicate t true) 1000 ((p : Int) - qq) (decide (p < t)) F0 ((ws qq).foldl chDo F0) wr HDQ.out (by omega) (by omega) (by omega) hka HRD.out List.length_replicate).mono ?_
          rintro e w5 ⟨g5, b5, rfl, h5, hb5⟩
          have HD5 := hide (HDQ.out.below hb5)
          have HB5 := hide (HBQ.out.trans (hb5.mono HBQ.out.size))
          have H5 := hide h5
          clear h5 hb5 HRD HDQ HBQ
          go_wp2_with fail
          refine (names_dk wr.heap.size g5 b5 (0 + qq) 0 0 none [] 1000 (-1) _ _ w5 H5.out (by omega) (by omega) rfl).mono ?_
          rintro e w6 ⟨A6, c6, l6, rfl, hl6, _, hb6⟩
          have hl6 : IsNames ((ws qq).foldl chDo F0) l6 := hl6
          have hlen := ws_names qq (by omega) hl6
          have d6 : ((l6.length : Int) == min (p : Int) (t : Int)) = true := by rw [hlen, HQ.out]; simp; omega
          have HD6 := hide (HD5.out.below hb6)
          have HB6 := hide (HB5.out.trans (hb6.mono HB5.out.size))
          clear hb6 HD5 HB5 H5 hl6 hlen
          go_wp2_with fail
          refine (crash_dk w.heap.size g b 0 qq q 0 0 A' none (ws qq) [] 1000 ((p : Int) - qq) (decide (p < t)) F0 F0 w6 HD6.out (by omega) (by omega) (by omega) (by rw [kept_nil]; rfl) (Rd.nil _ _ _ _) rfl).mono ?_
          rintro e w7 ⟨g7, b7, rfl, h7, hb7⟩
          have HB7 := hide (HB6.out.trans (hb7.mono HB6.out.size))
          have H7 := hide h7
          clear h7 hb7 HD6 HB6
          go_wp2_with fail
          refine (names_dk w6.heap.size g7 b7 (0 + qq) 0 0 none [] 1000 (-1) _ F0 w7 H7.out (by omega) (by omega) rfl).mono ?_
          rintro e w8 ⟨A8, c8, l8, rfl, hl8, _, hb8⟩
          have hlen := no_names hl8
          have d8 : ((l8.length : Int) == 0) = true := by rw [hlen]; rfl
          have HB8 := hide (HB7.out.trans (hb8.mono HB7.out.size))
          clear hb8 hl8 hlen H7 HB7
          go_wp2_with fail
          go_ret
          exact ⟨rfl, HB8.out⟩
end Go.Proofs.Ytkgljicibjlabaa
