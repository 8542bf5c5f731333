/- PackMany, walked: it returns true for every input whose texts are not too long together. -/
import Derived.Test.YtcmdgaoddpkeoaaPackMosts
namespace Go.Proofs.Ytcmdgaoddpkeoaa
open Go.RowKit

def nvi (z : Int) : List UInt8 := vi z.toNat
theorem visAll_cat (l : List Int) : visAll l = catAll nvi l := by
  unfold visAll vis catAll
  rw [List.flatMap_map]
  rfl

set_option maxRecDepth 100000 in
set_option maxHeartbeats 4000000 in
theorem many_main (A0 : Option Addr) (n0 c0 : Nat) (l0 : List Int) (A1 : Option Addr) (n1 c1 : Nat) (l1 : List (List UInt8)) (A2 : Option Addr) (n2 c2 : Nat) (l2 : List Bool) (A3 : Option Addr) (n3 c3 : Nat) (l3 : List Int) (w : World)
    (r0 : Rd w (fun _ => False) 1 A0 n0 (l0.map (Value.int .i64))) (r1 : Rd w (fun _ => False) 1 A1 n1 (l1.map S)) (r2 : Rd w (fun _ => False) 1 A2 n2 (l2.map Value.bool)) (r3 : Rd w (fun _ => False) 1 A3 n3 (l3.map (Value.int .i64)))
    (h0 : n0 ≤ 20) (h1 : n1 ≤ 20) (h2 : n2 ≤ 20) (h3 : n3 ≤ 20) (w0 : ∀ x ∈ l0, x ≤ 9223372036854775807) (w3 : ∀ x ∈ l3, -9223372036854775808 ≤ x ∧ x ≤ 9223372036854775807)
    (hb : (catAll tx l1).length ≤ 2000000) :
    Calls Try.prog 4 #[.slice A0 n0 c0, .slice A1 n1 c1, .slice A2 n2 c2, .slice A3 n3 c3] w (Gives w (.bool true)) := by
  have t0 : decide (20 < (n0 : Int)) = false := by simp; omega
  have t1 : decide (20 < (n1 : Int)) = false := by simp; omega
  have t2 : decide (20 < (n2 : Int)) = false := by simp; omega
  have t3 : decide (20 < (n3 : Int)) = false := by simp; omega
  have HN0 : Hid (l0.length = n0) := hide (by have := r0.1; simpa using this)
  have HN1 : Hid (l1.length = n1) := hide (by have := r1.1; simpa using this)
  have HN2 : Hid (l2.length = n2) := hide (by have := r2.1; simpa using this)
  have HN3 : Hid (l3.length = n3) := hide (by have := r3.1; simpa using this)
  have b0 : (catAll nvi l0).length ≤ 200 := by
    have := catAll_len nvi l0 10 (fun x hx => vi_len_10 _ (by have := w0 x hx; omega))
    rw [HN0.out] at this
    omega
  have b2 : (catAll fl l2).length ≤ 20 := by rw [catAll_fl, HN2.out]; omega
  have b3 : (catAll zi l3).length ≤ 400 := by
    have := catAll_len zi l3 20 (fun x hx => by
      have := zz_le x (w3 x hx).1 (w3 x hx).2
      unfold zi
      have e1 := vi_len_10 (zz x / 4294967296) (by omega)
      have e2 := vi_len_10 (zz x % 4294967296) (by omega)
      rw [List.length_append]; omega)
    rw [HN3.out] at this
    omega
  have q0 := r0.old
  have q1 := r1.old
  have q2 := r2.old
  have q3 := r3.old
  clear r0 r1 r2 r3
  go_enter Try.func4, Try.ntmps4
  go_wp2_with (go_at_call 10; refine (head_any _).mono ?_; rintro e w1 ⟨rfl, hb1⟩)
  have hs1 := hb1.size
  have hWa := (wr_new w1).alloc (.cells #[.slice none 0 0] 27)
  have hWb := wr_new (w1.alloc (.cells #[.slice none 0 0] 27))
  rw [World.size_alloc] at hWb
  have hB1 : Below w.heap.size w ((w1.alloc (.cells #[.slice none 0 0] 27)).alloc (.cells #[.slice none 0 0] 27)) := (hb1.alloc hs1 _).alloc (by simp; omega) _
  have hgn := hWb.gt
  clear hb1
  generalize (w1.alloc (.cells #[.slice none 0 0] 27)).alloc (.cells #[.slice none 0 0] 27) = wA at *
  generalize w1.heap.size = ga at *
  have hnS : ∀ k, Same ga (.slice none 0 0) k → w.heap.size ≤ k := by
    rintro k (rfl | hk)
    · exact hs1
    · simp [Value.ownBlock] at hk
  refine (num_any ga (.slice none 0 0) [] A0 n0 c0 l0 _ hWa ((q0.below hB1).weak (fun k _ h => hnS k h)) w0 (by simp; omega)).mono ?_
  rintro e wa1 ⟨v1, rfl, k1⟩
  rw [List.nil_append, visAll_cat] at k1
  have hS1 : ∀ k, Same ga v1 k → w.heap.size ≤ k := by
    rintro k (rfl | hk)
    · exact hs1
    · rcases k1.2.2 with h | ⟨r, h, hr⟩
      · rw [h] at hk; simp [Value.ownBlock] at hk
      · rw [h] at hk; injection hk with hk; have := hB1.size; omega
  have hB2 := hB1.trans (k1.below (B := w.heap.size) hB1.size hs1 (by simp [Value.ownBlock]))
  go_wp2_with fail
  refine (text_any ga v1 _ A1 n1 c1 l1 _ k1.1 ((q1.below hB2).weak (fun k _ h => hS1 k h)) (by omega) (by omega)).mono ?_
  rintro e wa2 ⟨v2, rfl, k2'⟩
  have k2 := k1.trans k2'
  clear k1 k2' hB2 hS1
  have hS2 : ∀ k, Same ga v2 k → w.heap.size ≤ k := by
    rintro k (rfl | hk)
    · exact hs1
    · rcases k2.2.2 with h | ⟨r, h, hr⟩
      · rw [h] at hk; simp [Value.ownBlock] at hk
      · rw [h] at hk; injection hk with hk; have := hB1.size; omega
  have hB3 := hB1.trans (k2.below (B := w.heap.size) hB1.size hs1 (by simp [Value.ownBlock]))
  go_wp2_with fail
  refine (flag_any ga v2 _ A2 n2 c2 l2 _ k2.1 ((q2.below hB3).weak (fun k _ h => hS2 k h)) (by omega) (by rw [List.length_append]; omega)).mono ?_
  rintro e wa3 ⟨v3, rfl, k3'⟩
  have k3 := k2.trans k3'
  clear k2 k3' hB3 hS2
  have hS3 : ∀ k, Same ga v3 k → w.heap.size ≤ k := by
    rintro k (rfl | hk)
    · exact hs1
    · rcases k3.2.2 with h | ⟨r, h, hr⟩
      · rw [h] at hk; simp [Value.ownBlock] at hk
      · rw [h] at hk; injection hk with hk; have := hB1.size; omega
  have hB4 := hB1.trans (k3.below (B := w.heap.size) hB1.size hs1 (by simp [Value.ownBlock]))
  go_wp2_with fail
  refine (int_any ga v3 _ A3 n3 c3 l3 _ k3.1 ((q3.below hB4).weak (fun k _ h => hS3 k h)) w3 (by omega) (by rw [List.length_append, List.length_append]; omega)).mono ?_
  rintro e wB ⟨va, rfl, k4'⟩
  have k4 := k3.trans k4'
  have hBB := hB1.trans (k4.below (B := w.heap.size) hB1.size hs1 (by simp [Value.ownBlock]))
  have hWB := hWb.keep k4.2.1 (by rintro (hk | hk); · omega
                                  · simp [Value.ownBlock] at hk) (by simp [Value.ownBlock])
  have hA := k4.1
  have hvaB : va.ownBlock ≠ some (ga + 1) := by
    intro h
    rcases k4.2.2 with h' | ⟨r, h', hr⟩
    · rw [h'] at h; simp [Value.ownBlock] at h
    · rw [h'] at h; injection h with h; omega
  clear k3 k4' hB4 hS3 k4 hWb hWa hB1 hnS
  obtain ⟨X, hX⟩ : ∃ X, X = catAll nvi l0 ++ catAll tx l1 ++ catAll fl l2 ++ catAll zi l3 := ⟨_, rfl⟩
  rw [← hX] at hA
  have HX := hide hX
  clear hX
  obtain ⟨gb, hgb⟩ : ∃ gb, gb = ga + 1 := ⟨_, rfl⟩
  rw [← hgb] at hvaB hWB hgn
  rw [← hgb]
  have hgab : ga < gb ∧ w.heap.size ≤ gb := by omega
  clear hgb
  obtain ⟨D0, hD0⟩ : ∃ D0 : List UInt8, D0 = [] := ⟨_, rfl⟩
  have HD0 := hide hD0
  have K0 : Wrote gb (.slice none 0 0) wB D0 (.slice none 0 0) wB := by rw [hD0]; exact Wrote.refl hWB
  have hD0l : D0.length ≤ 0 := by rw [hD0]; simp
  clear hD0
  go_wp2_with fail
  go_loopw [55] (fun i wr => ∃ (k : Nat) (v' : Value), k ≤ n0 ∧ i = .int .i64 k ∧ Wrote gb (.slice none 0 0) wB (D0 ++ catTo nvi l0 k) v' wr) (fun i _ => n0 - (intOf i).toNat)
  case atStart => exact ⟨0, _, Nat.zero_le _, rfl, by rw [catTo_zero, List.append_nil]; exact K0⟩
  case round =>
    obtain ⟨k, v', hk, rfl, hwr⟩ := hrel
    have hB := hBB.trans (hwr.below (B := w.heap.size) hBB.size hgab.2 (by simp [Value.ownBlock]))
    by_cases hlt : k < n0
    · obtain ⟨x, o, u, rfl, hu, hc⟩ := (q0.below hB).at_ k hlt
      have hlk : k < l0.length := by have := HN0.out; omega
      obtain rfl : Value.int .i64 l0[k] = u := by simpa [hlk] using hu
      clear hu
      have HT : Hid (catTo nvi l0 (k + 1) = catTo nvi l0 k ++ nvi l0[k]) := catTo_succ nvi l0 k hlk
      have hdl := catTo_le nvi l0 k hlk
      have hwz := w0 l0[k] (List.getElem_mem hlk)
      generalize l0[k] = z at *
      obtain ⟨D, hD⟩ : ∃ D, D = D0 ++ catTo nvi l0 k := ⟨_, rfl⟩
      have hDl : D.length ≤ 10000000 := by rw [hD, List.length_append]; omega
      rw [← hD] at hwr
      have HD := hide hD
      clear hD hdl
      go_wp2_with fail
      refine (num_one gb v' D z _ wr.heap.size rfl hwr.1 hwz (by omega)).mono ?_
      rintro e w9 ⟨v9, rfl, k9⟩
      have k10 := hwr.trans k9
      clear k9 hwr hB
      go_wp2
      go_roundw
      case rel => exact ⟨k + 1, v9, by omega, by go_num, by rw [HT.out, ← List.append_assoc, ← HD.out]; exact k10⟩
      case measure => simp [intOf]; omega
    · have hall : catTo nvi l0 k = catAll nvi l0 := catTo_all nvi l0 k (by have := HN0.out; omega)
      rw [hall] at hwr
      clear hall
      obtain ⟨D1, hD1⟩ : ∃ D, D = D0 ++ catAll nvi l0 := ⟨_, rfl⟩
      have hD1l : D1.length ≤ D0.length + (catAll nvi l0).length := by rw [hD1, List.length_append]; omega
      rw [← hD1] at hwr
      have HD1 := hide hD1
      have K1 := hwr
      clear hD1 hwr hB
      go_wp2_with fail
      clear hlt
      obtain ⟨wr1, rfl⟩ : ∃ wo : World, wo = wr := ⟨_, rfl⟩
      go_loopw [66] (fun i wr => ∃ (k : Nat) (v' : Value), k ≤ n1 ∧ i = .int .i64 k ∧ Wrote gb (.slice none 0 0) wB (D1 ++ catTo tx l1 k) v' wr) (fun i _ => n1 - (intOf i).toNat)
      case atStart => exact ⟨0, _, Nat.zero_le _, rfl, by rw [catTo_zero, List.append_nil]; exact K1⟩
      case round =>
        obtain ⟨k, v', hk, rfl, hwr⟩ := hrel
        have hB := hBB.trans (hwr.below (B := w.heap.size) hBB.size hgab.2 (by simp [Value.ownBlock]))
        by_cases hlt : k < n1
        · obtain ⟨x, o, u, rfl, hu, hc⟩ := (q1.below hB).at_ k hlt
          have hlk : k < l1.length := by have := HN1.out; omega
          obtain rfl : S l1[k] = u := by simpa [hlk] using hu
          clear hu
          have HT : Hid (catTo tx l1 (k + 1) = catTo tx l1 k ++ tx l1[k]) := catTo_succ tx l1 k hlk
          have hdl := catTo_le tx l1 k hlk
          have hzl : l1[k].length ≤ (tx l1[k]).length := by simp [tx]
          generalize l1[k] = z at *
          obtain ⟨D, hD⟩ : ∃ D, D = D1 ++ catTo tx l1 k := ⟨_, rfl⟩
          have hDl : D.length ≤ 10000000 := by rw [hD, List.length_append]; omega
          rw [← hD] at hwr
          have HD := hide hD
          clear hD hdl
          by_cases h200 : 200 < z.length
          · go_wp2
            go_ret
            exact ⟨rfl, hB⟩
          · go_wp2_with fail
            refine (text_one gb v' D z _ wr.heap.size rfl hwr.1 (by omega)).mono ?_
            rintro e w9 ⟨v9, rfl, k9⟩
            have k10 := hwr.trans k9
            clear k9 hwr hB
            go_wp2
            go_roundw
            case rel => exact ⟨k + 1, v9, by omega, by go_num, by rw [HT.out, ← List.append_assoc, ← HD.out]; exact k10⟩
            case measure => simp [intOf]; omega
        · have hall : catTo tx l1 k = catAll tx l1 := catTo_all tx l1 k (by have := HN1.out; omega)
          rw [hall] at hwr
          clear hall
          obtain ⟨D2, hD2⟩ : ∃ D, D = D1 ++ catAll tx l1 := ⟨_, rfl⟩
          have hD2l : D2.length ≤ D1.length + (catAll tx l1).length := by rw [hD2, List.length_append]; omega
          rw [← hD2] at hwr
          have HD2 := hide hD2
          have K2 := hwr
          clear hD2 hwr hB
          go_wp2_with fail
          clear hlt
          obtain ⟨wr2, rfl⟩ : ∃ wo : World, wo = wr := ⟨_, rfl⟩
          go_loopw [80] (fun i wr => ∃ (k : Nat) (v' : Value), k ≤ n2 ∧ i = .int .i64 k ∧ Wrote gb (.slice none 0 0) wB (D2 ++ catTo fl l2 k) v' wr) (fun i _ => n2 - (intOf i).toNat)
          case atStart => exact ⟨0, _, Nat.zero_le _, rfl, by rw [catTo_zero, List.append_nil]; exact K2⟩
          case round =>
            obtain ⟨k, v', hk, rfl, hwr⟩ := hrel
            have hB := hBB.trans (hwr.below (B := w.heap.size) hBB.size hgab.2 (by simp [Value.ownBlock]))
            by_cases hlt : k < n2
            · obtain ⟨x, o, u, rfl, hu, hc⟩ := (q2.below hB).at_ k hlt
              have hlk : k < l2.length := by have := HN2.out; omega
              obtain rfl : Value.bool l2[k] = u := by simpa [hlk] using hu
              clear hu
              have HT : Hid (catTo fl l2 (k + 1) = catTo fl l2 k ++ fl l2[k]) := catTo_succ fl l2 k hlk
              have hdl := catTo_le fl l2 k hlk
              generalize l2[k] = z at *
              obtain ⟨D, hD⟩ : ∃ D, D = D2 ++ catTo fl l2 k := ⟨_, rfl⟩
              have hDl : D.length ≤ 10000000 := by rw [hD, List.length_append]; omega
              rw [← hD] at hwr
              have HD := hide hD
              clear hD hdl
              go_wp2_with fail
              refine (flag_one gb v' D z _ wr.heap.size rfl hwr.1 (by omega)).mono ?_
              rintro e w9 ⟨v9, rfl, k9⟩
              have k10 := hwr.trans k9
              clear k9 hwr hB
              go_wp2
              go_roundw
              case rel => exact ⟨k + 1, v9, by omega, by go_num, by rw [HT.out, ← List.append_assoc, ← HD.out]; exact k10⟩
              case measure => simp [intOf]; omega
            · have hall : catTo fl l2 k = catAll fl l2 := catTo_all fl l2 k (by have := HN2.out; omega)
              rw [hall] at hwr
              clear hall
              obtain ⟨D3, hD3⟩ : ∃ D, D = D2 ++ catAll fl l2 := ⟨_, rfl⟩
              have hD3l : D3.length ≤ D2.length + (catAll fl l2).length := by rw [hD3, List.length_append]; omega
              rw [← hD3] at hwr
              have HD3 := hide hD3
              have K3 := hwr
              clear hD3 hwr hB
              go_wp2_with fail
              clear hlt
              obtain ⟨wr3, rfl⟩ : ∃ wo : World, wo = wr := ⟨_, rfl⟩
              go_loopw [91] (fun i wr => ∃ (k : Nat) (v' : Value), k ≤ n3 ∧ i = .int .i64 k ∧ Wrote gb (.slice none 0 0) wB (D3 ++ catTo zi l3 k) v' wr) (fun i _ => n3 - (intOf i).toNat)
              case atStart => exact ⟨0, _, Nat.zero_le _, rfl, by rw [catTo_zero, List.append_nil]; exact K3⟩
              case round =>
                obtain ⟨k, v', hk, rfl, hwr⟩ := hrel
                have hB := hBB.trans (hwr.below (B := w.heap.size) hBB.size hgab.2 (by simp [Value.ownBlock]))
                by_cases hlt : k < n3
                · obtain ⟨x, o, u, rfl, hu, hc⟩ := (q3.below hB).at_ k hlt
                  have hlk : k < l3.length := by have := HN3.out; omega
                  obtain rfl : Value.int .i64 l3[k] = u := by simpa [hlk] using hu
                  clear hu
                  have HT : Hid (catTo zi l3 (k + 1) = catTo zi l3 k ++ zi l3[k]) := catTo_succ zi l3 k hlk
                  have hdl := catTo_le zi l3 k hlk
                  have hwz := w3 l3[k] (List.getElem_mem hlk)
                  generalize l3[k] = z at *
                  obtain ⟨D, hD⟩ : ∃ D, D = D3 ++ catTo zi l3 k := ⟨_, rfl⟩
                  have hDl : D.length ≤ 10000000 := by rw [hD, List.length_append]; omega
                  rw [← hD] at hwr
                  have HD := hide hD
                  clear hD hdl
                  go_wp2_with fail
                  refine (int_one gb v' D z _ wr.heap.size rfl hwr.1 hwz.1 hwz.2 (by omega)).mono ?_
                  rintro e w9 ⟨v9, rfl, k9⟩
                  have k10 := hwr.trans k9
                  clear k9 hwr hB
                  go_wp2
                  go_roundw
                  case rel => exact ⟨k + 1, v9, by omega, by go_num, by rw [HT.out, ← List.append_assoc, ← HD.out]; exact k10⟩
                  case measure => simp [intOf]; omega
                · have hall : catTo zi l3 k = catAll zi l3 := catTo_all zi l3 k (by have := HN3.out; omega)
                  rw [hall] at hwr
                  clear hall
                  obtain ⟨D4, hD4⟩ : ∃ D, D = D3 ++ catAll zi l3 := ⟨_, rfl⟩
                  have hD4l : D4.length ≤ D3.length + (catAll zi l3).length := by rw [hD4, List.length_append]; omega
                  rw [← hD4] at hwr
                  have HD4 := hide hD4
                  have K4 := hwr
                  clear hD4 hwr hB
                  go_wp2_with fail
                  clear hlt
                  have hX4 : D4 = X := by rw [HD4.out, HD3.out, HD2.out, HD1.out, HD0.out, HX.out, List.nil_append]
                  have hne1 : ¬ Same gb (.slice none 0 0) ga := by
                    rintro (hk | hk)
                    · omega
                    · simp [Value.ownBlock] at hk
                  have hne2 : ∀ k, va.ownBlock = some k → ¬ Same gb (.slice none 0 0) k := by
                    rintro k hk (rfl | h)
                    · exact hvaB hk
                    · simp [Value.ownBlock] at h
                  have hA4 := hA.keep K4.2.1 hne1 hne2
                  have hB := hBB.trans (K4.below (B := w.heap.size) hBB.size hgab.2 (by simp [Value.ownBlock]))
                  have hK := K4.1
                  rw [hX4] at hK
                  clear hX4 K0 K1 K2 K3 K4
                  refine (string_any _ _ _ _ hA4).mono ?_
                  rintro e w9 ⟨rfl, rfl⟩
                  go_wp2_with fail
                  refine (string_any _ _ _ _ hK).mono ?_
                  rintro e w9 ⟨rfl, rfl⟩
                  go_wp2_with fail
                  refine (string_nil _).mono ?_
                  rintro e w9 ⟨rfl, rfl⟩
                  go_wp2
                  go_ret
                  exact ⟨rfl, hB⟩

theorem tx_sum (l : List (List UInt8)) (h : ∀ x ∈ l, x.length ≤ maxLen) : (catAll tx l).length ≤ 10 * l.length + (l.map List.length).sum := by
  induction l with
  | nil => simp [catAll]
  | cons s r ih =>
    have h1 := ih (fun x hx => h x (List.mem_cons_of_mem _ hx))
    have h2 := vi_len_10 s.length (by have := h s (by simp); simp only [maxLen] at this; omega)
    simp only [catAll, List.flatMap_cons, List.length_append, List.map_cons, List.sum_cons, List.length_cons, tx] at h1 ⊢
    omega

set_option maxRecDepth 100000 in
theorem many_any (A0 : Option Addr) (n0 c0 : Nat) (l0 : List Int) (A1 : Option Addr) (n1 c1 : Nat) (l1 : List (List UInt8)) (A2 : Option Addr) (n2 c2 : Nat) (l2 : List Bool) (A3 : Option Addr) (n3 c3 : Nat) (l3 : List Int) (w : World)
    (r0 : Rd w (fun _ => False) 1 A0 n0 (l0.map (Value.int .i64))) (r1 : Rd w (fun _ => False) 1 A1 n1 (l1.map S)) (r2 : Rd w (fun _ => False) 1 A2 n2 (l2.map Value.bool)) (r3 : Rd w (fun _ => False) 1 A3 n3 (l3.map (Value.int .i64)))
    (w0 : ∀ x ∈ l0, (Lit.int .i64 x).wf = true) (w3 : ∀ x ∈ l3, (Lit.int .i64 x).wf = true) (w1 : ∀ x ∈ l1, x.length ≤ maxLen)
    (hb : (l1.map List.length).sum ≤ 1048576) :
    Calls Try.prog 4 #[.slice A0 n0 c0, .slice A1 n1 c1, .slice A2 n2 c2, .slice A3 n3 c3] w (Gives w (.bool true)) := by
  have hw : ∀ x : Int, (Lit.int .i64 x).wf = true → -9223372036854775808 ≤ x ∧ x ≤ 9223372036854775807 := fun x h => by
    simpa [Lit.wf, IntKind.min, IntKind.max, IntKind.signed, IntKind.bits] using h
  by_cases h0 : n0 ≤ 20
  · by_cases h1 : n1 ≤ 20
    · by_cases h2 : n2 ≤ 20
      · by_cases h3 : n3 ≤ 20
        · refine many_main A0 n0 c0 l0 A1 n1 c1 l1 A2 n2 c2 l2 A3 n3 c3 l3 w r0 r1 r2 r3 h0 h1 h2 h3 (fun x hx => (hw x (w0 x hx)).2) (fun x hx => hw x (w3 x hx)) ?_
          have e := r1.1
          have := tx_sum l1 w1
          rw [List.length_map] at e
          omega
        · have t0 : decide (20 < (n0 : Int)) = false := by simp; omega
          have t1 : decide (20 < (n1 : Int)) = false := by simp; omega
          have t2 : decide (20 < (n2 : Int)) = false := by simp; omega
          have t3 : decide (20 < (n3 : Int)) = true := by simp; omega
          clear r0 r1 r2 r3 hb
          go_enter Try.func4, Try.ntmps4
          go_wp2_with (go_at_call 10; refine (head_any _).mono ?_; rintro e w1 ⟨rfl, hb1⟩)
          go_ret
          exact ⟨rfl, hb1⟩
      · have t0 : decide (20 < (n0 : Int)) = false := by simp; omega
        have t1 : decide (20 < (n1 : Int)) = false := by simp; omega
        have t2 : decide (20 < (n2 : Int)) = true := by simp; omega
        clear r0 r1 r2 r3 hb
        go_enter Try.func4, Try.ntmps4
        go_wp2_with (go_at_call 10; refine (head_any _).mono ?_; rintro e w1 ⟨rfl, hb1⟩)
        go_ret
        exact ⟨rfl, hb1⟩
    · have t0 : decide (20 < (n0 : Int)) = false := by simp; omega
      have t1 : decide (20 < (n1 : Int)) = true := by simp; omega
      clear r0 r1 r2 r3 hb
      go_enter Try.func4, Try.ntmps4
      go_wp2_with (go_at_call 10; refine (head_any _).mono ?_; rintro e w1 ⟨rfl, hb1⟩)
      go_ret
      exact ⟨rfl, hb1⟩
  · have t0 : decide (20 < (n0 : Int)) = true := by simp; omega
    clear r0 r1 r2 r3 hb
    go_enter Try.func4, Try.ntmps4
    go_wp2_with (go_at_call 10; refine (head_any _).mono ?_; rintro e w1 ⟨rfl, hb1⟩)
    go_ret
    exact ⟨rfl, hb1⟩

end Go.Proofs.Ytcmdgaoddpkeoaa
