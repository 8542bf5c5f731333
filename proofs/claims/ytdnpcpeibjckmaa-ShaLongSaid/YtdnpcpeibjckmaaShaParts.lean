/- ShaParts, walked; no statement of the seat is proved here. -/
import Derived.Test.YtdnpcpeibjckmaaShaHexes
namespace Go.Proofs.Ytdnpcpeibjckmaa
open Go.RowKit

theorem str_info : (Try.prog.info? 9).map (fun i => (i.zero, i.size, i.bytes)) = some (some (.string ⟨#[]⟩), 1, 16) := by kernel_rfl
theorem and_low (x : Int) : ∃ m : Nat, bits .and .i64 x 65535 = (m : Int) ∧ m ≤ 65535 := by
  refine ⟨((BitVec.ofInt 64 x &&& BitVec.ofInt 64 65535).toNat), ?_, ?_⟩
  · show IntKind.i64.wrap ((BitVec.ofInt 64 x &&& BitVec.ofInt 64 65535).toNat : Int) = _
    have h : (BitVec.ofInt 64 x &&& BitVec.ofInt 64 65535).toNat ≤ 65535 := by
      rw [BitVec.toNat_and]
      exact Nat.le_trans Nat.and_le_right (by decide)
    rw [IntWalk.i64_in _ (by omega)]
  · rw [BitVec.toNat_and]
    exact Nat.le_trans Nat.and_le_right (by decide)
/-- Sum of what the call owns. -/
theorem sum_own {W : World} {base : Nat} {A : Option Addr} {n c : Nat} {ls : List (List UInt8)} (h : W.ownsRow base 9 1 (.slice A n c) n (ls.map S)) (hl : ls.length = n) (ht : ls.flatten.length ≤ 65536) (hn : n ≤ 65536) :
    Calls Try.prog 9 #[.slice A n c] W fun e w' => e = .returned (.agg (darr (sumM ls.flatten))) ∧ Below W.heap.size W w' :=
  sum_any W A n c ls (Rd.of_own2 h fun _ _ h => h).old hl ht hn
theorem sum_none (W : World) : Calls Try.prog 9 #[.slice none 0 0] W fun e w' => e = .returned (.agg (darr (sumM []))) ∧ Below W.heap.size W w' :=
  sum_any W none 0 0 [] (Rd.nil _ _ _ _) rfl (by decide) (by decide)

set_option maxRecDepth 100000 in
set_option maxHeartbeats 4000000 in
theorem parts_any (w : World) (l : List UInt8) (A : Option Addr) (n c : Nat) (zs : List Int) (hl : l.length ≤ 9223372036854775807) (hr : Rd w (fun _ => False) 1 A n (zs.map (Value.int .i64))) (hn : n ≤ 9223372036854775807) :
    Calls Try.prog 4 #[S l, .slice A n c] w (Gives w (.bool true)) := by
  have HR := hide hr.old
  clear hr
  go_enter Try.func4, Try.ntmps4
  by_cases hbig : l.length ≤ 300 ∧ n ≤ 10
  · obtain ⟨hb1, hb2⟩ := hbig
    go_upto_region 5 with (first | (go_at_call 8; refine (head_any _).mono ?_; rintro e w1 ⟨rfl, hbb⟩; have HB1 := hide hbb; clear hbb))
    have HE : Hid ((w1.alloc (.cells #[] 9)).ownsRow w.heap.size 9 1 (.slice (some ⟨w1.heap.size, 0, none⟩) 0 0) 0 []) := hide (World.ownsRow_made (base := w.heap.size) (e := 9) (size := 1) w1 #[] 0 HB1.out.size (by unfold maxLen; omega) rfl)
    go_wp2_with fail
    go_loopw [5, 6, 24] (fun p r i wr => ∃ (k : Nat) (A' : Option Addr) (c' : Nat) (ls : List (List UInt8)) (rest : List UInt8), k ≤ n ∧ i = .int .i64 (k : Int) ∧ p = .slice A' ls.length c' ∧ r = S rest ∧ ls.flatten ++ rest = l ∧ ls.length = k ∧ Below w.heap.size w wr ∧ wr.ownsRow w.heap.size 9 1 (.slice A' ls.length c') ls.length (ls.map S)) (fun _ _ i _ => n - (intOf i).toNat)
    case atStart => exact ⟨0, _, _, [], l, by omega, rfl, rfl, rfl, rfl, rfl, HB1.out.alloc HB1.out.size _, HE.out⟩
    case round =>
      clear HE HB1
      obtain ⟨k, A1, c1, ls, rest, hk, rfl, rfl, rfl, hfl, hlk, hb, hown⟩ := hrel
      have HF := hide hfl
      have HLK := hide hlk
      have HB := hide hb
      have hbs := HB.out.size
      have hrl : rest.length ≤ 300 := by have := congrArg List.length hfl; simp only [List.length_append] at this; omega
      have hls : ls.length ≤ 10 := by omega
      clear hfl hlk hb
      by_cases hlt : k < n
      · obtain ⟨b, o, u, rfl, hu, hc0⟩ := (HR.out.below HB.out).at_ k hlt
        obtain ⟨z, rfl⟩ : ∃ z, u = .int .i64 z := by
          rw [List.getElem?_map] at hu
          cases hz : zs[k]? with
          | none => rw [hz] at hu; cases hu
          | some z => rw [hz] at hu; exact ⟨z, (by injection hu with hu; exact hu.symm)⟩
        clear hu
        obtain ⟨m, hm, hm2⟩ := and_low z
        obtain ⟨q, hq⟩ : ∃ q, q = m % (rest.length + 1) := ⟨_, rfl⟩
        have hqr : q ≤ rest.length := by rw [hq]; have := Nat.mod_lt m (show 0 < rest.length + 1 by omega); omega
        have hqm : ((m : Int).tmod ((rest.length : Int) + 1)) = (q : Int) := by
          rw [Int.tmod_eq_emod_of_nonneg (by omega), hq]
          have := Int.natCast_emod m (rest.length + 1)
          rw [this]
          simp
        have hnz : (((rest.length : Int) + 1) == 0) = false := by simp; omega
        have HQ := hide hq
        clear hq
        go_wp2_with (at_builtin; refine app1 rfl (.tmp 34) (.tmp 38) 29 rfl w.heap.size 9 (.string ⟨#[]⟩) 16 Try.underlying29 str_info rfl _ ls.length (ls.map S) rfl hown (S (rest.take q)) rfl rfl (by omega) (by omega) hbs ?_)
        intro a3 c3 w3 hown3 hg3 _
        have HB3 := hide (HB.out.grown hg3 (by omega) (fun k hk => (hown.lt k hk).1))
        have HO3 := hide hown3
        clear hown hown3 hg3 hc0
        go_wp2_with fail
        go_roundw
        case rel => exact ⟨k + 1, a3, c3, ls ++ [rest.take q], rest.drop q, by omega, by go_num, by simp, rfl, by rw [← HF.out]; simp, by simp [HLK.out], HB3.out, by simpa using HO3.out⟩
        case measure => simp [intOf]; omega
      · have hlen : (ls.flatten ++ rest).length ≤ 300 := by rw [HF.out]; exact hb1
        have H1 : Hid (∀ (A' : Option Addr) (c' : Nat) (W : World), W.ownsRow w.heap.size 9 1 (.slice A' (ls.length + 1) c') (ls.length + 1) (ls.map S ++ [S rest]) → Calls Try.prog 9 #[.slice A' (ls.length + 1) c'] W fun e w' => e = .returned (.agg (darr (sumM l))) ∧ Below W.heap.size W w') := hide (fun A' c' W h => by
          have := sum_own (W := W) (ls := ls ++ [rest]) (by simpa using h) (by simp) (by rw [List.flatten_append]; simpa using Nat.le_trans hlen (by decide)) (by omega)
          rwa [show (ls ++ [rest]).flatten = l by rw [List.flatten_append, ← HF.out]; simp] at this)
        have H2 := fun W => hide (sum_single W l (by omega))
        have H3 := fun W => hide (sum_none W)
        have H4 := fun W => hide (sum_single W [] (by decide))
        have HQ1 := fun W => hide (run_eql_darr (sumM l) (sumM l) (sumM_len l) (sumM_len l) W)
        have HQ2 := fun W => hide (run_eql_darr (sumM []) (sumM []) (sumM_len []) (sumM_len []) W)
        obtain ⟨dz, hdz⟩ : ∃ dz, dz = darr (sumM l) := ⟨_, rfl⟩
        obtain ⟨ez, hez⟩ : ∃ dz, dz = darr (sumM []) := ⟨_, rfl⟩
        simp only [← hdz, ← hez] at H1 H2 H3 H4 HQ1 HQ2
        clear hdz hez hlen HF HLK
        have he1 : ∀ W, (binOp .eql 24 (.agg dz) (.agg dz)).run Try.prog W = .ok (.bool true) W := fun W => by
          have := (HQ1 W).out
          rwa [show (sumM l == sumM l) = true by simp] at this
        have he2 : ∀ W, (binOp .eql 24 (.agg ez) (.agg ez)).run Try.prog W = .ok (.bool true) W := fun W => by
          have := (HQ2 W).out
          rwa [show (sumM [] == sumM []) = true by simp] at this
        clear HQ1 HQ2
        go_wp2_with (at_builtin; refine app1 rfl (.tmp 44) (.tmp 46) 29 rfl w.heap.size 9 (.string ⟨#[]⟩) 16 Try.underlying29 str_info rfl _ ls.length (ls.map S) rfl hown (S rest) rfl rfl (by omega) (by omega) hbs ?_)
        intro a3 c3 w3 hown3 hg3 _
        have HB3 := hide (HB.out.grown hg3 (by omega) (fun k hk => (hown.lt k hk).1))
        have HC := hide (H1.out a3 c3 w3 hown3)
        clear hown hown3 hg3
        go_wp2_with (first | (go_at_call 9; (with_reducible refine Calls.mono HC.out ?_); rintro e w4 ⟨rfl, hb4⟩; have HB4 := hide hb4; clear hb4) | (go_at_call 9; (with_reducible refine Calls.mono (H2 _).out ?_); rintro e w5 ⟨rfl, hb5⟩; have HB5 := hide hb5; clear hb5) | (go_at_call 9; (with_reducible refine Calls.mono (H3 _).out ?_); rintro e w6 ⟨rfl, hb6⟩; have HB6 := hide hb6; clear hb6) | (go_at_call 9; (with_reducible refine Calls.mono (H4 _).out ?_); rintro e w7 ⟨rfl, hb7⟩; have HB7 := hide hb7; clear hb7))
        go_ret
        have k4 := HB3.out.trans (HB4.out.mono HB3.out.size)
        have k5 := (k4.alloc k4.size (.cells #[S l] 9)).trans (HB5.out.mono k4.size)
        have k6 := k5.trans (HB6.out.mono k5.size)
        exact ⟨rfl, (k6.alloc k6.size (.cells #[S []] 9)).trans (HB7.out.mono k6.size)⟩
  · have hor : 300 < l.length ∨ (l.length ≤ 300 ∧ 10 < n) := by omega
    clear hbig
    rcases hor with h1 | ⟨h1, h2⟩
    all_goals
      go_wp2_with (first | (go_at_call 8; refine (head_any _).mono ?_; rintro e w1 ⟨rfl, hbb⟩; have HB1 := hide hbb; clear hbb))
      go_ret
      exact ⟨rfl, HB1.out⟩
end Go.Proofs.Ytdnpcpeibjckmaa
