/- OpTexts, walked: it returns true for every input. -/
import Derived.Test.YtfahcpncofjnjaaDoorOpTextsLaw
namespace Go.Proofs.YtfahcpncofjnjaaDoor
open Go.RowKit

theorem code_wrap (k : Int) : wrap64 ((IntKind.u64.wrap k).tmod 32) = ((k % 18446744073709551616 % 32).toNat : Int) := by
  rw [IntKind.wrap_u64, Int.tmod_eq_emod_of_nonneg (by omega)]
  unfold wrap64
  omega

set_option maxRecDepth 100000 in
set_option maxHeartbeats 8000000 in
theorem texts_law (a b x y : Int) (w : World) (h : Laid w) : Calls Tryd.prog 3 #[.int .i64 a, .int .i64 b, .int .i64 x, .int .i64 y] w (Gives w (.bool true)) := by
  have HH := hide (head_any w h)
  have ha := code_wrap a
  have hb := code_wrap b
  have hx : bits .and .i64 x 255 = _ := i64_and_low' 8 255 (by decide) rfl x
  have hy : bits .and .i64 y 255 = _ := i64_and_low' 8 255 (by decide) rfl y
  obtain ⟨c, hc⟩ : ∃ c : Nat, c = (a % 18446744073709551616 % 32).toNat := ⟨_, rfl⟩
  have hc2 : c < 32 := by omega
  obtain ⟨d, hd⟩ : ∃ c : Nat, c = (b % 18446744073709551616 % 32).toNat := ⟨_, rfl⟩
  have hd2 : d < 32 := by omega
  obtain ⟨m, hm⟩ : ∃ m : Nat, (m : Int) = x % ((2 ^ 8 : Nat) : Int) := ⟨(x % ((2 ^ 8 : Nat) : Int)).toNat, by omega⟩
  have hm2 : m < 256 := by omega
  obtain ⟨n, hn⟩ : ∃ m : Nat, (m : Int) = y % ((2 ^ 8 : Nat) : Int) := ⟨(y % ((2 ^ 8 : Nat) : Int)).toNat, by omega⟩
  have hn2 : n < 256 := by omega
  rw [← hc] at ha
  rw [← hd] at hb
  rw [← hm] at hx
  rw [← hn] at hy
  clear hc hd hm hn
  have LAW0 := tx_once (a := m) (b := n) hc2 hd2
  rw [show (((c + 1 : Nat)) : Int) = 1 + (c : Int) by omega, show (((d + 1 : Nat)) : Int) = 1 + (d : Int) by omega] at LAW0
  have M1 : made c m = if pl (1 + (c : Int)) == 0 then 0 else m := by unfold made; rw [show (((c + 1 : Nat)) : Int) = 1 + (c : Int) by omega]
  have M2 : made d n = if pl (1 + (d : Int)) == 0 then 0 else n := by unfold made; rw [show (((d + 1 : Nat)) : Int) = 1 + (d : Int) by omega]
  go_enter Tryd.func3, Tryd.ntmps3
  go_wp2_with fail
  refine HH.out.mono ?_
  rintro e w1 ⟨rfl, hb1⟩
  have HL1 := hide (h.below hb1 (Nat.le_refl _))
  have HB1 := hide hb1
  clear HH h hb1
  go_wp2_with fail
  obtain ⟨wA, hwA⟩ : ∃ wA, wA = (w1.alloc (.cells #[.int .i64 (1 + (c : Int)), .int .i64 (m : Int)] 26)).alloc (.cells #[.int .i64 (1 + (d : Int)), .int .i64 (n : Int)] 26) := ⟨_, rfl⟩
  rw [← hwA]
  have kA : Blk wA w1.heap.size 26 #[.int .i64 (1 + (c : Int)), .int .i64 (m : Int)] := by rw [hwA]; exact (Blk.new _ _ _).alloc _
  have kB : Blk wA (w1.heap.size + 1) 26 #[.int .i64 (1 + (d : Int)), .int .i64 (n : Int)] := by
    rw [hwA, show w1.heap.size + 1 = (w1.alloc (.cells #[.int .i64 (1 + (c : Int)), .int .i64 (m : Int)] 26)).heap.size by simp]
    exact Blk.new _ _ _
  have b1 : Below w1.heap.size w1 wA := by rw [hwA]; exact ((Below.refl _ _).alloc (Nat.le_refl _) _).alloc (by simp) _
  clear hwA hx hy
  have HbA := hide b1
  have HKA := hide kA
  have HKB := hide kB
  have fA := kA.frozen 1
  have fB := kB.frozen 1
  have a0 := kA.cell 0
  have b0 := kB.cell 0
  have a1 : wA.cell? ⟨w1.heap.size, 1, none⟩ = some (.int .i64 (m : Int)) := kA.cell 1
  have b1c : wA.cell? ⟨w1.heap.size + 1, 1, none⟩ = some (.int .i64 (n : Int)) := kB.cell 1
  clear b1 kA kB
  refine (pool_any _ _ (HL1.out.below HbA.out (Nat.le_refl _))).mono ?_
  rintro e w' ⟨rfl, hw'⟩
  subst w'
  obtain ⟨p, hp⟩ : ∃ p, p = pl (1 + (c : Int)) := ⟨_, rfl⟩
  rw [← hp] at M1 ⊢
  obtain ⟨q, hq⟩ : ∃ p, p = pl (1 + (d : Int)) := ⟨_, rfl⟩
  rw [← hq] at M2
  have HP2 : Hid (∀ w, Laid w → Calls Tryd.prog 8 #[.int .i64 (1 + (d : Int))] w fun e w' => e = .returned (.int .i32 q) ∧ w' = w) := hide (fun w h => by rw [hq]; exact pool_any _ w h)
  clear hp hq
  cases h1 : (p == 0) <;> cases h2 : (q == 0) <;> rw [h1] at M1 <;> rw [h2] at M2 <;> simp only [Bool.false_eq_true, if_false, if_true] at M1 M2
  · have LAW := LAW0
    rw [M1, M2] at LAW
    clear LAW0 M1 M2
    go_wp2_with fail
    obtain ⟨wB, hwB⟩ : ∃ wB, wB = wA := ⟨_, rfl⟩
    subst hwB
    have HbB := HbA
    have HKA1 := HKA
    have HKB1 := HKB
    clear fA a0 a1 HbA HKA HKB
    refine (HP2.out _ (HL1.out.below HbB.out (Nat.le_refl _))).mono ?_
    rintro e w' ⟨rfl, hw'⟩
    subst w'
    go_wp2_with fail
    obtain ⟨w3, hw3⟩ : ∃ w3, w3 = wB := ⟨_, rfl⟩
    rw [← hw3]
    have HbC : Hid (Below w1.heap.size w1 w3) := hide (by rw [hw3]; exact HbB.out)
    have k1 : Blk w3 w1.heap.size 26 #[.int .i64 (1 + (c : Int)), .int .i64 (m : Int)] := by rw [hw3]; exact HKA1.out
    have k2 : Blk w3 (w1.heap.size + 1) 26 #[.int .i64 (1 + (d : Int)), .int .i64 (n : Int)] := by rw [hw3]; exact HKB1.out
    clear hw3 fB b0 b1c HbB HKA1 HKB1
    have HL3 := hide (HL1.out.below HbC.out (Nat.le_refl _))
    have HB3 := hide (HB1.out.trans (HbC.out.mono HB1.out.size))

    have HTA : Hid (∀ t : After w3, Calls Tryd.prog 9 #[.agg #[.int .i64 (1 + (c : Int)), .int .i64 (m : Int)]] t.val (Gives t.val (S (tx (1 + (c : Int)) (m : Int))))) := hide (fun t => text_any _ _ (by omega) (by omega) _ (HL3.out.below t.prop (Nat.le_refl _)))
    have HTB : Hid (∀ t : After w3, Calls Tryd.prog 9 #[.agg #[.int .i64 (1 + (d : Int)), .int .i64 (n : Int)]] t.val (Gives t.val (S (tx (1 + (d : Int)) (n : Int))))) := hide (fun t => text_any _ _ (by omega) (by omega) _ (HL3.out.below t.prop (Nat.le_refl _)))
    have qa0 : ∀ t : After w3, t.val.cell? ⟨w1.heap.size, 0, none⟩ = some (.int .i64 (1 + (c : Int))) := fun t => (k1.below t.prop k1.lt).cell 0
    have qa1 : ∀ t : After w3, t.val.cell? ⟨w1.heap.size, 1, none⟩ = some (.int .i64 (m : Int)) := fun t => (k1.below t.prop k1.lt).cell 1
    have qb0 : ∀ t : After w3, t.val.cell? ⟨w1.heap.size + 1, 0, none⟩ = some (.int .i64 (1 + (d : Int))) := fun t => (k2.below t.prop k2.lt).cell 0
    have qb1 : ∀ t : After w3, t.val.cell? ⟨w1.heap.size + 1, 1, none⟩ = some (.int .i64 (n : Int)) := fun t => (k2.below t.prop k2.lt).cell 1
    obtain ⟨X, hX⟩ : ∃ X, X = tx (1 + (c : Int)) (m : Int) := ⟨_, rfl⟩
    obtain ⟨Y, hY⟩ : ∃ X, X = tx (1 + (d : Int)) (n : Int) := ⟨_, rfl⟩
    rw [← hX] at HTA LAW
    rw [← hY] at HTB LAW
    have HLAW := hide LAW
    clear hX hY LAW k1 k2 HL3
    obtain ⟨I, hI⟩ : ∃ I : Int, I = 1 + (c : Int) := ⟨_, rfl⟩
    obtain ⟨J, hJ⟩ : ∃ I : Int, I = 1 + (d : Int) := ⟨_, rfl⟩
    obtain ⟨K, hK⟩ : ∃ I : Int, I = (m : Int) := ⟨_, rfl⟩
    obtain ⟨L, hL⟩ : ∃ I : Int, I = (n : Int) := ⟨_, rfl⟩
    have HL2 : Hid ((X == Y) = (decide (I = J) && decide (K = L))) := hide (by
      rw [HLAW.out]
      have e1 : (I = J) = (c = d) := by rw [eq_iff_iff]; omega
      have e2 : (K = L) = (m = n) := by rw [eq_iff_iff]; omega
      simp only [e1, e2])
    rw [← hI] at qa0 HTA
    rw [← hJ] at qb0 HTB
    rw [← hK] at qa1 HTA
    rw [← hL] at qb1 HTB
    clear hI hJ hK hL HLAW
    rcases Decidable.em (I = J) with EC | EC <;> rcases Decidable.em (K = L) with EA | EA
    all_goals
      have EC1 := HL2.out
      simp only [EC, EA, decide_true, decide_false, Bool.and_true, Bool.and_false] at EC1
      have HXY := hide EC1
      clear EC1 HL2
      try subst EC
      try subst EA
      refine region_after (by kernel_rfl) (by kernel_rfl) ?_
      repeat (go_big_quiet_step ((first | (go_at_call 9; with_reducible refine call_after (HTA.out _)) | (go_at_call 9; with_reducible refine call_after (HTB.out _)))))
      refine wpQuiet_nil ?_
      rintro _ ⟨t, rfl⟩
      have HB4 := hide (HB3.out.trans (t.prop.mono HB3.out.size))
      clear qa0 qa1 qb0 qb1 HTA HTB
      go_wp2_with fail
      go_ret
      exact ⟨by first | rfl | (rw [HXY.out]; rfl), HB4.out⟩
  · have LAW := LAW0
    rw [M1, M2] at LAW
    rw [show ((0 : Nat) : Int) = 0 from rfl] at LAW
    clear LAW0 M1 M2
    go_wp2_with fail
    obtain ⟨wB, hwB⟩ : ∃ wB, wB = wA := ⟨_, rfl⟩
    subst hwB
    have HbB := HbA
    have HKA1 := HKA
    have HKB1 := HKB
    clear fA a0 a1 HbA HKA HKB
    refine (HP2.out _ (HL1.out.below HbB.out (Nat.le_refl _))).mono ?_
    rintro e w' ⟨rfl, hw'⟩
    subst w'
    go_wp2_with fail
    obtain ⟨w3, hw3⟩ : ∃ w3, w3 = wB.setCell ⟨w1.heap.size + 1, 1, none⟩ (.int .i64 0) := ⟨_, rfl⟩
    rw [← hw3]
    have HbC : Hid (Below w1.heap.size w1 w3) := hide (by rw [hw3]; exact HbB.out.setCell (by simp) _)
    have k1 : Blk w3 w1.heap.size 26 #[.int .i64 (1 + (c : Int)), .int .i64 (m : Int)] := by rw [hw3]; exact HKA1.out.far (by simp) _
    have k2 : Blk w3 (w1.heap.size + 1) 26 #[.int .i64 (1 + (d : Int)), .int .i64 0] := by rw [hw3]; exact HKB1.out.set_ 1 _
    clear hw3 fB b0 b1c HbB HKA1 HKB1
    have HL3 := hide (HL1.out.below HbC.out (Nat.le_refl _))
    have HB3 := hide (HB1.out.trans (HbC.out.mono HB1.out.size))

    have HTA : Hid (∀ t : After w3, Calls Tryd.prog 9 #[.agg #[.int .i64 (1 + (c : Int)), .int .i64 (m : Int)]] t.val (Gives t.val (S (tx (1 + (c : Int)) (m : Int))))) := hide (fun t => text_any _ _ (by omega) (by omega) _ (HL3.out.below t.prop (Nat.le_refl _)))
    have HTB : Hid (∀ t : After w3, Calls Tryd.prog 9 #[.agg #[.int .i64 (1 + (d : Int)), .int .i64 0]] t.val (Gives t.val (S (tx (1 + (d : Int)) 0)))) := hide (fun t => text_any _ _ (by omega) (by omega) _ (HL3.out.below t.prop (Nat.le_refl _)))
    have qa0 : ∀ t : After w3, t.val.cell? ⟨w1.heap.size, 0, none⟩ = some (.int .i64 (1 + (c : Int))) := fun t => (k1.below t.prop k1.lt).cell 0
    have qa1 : ∀ t : After w3, t.val.cell? ⟨w1.heap.size, 1, none⟩ = some (.int .i64 (m : Int)) := fun t => (k1.below t.prop k1.lt).cell 1
    have qb0 : ∀ t : After w3, t.val.cell? ⟨w1.heap.size + 1, 0, none⟩ = some (.int .i64 (1 + (d : Int))) := fun t => (k2.below t.prop k2.lt).cell 0
    have qb1 : ∀ t : After w3, t.val.cell? ⟨w1.heap.size + 1, 1, none⟩ = some (.int .i64 0) := fun t => (k2.below t.prop k2.lt).cell 1
    obtain ⟨X, hX⟩ : ∃ X, X = tx (1 + (c : Int)) (m : Int) := ⟨_, rfl⟩
    obtain ⟨Y, hY⟩ : ∃ X, X = tx (1 + (d : Int)) 0 := ⟨_, rfl⟩
    rw [← hX] at HTA LAW
    rw [← hY] at HTB LAW
    have HLAW := hide LAW
    clear hX hY LAW k1 k2 HL3
    obtain ⟨I, hI⟩ : ∃ I : Int, I = 1 + (c : Int) := ⟨_, rfl⟩
    obtain ⟨J, hJ⟩ : ∃ I : Int, I = 1 + (d : Int) := ⟨_, rfl⟩
    obtain ⟨K, hK⟩ : ∃ I : Int, I = (m : Int) := ⟨_, rfl⟩
    obtain ⟨L, hL⟩ : ∃ I : Int, I = 0 := ⟨_, rfl⟩
    have HL2 : Hid ((X == Y) = (decide (I = J) && decide (K = L))) := hide (by
      rw [HLAW.out]
      have e1 : (I = J) = (c = d) := by rw [eq_iff_iff]; omega
      have e2 : (K = L) = (m = 0) := by rw [eq_iff_iff]; omega
      simp only [e1, e2])
    rw [← hI] at qa0 HTA
    rw [← hJ] at qb0 HTB
    rw [← hK] at qa1 HTA
    rw [← hL] at qb1 HTB
    clear hI hJ hK hL HLAW
    rcases Decidable.em (I = J) with EC | EC <;> rcases Decidable.em (K = L) with EA | EA
    all_goals
      have EC1 := HL2.out
      simp only [EC, EA, decide_true, decide_false, Bool.and_true, Bool.and_false] at EC1
      have HXY := hide EC1
      clear EC1 HL2
      try subst EC
      try subst EA
      refine region_after (by kernel_rfl) (by kernel_rfl) ?_
      repeat (go_big_quiet_step ((first | (go_at_call 9; with_reducible refine call_after (HTA.out _)) | (go_at_call 9; with_reducible refine call_after (HTB.out _)))))
      refine wpQuiet_nil ?_
      rintro _ ⟨t, rfl⟩
      have HB4 := hide (HB3.out.trans (t.prop.mono HB3.out.size))
      clear qa0 qa1 qb0 qb1 HTA HTB
      go_wp2_with fail
      go_ret
      exact ⟨by first | rfl | (rw [HXY.out]; rfl), HB4.out⟩
  · have LAW := LAW0
    rw [M1, M2] at LAW
    rw [show ((0 : Nat) : Int) = 0 from rfl] at LAW
    clear LAW0 M1 M2
    go_wp2_with fail
    obtain ⟨wB, hwB⟩ : ∃ wB, wB = wA.setCell ⟨w1.heap.size, 1, none⟩ (.int .i64 0) := ⟨_, rfl⟩
    rw [← hwB]
    have HbB : Hid (Below w1.heap.size w1 wB) := hide (by rw [hwB]; exact HbA.out.setCell (by simp) _)
    have HKA1 : Hid (Blk wB w1.heap.size 26 #[.int .i64 (1 + (c : Int)), .int .i64 0]) := hide (by rw [hwB]; exact HKA.out.set_ 1 _)
    have HKB1 : Hid (Blk wB (w1.heap.size + 1) 26 #[.int .i64 (1 + (d : Int)), .int .i64 (n : Int)]) := hide (by rw [hwB]; exact HKB.out.far (by simp) _)
    clear hwB fA fB a0 b0 a1 b1c HbA HKA HKB
    have fB := HKB1.out.frozen 1
    have b0 := HKB1.out.cell 0
    have b1c : wB.cell? ⟨w1.heap.size + 1, 1, none⟩ = some (.int .i64 (n : Int)) := HKB1.out.cell 1
    refine (HP2.out _ (HL1.out.below HbB.out (Nat.le_refl _))).mono ?_
    rintro e w' ⟨rfl, hw'⟩
    subst w'
    go_wp2_with fail
    obtain ⟨w3, hw3⟩ : ∃ w3, w3 = wB := ⟨_, rfl⟩
    rw [← hw3]
    have HbC : Hid (Below w1.heap.size w1 w3) := hide (by rw [hw3]; exact HbB.out)
    have k1 : Blk w3 w1.heap.size 26 #[.int .i64 (1 + (c : Int)), .int .i64 0] := by rw [hw3]; exact HKA1.out
    have k2 : Blk w3 (w1.heap.size + 1) 26 #[.int .i64 (1 + (d : Int)), .int .i64 (n : Int)] := by rw [hw3]; exact HKB1.out
    clear hw3 fB b0 b1c HbB HKA1 HKB1
    have HL3 := hide (HL1.out.below HbC.out (Nat.le_refl _))
    have HB3 := hide (HB1.out.trans (HbC.out.mono HB1.out.size))

    have HTA : Hid (∀ t : After w3, Calls Tryd.prog 9 #[.agg #[.int .i64 (1 + (c : Int)), .int .i64 0]] t.val (Gives t.val (S (tx (1 + (c : Int)) 0)))) := hide (fun t => text_any _ _ (by omega) (by omega) _ (HL3.out.below t.prop (Nat.le_refl _)))
    have HTB : Hid (∀ t : After w3, Calls Tryd.prog 9 #[.agg #[.int .i64 (1 + (d : Int)), .int .i64 (n : Int)]] t.val (Gives t.val (S (tx (1 + (d : Int)) (n : Int))))) := hide (fun t => text_any _ _ (by omega) (by omega) _ (HL3.out.below t.prop (Nat.le_refl _)))
    have qa0 : ∀ t : After w3, t.val.cell? ⟨w1.heap.size, 0, none⟩ = some (.int .i64 (1 + (c : Int))) := fun t => (k1.below t.prop k1.lt).cell 0
    have qa1 : ∀ t : After w3, t.val.cell? ⟨w1.heap.size, 1, none⟩ = some (.int .i64 0) := fun t => (k1.below t.prop k1.lt).cell 1
    have qb0 : ∀ t : After w3, t.val.cell? ⟨w1.heap.size + 1, 0, none⟩ = some (.int .i64 (1 + (d : Int))) := fun t => (k2.below t.prop k2.lt).cell 0
    have qb1 : ∀ t : After w3, t.val.cell? ⟨w1.heap.size + 1, 1, none⟩ = some (.int .i64 (n : Int)) := fun t => (k2.below t.prop k2.lt).cell 1
    obtain ⟨X, hX⟩ : ∃ X, X = tx (1 + (c : Int)) 0 := ⟨_, rfl⟩
    obtain ⟨Y, hY⟩ : ∃ X, X = tx (1 + (d : Int)) (n : Int) := ⟨_, rfl⟩
    rw [← hX] at HTA LAW
    rw [← hY] at HTB LAW
    have HLAW := hide LAW
    clear hX hY LAW k1 k2 HL3
    obtain ⟨I, hI⟩ : ∃ I : Int, I = 1 + (c : Int) := ⟨_, rfl⟩
    obtain ⟨J, hJ⟩ : ∃ I : Int, I = 1 + (d : Int) := ⟨_, rfl⟩
    obtain ⟨K, hK⟩ : ∃ I : Int, I = 0 := ⟨_, rfl⟩
    obtain ⟨L, hL⟩ : ∃ I : Int, I = (n : Int) := ⟨_, rfl⟩
    have HL2 : Hid ((X == Y) = (decide (I = J) && decide (K = L))) := hide (by
      rw [HLAW.out]
      have e1 : (I = J) = (c = d) := by rw [eq_iff_iff]; omega
      have e2 : (K = L) = (0 = n) := by rw [eq_iff_iff]; omega
      simp only [e1, e2])
    rw [← hI] at qa0 HTA
    rw [← hJ] at qb0 HTB
    rw [← hK] at qa1 HTA
    rw [← hL] at qb1 HTB
    clear hI hJ hK hL HLAW
    rcases Decidable.em (I = J) with EC | EC <;> rcases Decidable.em (K = L) with EA | EA
    all_goals
      have EC1 := HL2.out
      simp only [EC, EA, decide_true, decide_false, Bool.and_true, Bool.and_false] at EC1
      have HXY := hide EC1
      clear EC1 HL2
      try subst EC
      try subst EA
      refine region_after (by kernel_rfl) (by kernel_rfl) ?_
      repeat (go_big_quiet_step ((first | (go_at_call 9; with_reducible refine call_after (HTA.out _)) | (go_at_call 9; with_reducible refine call_after (HTB.out _)))))
      refine wpQuiet_nil ?_
      rintro _ ⟨t, rfl⟩
      have HB4 := hide (HB3.out.trans (t.prop.mono HB3.out.size))
      clear qa0 qa1 qb0 qb1 HTA HTB
      go_wp2_with fail
      go_ret
      exact ⟨by first | rfl | (rw [HXY.out]; rfl), HB4.out⟩
  · have LAW := LAW0
    rw [M1, M2] at LAW
    rw [show ((0 : Nat) : Int) = 0 from rfl] at LAW
    clear LAW0 M1 M2
    go_wp2_with fail
    obtain ⟨wB, hwB⟩ : ∃ wB, wB = wA.setCell ⟨w1.heap.size, 1, none⟩ (.int .i64 0) := ⟨_, rfl⟩
    rw [← hwB]
    have HbB : Hid (Below w1.heap.size w1 wB) := hide (by rw [hwB]; exact HbA.out.setCell (by simp) _)
    have HKA1 : Hid (Blk wB w1.heap.size 26 #[.int .i64 (1 + (c : Int)), .int .i64 0]) := hide (by rw [hwB]; exact HKA.out.set_ 1 _)
    have HKB1 : Hid (Blk wB (w1.heap.size + 1) 26 #[.int .i64 (1 + (d : Int)), .int .i64 (n : Int)]) := hide (by rw [hwB]; exact HKB.out.far (by simp) _)
    clear hwB fA fB a0 b0 a1 b1c HbA HKA HKB
    have fB := HKB1.out.frozen 1
    have b0 := HKB1.out.cell 0
    have b1c : wB.cell? ⟨w1.heap.size + 1, 1, none⟩ = some (.int .i64 (n : Int)) := HKB1.out.cell 1
    refine (HP2.out _ (HL1.out.below HbB.out (Nat.le_refl _))).mono ?_
    rintro e w' ⟨rfl, hw'⟩
    subst w'
    go_wp2_with fail
    obtain ⟨w3, hw3⟩ : ∃ w3, w3 = wB.setCell ⟨w1.heap.size + 1, 1, none⟩ (.int .i64 0) := ⟨_, rfl⟩
    rw [← hw3]
    have HbC : Hid (Below w1.heap.size w1 w3) := hide (by rw [hw3]; exact HbB.out.setCell (by simp) _)
    have k1 : Blk w3 w1.heap.size 26 #[.int .i64 (1 + (c : Int)), .int .i64 0] := by rw [hw3]; exact HKA1.out.far (by simp) _
    have k2 : Blk w3 (w1.heap.size + 1) 26 #[.int .i64 (1 + (d : Int)), .int .i64 0] := by rw [hw3]; exact HKB1.out.set_ 1 _
    clear hw3 fB b0 b1c HbB HKA1 HKB1
    have HL3 := hide (HL1.out.below HbC.out (Nat.le_refl _))
    have HB3 := hide (HB1.out.trans (HbC.out.mono HB1.out.size))

    have HTA : Hid (∀ t : After w3, Calls Tryd.prog 9 #[.agg #[.int .i64 (1 + (c : Int)), .int .i64 0]] t.val (Gives t.val (S (tx (1 + (c : Int)) 0)))) := hide (fun t => text_any _ _ (by omega) (by omega) _ (HL3.out.below t.prop (Nat.le_refl _)))
    have HTB : Hid (∀ t : After w3, Calls Tryd.prog 9 #[.agg #[.int .i64 (1 + (d : Int)), .int .i64 0]] t.val (Gives t.val (S (tx (1 + (d : Int)) 0)))) := hide (fun t => text_any _ _ (by omega) (by omega) _ (HL3.out.below t.prop (Nat.le_refl _)))
    have qa0 : ∀ t : After w3, t.val.cell? ⟨w1.heap.size, 0, none⟩ = some (.int .i64 (1 + (c : Int))) := fun t => (k1.below t.prop k1.lt).cell 0
    have qa1 : ∀ t : After w3, t.val.cell? ⟨w1.heap.size, 1, none⟩ = some (.int .i64 0) := fun t => (k1.below t.prop k1.lt).cell 1
    have qb0 : ∀ t : After w3, t.val.cell? ⟨w1.heap.size + 1, 0, none⟩ = some (.int .i64 (1 + (d : Int))) := fun t => (k2.below t.prop k2.lt).cell 0
    have qb1 : ∀ t : After w3, t.val.cell? ⟨w1.heap.size + 1, 1, none⟩ = some (.int .i64 0) := fun t => (k2.below t.prop k2.lt).cell 1
    obtain ⟨X, hX⟩ : ∃ X, X = tx (1 + (c : Int)) 0 := ⟨_, rfl⟩
    obtain ⟨Y, hY⟩ : ∃ X, X = tx (1 + (d : Int)) 0 := ⟨_, rfl⟩
    rw [← hX] at HTA LAW
    rw [← hY] at HTB LAW
    have HLAW := hide LAW
    clear hX hY LAW k1 k2 HL3
    obtain ⟨I, hI⟩ : ∃ I : Int, I = 1 + (c : Int) := ⟨_, rfl⟩
    obtain ⟨J, hJ⟩ : ∃ I : Int, I = 1 + (d : Int) := ⟨_, rfl⟩
    obtain ⟨K, hK⟩ : ∃ I : Int, I = 0 := ⟨_, rfl⟩
    obtain ⟨L, hL⟩ : ∃ I : Int, I = 0 := ⟨_, rfl⟩
    have HL2 : Hid ((X == Y) = (decide (I = J) && decide (K = L))) := hide (by
      rw [HLAW.out]
      have e1 : (I = J) = (c = d) := by rw [eq_iff_iff]; omega
      have e2 : (K = L) = (0 = 0) := by rw [eq_iff_iff]; omega
      simp only [e1, e2])
    rw [← hI] at qa0 HTA
    rw [← hJ] at qb0 HTB
    rw [← hK] at qa1 HTA
    rw [← hL] at qb1 HTB
    clear hI hJ hK hL HLAW
    rcases Decidable.em (I = J) with EC | EC <;> rcases Decidable.em (K = L) with EA | EA
    all_goals
      have EC1 := HL2.out
      simp only [EC, EA, decide_true, decide_false, Bool.and_true, Bool.and_false] at EC1
      have HXY := hide EC1
      clear EC1 HL2
      try subst EC
      try subst EA
      refine region_after (by kernel_rfl) (by kernel_rfl) ?_
      repeat (go_big_quiet_step ((first | (go_at_call 9; with_reducible refine call_after (HTA.out _)) | (go_at_call 9; with_reducible refine call_after (HTB.out _)))))
      refine wpQuiet_nil ?_
      rintro _ ⟨t, rfl⟩
      have HB4 := hide (HB3.out.trans (t.prop.mono HB3.out.size))
      clear qa0 qa1 qb0 qb1 HTA HTB
      go_wp2_with fail
      go_ret
      exact ⟨by first | rfl | (rw [HXY.out]; rfl), HB4.out⟩
end Go.Proofs.YtfahcpncofjnjaaDoor
