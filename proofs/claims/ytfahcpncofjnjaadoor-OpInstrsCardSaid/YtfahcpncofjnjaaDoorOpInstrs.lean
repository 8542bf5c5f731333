/- OpInstrs, walked: it returns true for every input. -/
import Derived.Test.YtfahcpncofjnjaaDoorOpRight
namespace Go.Proofs.YtfahcpncofjnjaaDoor
open Go.RowKit

set_option maxRecDepth 100000 in
set_option maxHeartbeats 8000000 in
theorem instrs_law (c a : Int) (A : Option Addr) (n cp : Nat) (l : List Int) (h0 : -9223372036854775808 ≤ a) (h1 : a ≤ 9223372036854775807) (hn : n ≤ 9223372036854775807) (w : World) (h : Laid w) (hr0 : Rd w (fun _ => False) 1 A n (l.map (Value.int .i64))) :
    Calls Tryd.prog 6 #[.int .i64 c, .int .i64 a, .slice A n cp] w (Gives w (.bool true)) := by
  have hr := hr0.old
  obtain ⟨wA, hwA⟩ : ∃ wA, wA = w.alloc (.cells #[.slice A n cp] 37) := ⟨_, rfl⟩
  have hA : Below w.heap.size w wA := by rw [hwA]; exact (Below.refl _ _).alloc (Nat.le_refl _) _
  have kA : Blk wA w.heap.size 37 #[.slice A n cp] := by rw [hwA]; exact Blk.new _ _ _
  have HLA := hide (h.below hA (Nat.le_refl _))
  have HA := hide hA
  have HKA := hide kA
  clear hA kA h
  go_enter Tryd.func6, Tryd.ntmps6
  go_wp2_with fail
  rw [← hwA]
  clear hwA
  refine (head_any _ HLA.out).mono ?_
  rintro e w1 ⟨rfl, hb1⟩
  have HB1 := hide (HA.out.trans (hb1.mono HA.out.size))
  have HL1 := hide (HLA.out.below hb1 (Nat.le_refl _))
  have K5 := hide (HKA.out.below hb1 HKA.out.lt)
  have q5 : w1.cell? ⟨w.heap.size, 0, none⟩ = some (.slice A n cp) := K5.out.cell 0
  clear hb1 HA HKA HLA
  by_cases h10 : 10 < n
  · go_wp2_with fail
    go_ret
    exact ⟨rfl, HB1.out⟩
  · go_wp2_with fail
    obtain ⟨w2, hw2⟩ : ∃ w2, w2 = (w1.alloc (.cells #[.int .i64 c, .int .i64 a] 26)).alloc (.cells #[S kindsL] 9) := ⟨_, rfl⟩
    have e2 : (w1.alloc (.cells #[.int .i64 c, .int .i64 a] 26)).alloc (.cells #[S kindsL] 9) = w2 := hw2.symm
    have b2 : Below w1.heap.size w1 w2 := by rw [hw2]; exact ((Below.refl _ _).alloc (Nat.le_refl _) _).alloc (by simp) _
    have k7 : Blk w2 w1.heap.size 26 #[.int .i64 c, .int .i64 a] := by rw [hw2]; exact (Blk.new _ _ _).alloc _
    have k8 : Blk w2 (w1.heap.size + 1) 9 #[S kindsL] := by
      rw [hw2, show w1.heap.size + 1 = (w1.alloc (.cells #[.int .i64 c, .int .i64 a] 26)).heap.size by simp]
      exact Blk.new _ _ _
    have k5 : Blk w2 w.heap.size 37 #[.slice A n cp] := K5.out.below b2 K5.out.lt
    have HL2 := hide (HL1.out.below b2 (Nat.le_refl _))
    have HB2 := hide (HB1.out.trans (b2.mono HB1.out.size))
    have hr2 := hr.below HB2.out
    have K7 := hide k7
    have d0 : w2.cell? ⟨w1.heap.size, 0, none⟩ = some (.int .i64 c) := k7.cell 0
    have d1 : w2.cell? ⟨w1.heap.size, 1, none⟩ = some (.int .i64 a) := k7.cell 1
    have hpk : kn c = false → pl c = 0 := pl_kn
    have HK := hide (known_any c w2)
    have HN := hide (name_any c w2 HL2.out)
    have HP := hide (pool_any c w2 HL2.out)
    have HCL0 : ∀ w', Below w2.heap.size w2 w' → Calls Tryd.prog 16 #[.int .i32 (pl c), .pointer (some ⟨w1.heap.size + 1, 0, none⟩), .pointer (some ⟨w.heap.size, 0, none⟩)] w' fun e w'' => e = .returned (.int .i64 (ofv kindsL l (pl c))) ∧ w'' = w' := fun w' hb =>
      of_any (pl c) (w1.heap.size + 1) w.heap.size A n cp l kindsL w' (k8.below hb k8.lt) (k5.below hb k5.lt) (hr2.below (hb.mono HB2.out.size)) (by decide)
    have HRT0 : ∀ w', Below w2.heap.size w2 w' → Calls Tryd.prog 18 #[.agg #[.int .i64 c, .int .i64 a], .func (.func 16) #[] #[.pointer (some ⟨w1.heap.size + 1, 0, none⟩), .pointer (some ⟨w.heap.size, 0, none⟩)]] w' (Gives w' (.bool (rt c a (ofv kindsL l (pl c))))) := fun w' hb =>
      right_any c a _ _ _ w' (HL2.out.below hb (Nat.le_refl _)) (fun w'' hb2 => HCL0 w'' (hb.trans (hb2.mono hb.size)))
    have HTX0 : ∀ w', Below w2.heap.size w2 w' → Calls Tryd.prog 9 #[.agg #[.int .i64 c, .int .i64 a]] w' (Gives w' (S (tx c a))) := fun w' hb => text_any c a h0 h1 w' (HL2.out.below hb (Nat.le_refl _))
    obtain ⟨V, hV⟩ : ∃ V, V = ofv kindsL l (pl c) := ⟨_, rfl⟩
    rw [← hV] at HCL0 HRT0
    obtain ⟨R, hR⟩ : ∃ R, R = rt c a V := ⟨_, rfl⟩
    rw [← hR] at HRT0
    obtain ⟨X, hX⟩ : ∃ X, X = tx c a := ⟨_, rfl⟩
    rw [← hX] at HTX0
    unfold rt at hR
    unfold tx at hX
    obtain ⟨kk, hkk⟩ : ∃ kk, kk = kn c := ⟨_, rfl⟩
    rw [← hkk] at hR HK hpk
    obtain ⟨p, hp⟩ : ∃ p, p = pl c := ⟨_, rfl⟩
    rw [← hp] at hR hX HP HCL0 hpk
    obtain ⟨N, hN⟩ : ∃ N, N = nm c := ⟨_, rfl⟩
    have kN := nm_short c
    rw [← hN] at hX HN kN
    have kI := Lib.itoa_length_le a h0 h1
    have m1 : ¬ 9223372036854775807 < N.length + 1 := by omega
    have m2 : ¬ 9223372036854775807 < N.length + 1 + (Lib.itoa a).length := by omega
    have HCL := hide HCL0
    have HRT := hide HRT0
    have HTX := hide HTX0
    clear hV hkk hp hN HCL0 HRT0 HTX0 k5 k7 k8 b2 hw2 hr hr0 hr2 HL1 q5
    unfold kindsL at e2
    rw [e2]
    clear e2
    refine HK.out.mono ?_
    rintro e w' ⟨rfl, hw'⟩
    subst w'
    go_wp2_with fail
    refine HN.out.mono ?_
    rintro e w' ⟨rfl, hw'⟩
    subst w'
    go_wp2_with fail
    refine HP.out.mono ?_
    rintro e w' ⟨rfl, hw'⟩
    subst w'
    clear HK HN HP
    obtain hh | ⟨hh, hz⟩ | ⟨hh, hz, hn0⟩ | ⟨hh, hz, hn0⟩ : kk = false ∨ (kk = true ∧ (p == 0) = true) ∨ (kk = true ∧ (p == 0) = false ∧ decide (0 ≤ a) = false) ∨ (kk = true ∧ (p == 0) = false ∧ decide (0 ≤ a) = true) := by
      cases kk <;> cases (p == 0) <;> cases decide (0 ≤ a) <;> simp
    all_goals subst hh
    · -- no code
      obtain rfl : p = 0 := hpk rfl
      have HX : Hid (X = N) := hide (by rw [hX]; rfl)
      have HRR : Hid (R = false) := hide (by rw [hR]; rfl)
      rw [HX.out] at HTX
      rw [HRR.out] at HRT
      clear hX hR hpk
      go_wp2_with fail
      refine (HRT.out _ (Below.refl w2.heap.size w2)).mono ?_
      rintro e w5 ⟨rfl, hb5⟩
      have HB5 := hide (HB2.out.trans (hb5.mono HB2.out.size))
      have HS5 := hide ((Below.refl w2.heap.size w2).trans (hb5.mono (Below.refl w2.heap.size w2).size))
      have z0 : w5.cell? ⟨w1.heap.size, 0, none⟩ = some (.int .i64 c) := (K7.out.below HS5.out K7.out.lt).cell 0
      have z1 : w5.cell? ⟨w1.heap.size, 1, none⟩ = some (.int .i64 a) := (K7.out.below HS5.out K7.out.lt).cell 1
      clear hb5
      go_wp2_with fail
      refine (HTX.out _ HS5.out).mono ?_
      rintro e w6 ⟨rfl, hb6⟩
      have HB6 := hide (HB5.out.trans (hb6.mono HB5.out.size))
      clear hb6 z0 z1
      go_wp2_with fail
      go_ret
      exact ⟨by first | rfl | simp, HB6.out⟩
    · -- a code without a pool
      obtain rfl : p = 0 := by simpa using hz
      have HX : Hid (X = N) := hide (by rw [hX]; rfl)
      have HRR : Hid (R = (a == 0)) := hide (by rw [hR]; rfl)
      rw [HX.out] at HTX
      rw [HRR.out] at HRT
      clear hX hR hpk hz
      go_wp2_with fail
      refine (HRT.out _ (Below.refl w2.heap.size w2)).mono ?_
      rintro e w5 ⟨rfl, hb5⟩
      have HB5 := hide (HB2.out.trans (hb5.mono HB2.out.size))
      have HS5 := hide ((Below.refl w2.heap.size w2).trans (hb5.mono (Below.refl w2.heap.size w2).size))
      have z0 : w5.cell? ⟨w1.heap.size, 0, none⟩ = some (.int .i64 c) := (K7.out.below HS5.out K7.out.lt).cell 0
      have z1 : w5.cell? ⟨w1.heap.size, 1, none⟩ = some (.int .i64 a) := (K7.out.below HS5.out K7.out.lt).cell 1
      clear hb5
      go_wp2_with fail
      refine (HTX.out _ HS5.out).mono ?_
      rintro e w6 ⟨rfl, hb6⟩
      have HB6 := hide (HB5.out.trans (hb6.mono HB5.out.size))
      clear hb6 z0 z1
      go_wp2_with fail
      go_ret
      exact ⟨by first | rfl | simp, HB6.out⟩
    · -- a number below nought
      have HX : Hid (X = N ++ [32] ++ Lib.itoa a) := hide (by rw [hX, hz]; rfl)
      have HRR : Hid (R = false) := hide (by rw [hR, hz, hn0]; rfl)
      rw [HX.out] at HTX
      rw [HRR.out] at HRT
      clear hX hR hpk
      go_wp2_with fail
      refine (itoa_gives a h0 h1 _ HL2.out).mono ?_
      rintro e w4 ⟨rfl, hb4⟩
      have HB4 := hide (HB2.out.trans (hb4.mono HB2.out.size))
      have HS4 := hide hb4
      have y0 : w4.cell? ⟨w1.heap.size, 0, none⟩ = some (.int .i64 c) := (K7.out.below hb4 K7.out.lt).cell 0
      have y1 : w4.cell? ⟨w1.heap.size, 1, none⟩ = some (.int .i64 a) := (K7.out.below hb4 K7.out.lt).cell 1
      clear hb4
      go_wp2_with fail
      refine (HRT.out _ HS4.out).mono ?_
      rintro e w5 ⟨rfl, hb5⟩
      have HB5 := hide (HB4.out.trans (hb5.mono HB4.out.size))
      have HS5 := hide (HS4.out.trans (hb5.mono HS4.out.size))
      have z0 : w5.cell? ⟨w1.heap.size, 0, none⟩ = some (.int .i64 c) := (K7.out.below HS5.out K7.out.lt).cell 0
      have z1 : w5.cell? ⟨w1.heap.size, 1, none⟩ = some (.int .i64 a) := (K7.out.below HS5.out K7.out.lt).cell 1
      clear hb5
      go_wp2_with fail
      refine (HTX.out _ HS5.out).mono ?_
      rintro e w6 ⟨rfl, hb6⟩
      have HB6 := hide (HB5.out.trans (hb6.mono HB5.out.size))
      clear hb6 z0 z1
      go_wp2_with fail
      go_ret
      exact ⟨by first | rfl | simp, HB6.out⟩
    · -- a number from nought on
      have HX : Hid (X = N ++ [32] ++ Lib.itoa a) := hide (by rw [hX, hz]; rfl)
      have HRR : Hid (R = decide (a < V)) := hide (by rw [hR, hz, hn0]; simp)
      rw [HX.out] at HTX
      rw [HRR.out] at HRT
      clear hX hR hpk
      go_wp2_with fail
      refine (HCL.out _ (Below.refl _ _)).mono ?_
      rintro e w' ⟨rfl, hw'⟩
      subst w'
      go_wp2_with fail
      refine (itoa_gives a h0 h1 _ HL2.out).mono ?_
      rintro e w4 ⟨rfl, hb4⟩
      have HB4 := hide (HB2.out.trans (hb4.mono HB2.out.size))
      have HS4 := hide hb4
      have y0 : w4.cell? ⟨w1.heap.size, 0, none⟩ = some (.int .i64 c) := (K7.out.below hb4 K7.out.lt).cell 0
      have y1 : w4.cell? ⟨w1.heap.size, 1, none⟩ = some (.int .i64 a) := (K7.out.below hb4 K7.out.lt).cell 1
      clear hb4
      go_wp2_with fail
      refine (HRT.out _ HS4.out).mono ?_
      rintro e w5 ⟨rfl, hb5⟩
      have HB5 := hide (HB4.out.trans (hb5.mono HB4.out.size))
      have HS5 := hide (HS4.out.trans (hb5.mono HS4.out.size))
      have z0 : w5.cell? ⟨w1.heap.size, 0, none⟩ = some (.int .i64 c) := (K7.out.below HS5.out K7.out.lt).cell 0
      have z1 : w5.cell? ⟨w1.heap.size, 1, none⟩ = some (.int .i64 a) := (K7.out.below HS5.out K7.out.lt).cell 1
      clear hb5
      go_wp2_with fail
      refine (HTX.out _ HS5.out).mono ?_
      rintro e w6 ⟨rfl, hb6⟩
      have HB6 := hide (HB5.out.trans (hb6.mono HB5.out.size))
      clear hb6 z0 z1
      go_wp2_with fail
      go_ret
      exact ⟨by first | rfl | simp, HB6.out⟩
end Go.Proofs.YtfahcpncofjnjaaDoor
