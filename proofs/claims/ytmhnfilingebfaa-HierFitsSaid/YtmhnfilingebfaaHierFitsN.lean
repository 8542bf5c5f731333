/- HierFits, walked where the first type's name is 'null': it returns true. -/
import Derived.Test.YtmhnfilingebfaaHierFitsH
import Derived.Deep.RegionHeld3
import Derived.Deep.DeepCutAuto
namespace Go.Proofs.Ytmhnfilingebfaa
open Go.RowKit

set_option maxRecDepth 100000 in
set_option maxHeartbeats 16000000 in
theorem fits_law_null (A : Option Addr) (n c : Nat) (T : List Fc) (ta : Bool) (un : List UInt8) (ua : Bool) (w : World) (h : FcsAt w (fun k => w.heap.size ≤ k) A n T) (hun : short un) :
    Calls Try.prog 5 #[.slice A n c, .agg #[S [110, 117, 108, 108], .bool ta], .agg #[S un, .bool ua]] w (Gives w (.bool true)) := by
  have HF := hide h
  clear h
  obtain ⟨wb, hwb⟩ : ∃ wb, wb = (w.alloc (.cells #[S [110, 117, 108, 108], .bool ta] 45)).alloc (.cells #[S un, .bool ua] 45) := ⟨_, rfl⟩
  have hb0 : Below w.heap.size w wb := by rw [hwb]; exact ((Below.refl _ _).alloc (Nat.le_refl _) _).alloc (by simp) _
  have ha1 : Blk wb w.heap.size 45 #[S [110, 117, 108, 108], .bool ta] := by rw [hwb]; exact (Blk.new _ _ _).alloc _
  have ha2 : Blk wb (w.heap.size + 1) 45 #[S un, .bool ua] := by
    rw [hwb]
    have := Blk.new (w.alloc (.cells #[S [110, 117, 108, 108], .bool ta] 45)) 45 #[S un, .bool ua]
    rwa [World.size_alloc] at this
  go_enter Try.func5, Try.ntmps5
  go_wp2_with fail
  rw [← hwb]
  clear hwb
  refine (head_any wb).mono ?_
  rintro e w1 ⟨rfl, hb1⟩
  have hB1 := hb0.trans (hb1.mono hb0.size)
  have hA1 := ha1.below hb1 ha1.lt
  have hA2 := ha2.below hb1 ha2.lt
  have hl1 := ha2.lt
  have hl2 := hb1.size
  clear ha1 ha2 hb0 hb1
  go_wp2_with fail
  refine (fewlist_any A n c T w1 ((HF.out.below hB1).weak (fun k hk => by have := hB1.size; omega))).mono ?_
  rintro e w2 ⟨R, rfl, hb2, hR⟩
  have HR := hide hR
  have hB2 := hB1.trans (hb2.mono hB1.size)
  have hA1 := hA1.below hb2 hA1.lt
  have hA2 := hA2.below hb2 hA2.lt
  have c0 : w2.cell? ⟨w.heap.size, 0, none⟩ = some (S [110, 117, 108, 108]) := hA1.cell 0
  have c2 : w2.cell? ⟨w.heap.size + 1, 0, none⟩ = some (S un) := hA2.cell 0
  have HA1 := hide hA1
  have HA2 := hide hA2
  clear hR hb2 hA1 hA2
  cases R with
  | false =>
    go_wp2_with fail
    go_ret
    exact ⟨rfl, hB2⟩
  | true =>
    have hR8 := HR.out rfl
    clear HR
    obtain ⟨hn8, _⟩ := hR8
    have hTl : T.length ≤ 8 := by have := HF.out.2.1; omega
    have hsu : ∀ f ∈ T, short f.su := fun f hf => (HF.out.2.2.2 f hf).2.2.2
    have HS := hide hsu
    clear hsu
    by_cases g2 : 60 < (un.length : Int)
    · have d : decide (60 < (un.length : Int)) = true := by simpa using g2
      go_wp2_with fail
      go_ret
      exact ⟨rfl, hB2⟩
    have d2 : decide (60 < (un.length : Int)) = false := by simpa using g2
    go_wp2_with fail
    clear  d2 g2 c0 c2
    refine (new_any A n c T w2 ((HF.out.below hB2).weak (fun k hk => by have := hB2.size; omega)) (by omega)).mono ?_
    rintro e w3 ⟨g, m, s, rfl, ht, hb3, hg, hm, hs⟩
    have hB3 := hB2.trans (hb3.mono hB2.size)
    have hsw := hB2.size
    have hl3 := HA2.out.lt
    have HA1 := hide (HA1.out.below hb3 HA1.out.lt)
    have HA2 := hide (HA2.out.below hb3 HA2.out.lt)
    have HT3 := hide ht
    have c0 : w3.cell? ⟨w.heap.size, 0, none⟩ = some (S [110, 117, 108, 108]) := HA1.out.cell 0
    clear ht hb3 hB2
    have hu := up8_any A n c T [110, 117, 108, 108] w3 ((HF.out.below hB3).weak (fun k hk => by have := hB3.size; omega)) hTl
    have hft := goes_fits w g m s T [110, 117, 108, 108] ta un ua hTl HS.out (by simp [short]) (by omega)
    obtain ⟨W, hW⟩ : ∃ W, W = fitsT T ⟨[110, 117, 108, 108], ta⟩ ⟨un, ua⟩ := ⟨_, rfl⟩
    rw [← hW] at hft
    have hW2 := fits_want T ⟨[110, 117, 108, 108], ta⟩ ⟨un, ua⟩
    rw [← hW] at hW2
    have hle := up_le T 20 [] [110, 117, 108, 108]
    obtain ⟨U, hU⟩ : ∃ U, U = up T 20 [] [110, 117, 108, 108] := ⟨_, rfl⟩
    simp only at hW2
    rw [← hU] at hu hW2 hle
    obtain ⟨l, q⟩ := U
    simp only [List.length_nil, Nat.zero_add] at hle hW2
    have HU := hide hu
    have HFT := hide hft
    have HW := hide hW2
    clear hU hu hft hW hW2
    go_wp2_with fail
    refine HU.out.mono ?_
    rintro e w4 ⟨A1, cx, rfl, hb4, hr4⟩
    have hB4 := hB3.trans (hb4.mono hB3.size)
    have hI4 : Iv w w4 g m s T 0 := ⟨HT3.out.below hb4, hB4⟩
    have HA1 := hide (HA1.out.below hb4 HA1.out.lt)
    have HA2 := hide (HA2.out.below hb4 HA2.out.lt)
    have HR4 := hide hr4
    have c0 : w4.cell? ⟨w.heap.size, 0, none⟩ = some (S [110, 117, 108, 108]) := HA1.out.cell 0
    have c1 : w4.cell? ⟨w.heap.size, 1, none⟩ = some (.bool ta) := HA1.out.cell 1
    have c2 : w4.cell? ⟨w.heap.size + 1, 0, none⟩ = some (S un) := HA2.out.cell 0
    have c3 : w4.cell? ⟨w.heap.size + 1, 1, none⟩ = some (.bool ua) := HA2.out.cell 1
    clear hb4 hr4 hB3 HA1 HA2 HT3
    go_upto_region 8 with fail
    go_cut [11] (fun v wx => v = .bool W ∧ wx = w4)
    case first =>
      by_cases e0 : (⟨[110, 117, 108, 108], ta⟩ : Ty) = ⟨un, ua⟩
      · have HWt : Hid (W = true) := hide (by rw [HW.out, decide_eq_true e0]; rfl)
        injection e0 with e1 e2
        subst e1 e2
        clear HW
        go_wp2_with fail
        go_meet
        exact ⟨by rw [HWt.out] <;> rfl, rfl⟩
      · have HW1 : Hid (W = (((([110, 117, 108, 108] : List UInt8) == nNull) && !ta && (ua || great un || (un == nNull))) || (great [110, 117, 108, 108] && !ta && great un && !ua && decide (un ∈ l)))) := hide (by
          rw [HW.out, decide_eq_false e0]; simp)
        clear HW
        obtain ⟨G1, hG1⟩ : ∃ G1, G1 = great [110, 117, 108, 108] := ⟨_, rfl⟩
        obtain ⟨G2, hG2⟩ : ∃ G2, G2 = great un := ⟨_, rfl⟩
        obtain ⟨B, hB⟩ : ∃ B, B = decide (un ∈ l) := ⟨_, rfl⟩
        have HN1 : Hid (([110, 117, 108, 108] : List UInt8) = nNull → G1 = false) := hide (fun e => by rw [hG1, e]; decide)
        rw [← hG1, ← hG2, ← hB] at HW1
        have hg1 : ∀ w, Calls Try.prog 20 #[S [110, 117, 108, 108]] w (fun e w' => e = .returned (.bool G1) ∧ w = w') := fun w => (great_any [110, 117, 108, 108] w).mono fun _ _ ⟨a, b⟩ => ⟨by rw [hG1]; exact a, b.symm⟩
        have hg2 : ∀ w, Calls Try.prog 20 #[S un] w (fun e w' => e = .returned (.bool G2) ∧ w = w') := fun w => (great_any un w).mono fun _ _ ⟨a, b⟩ => ⟨by rw [hG2]; exact a, b.symm⟩
        have hin : Calls Try.prog 16 #[.slice A1 l.length cx, S un] w4 (fun e w' => e = .returned (.bool (decide (un ∈ l))) ∧ w4 = w') := (in_any A1 l.length cx l un w4 HR4.out (by omega)).mono fun _ _ ⟨a, b⟩ => ⟨a, b.symm⟩
        rw [← hB] at hin
        have HG1 := hide hg1
        have HG2 := hide hg2
        have HIN := hide hin
        clear hg1 hg2 hin hG1 hG2 hB
        have hG1f := HN1.out rfl
        subst hG1f
        cases ta with
        | true =>
          by_cases e : ([110, 117, 108, 108] : List UInt8) = un
          · cases ua with
            | true => exact absurd (by rw [e]) e0
            | false =>
              subst e
              have HWf : Hid (W = false) := hide (by rw [HW1.out]; simp [nNull])
              clear HW1
              go_wp2_with (first | (go_at_call_of 20 (S [110, 117, 108, 108]); refine (HG1.out _).mono ?_; rintro e w' ⟨rfl, rfl⟩) | (go_at_call_of 20 (S un); refine (HG2.out _).mono ?_; rintro e w' ⟨rfl, rfl⟩) | (go_at_call 16; refine HIN.out.mono ?_; rintro e w' ⟨rfl, rfl⟩))
              go_meet
              exact ⟨by rw [HWf.out] <;> rfl, rfl⟩
          · skip
            have HWf : Hid (W = false) := hide (by rw [HW1.out]; simp [nNull])
            clear HW1
            go_wp2_with (first | (go_at_call_of 20 (S [110, 117, 108, 108]); refine (HG1.out _).mono ?_; rintro e w' ⟨rfl, rfl⟩) | (go_at_call_of 20 (S un); refine (HG2.out _).mono ?_; rintro e w' ⟨rfl, rfl⟩) | (go_at_call 16; refine HIN.out.mono ?_; rintro e w' ⟨rfl, rfl⟩))
            go_meet
            exact ⟨by rw [HWf.out] <;> rfl, rfl⟩
        | false =>
          by_cases e : ([110, 117, 108, 108] : List UInt8) = un
          · cases ua with
            | false => exact absurd (by rw [e]) e0
            | true =>
              subst e
              have HWf : Hid (W = true) := hide (by rw [HW1.out]; simp [nNull])
              clear HW1
              go_wp2_with (first | (go_at_call_of 20 (S [110, 117, 108, 108]); refine (HG1.out _).mono ?_; rintro e w' ⟨rfl, rfl⟩) | (go_at_call_of 20 (S un); refine (HG2.out _).mono ?_; rintro e w' ⟨rfl, rfl⟩) | (go_at_call 16; refine HIN.out.mono ?_; rintro e w' ⟨rfl, rfl⟩))
              go_meet
              exact ⟨by rw [HWf.out] <;> rfl, rfl⟩
          · have d2 : (un == [110, 117, 108, 108]) = false := by simpa using fun h => e h.symm
            cases ua with
            | true =>
              have HWf : Hid (W = true) := hide (by rw [HW1.out]; simp [nNull])
              clear HW1
              go_wp2_with (first | (go_at_call_of 20 (S [110, 117, 108, 108]); refine (HG1.out _).mono ?_; rintro e w' ⟨rfl, rfl⟩) | (go_at_call_of 20 (S un); refine (HG2.out _).mono ?_; rintro e w' ⟨rfl, rfl⟩) | (go_at_call 16; refine HIN.out.mono ?_; rintro e w' ⟨rfl, rfl⟩))
              go_meet
              exact ⟨by rw [HWf.out] <;> rfl, rfl⟩
            | false =>
              cases G2 with
              | true =>
                have HWf : Hid (W = true) := hide (by rw [HW1.out]; simp [nNull])
                clear HW1
                go_wp2_with (first | (go_at_call_of 20 (S [110, 117, 108, 108]); refine (HG1.out _).mono ?_; rintro e w' ⟨rfl, rfl⟩) | (go_at_call_of 20 (S un); refine (HG2.out _).mono ?_; rintro e w' ⟨rfl, rfl⟩) | (go_at_call 16; refine HIN.out.mono ?_; rintro e w' ⟨rfl, rfl⟩))
                go_meet
                exact ⟨by rw [HWf.out] <;> rfl, rfl⟩
              | false =>
                have HWf : Hid (W = false) := hide (by rw [HW1.out]; simp [nNull, d2])
                clear HW1
                go_wp2_with (first | (go_at_call_of 20 (S [110, 117, 108, 108]); refine (HG1.out _).mono ?_; rintro e w' ⟨rfl, rfl⟩) | (go_at_call_of 20 (S un); refine (HG2.out _).mono ?_; rintro e w' ⟨rfl, rfl⟩) | (go_at_call 16; refine HIN.out.mono ?_; rintro e w' ⟨rfl, rfl⟩))
                go_meet
                exact ⟨by rw [HWf.out] <;> rfl, rfl⟩
    case rest =>
      obtain ⟨hv, hw⟩ := hcut
      obtain rfl := hw.symm
      subst hv
      clear HW HU HR4
      have hs0 : w.heap.size ≤ s := by omega
      have hs1 : w.heap.size + 1 < s := by omega
      have hka := goes_known w g m s T [110, 117, 108, 108] ta (by simp [short]) hs0
      have hkab := goes_known2 w g m s T [110, 117, 108, 108] ta un ua (by simp [short]) hun hs0
      have hk0 := goes_known0 w g m s T hs0
      have hpa := goes_page w g m s T A n c [110, 117, 108, 108] ta HF.out
      have hpb := goes_page w g m s T A n c un ua HF.out
      obtain ⟨Ka, hKa⟩ : ∃ Ka, Ka = knownT T ⟨[110, 117, 108, 108], ta⟩ := ⟨_, rfl⟩
      obtain ⟨Kb, hKb⟩ : ∃ Kb, Kb = knownT T ⟨un, ua⟩ := ⟨_, rfl⟩
      rw [← hKa] at hka hkab hpa
      rw [← hKb] at hkab hpb
      have HKA := hide hka
      have HK0 := hide hk0
      have HPA := hide hpa
      have HPB := hide hpb
      have i4 := hI4.drew
      have hS : w4.cell? ⟨w.heap.size, 0, none⟩ = some (S [110, 117, 108, 108]) ∧ w4.cell? ⟨w.heap.size, 1, none⟩ = some (.bool ta) ∧ w4.cell? ⟨w.heap.size + 1, 0, none⟩ = some (S un) ∧ w4.cell? ⟨w.heap.size + 1, 1, none⟩ = some (.bool ua) := ⟨c0, c1, c2, c3⟩
      clear hka hk0 hpa hpb hKa hKb hs0 hI4 c0 c1 c2 c3 hB4
      cases Ka with
      | true =>
        simp only [Bool.true_and] at hkab
        have HKAB := hide hkab
        clear hkab
        go_wp2_with fail
        first | (go_region_held3 (fun w' => w'.cell? ⟨w.heap.size, 0, none⟩ = some (S [110, 117, 108, 108]) ∧ w'.cell? ⟨w.heap.size, 1, none⟩ = some (.bool ta) ∧ w'.cell? ⟨w.heap.size + 1, 0, none⟩ = some (S un) ∧ w'.cell? ⟨w.heap.size + 1, 1, none⟩ = some (.bool ua))
          (first | exact hS | assumption | exact loc_alloc _ (by assumption) | exact loc_keep k5 hs1 (by assumption) | exact loc_keep k6 hs1 (by assumption) | exact loc_keep k7 hs1 (by assumption) | exact loc_keep k8 hs1 (by assumption) | exact loc_keep k9 hs1 (by assumption) | exact loc_keep k10 hs1 (by assumption) | exact loc_keep k11 hs1 (by assumption) | fail)
          (first
            | (go_at_call 21; (with_reducible refine (HFT.out _ _ i4 ?_).mono ?_); omega; rintro e w5 ⟨rfl, i5, k5⟩)
            | (go_at_call 22; (with_reducible refine (HKA.out _ _ i5 ?_).mono ?_); omega; rintro e w6 ⟨rfl, i6, k6⟩)
            | (go_at_call 23; (with_reducible refine (HPA.out _ _ i6).mono ?_); rintro e w7 ⟨rfl, i7, k7⟩)
            | (go_at_call 22; (with_reducible refine (HKAB.out _ _ i7 ?_).mono ?_); omega; rintro e w8 ⟨rfl, i8, k8⟩)
            | (go_at_call 23; (with_reducible refine (HPA.out _ _ i8).mono ?_); rintro e w9 ⟨rfl, i9, k9⟩)
            | (go_at_call 23; (with_reducible refine (HPB.out _ _ i9).mono ?_); rintro e w10 ⟨rfl, i10, k10⟩)
            | (go_at_call 22; (with_reducible refine (HK0.out _ _ i10 ?_).mono ?_); omega; rintro e w11 ⟨rfl, i11, k11⟩)
            | fail)) | fail
        go_wp2
        go_ret
        exact ⟨rfl, i11.bel⟩
      | false =>
        simp only [Bool.false_and] at hkab
        have HKAB := hide hkab
        clear hkab
        go_wp2_with fail
        refine wp_region_noPanic ?_
        refine wp_region_held_drew (S := fun w' => w'.cell? ⟨w.heap.size, 0, none⟩ = some (S [110, 117, 108, 108]) ∧ w'.cell? ⟨w.heap.size, 1, none⟩ = some (.bool ta) ∧ w'.cell? ⟨w.heap.size + 1, 0, none⟩ = some (S un) ∧ w'.cell? ⟨w.heap.size + 1, 1, none⟩ = some (.bool ua)) (by kernel_rfl) hS (fun hHeld => ?_)
        refine wpAnyH_take (i := 0) (v := ?_) (by simp only [List.getElem?_toArray, List.getElem?_cons_zero]; rfl) (by kernel_rfl) (by kernel_rfl) (by kernel_rfl) (fun _ _ _ h => h) (Or.inl ⟨by rfl, ?_⟩) hHeld ?_
        rotate_left
        · (intro w hSw; (try dsimp only at hSw); go_simp; try with_reducible rfl)
        try simp only [Act.put, List.setIfInBounds_toArray, List.set_cons_zero, List.set_cons_succ]
        refine wpAnyH_take (i := 1) (v := ?_) (by simp only [List.getElem?_toArray, List.getElem?_cons_zero, List.getElem?_cons_succ]; rfl) (by kernel_rfl) (by kernel_rfl) (by kernel_rfl) (fun _ _ _ h => h) (Or.inl ⟨by rfl, ?_⟩) hHeld ?_
        rotate_left
        · (intro w hSw; (try dsimp only at hSw); go_simp; try with_reducible rfl)
        try simp only [Act.put, List.setIfInBounds_toArray, List.set_cons_zero, List.set_cons_succ]
        refine wpAnyH_take (i := 2) (v := ?_) (by simp only [List.getElem?_toArray, List.getElem?_cons_zero, List.getElem?_cons_succ]; rfl) (by kernel_rfl) (by kernel_rfl) (by kernel_rfl) (fun _ _ _ h => h) (Or.inl ⟨by rfl, ?_⟩) hHeld ?_
        rotate_left
        · (intro w hSw; (try dsimp only at hSw); go_simp; try with_reducible rfl)
        try simp only [Act.put, List.setIfInBounds_toArray, List.set_cons_zero, List.set_cons_succ]
        refine wpAnyH_take (i := 4) (v := ?_) (by simp only [List.getElem?_toArray, List.getElem?_cons_zero, List.getElem?_cons_succ]; rfl) (by kernel_rfl) (by kernel_rfl) (by kernel_rfl) (fun _ _ _ h => h) (Or.inl ⟨by rfl, ?_⟩) hHeld ?_
        rotate_left
        · (intro w hSw; (try dsimp only at hSw); go_simp; try with_reducible rfl)
        try simp only [Act.put, List.setIfInBounds_toArray, List.set_cons_zero, List.set_cons_succ]
        refine wpAnyH_ready (rs := [3]) (by kernel_rfl) (by simp) ?_
        refine AllReadyH.cons (by simp only [List.getElem?_toArray, List.getElem?_cons_zero, List.getElem?_cons_succ]; rfl) (fun K hK => ?_) AllReadyH.nil
        go_simp
        go_at_call 21
        refine (HFT.out _ _ i4 (by omega)).mono ?_
        rintro e w5 ⟨rfl, i5, k5⟩
        go_wp2_with fail
        refine hK.out _ _ (loc_keep k5 hs1 hHeld) (fun hHeld => ?_)
        clear hK K
        refine wpAnyH_take (i := 5) (v := ?_) (by simp only [List.getElem?_toArray, List.getElem?_cons_zero, List.getElem?_cons_succ]; rfl) (by kernel_rfl) (by kernel_rfl) (by kernel_rfl) (fun _ _ _ h => h) (Or.inl ⟨by rfl, ?_⟩) hHeld ?_
        rotate_left
        · (intro w hSw; (try dsimp only at hSw); go_simp; try with_reducible rfl)
        try simp only [Act.put, List.setIfInBounds_toArray, List.set_cons_zero, List.set_cons_succ]
        refine wpAnyH_take (i := 6) (v := ?_) (by simp only [List.getElem?_toArray, List.getElem?_cons_zero, List.getElem?_cons_succ]; rfl) (by kernel_rfl) (by kernel_rfl) (by kernel_rfl) (fun _ _ _ h => h) (Or.inl ⟨by rfl, ?_⟩) hHeld ?_
        rotate_left
        · (intro w hSw; (try dsimp only at hSw); go_simp; try with_reducible rfl)
        try simp only [Act.put, List.setIfInBounds_toArray, List.set_cons_zero, List.set_cons_succ]
        refine wpAnyH_take (i := 7) (v := ?_) (by simp only [List.getElem?_toArray, List.getElem?_cons_zero, List.getElem?_cons_succ]; rfl) (by kernel_rfl) (by kernel_rfl) (by kernel_rfl) (fun _ _ _ h => h) (Or.inl ⟨by rfl, ?_⟩) hHeld ?_
        rotate_left
        · (intro w hSw; (try dsimp only at hSw); go_simp; try with_reducible rfl)
        try simp only [Act.put, List.setIfInBounds_toArray, List.set_cons_zero, List.set_cons_succ]
        refine wpAnyH_take (i := 8) (v := ?_) (by simp only [List.getElem?_toArray, List.getElem?_cons_zero, List.getElem?_cons_succ]; rfl) (by kernel_rfl) (by kernel_rfl) (by kernel_rfl) (fun _ _ _ h => h) (Or.inl ⟨by rfl, ?_⟩) hHeld ?_
        rotate_left
        · (intro w hSw; (try dsimp only at hSw); go_simp; try with_reducible rfl)
        try simp only [Act.put, List.setIfInBounds_toArray, List.set_cons_zero, List.set_cons_succ]
        refine wpAnyH_take (i := 11) (v := ?_) (by simp only [List.getElem?_toArray, List.getElem?_cons_zero, List.getElem?_cons_succ]; rfl) (by kernel_rfl) (by kernel_rfl) (by kernel_rfl) (fun _ _ _ h => h) (Or.inl ⟨by rfl, ?_⟩) hHeld ?_
        rotate_left
        · (intro w hSw; (try dsimp only at hSw); go_simp; try with_reducible rfl)
        try simp only [Act.put, List.setIfInBounds_toArray, List.set_cons_zero, List.set_cons_succ]
        refine wpAnyH_take (i := 12) (v := ?_) (by simp only [List.getElem?_toArray, List.getElem?_cons_zero, List.getElem?_cons_succ]; rfl) (by kernel_rfl) (by kernel_rfl) (by kernel_rfl) (fun _ _ _ h => h) (Or.inl ⟨by rfl, ?_⟩) hHeld ?_
        rotate_left
        · (intro w hSw; (try dsimp only at hSw); go_simp; try with_reducible rfl)
        try simp only [Act.put, List.setIfInBounds_toArray, List.set_cons_zero, List.set_cons_succ]
        refine wpAnyH_ready (rs := [9]) (by kernel_rfl) (by simp) ?_
        refine AllReadyH.cons (by simp only [List.getElem?_toArray, List.getElem?_cons_zero, List.getElem?_cons_succ]; rfl) (fun K hK => ?_) AllReadyH.nil
        go_simp
        refine hK.out _ _ (loc_alloc _ hHeld) (fun hHeld => ?_)
        clear hK K
        refine wpAnyH_ready (rs := [10]) (by kernel_rfl) (by simp) ?_
        refine AllReadyH.cons (by simp only [List.getElem?_toArray, List.getElem?_cons_zero, List.getElem?_cons_succ]; rfl) (fun K hK => ?_) AllReadyH.nil
        go_simp
        go_at_call 22
        refine (HKA.out _ _ i5 (by omega)).mono ?_
        rintro e w6 ⟨rfl, i6, k6⟩
        go_wp2_with fail
        refine hK.out _ _ (loc_keep k6 hs1 hHeld) (fun hHeld => ?_)
        clear hK K
        refine wpAnyH_ready (rs := [13]) (by kernel_rfl) (by simp) ?_
        refine AllReadyH.cons (by simp only [List.getElem?_toArray, List.getElem?_cons_zero, List.getElem?_cons_succ]; rfl) (fun K hK => ?_) AllReadyH.nil
        go_simp
        go_at_call 23
        refine (HPA.out _ _ i6).mono ?_
        rintro e w7 ⟨rfl, i7, k7⟩
        go_wp2_with fail
        refine hK.out _ _ (loc_keep k7 hs1 hHeld) (fun hHeld => ?_)
        clear hK K
        refine wpAnyH_take (i := 14) (v := ?_) (by simp only [List.getElem?_toArray, List.getElem?_cons_zero, List.getElem?_cons_succ]; rfl) (by kernel_rfl) (by kernel_rfl) (by kernel_rfl) (fun _ _ _ h => h) (Or.inl ⟨by rfl, ?_⟩) hHeld ?_
        rotate_left
        · (intro w hSw; (try dsimp only at hSw); go_simp; try with_reducible rfl)
        try simp only [Act.put, List.setIfInBounds_toArray, List.set_cons_zero, List.set_cons_succ]
        refine wpAnyH_take (i := 15) (v := ?_) (by simp only [List.getElem?_toArray, List.getElem?_cons_zero, List.getElem?_cons_succ]; rfl) (by kernel_rfl) (by kernel_rfl) (by kernel_rfl) (fun _ _ _ h => h) (Or.inl ⟨by rfl, ?_⟩) hHeld ?_
        rotate_left
        · (intro w hSw; (try dsimp only at hSw); go_simp; try with_reducible rfl)
        try simp only [Act.put, List.setIfInBounds_toArray, List.set_cons_zero, List.set_cons_succ]
        refine wpAnyH_take (i := 16) (v := ?_) (by simp only [List.getElem?_toArray, List.getElem?_cons_zero, List.getElem?_cons_succ]; rfl) (by kernel_rfl) (by kernel_rfl) (by kernel_rfl) (fun _ _ _ h => h) (Or.inl ⟨by rfl, ?_⟩) hHeld ?_
        rotate_left
        · (intro w hSw; (try dsimp only at hSw); go_simp; try with_reducible rfl)
        try simp only [Act.put, List.setIfInBounds_toArray, List.set_cons_zero, List.set_cons_succ]
        refine wpAnyH_take (i := 17) (v := ?_) (by simp only [List.getElem?_toArray, List.getElem?_cons_zero, List.getElem?_cons_succ]; rfl) (by kernel_rfl) (by kernel_rfl) (by kernel_rfl) (fun _ _ _ h => h) (Or.inl ⟨by rfl, ?_⟩) hHeld ?_
        rotate_left
        · (intro w hSw; (try dsimp only at hSw); go_simp; try with_reducible rfl)
        try simp only [Act.put, List.setIfInBounds_toArray, List.set_cons_zero, List.set_cons_succ]
        refine wpAnyH_take (i := 18) (v := ?_) (by simp only [List.getElem?_toArray, List.getElem?_cons_zero, List.getElem?_cons_succ]; rfl) (by kernel_rfl) (by kernel_rfl) (by kernel_rfl) (fun _ _ _ h => h) (Or.inl ⟨by rfl, ?_⟩) hHeld ?_
        rotate_left
        · (intro w hSw; (try dsimp only at hSw); go_simp; try with_reducible rfl)
        try simp only [Act.put, List.setIfInBounds_toArray, List.set_cons_zero, List.set_cons_succ]
        refine wpAnyH_take (i := 19) (v := ?_) (by simp only [List.getElem?_toArray, List.getElem?_cons_zero, List.getElem?_cons_succ]; rfl) (by kernel_rfl) (by kernel_rfl) (by kernel_rfl) (fun _ _ _ h => h) (Or.inl ⟨by rfl, ?_⟩) hHeld ?_
        rotate_left
        · (intro w hSw; (try dsimp only at hSw); go_simp; try with_reducible rfl)
        try simp only [Act.put, List.setIfInBounds_toArray, List.set_cons_zero, List.set_cons_succ]
        refine wpAnyH_take (i := 22) (v := ?_) (by simp only [List.getElem?_toArray, List.getElem?_cons_zero, List.getElem?_cons_succ]; rfl) (by kernel_rfl) (by kernel_rfl) (by kernel_rfl) (fun _ _ _ h => h) (Or.inl ⟨by rfl, ?_⟩) hHeld ?_
        rotate_left
        · (intro w hSw; (try dsimp only at hSw); go_simp; try with_reducible rfl)
        try simp only [Act.put, List.setIfInBounds_toArray, List.set_cons_zero, List.set_cons_succ]
        refine wpAnyH_take (i := 23) (v := ?_) (by simp only [List.getElem?_toArray, List.getElem?_cons_zero, List.getElem?_cons_succ]; rfl) (by kernel_rfl) (by kernel_rfl) (by kernel_rfl) (fun _ _ _ h => h) (Or.inl ⟨by rfl, ?_⟩) hHeld ?_
        rotate_left
        · (intro w hSw; (try dsimp only at hSw); go_simp; try with_reducible rfl)
        try simp only [Act.put, List.setIfInBounds_toArray, List.set_cons_zero, List.set_cons_succ]
        refine wpAnyH_ready (rs := [20]) (by kernel_rfl) (by simp) ?_
        refine AllReadyH.cons (by simp only [List.getElem?_toArray, List.getElem?_cons_zero, List.getElem?_cons_succ]; rfl) (fun K hK => ?_) AllReadyH.nil
        go_simp
        refine hK.out _ _ (loc_alloc _ hHeld) (fun hHeld => ?_)
        clear hK K
        refine wpAnyH_ready (rs := [21]) (by kernel_rfl) (by simp) ?_
        refine AllReadyH.cons (by simp only [List.getElem?_toArray, List.getElem?_cons_zero, List.getElem?_cons_succ]; rfl) (fun K hK => ?_) AllReadyH.nil
        go_simp
        go_at_call 22
        refine (HKAB.out _ _ i7 (by omega)).mono ?_
        rintro e w8 ⟨rfl, i8, k8⟩
        go_wp2_with fail
        refine hK.out _ _ (loc_keep k8 hs1 hHeld) (fun hHeld => ?_)
        clear hK K
        refine wpAnyH_ready (rs := [24]) (by kernel_rfl) (by simp) ?_
        refine AllReadyH.cons (by simp only [List.getElem?_toArray, List.getElem?_cons_zero, List.getElem?_cons_succ]; rfl) (fun K hK => ?_) AllReadyH.nil
        go_simp
        go_at_call 23
        refine (HPA.out _ _ i8).mono ?_
        rintro e w9 ⟨rfl, i9, k9⟩
        go_wp2_with fail
        refine hK.out _ _ (loc_keep k9 hs1 hHeld) (fun hHeld => ?_)
        clear hK K
        refine wpAnyH_take (i := 25) (v := ?_) (by simp only [List.getElem?_toArray, List.getElem?_cons_zero, List.getElem?_cons_succ]; rfl) (by kernel_rfl) (by kernel_rfl) (by kernel_rfl) (fun _ _ _ h => h) (Or.inl ⟨by rfl, ?_⟩) hHeld ?_
        rotate_left
        · (intro w hSw; (try dsimp only at hSw); go_simp; try with_reducible rfl)
        try simp only [Act.put, List.setIfInBounds_toArray, List.set_cons_zero, List.set_cons_succ]
        refine wpAnyH_take (i := 26) (v := undef) (by simp only [List.getElem?_toArray, List.getElem?_cons_zero, List.getElem?_cons_succ]; rfl) (by kernel_rfl) (by kernel_rfl) (by kernel_rfl) (fun _ _ _ h => h) (Or.inr ⟨by rfl, rfl⟩) hHeld ?_
        try simp only [Act.put, List.setIfInBounds_toArray, List.set_cons_zero, List.set_cons_succ]
        refine wpAnyH_take (i := 27) (v := undef) (by simp only [List.getElem?_toArray, List.getElem?_cons_zero, List.getElem?_cons_succ]; rfl) (by kernel_rfl) (by kernel_rfl) (by kernel_rfl) (fun _ _ _ h => h) (Or.inr ⟨by rfl, rfl⟩) hHeld ?_
        try simp only [Act.put, List.setIfInBounds_toArray, List.set_cons_zero, List.set_cons_succ]
        refine wpAnyH_take (i := 28) (v := undef) (by simp only [List.getElem?_toArray, List.getElem?_cons_zero, List.getElem?_cons_succ]; rfl) (by kernel_rfl) (by kernel_rfl) (by kernel_rfl) (fun _ _ _ h => h) (Or.inr ⟨by rfl, rfl⟩) hHeld ?_
        try simp only [Act.put, List.setIfInBounds_toArray, List.set_cons_zero, List.set_cons_succ]
        refine wpAnyH_take (i := 29) (v := ?_) (by simp only [List.getElem?_toArray, List.getElem?_cons_zero, List.getElem?_cons_succ]; rfl) (by kernel_rfl) (by kernel_rfl) (by kernel_rfl) (fun _ _ _ h => h) (Or.inl ⟨by rfl, ?_⟩) hHeld ?_
        rotate_left
        · (intro w hSw; (try dsimp only at hSw); go_simp; try with_reducible rfl)
        try simp only [Act.put, List.setIfInBounds_toArray, List.set_cons_zero, List.set_cons_succ]
        refine wpAnyH_take (i := 30) (v := ?_) (by simp only [List.getElem?_toArray, List.getElem?_cons_zero, List.getElem?_cons_succ]; rfl) (by kernel_rfl) (by kernel_rfl) (by kernel_rfl) (fun _ _ _ h => h) (Or.inl ⟨by rfl, ?_⟩) hHeld ?_
        rotate_left
        · (intro w hSw; (try dsimp only at hSw); go_simp; try with_reducible rfl)
        try simp only [Act.put, List.setIfInBounds_toArray, List.set_cons_zero, List.set_cons_succ]
        refine wpAnyH_take (i := 31) (v := ?_) (by simp only [List.getElem?_toArray, List.getElem?_cons_zero, List.getElem?_cons_succ]; rfl) (by kernel_rfl) (by kernel_rfl) (by kernel_rfl) (fun _ _ _ h => h) (Or.inl ⟨by rfl, ?_⟩) hHeld ?_
        rotate_left
        · (intro w hSw; (try dsimp only at hSw); go_simp; try with_reducible rfl)
        try simp only [Act.put, List.setIfInBounds_toArray, List.set_cons_zero, List.set_cons_succ]
        refine wpAnyH_take (i := 32) (v := ?_) (by simp only [List.getElem?_toArray, List.getElem?_cons_zero, List.getElem?_cons_succ]; rfl) (by kernel_rfl) (by kernel_rfl) (by kernel_rfl) (fun _ _ _ h => h) (Or.inl ⟨by rfl, ?_⟩) hHeld ?_
        rotate_left
        · (intro w hSw; (try dsimp only at hSw); go_simp; try with_reducible rfl)
        try simp only [Act.put, List.setIfInBounds_toArray, List.set_cons_zero, List.set_cons_succ]
        refine wpAnyH_take (i := 33) (v := ?_) (by simp only [List.getElem?_toArray, List.getElem?_cons_zero, List.getElem?_cons_succ]; rfl) (by kernel_rfl) (by kernel_rfl) (by kernel_rfl) (fun _ _ _ h => h) (Or.inl ⟨by rfl, ?_⟩) hHeld ?_
        rotate_left
        · (intro w hSw; (try dsimp only at hSw); go_simp; try with_reducible rfl)
        try simp only [Act.put, List.setIfInBounds_toArray, List.set_cons_zero, List.set_cons_succ]
        refine wpAnyH_ready (rs := [34]) (by kernel_rfl) (by simp) ?_
        refine AllReadyH.cons (by simp only [List.getElem?_toArray, List.getElem?_cons_zero, List.getElem?_cons_succ]; rfl) (fun K hK => ?_) AllReadyH.nil
        go_simp
        go_at_call 22
        refine (HK0.out _ _ i9 (by omega)).mono ?_
        rintro e w11 ⟨rfl, i11, k11⟩
        go_wp2_with fail
        refine hK.out _ _ (loc_keep k11 hs1 hHeld) (fun hHeld => ?_)
        clear hK K
        refine wpAnyH_take (i := 35) (v := ?_) (by simp only [List.getElem?_toArray, List.getElem?_cons_zero, List.getElem?_cons_succ]; rfl) (by kernel_rfl) (by kernel_rfl) (by kernel_rfl) (fun _ _ _ h => h) (Or.inl ⟨by rfl, ?_⟩) hHeld ?_
        rotate_left
        · (intro w hSw; (try dsimp only at hSw); go_simp; try with_reducible rfl)
        try simp only [Act.put, List.setIfInBounds_toArray, List.set_cons_zero, List.set_cons_succ]
        refine wpAnyH_take (i := 36) (v := ?_) (by simp only [List.getElem?_toArray, List.getElem?_cons_zero, List.getElem?_cons_succ]; rfl) (by kernel_rfl) (by kernel_rfl) (by kernel_rfl) (fun _ _ _ h => h) (Or.inl ⟨by rfl, ?_⟩) hHeld ?_
        rotate_left
        · (intro w hSw; (try dsimp only at hSw); go_simp; try with_reducible rfl)
        try simp only [Act.put, List.setIfInBounds_toArray, List.set_cons_zero, List.set_cons_succ]
        refine wpAnyH_done (by kernel_rfl) ?_ _
        refine NoPanic.normal ?_
        go_wp2
        go_ret
        exact ⟨rfl, i11.bel⟩
end Go.Proofs.Ytmhnfilingebfaa
