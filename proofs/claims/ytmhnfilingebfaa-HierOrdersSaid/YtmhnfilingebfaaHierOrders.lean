/- HierOrders, walked: it returns true for every input. -/
import Derived.Test.YtmhnfilingebfaaHierLaw
import Derived.Test.YtmhnfilingebfaaHierHead
namespace Go.Proofs.Ytmhnfilingebfaa
open Go.RowKit

theorem nth3 {a b c : List UInt8} {k : Nat} (hk : k < 3) : ([a, b, c] : List (List UInt8))[k]? = some (([a, b, c] : List (List UInt8))[k]'hk) := List.getElem?_eq_getElem hk

set_option maxRecDepth 100000 in
set_option maxHeartbeats 4000000 in
theorem orders_any (A : Option Addr) (n c : Nat) (T : List Fc) (x y z : List UInt8) (w : World) (h : FcsAt w (fun k => w.heap.size ≤ k) A n T) (hx : short x) (hy : short y) (hz : short z) :
    Calls Try.prog 3 #[.slice A n c, S x, S y, S z] w (Gives w (.bool true)) := by
  have hfew := h
  have HF := hide h
  clear hfew h
  go_enter Try.func3, Try.ntmps3
  go_wp2_with fail
  refine (head_any w).mono ?_
  rintro e w1 ⟨rfl, hb1⟩
  go_wp2_with fail
  refine (fewlist_any A n c T w1 ((HF.out.below hb1).weak (fun k hk => by have := hb1.size; omega))).mono ?_
  rintro e w2 ⟨R, rfl, hb2, hR⟩
  have HR := hide hR
  have hB2 := hb1.trans (hb2.mono hb1.size)
  clear hR hb1 hb2
  cases R with
  | false =>
    go_wp2_with fail
    go_ret
    exact ⟨rfl, hB2⟩
  | true =>
    have hR8 := HR.out rfl
    clear HR
    obtain ⟨hn8, _⟩ := hR8
    have hTl : T.length ≤ 8 := by have := HF.out.2.1; omega
    have hsu : ∀ f ∈ T, short f.su := fun f hf => (HF.out.2.2.2 f hf).2.2.2
    have HS := hide hsu
    clear hsu
    by_cases hlen : 100 < wrap64 (wrap64 ((x.length : Int) + (y.length : Int)) + (z.length : Int))
    · have d : decide (100 < wrap64 (wrap64 ((x.length : Int) + (y.length : Int)) + (z.length : Int))) = true := by simpa using hlen
      go_wp2_with fail
      go_ret
      exact ⟨rfl, hB2⟩
    · have d : decide (100 < wrap64 (wrap64 ((x.length : Int) + (y.length : Int)) + (z.length : Int))) = false := by simpa using hlen
      go_wp2_with fail
      clear d hlen
      refine (new_any A n c T w2 ((HF.out.below hB2).weak (fun k hk => by have := hB2.size; omega)) (by omega)).mono ?_
      rintro e w3 ⟨g, m, s, rfl, ht, hb3, hg, hm, hs⟩
      obtain ⟨wL, hwL⟩ : ∃ wL, wL = w3.alloc (.cells #[S x, S y, S z] 9) := ⟨_, rfl⟩
      have hB3 := hB2.trans (hb3.mono hB2.size)
      have hBL : Below w.heap.size w wL := by rw [hwL]; exact hB3.alloc hB3.size _
      have hbl : Blk wL w3.heap.size 9 #[S x, S y, S z] := by rw [hwL]; exact Blk.new _ _ _
      have hs3 := ht.slt
      have HTL : Hid (Tab wL g m s T 0) := hide (by rw [hwL]; exact ht.alloc _)
      have HBL := hide hbl
      have hsw := hB2.size
      clear ht hbl hb3 hB3 hB2
      go_wp2_with fail
      rw [← hwL]
      clear hwL
      go_loopw [38] (fun i wr => ∃ k : Nat, k ≤ 3 ∧ i = .int .i64 k ∧ Tab wr g m s T (k * 9) ∧ Keep (fun b => b = s) wL wr ∧ (∀ j (hj : j < ([x, y, z] : List (List UInt8)).length), j < k → (up T 20 [] ([x, y, z] : List (List UInt8))[j]).2 = true)) (fun i _ => 3 - (intOf i).toNat)
      case atStart => exact ⟨0, by omega, rfl, by simpa using HTL.out, Keep.refl _ _, by omega⟩
      case round =>
        obtain ⟨k, hk, rfl, htr, hkr, hall⟩ := hrel
        have HTR := hide htr
        have HKR := hide hkr
        have HA := hide hall
        clear htr hkr hall
        by_cases hlt : k < 3
        · have hlk : k < ([x, y, z] : List (List UInt8)).length := hlt
          have hbk := HBL.out.keep HKR.out (by omega)
          obtain ⟨v, hv⟩ : ∃ v, v = ([x, y, z] : List (List UInt8))[k] := ⟨_, rfl⟩
          have hc : wr.cell? ⟨w3.heap.size, k, none⟩ = some (S v) := by
            rw [hbk.cell k, hv]
            rcases (show k = 0 ∨ k = 1 ∨ k = 2 by omega) with rfl | rfl | rfl <;> rfl
          have hvs : short v := by
            rw [hv]
            rcases (show k = 0 ∨ k = 1 ∨ k = 2 by omega) with rfl | rfl | rfl
            · exact hx
            · exact hy
            · exact hz
          have HV := hide hv
          have hab := above_any g m s _ T v wr HTR.out (by omega) hTl HS.out hvs
          obtain ⟨Q, hQ⟩ : ∃ Q, Q = up T 20 [] v := ⟨_, rfl⟩
          rw [← hQ] at hab
          obtain ⟨l, q⟩ := Q
          have HQ := hide hQ
          have HAB := hide hab
          clear hQ hab hv hbk
          go_wp2_with fail
          refine HAB.out.mono ?_
          rintro e w4 ⟨A', c', rfl, ht4, hk4, _⟩
          have HT4 := hide ht4
          have HK4 := hide (HKR.out.trans' hk4 (fun _ _ h => h))
          clear ht4 hk4
          cases q with
          | false =>
            go_wp2
            go_ret
            exact ⟨rfl, hBL.trans (HK4.out.below (by have := hBL.size; omega) (by intro k hk; omega))⟩
          | true =>
            go_wp2
            go_roundw
            case rel => exact ⟨k + 1, by omega, by go_num, HT4.out.mono (by omega), HK4.out, all_step (p := fun u => (up T 20 [] u).2 = true) HA.out hlk (by rw [← HV.out, ← HQ.out])⟩
            case measure => simp [intOf]; omega
        · have hk3 : k = 3 := by omega
          subst hk3
          have wx : (up T 20 [] x).2 = true := HA.out 0 (by simp) (by omega)
          have wy : (up T 20 [] y).2 = true := HA.out 1 (by simp) (by omega)
          have wz : (up T 20 [] z).2 = true := HA.out 2 (by simp) (by omega)
          have HW := hide (And.intro wx (And.intro wy wz))
          clear wx wy wz HA
          have hc1 := common_any g m s _ T x y wr HTR.out (by omega) hTl HS.out hx hy
          obtain ⟨C, hC⟩ : ∃ C, C = common T x y := ⟨_, rfl⟩
          rw [← hC] at hc1
          have HC1 := hide hc1
          have HCC := hide hC
          clear hC hc1
          go_wp2_with fail
          refine HC1.out.mono ?_
          rintro e w4 ⟨rfl, ht4, hk4⟩
          have HT4 := hide ht4
          have HK4 := hide (HKR.out.trans' hk4 (fun _ _ h => h))
          clear ht4 hk4
          go_wp2_with fail
          refine (common_any g m s _ T y x w4 HT4.out (by omega) hTl HS.out hy hx).mono ?_
          rintro e w5 ⟨rfl, ht5, hk5⟩
          rw [← common_symm HW.out.1 HW.out.2.1, ← HCC.out]
          have HT5 := hide ht5
          have HK5 := hide (HK4.out.trans' hk5 (fun _ _ h => h))
          clear ht5 hk5
          by_cases hC0 : C = []
          · subst hC0
            have hq1 := below_any g m s _ T x y w5 HT5.out (by omega) hTl HS.out hx
            obtain ⟨B1, hB1⟩ : ∃ B1, B1 = decide (y ∈ (up T 20 [] x).1) := ⟨_, rfl⟩
            rw [← hB1] at hq1
            have HQ1 := hide hq1
            have HB1 := hide hB1
            clear hq1 hB1
            go_wp2_with fail
            refine HQ1.out.mono ?_
            rintro e wa ⟨rfl, hta, hka⟩
            have HTA := hide hta
            have HKA := hide (HK5.out.trans' hka (fun _ _ h => h))
            clear hta hka
            cases B1 with
            | false =>
              go_wp2
              go_ret
              exact ⟨rfl, hBL.trans (HKA.out.below (by have := hBL.size; omega) (by intro k hk; omega))⟩
            | true =>
              have h1 : y ∈ (up T 20 [] x).1 := by simpa using HB1.out.symm
              have H1 := hide h1
              clear h1
              have hq2 := below_any g m s _ T y z wa HTA.out (by omega) hTl HS.out hy
              obtain ⟨B2, hB2⟩ : ∃ B2, B2 = decide (z ∈ (up T 20 [] y).1) := ⟨_, rfl⟩
              rw [← hB2] at hq2
              have HQ2 := hide hq2
              have HB2 := hide hB2
              clear hq2 hB2
              go_wp2_with fail
              refine HQ2.out.mono ?_
              rintro e wb ⟨rfl, htb, hkb⟩
              have HTB := hide htb
              have HKB := hide (HKA.out.trans' hkb (fun _ _ h => h))
              clear htb hkb
              cases B2 with
              | false =>
                go_wp2
                go_ret
                exact ⟨rfl, hBL.trans (HKB.out.below (by have := hBL.size; omega) (by intro k hk; omega))⟩
              | true =>
                have h2 : z ∈ (up T 20 [] y).1 := by simpa using HB2.out.symm
                have h3 : decide (z ∈ (up T 20 [] x).1) = true := by simpa using up_trans HW.out.1 HW.out.2.1 H1.out h2
                have H3 := hide h3
                clear h2 h3
                go_wp2_with fail
                refine (below_any g m s _ T x z wb HTB.out (by omega) hTl HS.out hx).mono ?_
                rintro e wc ⟨rfl, htc, hkc⟩
                rw [H3.out]
                have HKC := hide (HKB.out.trans' hkc (fun _ _ h => h))
                clear htc hkc
                go_wp2
                go_ret
                exact ⟨rfl, hBL.trans (HKC.out.below (by have := hBL.size; omega) (by intro k hk; omega))⟩
          · have d1 : (C == []) = false := by simpa using hC0
            have hm := common_mem (T := T) (a := x) (b := y) (by rw [← HCC.out]; exact hC0)
            rw [← HCC.out] at hm
            have hm1 : decide (C ∈ (up T 20 [] x).1) = true := by simpa using hm.1
            have hm2 : decide (C ∈ (up T 20 [] y).1) = true := by simpa using hm.2
            have HM1 := hide hm1
            have HM2 := hide hm2
            clear hm hm1 hm2
            go_wp2_with fail
            refine (below_any g m s _ T x C w5 HT5.out (by omega) hTl HS.out hx).mono ?_
            rintro e w6 ⟨rfl, ht6, hk6⟩
            rw [HM1.out]
            have HT6 := hide ht6
            have HK6 := hide (HK5.out.trans' hk6 (fun _ _ h => h))
            clear ht6 hk6
            go_wp2_with fail
            refine (below_any g m s _ T y C w6 HT6.out (by omega) hTl HS.out hy).mono ?_
            rintro e w7 ⟨rfl, ht7, hk7⟩
            rw [HM2.out]
            have HT7 := hide ht7
            have HK7 := hide (HK6.out.trans' hk7 (fun _ _ h => h))
            clear ht7 hk7
            have hq1 := below_any g m s _ T x y w7 HT7.out (by omega) hTl HS.out hx
            obtain ⟨B1, hB1⟩ : ∃ B1, B1 = decide (y ∈ (up T 20 [] x).1) := ⟨_, rfl⟩
            rw [← hB1] at hq1
            have HQ1 := hide hq1
            have HB1 := hide hB1
            clear hq1 hB1
            go_wp2_with fail
            refine HQ1.out.mono ?_
            rintro e wa ⟨rfl, hta, hka⟩
            have HTA := hide hta
            have HKA := hide (HK7.out.trans' hka (fun _ _ h => h))
            clear hta hka
            cases B1 with
            | false =>
              go_wp2
              go_ret
              exact ⟨rfl, hBL.trans (HKA.out.below (by have := hBL.size; omega) (by intro k hk; omega))⟩
            | true =>
              have h1 : y ∈ (up T 20 [] x).1 := by simpa using HB1.out.symm
              have H1 := hide h1
              clear h1
              have hq2 := below_any g m s _ T y z wa HTA.out (by omega) hTl HS.out hy
              obtain ⟨B2, hB2⟩ : ∃ B2, B2 = decide (z ∈ (up T 20 [] y).1) := ⟨_, rfl⟩
              rw [← hB2] at hq2
              have HQ2 := hide hq2
              have HB2 := hide hB2
              clear hq2 hB2
              go_wp2_with fail
              refine HQ2.out.mono ?_
              rintro e wb ⟨rfl, htb, hkb⟩
              have HTB := hide htb
              have HKB := hide (HKA.out.trans' hkb (fun _ _ h => h))
              clear htb hkb
              cases B2 with
              | false =>
                go_wp2
                go_ret
                exact ⟨rfl, hBL.trans (HKB.out.below (by have := hBL.size; omega) (by intro k hk; omega))⟩
              | true =>
                have h2 : z ∈ (up T 20 [] y).1 := by simpa using HB2.out.symm
                have h3 : decide (z ∈ (up T 20 [] x).1) = true := by simpa using up_trans HW.out.1 HW.out.2.1 H1.out h2
                have H3 := hide h3
                clear h2 h3
                go_wp2_with fail
                refine (below_any g m s _ T x z wb HTB.out (by omega) hTl HS.out hx).mono ?_
                rintro e wc ⟨rfl, htc, hkc⟩
                rw [H3.out]
                have HKC := hide (HKB.out.trans' hkc (fun _ _ h => h))
                clear htc hkc
                go_wp2
                go_ret
                exact ⟨rfl, hBL.trans (HKC.out.below (by have := hBL.size; omega) (by intro k hk; omega))⟩

end Go.Proofs.Ytmhnfilingebfaa
