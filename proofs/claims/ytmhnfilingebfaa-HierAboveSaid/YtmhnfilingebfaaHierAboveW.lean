/- HierAbove, walked: it returns true for every input. -/
import Derived.Test.YtmhnfilingebfaaHierPage
import Derived.Test.YtmhnfilingebfaaHierHead
import Derived.Test.YtmhnfilingebfaaSigSame
namespace Go.Proofs.Ytmhnfilingebfaa
open Go.RowKit

/-- What was found from a place on. -/
def cm (l l2 : List (List UInt8)) (j : Nat) : List UInt8 := ((l.drop j).find? (fun x => decide (x ∈ l2))).getD []
theorem cm_end {l l2 : List (List UInt8)} : cm l l2 l.length = [] := by simp [cm]
theorem cm_hit {l l2 : List (List UInt8)} {j : Nat} (hj : j < l.length) (h : decide (l[j] ∈ l2) = true) : cm l l2 j = l[j] := by
  unfold cm
  rw [find_hit (p := fun x => decide (x ∈ l2)) hj h]
  rfl
theorem cm_skip {l l2 : List (List UInt8)} {j : Nat} (hj : j < l.length) (h : decide (l[j] ∈ l2) = false) : cm l l2 j = cm l l2 (j + 1) := by
  unfold cm
  rw [find_skip (p := fun x => decide (x ∈ l2)) hj h]

theorem keep_s {w w' : World} {s : Nat} (h : Below w.heap.size w w') : Keep (fun b => b = s) w w' := Keep.of_below h (fun k h1 h2 => by omega)

theorem face_at {w : World} {F : Nat → Prop} {T : List Fc} (h : ∀ f ∈ T, f.at_ w F) (k : List UInt8) : (faceF T k).at_ w F := by
  unfold faceF
  cases hg : get T k with
  | some f => exact h f (get_mem hg).1
  | none => exact ⟨⟨Rd.nil _ _ _ _, rfl, by simp [zeroFc], by simp [zeroFc]⟩, ⟨Rd.nil _ _ _ _, rfl, by simp [zeroFc], by simp [zeroFc]⟩, by simp [short, zeroFc], by simp [short, zeroFc]⟩

set_option maxRecDepth 100000 in
set_option maxHeartbeats 4000000 in
theorem above_law (A : Option Addr) (n c : Nat) (T : List Fc) (x y : List UInt8) (w : World) (h : FcsAt w (fun k => w.heap.size ≤ k) A n T) (hx : short x) (hy : short y) :
    Calls Try.prog 4 #[.slice A n c, S x, S y] w (Gives w (.bool true)) := by
  have HF := hide h
  clear h
  go_enter Try.func4, Try.ntmps4
  go_wp2_with fail
  refine (head_any w).mono ?_
  rintro e w1 ⟨rfl, hb1⟩
  go_wp2_with fail
  refine (fewlist_any A n c T w1 ((HF.out.below hb1).weak (fun k hk => by have := hb1.size; omega))).mono ?_
  rintro e w2 ⟨R, rfl, hb2, hR⟩
  have HR := hide hR
  have hB2 := hb1.trans (hb2.mono hb1.size)
  clear hR hb1 hb2
  cases R with
  | false =>
    go_wp2_with fail
    go_ret
    exact ⟨rfl, hB2⟩
  | true =>
    have hR8 := HR.out rfl
    clear HR
    obtain ⟨hn8, _⟩ := hR8
    have hTl : T.length ≤ 8 := by have := HF.out.2.1; omega
    have hsu : ∀ f ∈ T, short f.su := fun f hf => (HF.out.2.2.2 f hf).2.2.2
    have HS := hide hsu
    clear hsu
    by_cases g1 : 60 < (x.length : Int)
    · have d : decide (60 < (x.length : Int)) = true := by simpa using g1
      go_wp2_with fail
      go_ret
      exact ⟨rfl, hB2⟩
    have d1 : decide (60 < (x.length : Int)) = false := by simpa using g1
    by_cases g2 : 60 < (y.length : Int)
    · have d : decide (60 < (y.length : Int)) = true := by simpa using g2
      go_wp2_with fail
      go_ret
      exact ⟨rfl, hB2⟩
    have d2 : decide (60 < (y.length : Int)) = false := by simpa using g2
    go_wp2_with fail
    clear d1 d2 g1 g2
    refine (new_any A n c T w2 ((HF.out.below hB2).weak (fun k hk => by have := hB2.size; omega)) (by omega)).mono ?_
    rintro e w3 ⟨g, m, s, rfl, ht, hb3, hg, hm, hs⟩
    have hB3 := hB2.trans (hb3.mono hB2.size)
    have hsw := hB2.size
    have hs3 := ht.slt
    have HT3 := hide ht
    clear ht hb3 hB2
    have hu := up8_any A n c T x w3 ((HF.out.below hB3).weak (fun k hk => by have := hB3.size; omega)) hTl
    have hab : ∀ n w, Tab w g m s T n → n ≤ 900000 → _ := fun n w h hn => above_any g m s n T x w h hn hTl HS.out hx
    have hbl : ∀ n w, Tab w g m s T n → n ≤ 900000 → _ := fun n w h hn => below_any g m s n T x y w h hn hTl HS.out hx
    have hcm : common T x y = cm (up T 20 [] x).1 (up T 20 [] y).1 0 := by simp [common, cm]
    have hle := up_le T 20 [] x
    obtain ⟨U, hU⟩ : ∃ U, U = up T 20 [] x := ⟨_, rfl⟩
    rw [← hU] at hu hab hcm hle hbl
    obtain ⟨l, q⟩ := U
    simp only [List.length_nil, Nat.zero_add] at hle hcm hbl
    have HU := hide hu
    have HAB := hide hab
    have HBL := hide hbl
    have HCM := hide hcm
    clear hU hu hab hcm hbl
    go_wp2_with fail
    refine HU.out.mono ?_
    rintro e w4 ⟨A1, c1, rfl, hb4, hr4⟩
    have hB4 := hB3.trans (hb4.mono hB3.size)
    have HT4 := hide (HT3.out.below hb4)
    have HW4 := hide (hr4.weak (G := fun b => b = s) (fun k _ e => by omega))
    clear hb4 hr4 hB3
    go_wp2_with fail
    refine (HAB.out _ w4 HT4.out (by omega)).mono ?_
    rintro e w5 ⟨A2, c2, rfl, ht5, hk5, hr5⟩
    have HT5 := hide ht5
    have HW5 := hide (HW4.out.keep hk5)
    have hs4 := HT4.out.slt
    have HG5 := hide (hr5.weak (G := fun b => b = s) (fun k _ e => by omega))
    have hB5 := hB4.trans (hk5.below (B := w.heap.size) hB4.size (fun k hk => by omega))
    clear ht5 hk5 hr5 hB4
    cases q
    all_goals
      go_wp2_with fail
      go_loopw [62] (fun i wr => ∃ k : Nat, k ≤ l.length ∧ i = .int .i64 k ∧ Below w5.heap.size w5 wr) (fun i _ => l.length - (intOf i).toNat)
      case atStart => exact ⟨0, Nat.zero_le _, rfl, Below.refl _ _⟩
      case round =>
        obtain ⟨k, hk, rfl, hbr⟩ := hrel
        by_cases hlt : k < l.length
        · obtain ⟨b1, o1, u1, rfl, hu1, hc1⟩ := (HW5.out.keep (keep_s hbr)).at_ k hlt
          obtain ⟨b2, o2, u2, rfl, hu2, hc2⟩ := (HG5.out.keep (keep_s hbr)).at_ k hlt
          obtain rfl : S l[k] = u1 := by simpa [hlt] using hu1
          obtain rfl : S l[k] = u2 := by simpa [hlt] using hu2
          clear hu1 hu2
          generalize l[k] = v at *
          have hki : (k : Int) < (l.length : Int) := by omega
          go_wp2_with fail
          go_quiet (fail)
          go_wp2_with fail
          go_roundw
          case rel => exact ⟨k + 1, by omega, by go_num, bdrewN hbr _⟩
          case measure => simp [intOf]; omega
        · have hBr := hB5.trans (hbr.mono hB5.size)
          have HT6 := hide (HT5.out.below hbr)
          have HW6 := hide (HW5.out.keep (keep_s hbr))
          have hs6 := HT6.out.slt
          have hu := up8_any A n c T y wr ((HF.out.below hBr).weak (fun k hk => by have := hBr.size; omega)) hTl
          obtain ⟨U, hU⟩ : ∃ U, U = up T 20 [] y := ⟨_, rfl⟩
          have hcm := HCM.out
          rw [← hU] at hu hcm
          obtain ⟨l2, q2⟩ := U
          simp only at hcm
          have hle2 := up_le T 20 [] y
          rw [← hU] at hle2
          simp only [List.length_nil, Nat.zero_add] at hle2
          have HC2 := hide hcm
          have HU2 := hide hu
          clear hu hcm hU hbr HCM
          go_wp2_with fail
          refine HU2.out.mono ?_
          rintro e w7 ⟨A3, c3, rfl, hb7, hr7⟩
          have hB7 := hBr.trans (hb7.mono hBr.size)
          have HT7 := hide (HT6.out.below hb7)
          have HW7 := hide (HW6.out.keep (keep_s hb7))
          have HO7 := hide (hr7.weak (G := fun b => b = s) (fun k _ e => by omega))
          clear hb7 hr7 hBr
          go_wp2_with fail
          go_loopw [15, 16] (fun v i wx => ∃ j : Nat, j ≤ l.length ∧ i = .int .i64 ((j : Int) - 1) ∧ v = S (cm l l2 j) ∧ Below w7.heap.size w7 wx) (fun _ i _ => (intOf i + 1).toNat)
          case atStart => exact ⟨l.length, Nat.le_refl _, by go_num, by rw [cm_end], Below.refl _ _⟩
          case round =>
            obtain ⟨j, hj, rfl, rfl, hbx⟩ := hrel
            rcases j with _ | j
            · have hcm := HC2.out
              rw [← hcm]
              clear HC2
              have hBy := hB7.trans (hbx.mono hB7.size)
              have HT8 := hide (HT7.out.below hbx)
              have HW8 := hide (HW7.out.keep (keep_s hbx))
              obtain ⟨C, hC⟩ : ∃ C, C = common T x y := ⟨_, rfl⟩
              rw [← hC]
              have HC := hide hC
              clear hbx hC hcm
              have hfa := face_any g m s _ T x wr HT8.out (by omega) hx
              obtain ⟨Fx, hFx⟩ : ∃ Fx, Fx = faceF T x := ⟨_, rfl⟩
              obtain ⟨Bx, hBx⟩ : ∃ Bx, Bx = (get T x).isSome := ⟨_, rfl⟩
              have hfi : ∀ w', FcsAt w' (fun k => w'.heap.size ≤ k) A n T → _ := fun w' h => find_any A n c T x w' h
              rw [← hFx, ← hBx] at hfa hfi
              have hFat := face_at HF.out.2.2.2 x
              rw [← hFx] at hFat
              have HFA := hide hfa
              have HFI := hide hfi
              have HFAT := hide hFat
              clear hfa hfi hFat hFx hBx
              go_wp2_with fail
              refine HFA.out.mono ?_
              rintro e w8 ⟨rfl, ht8, hk8⟩
              obtain ⟨w9, hw9⟩ : ∃ w9, w9 = w8.alloc (.cells #[S Fx.n, S Fx.su, .slice Fx.fA Fx.fl Fx.fc, .slice Fx.mA Fx.ml Fx.mc] 38) := ⟨_, rfl⟩
              have hs8 := HT8.out.slt
              have hB8 := hBy.trans (hk8.below (B := w.heap.size) hBy.size (fun k hk => by omega))
              have hB9 : Below w.heap.size w w9 := by rw [hw9]; exact hB8.alloc hB8.size _
              have hT9 := ht8.alloc (.cells #[S Fx.n, S Fx.su, .slice Fx.fA Fx.fl Fx.fc, .slice Fx.mA Fx.ml Fx.mc] 38)
              rw [← hw9] at hT9
              have hW9 : Rd w9 (fun b => b = s) 1 A1 l.length (l.map S) := by rw [hw9]; exact (HW8.out.keep hk8).alloc _
              have hP9 : Blk w9 w8.heap.size 38 #[S Fx.n, S Fx.su, .slice Fx.fA Fx.fl Fx.fc, .slice Fx.mA Fx.ml Fx.mc] := by rw [hw9]; exact Blk.new _ _ _
              have hs88 := ht8.slt
              have HT9 := hide hT9
              have HW9 := hide hW9
              have HP9 := hide hP9
              clear ht8 hk8 hT9 hW9 hP9 hBy hB8
              go_wp2_with fail
              rw [← hw9]
              clear hw9
              refine (HFI.out w9 ((HF.out.below hB9).weak (fun k hk => by have := hB9.size; omega))).mono ?_
              rintro e w10 ⟨rfl, hb10⟩
              obtain ⟨w11, hw11⟩ : ∃ w11, w11 = w10.alloc (.cells #[S Fx.n, S Fx.su, .slice Fx.fA Fx.fl Fx.fc, .slice Fx.mA Fx.ml Fx.mc] 38) := ⟨_, rfl⟩
              have hb11 : Below w9.heap.size w9 w11 := by rw [hw11]; exact hb10.alloc hb10.size _
              have HP11 : Hid (Blk w11 w10.heap.size 38 #[S Fx.n, S Fx.su, .slice Fx.fA Fx.fl Fx.fc, .slice Fx.mA Fx.ml Fx.mc]) := hide (by rw [hw11]; exact Blk.new _ _ _)
              have hB11 := hB9.trans (hb11.mono hB9.size)
              have HT11 := hide (HT9.out.below hb11)
              have HW11 := hide (HW9.out.keep (keep_s hb11))
              have HP9b := hide (HP9.out.below hb11 HP9.out.lt)
              have hs10 : s < w10.heap.size := by have := hb10.size; have := HT9.out.slt; omega
              clear hb10 hb11 hB9
              go_wp2_with fail
              rw [← hw11]
              clear hw11
              refine (HBL.out _ w11 HT11.out (by omega)).mono ?_
              rintro e w12 ⟨rfl, ht12, hk12⟩
              have HT12 := hide ht12
              have HW12 := hide (HW11.out.keep hk12)
              have HP12 := hide (HP11.out.keep hk12 (by omega))
              have HQ12 := hide (HP9b.out.keep hk12 (by omega))
              have hs11 := HT11.out.slt
              have hB12 := hB11.trans (hk12.below (B := w.heap.size) hB11.size (fun k hk => by omega))
              clear ht12 hk12 hB11
              obtain ⟨Bq, hBq⟩ : ∃ Bq, Bq = decide (y ∈ l) := ⟨_, rfl⟩
              rw [← hBq]
              have hin := in_any A1 l.length c1 l y w12 HW12.out (by omega)
              rw [← hBq] at hin
              have HIN := hide hin
              clear hin hBq
              go_wp2_with fail
              refine HIN.out.mono ?_
              rintro e wz ⟨rfl, hwz⟩
              subst hwz
              have hco := common_any g m s _ T x y wz HT12.out (by omega) hTl HS.out hx hy
              rw [← HC.out] at hco
              have HCO := hide hco
              clear hco
              cases Bq
              all_goals
                go_wp2_with fail
                refine HCO.out.mono ?_
                rintro e w13 ⟨rfl, ht13, hk13⟩
                have hP13 := HP12.out.keep hk13 (by omega)
                have hQ13 := HQ12.out.keep hk13 (by omega)
                have hs12 := HT12.out.slt
                have hB13 := hB12.trans (hk13.below (B := w.heap.size) hB12.size (fun k hk => by omega))
                have hsm := facesame_any Fx Fx w13 ((HFAT.out.below hB13).weak (fun k hk => by have := hB13.size; omega)) ((HFAT.out.below hB13).weak (fun k hk => by have := hB13.size; omega))
                rw [decide_eq_true rfl] at hsm
                have HSM := hide hsm
                have p0 : w13.cell? ⟨w10.heap.size, 0, none⟩ = some (S Fx.n) := hP13.cell 0
                have p1 : w13.cell? ⟨w10.heap.size, 1, none⟩ = some (S Fx.su) := hP13.cell 1
                have p2 : w13.cell? ⟨w10.heap.size, 2, none⟩ = some (.slice Fx.fA Fx.fl Fx.fc) := hP13.cell 2
                have p3 : w13.cell? ⟨w10.heap.size, 3, none⟩ = some (.slice Fx.mA Fx.ml Fx.mc) := hP13.cell 3
                have q0 : w13.cell? ⟨w8.heap.size, 0, none⟩ = some (S Fx.n) := hQ13.cell 0
                have q1 : w13.cell? ⟨w8.heap.size, 1, none⟩ = some (S Fx.su) := hQ13.cell 1
                have q2 : w13.cell? ⟨w8.heap.size, 2, none⟩ = some (.slice Fx.fA Fx.fl Fx.fc) := hQ13.cell 2
                have q3 : w13.cell? ⟨w8.heap.size, 3, none⟩ = some (.slice Fx.mA Fx.ml Fx.mc) := hQ13.cell 3
                clear ht13 hk13 hsm hP13 hQ13
                cases Bx
                all_goals
                  go_wp2_with fail
                  refine HSM.out.mono ?_
                  rintro e w14 ⟨rfl, hb14⟩
                  have hB14 := hB13.trans (hb14.mono hB13.size)
                  go_wp2
                  go_ret
                  exact ⟨rfl, hB14⟩
            · have hlt : j < l.length := by omega
              have hji : ((j + 1 : Nat) : Int) - 1 = (j : Int) := by omega
              rw [hji]
              clear hji
              obtain ⟨b1, o1, u1, rfl, hu1, hc1⟩ := (HW7.out.keep (keep_s hbx)).at_ j hlt
              obtain rfl : S l[j] = u1 := by simpa [hlt] using hu1
              clear hu1
              have HH : Hid (decide (l[j] ∈ l2) = true → cm l l2 j = l[j]) := hide (cm_hit hlt)
              have HN : Hid (decide (l[j] ∈ l2) = false → cm l l2 j = cm l l2 (j + 1)) := hide (cm_skip hlt)
              generalize l[j] = v at *
              have hin := in_any A3 l2.length c3 l2 v wr (HO7.out.keep (keep_s hbx)) (by omega)
              obtain ⟨Bq, hBq⟩ : ∃ Bq, Bq = decide (v ∈ l2) := ⟨_, rfl⟩
              rw [← hBq] at hin HH HN
              have HIN := hide hin
              clear hin hBq
              obtain ⟨cc, hcc⟩ : ∃ cc, cc = cm l l2 (j + 1) := ⟨_, rfl⟩
              rw [← hcc] at HN
              rw [← hcc]
              clear hcc
              go_wp2_with fail
              refine HIN.out.mono ?_
              rintro e wz ⟨rfl, hwz⟩
              subst hwz
              cases Bq with
              | true =>
                have HE := hide (HH.out rfl)
                clear HH HN HIN
                go_wp2_with fail
                go_roundw
                case rel => exact ⟨j, by omega, by go_num, by rw [HE.out], hbx⟩
                case measure => simp [intOf] <;> omega
              | false =>
                have HE := hide (HN.out rfl)
                clear HH HN HIN
                go_wp2_with fail
                go_roundw
                case rel => exact ⟨j, by omega, by go_num, by rw [HE.out], hbx⟩
                case measure => simp [intOf] <;> omega
end Go.Proofs.Ytmhnfilingebfaa
