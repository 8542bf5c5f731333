/- ClassBytes returns true for whatever file: the walk. The condition: the listed package-level variable holds what the program's text lays. -/
import Derived.Test.YtkldfbacagnhoaaDoorClsLawR
import Derived.Test.YtkldfbacagnhoaaDoorClsLawL
import Derived.Test.YtkldfbacagnhoaaDoorClsSame
import Derived.Test.YtkldfbacagnhoaaDoorClsFew
import Derived.Test.YtkldfbacagnhoaaDoorClsHead
import Derived.Test.YtkldfbacagnhoaaDoorClsOpen
import Derived.Test.YtkldfbacagnhoaaDoorClsArc
import Derived.Test.YtkldfbacagnhoaaDoorClsApart
namespace Go.Proofs.YtkldfbacagnhoaaDoor
open Go.RowKit

theorem i64_lowB (p : Nat) (m : Nat) (hp : p < 63) (hm : m = 2 ^ p - 1) (n : Int) : ∃ N : Nat, N ≤ m ∧ bits .and .i64 n (m : Int) = (N : Int) := by
  have hpp : 2 ^ p < 2 ^ 64 := Nat.pow_lt_pow_right (by decide) (by omega)
  have h1 : (BitVec.ofInt 64 (m : Int)).toNat = m := by
    rw [BitVec.toNat_ofInt]
    have : ((m : Int) % ((2 ^ 64 : Nat) : Int)).toNat = m % 2 ^ 64 := by omega
    rw [this, Nat.mod_eq_of_lt (by omega)]
  have h2 : (BitVec.ofInt 64 n &&& BitVec.ofInt 64 (m : Int)).toNat ≤ m := by
    rw [BitVec.toNat_and, h1]
    exact Nat.and_le_right
  have hp2 : 2 ^ p ≤ 2 ^ 62 := Nat.pow_le_pow_right (by decide) (by omega)
  refine ⟨(BitVec.ofInt 64 n &&& BitVec.ofInt 64 (m : Int)).toNat, h2, ?_⟩
  show IntKind.i64.wrap ((BitVec.ofInt 64 n &&& BitVec.ofInt 64 (m : Int)).toNat : Int) = _
  rw [IntWalk.i64_in _ (by omega)]
theorem few_most {f : Fl} (h : f.few) : [f.nl, f.cl, f.tl, f.dl, f.ml].all most = true := by
  have := h.n; have := h.c; have := h.t; have := h.d; have := h.m
  simp [most]; omega
theorem file_ne (F : FileP) : 1 ≤ (fileL F).length := by
  have h : ∀ s : List UInt8, 1 ≤ (tx s).length := fun s => by
    rw [tx, List.length_append]
    have : 1 ≤ (vi s.length).length := by unfold vi; split <;> simp
    omega
  have := h F.f.n
  simp only [fileL, fcL, List.length_append]
  omega

set_option maxRecDepth 100000 in
set_option maxHeartbeats 16000000 in
theorem bytes_walk (f : Fl) (cut : Int) (w : World) (hm : Laid w) (h : f.at_ w (fun k => w.heap.size ≤ k)) : Calls Tryd.prog 6 #[f.val, .int .i64 cut] w (Gives w (.bool true)) := by
  obtain ⟨wA, hwA⟩ : ∃ wA, wA = w.alloc (.cells f.cells.toArray 36) := ⟨_, rfl⟩
  have hbA : Below w.heap.size w wA := by rw [hwA]; exact (Below.refl _ _).alloc (Nat.le_refl _) _
  have HBA := hide hbA
  have hbk : Blk wA w.heap.size 36 f.cells.toArray := by rw [hwA]; exact Blk.new _ _ _
  have HK : Hid (∀ w', Below wA.heap.size wA w' → Blk w' w.heap.size 36 f.cells.toArray) := hide (fun w' hb => hbk.below hb hbk.lt)
  have HA : Hid (∀ w', Below wA.heap.size wA w' → f.at_ w' (fun k => w'.heap.size ≤ k)) := hide (fun w' hb => (h.below (hbA.trans (hb.mono hbA.size))).weak (fun k hk => Nat.le_trans (hbA.trans (hb.mono hbA.size)).size hk))
  have HM : Hid (∀ w', Below wA.heap.size wA w' → Laid w') := hide (fun w' hb => hm.below (hbA.trans (hb.mono hbA.size)) (Nat.le_refl _))
  have hnok := h.nok
  obtain ⟨R, hR⟩ : ∃ R, R = f.pl.right := ⟨_, rfl⟩
  obtain ⟨X, hX⟩ : ∃ X, X = fileL f.pl := ⟨_, rfl⟩
  obtain ⟨N, hN, hNe⟩ := i64_lowB 16 65535 (by decide) (by decide) cut
  have hNe' : bits .and .i64 cut 65535 = (N : Int) := hNe
  have HNE := hide hNe'
  have HN := hide hN
  have HFW := hide (cfew_any f wA (HA.out wA (Below.refl _ _)))
  have HH := hide (fun w => head_any w)
  have HRT : Hid (∀ w', Below wA.heap.size wA w' → Calls Tryd.prog 12 #[f.val] w' (Gives w' (.bool R))) := hide (fun w' hb => by rw [hR]; exact fright_any f w' (HM.out w' hb) (HA.out w' hb))
  have HRL : Hid (f.few → ∀ w', Below wA.heap.size wA w' → Calls Tryd.prog 19 #[f.val] w' (Gives w' (.bool R))) := hide (fun hf w' hb => by rw [hR]; exact rightL_any f w' (HM.out w' hb) (HA.out w' hb) (few_most hf))
  have HEB : Hid (R = false → ∀ w', Below wA.heap.size wA w' → Calls Tryd.prog 11 #[f.val] w' (Gives w' (.tuple #[S [], .int .i64 1]))) := hide (fun e w' hb => enc_bad f w' (HM.out w' hb) (HA.out w' hb) (by rw [← hR]; exact e))
  have HEO : Hid (R = true → ∀ w', Below wA.heap.size wA w' → Calls Tryd.prog 11 #[f.val] w' (Gives w' (.tuple #[S X, .int .i64 0]))) := hide (fun e w' hb => by rw [hX]; exact enc_ok f w' (HM.out w' hb) (HA.out w' hb) (by rw [← hR]; exact e))
  have HXB : Hid (R = true → X.length ≤ 300000000) := hide (fun e => by rw [hX]; exact fileL_bd (right_fit hnok (by rw [← hR]; exact e)))
  have HLY : Hid (R = true → ∀ w', Below wA.heap.size wA w' → Calls Tryd.prog 20 #[f.val] w' (Gives w' (S X))) := hide (fun e w' hb => by
    have hx := HXB.out e
    rw [hX] at hx ⊢
    exact clay_any f w' (HM.out w' hb) (HA.out w' hb) (by omega))
  have HXP : Hid (1 ≤ X.length) := hide (by rw [hX]; exact file_ne _)
  have HD1 : Hid (R = true → decOk X = true ∧ (decR X).1 = f.pl) := hide (fun e => by rw [hX]; exact dec_lay hnok (by rw [← hR]; exact e))
  have HD2 : Hid (R = true → ∀ m, m < X.length → decOk (X.take m) = false) := hide (fun e m hm => dec_cut (F := f.pl) (u := X.drop m) hnok (by rw [← hR]; exact e) (fun h => by have := congrArg List.length h; simp at this; omega) (by rw [← hX, List.take_append_drop]))
  have HD3 : Hid (R = true → decOk (X ++ [0]) = false) := hide (fun e => by rw [hX]; exact dec_more hnok (by rw [← hR]; exact e) (by simp))
  clear hm h hR hX hnok hbk hbA hN hNe hNe'
  go_enter Tryd.func6, Tryd.ntmps6
  go_upto_region 1 with fail
  rw [← hwA]
  clear hwA
  have HHA := hide (HH.out wA)
  clear HH
  go_upto_region 3 with (go_at_call 9; refine HHA.out.mono ?_; rintro e w1 ⟨rfl, hb1⟩)
  have HB1 := hide hb1
  clear hb1 HHA HFW
  have HFW := hide (cfew_any f w1 (HA.out w1 HB1.out))
  have k0 := (HK.out w1 HB1.out).cell 0
  have k1 := (HK.out w1 HB1.out).cell 1
  have k2 := (HK.out w1 HB1.out).cell 2
  have k3 := (HK.out w1 HB1.out).cell 3
  have k4 := (HK.out w1 HB1.out).cell 4
  have k5 := (HK.out w1 HB1.out).cell 5
  have k6 := (HK.out w1 HB1.out).cell 6
  have k7 := (HK.out w1 HB1.out).cell 7
  have k8 := (HK.out w1 HB1.out).cell 8
  have k9 := (HK.out w1 HB1.out).cell 9
  simp at k0 k1 k2 k3 k4 k5 k6 k7 k8 k9
  go_wp2_with fail
  refine HFW.out.mono ?_
  rintro e w2 ⟨RF, rfl, hb2, hf⟩
  clear k0 k1 k2 k3 k4 k5 k6 k7 k8 k9 HFW
  have HB2 : Hid (Below wA.heap.size wA w2) := hide (HB1.out.trans (hb2.mono HB1.out.size))
  clear hb2 HB1
  cases RF with
  | false =>
    go_wp2_with fail
    go_ret
    exact ⟨rfl, HBA.out.trans (HB2.out.mono HBA.out.size)⟩
  | true =>
  have HRL2 := hide (HRL.out (hf rfl))
  clear HRL hf
  go_upto_region 5 with fail
  have T1 : Hid (∀ t : After w2, Calls Tryd.prog 12 #[f.val] t.val (Gives t.val (.bool R))) := hide (fun t => HRT.out t.val (HB2.out.trans (t.prop.mono HB2.out.size)))
  have T2 : Hid (∀ t : After w2, Calls Tryd.prog 19 #[f.val] t.val (Gives t.val (.bool R))) := hide (fun t => HRL2.out t.val (HB2.out.trans (t.prop.mono HB2.out.size)))
  have HKT : Hid (∀ t : After w2, Blk t.val w.heap.size 36 f.cells.toArray) := hide (fun t => HK.out t.val (HB2.out.trans (t.prop.mono HB2.out.size)))
  have k0 : ∀ t : After w2, t.val.cell? ⟨w.heap.size, 0, none⟩ = f.cells.toArray[0]? := fun t => (HKT.out t).cell 0
  have k1 : ∀ t : After w2, t.val.cell? ⟨w.heap.size, 1, none⟩ = f.cells.toArray[1]? := fun t => (HKT.out t).cell 1
  have k2 : ∀ t : After w2, t.val.cell? ⟨w.heap.size, 2, none⟩ = f.cells.toArray[2]? := fun t => (HKT.out t).cell 2
  have k3 : ∀ t : After w2, t.val.cell? ⟨w.heap.size, 3, none⟩ = f.cells.toArray[3]? := fun t => (HKT.out t).cell 3
  have k4 : ∀ t : After w2, t.val.cell? ⟨w.heap.size, 4, none⟩ = f.cells.toArray[4]? := fun t => (HKT.out t).cell 4
  have k5 : ∀ t : After w2, t.val.cell? ⟨w.heap.size, 5, none⟩ = f.cells.toArray[5]? := fun t => (HKT.out t).cell 5
  have k6 : ∀ t : After w2, t.val.cell? ⟨w.heap.size, 6, none⟩ = f.cells.toArray[6]? := fun t => (HKT.out t).cell 6
  have k7 : ∀ t : After w2, t.val.cell? ⟨w.heap.size, 7, none⟩ = f.cells.toArray[7]? := fun t => (HKT.out t).cell 7
  have k8 : ∀ t : After w2, t.val.cell? ⟨w.heap.size, 8, none⟩ = f.cells.toArray[8]? := fun t => (HKT.out t).cell 8
  have k9 : ∀ t : After w2, t.val.cell? ⟨w.heap.size, 9, none⟩ = f.cells.toArray[9]? := fun t => (HKT.out t).cell 9
  simp at k0 k1 k2 k3 k4 k5 k6 k7 k8 k9
  cases R with
  | false =>
    refine region_after (by kernel_rfl) (by kernel_rfl) ?_
    repeat (go_big_quiet_step (first | (go_at_call 12; refine call_after (T1.out _)) | (go_at_call 19; refine call_after (T2.out _))))
    refine wpQuiet_nil ?_
    rintro _ ⟨t, rfl⟩
    have HB3 : Hid (Below wA.heap.size wA t.val) := hide (HB2.out.trans (t.prop.mono HB2.out.size))
    clear k0 k1 k2 k3 k4 k5 k6 k7 k8 k9 T1 T2 HKT
    generalize t.val = w3 at HB3 ⊢
    have k0 := (HK.out w3 HB3.out).cell 0
    have k1 := (HK.out w3 HB3.out).cell 1
    have k2 := (HK.out w3 HB3.out).cell 2
    have k3 := (HK.out w3 HB3.out).cell 3
    have k4 := (HK.out w3 HB3.out).cell 4
    have k5 := (HK.out w3 HB3.out).cell 5
    have k6 := (HK.out w3 HB3.out).cell 6
    have k7 := (HK.out w3 HB3.out).cell 7
    have k8 := (HK.out w3 HB3.out).cell 8
    have k9 := (HK.out w3 HB3.out).cell 9
    simp at k0 k1 k2 k3 k4 k5 k6 k7 k8 k9
    go_upto_region 7 with fail
    go_wp2_with fail
    refine (HEB.out (by first | rfl | trivial) w3 HB3.out).mono ?_
    rintro e w4 ⟨rfl, hb4⟩
    clear k0 k1 k2 k3 k4 k5 k6 k7 k8 k9
    have HB4 : Hid (Below wA.heap.size wA w4) := hide (HB3.out.trans (hb4.mono HB3.out.size))
    clear hb4 HB3
    have k0 := (HK.out w4 HB4.out).cell 0
    have k1 := (HK.out w4 HB4.out).cell 1
    have k2 := (HK.out w4 HB4.out).cell 2
    have k3 := (HK.out w4 HB4.out).cell 3
    have k4 := (HK.out w4 HB4.out).cell 4
    have k5 := (HK.out w4 HB4.out).cell 5
    have k6 := (HK.out w4 HB4.out).cell 6
    have k7 := (HK.out w4 HB4.out).cell 7
    have k8 := (HK.out w4 HB4.out).cell 8
    have k9 := (HK.out w4 HB4.out).cell 9
    simp at k0 k1 k2 k3 k4 k5 k6 k7 k8 k9
    go_wp2_with fail
    refine (HRL2.out w4 HB4.out).mono ?_
    rintro e w5 ⟨rfl, hb5⟩
    clear k0 k1 k2 k3 k4 k5 k6 k7 k8 k9
    have HB5 : Hid (Below wA.heap.size wA w5) := hide (HB4.out.trans (hb5.mono HB4.out.size))
    go_wp2_with fail
    go_ret
    exact ⟨rfl, HBA.out.trans (HB5.out.mono HBA.out.size)⟩
  | true =>
    refine region_after (by kernel_rfl) (by kernel_rfl) ?_
    repeat (go_big_quiet_step (first | (go_at_call 12; refine call_after (T1.out _)) | (go_at_call 19; refine call_after (T2.out _))))
    refine wpQuiet_nil ?_
    rintro _ ⟨t, rfl⟩
    have HB3 : Hid (Below wA.heap.size wA t.val) := hide (HB2.out.trans (t.prop.mono HB2.out.size))
    clear k0 k1 k2 k3 k4 k5 k6 k7 k8 k9 T1 T2 HKT
    generalize t.val = w3 at HB3 ⊢
    have k0 := (HK.out w3 HB3.out).cell 0
    have k1 := (HK.out w3 HB3.out).cell 1
    have k2 := (HK.out w3 HB3.out).cell 2
    have k3 := (HK.out w3 HB3.out).cell 3
    have k4 := (HK.out w3 HB3.out).cell 4
    have k5 := (HK.out w3 HB3.out).cell 5
    have k6 := (HK.out w3 HB3.out).cell 6
    have k7 := (HK.out w3 HB3.out).cell 7
    have k8 := (HK.out w3 HB3.out).cell 8
    have k9 := (HK.out w3 HB3.out).cell 9
    simp at k0 k1 k2 k3 k4 k5 k6 k7 k8 k9
    have HEO2 := hide (HEO.out (by first | rfl | trivial))
    have HLY2 := hide (HLY.out (by first | rfl | trivial))
    have HD12 := hide (HD1.out (by first | rfl | trivial))
    have HD22 := hide (HD2.out (by first | rfl | trivial))
    have HD32 := hide (HD3.out (by first | rfl | trivial))
    have HXB2 := hide (HXB.out (by first | rfl | trivial))
    clear HEO HLY HD1 HD2 HD3 HXB HEB
    go_upto_region 7 with fail
    go_wp2_with fail
    refine (HEO2.out w3 HB3.out).mono ?_
    rintro e w4 ⟨rfl, hb4⟩
    clear k0 k1 k2 k3 k4 k5 k6 k7 k8 k9
    have HB4 : Hid (Below wA.heap.size wA w4) := hide (HB3.out.trans (hb4.mono HB3.out.size))
    clear hb4 HB3
    have k0 := (HK.out w4 HB4.out).cell 0
    have k1 := (HK.out w4 HB4.out).cell 1
    have k2 := (HK.out w4 HB4.out).cell 2
    have k3 := (HK.out w4 HB4.out).cell 3
    have k4 := (HK.out w4 HB4.out).cell 4
    have k5 := (HK.out w4 HB4.out).cell 5
    have k6 := (HK.out w4 HB4.out).cell 6
    have k7 := (HK.out w4 HB4.out).cell 7
    have k8 := (HK.out w4 HB4.out).cell 8
    have k9 := (HK.out w4 HB4.out).cell 9
    simp at k0 k1 k2 k3 k4 k5 k6 k7 k8 k9
    go_wp2_with fail
    refine (HRL2.out w4 HB4.out).mono ?_
    rintro e w5 ⟨rfl, hb5⟩
    clear k0 k1 k2 k3 k4 k5 k6 k7 k8 k9
    have HB5 : Hid (Below wA.heap.size wA w5) := hide (HB4.out.trans (hb5.mono HB4.out.size))
    clear hb5 HB4
    have hxl : X.length ≤ 300000000 := HXB2.out
    have HDC := hide (dec_any X w5 (by omega) (HM.out w5 HB5.out))
    go_upto_region 10 with fail
    go_wp2_with fail
    refine HDC.out.mono ?_
    clear HDC
    rintro e w6 ⟨hb6, ⟨hd, f', rfl, hfp, hfa⟩ | ⟨hd, rfl⟩⟩
    case inr => exact absurd hd (by rw [HD12.out.1]; decide)
    have HFP : Hid (f'.pl = f.pl) := hide (hfp.trans HD12.out.2)
    have HB6 : Hid (Below wA.heap.size wA w6) := hide (HB5.out.trans (hb6.mono HB5.out.size))
    have HFA : Hid (f'.at_ w6 (fun k => w6.heap.size ≤ k)) := hide (hfa.tight'.weak (fun k h => .inr h))
    clear hd hfp hfa hb6 HB5
    go_upto_region 11 with fail
    refine name_world ?_
    intro w7 hw7
    have HX7 : Hid (Blk w7 w6.heap.size 36 f'.cells.toArray) := hide (by rw [hw7]; exact Blk.new _ _ _)
    have HB7 : Hid (Below wA.heap.size wA w7) := hide (by rw [hw7]; exact HB6.out.alloc HB6.out.size _)
    have HFA7 : Hid (f'.at_ w7 (fun k => w7.heap.size ≤ k)) := hide ((HFA.out.below (B := w6.heap.size) (by rw [hw7]; exact (Below.refl _ _).alloc (Nat.le_refl _) _)).weak (fun k h => by have := HX7.out.lt; omega))
    clear hw7 HFA HB6
    generalize w6.heap.size = q7 at HX7 ⊢
    have hpos : 1 ≤ X.length := HXP.out
    obtain ⟨m, hm⟩ : ∃ m, m = N % X.length := ⟨_, rfl⟩
    have hml : m < X.length := by rw [hm]; exact Nat.mod_lt _ (by omega)
    have e1 : Int.tmod (N : Int) (X.length : Int) = (m : Int) := by rw [hm]; exact Int.ofNat_tmod _ _
    have e2 : (N : Int) % (X.length : Int) = (m : Int) := by rw [hm]; rfl
    have hz : ¬ (X.length : Int) = 0 := by omega
    have hz2 : ¬ X.length = 0 := by omega
    have hz3 : ¬ X = [] := fun e => by rw [e] at hpos; simp at hpos
    have hN : N ≤ 65535 := HN.out
    have hNe' := HNE.out
    have hmX : (X.take m).length ≤ 300000000 := by rw [List.length_take]; omega
    have HMX := hide hmX
    have HDC := hide (dec_any (X.take m) w7 (by omega) (HM.out w7 HB7.out))
    have HDM := hide (HD22.out m hml)
    clear hm hmX
    go_wp2_with fail
    refine HDC.out.mono ?_
    clear HDC e1 e2 hz hz2 hz3 hN hNe' hml
    rintro e w8 ⟨hb8, ⟨hd, f2, rfl, hfp, hfa⟩ | ⟨hd, rfl⟩⟩
    case inl => exact absurd hd (by rw [HDM.out]; decide)
    have HB8 : Hid (Below wA.heap.size wA w8) := hide (HB7.out.trans (hb8.mono HB7.out.size))
    have HX8 := hide (HX7.out.below hb8 HX7.out.lt)
    have HFA8 : Hid (f'.at_ w8 (fun k => w8.heap.size ≤ k)) := hide ((HFA7.out.below hb8).weak (fun k h => by have := hb8.size; omega))
    clear hd hb8 HDM HB7 HX7 HFA7
    go_upto_region 12 with fail
    refine name_world ?_
    intro w9 hw9
    have HB9 : Hid (Below wA.heap.size wA w9) := hide (by rw [hw9]; exact HB8.out.alloc HB8.out.size _)
    have HX9 : Hid (Blk w9 q7 36 f'.cells.toArray) := hide (by rw [hw9]; exact HX8.out.alloc _)
    have HFA9 : Hid (f'.at_ w9 (fun k => w9.heap.size ≤ k)) := hide ((HFA8.out.below (B := w8.heap.size) (by rw [hw9]; exact (Below.refl _ _).alloc (Nat.le_refl _) _)).weak (fun k h => by have : w8.heap.size ≤ w9.heap.size := (show w9.heap.size = w8.heap.size + 1 by rw [hw9]; simp) ▸ Nat.le_succ _; omega))
    clear hw9 HB8 HX8 HFA8
    generalize w8.heap.size = q9
    have HDC := hide (dec_any (X ++ [0]) w9 (by rw [List.length_append]; simp; omega) (HM.out w9 HB9.out))
    go_wp2_with fail
    refine HDC.out.mono ?_
    clear HDC
    rintro e w10 ⟨hb10, ⟨hd, f2, rfl, hfp, hfa⟩ | ⟨hd, rfl⟩⟩
    case inl => exact absurd hd (by rw [HD32.out]; decide)
    have HB10 : Hid (Below wA.heap.size wA w10) := hide (HB9.out.trans (hb10.mono HB9.out.size))
    have HX10 := hide (HX9.out.below hb10 HX9.out.lt)
    have HFA10 : Hid (f'.at_ w10 (fun k => w10.heap.size ≤ k)) := hide ((HFA9.out.below hb10).weak (fun k h => by have := hb10.size; omega))
    clear hd hb10 HD32 HD22 HD12 HB9 HX9 HFA9
    go_upto_region 13 with fail
    refine name_world ?_
    intro w11 hw11
    have HB11 : Hid (Below wA.heap.size wA w11) := hide (by rw [hw11]; exact HB10.out.alloc HB10.out.size _)
    have HX11 : Hid (Blk w11 q7 36 f'.cells.toArray) := hide (by rw [hw11]; exact HX10.out.alloc _)
    have HFA11 : Hid (f'.at_ w11 (fun k => w11.heap.size ≤ k)) := hide ((HFA10.out.below (B := w10.heap.size) (by rw [hw11]; exact (Below.refl _ _).alloc (Nat.le_refl _) _)).weak (fun k h => by have : w10.heap.size ≤ w11.heap.size := (show w11.heap.size = w10.heap.size + 1 by rw [hw11]; simp) ▸ Nat.le_succ _; omega))
    clear hw11 HB10 HX10 HFA10
    generalize w10.heap.size = q11
    have k0 := (HK.out w11 HB11.out).cell 0
    have k1 := (HK.out w11 HB11.out).cell 1
    have k2 := (HK.out w11 HB11.out).cell 2
    have k3 := (HK.out w11 HB11.out).cell 3
    have k4 := (HK.out w11 HB11.out).cell 4
    have k5 := (HK.out w11 HB11.out).cell 5
    have k6 := (HK.out w11 HB11.out).cell 6
    have k7 := (HK.out w11 HB11.out).cell 7
    have k8 := (HK.out w11 HB11.out).cell 8
    have k9 := (HK.out w11 HB11.out).cell 9
    simp at k0 k1 k2 k3 k4 k5 k6 k7 k8 k9
    have d1 : (X == X) = true := by simp
    go_wp2_with fail
    refine (HLY2.out w11 HB11.out).mono ?_
    rintro e w12 ⟨rfl, hb12⟩
    clear k0 k1 k2 k3 k4 k5 k6 k7 k8 k9
    have HB12 : Hid (Below wA.heap.size wA w12) := hide (HB11.out.trans (hb12.mono HB11.out.size))
    have HX12 := hide (HX11.out.below hb12 HX11.out.lt)
    have HFA12 : Hid (f'.at_ w12 (fun k => w12.heap.size ≤ k)) := hide ((HFA11.out.below hb12).weak (fun k h => by have := hb12.size; omega))
    clear hb12 HB11 HX11 HFA11
    have k0 := (HK.out w12 HB12.out).cell 0
    have k1 := (HK.out w12 HB12.out).cell 1
    have k2 := (HK.out w12 HB12.out).cell 2
    have k3 := (HK.out w12 HB12.out).cell 3
    have k4 := (HK.out w12 HB12.out).cell 4
    have k5 := (HK.out w12 HB12.out).cell 5
    have k6 := (HK.out w12 HB12.out).cell 6
    have k7 := (HK.out w12 HB12.out).cell 7
    have k8 := (HK.out w12 HB12.out).cell 8
    have k9 := (HK.out w12 HB12.out).cell 9
    simp at k0 k1 k2 k3 k4 k5 k6 k7 k8 k9
    have j0 := HX12.out.cell 0
    have j1 := HX12.out.cell 1
    have j2 := HX12.out.cell 2
    have j3 := HX12.out.cell 3
    have j4 := HX12.out.cell 4
    have j5 := HX12.out.cell 5
    have j6 := HX12.out.cell 6
    have j7 := HX12.out.cell 7
    have j8 := HX12.out.cell 8
    have j9 := HX12.out.cell 9
    simp at j0 j1 j2 j3 j4 j5 j6 j7 j8 j9
    have HSM := hide (csame_any true f f' w12 (HA.out w12 HB12.out) HFA12.out (by simp [HFP.out]))
    go_wp2_with fail
    refine HSM.out.mono ?_
    rintro e w13 ⟨rfl, hb13⟩
    clear k0 k1 k2 k3 k4 k5 k6 k7 k8 k9 j0 j1 j2 j3 j4 j5 j6 j7 j8 j9
    go_wp2_with fail
    go_ret
    exact ⟨rfl, HBA.out.trans ((HB12.out.trans (hb13.mono HB12.out.size)).mono HBA.out.size)⟩
end Go.Proofs.YtkldfbacagnhoaaDoor
