/- FaceBytes returns true for whatever face and cut: the walk; no statement of the seat is proved here. -/
import Derived.Test.YtkgnoemagklmiaaRight7
import Derived.Test.YtkgnoemagklmiaaFaceReads
namespace Go.Proofs.Ytkgnoemagklmiaa
open Go.RowKit

theorem i64_low' (p : Nat) (m : Nat) (hp : p < 63) (hm : m = 2 ^ p - 1) (n : Int) : ∃ N : Nat, N ≤ m ∧ bits .and .i64 n (m : Int) = (N : Int) := by
  have hlt : m < 2 ^ 63 := by
    have : 2 ^ p ≤ 2 ^ 63 := Nat.pow_le_pow_right (by decide) (by omega)
    omega
  refine ⟨(BitVec.ofInt 64 n &&& BitVec.ofInt 64 (m : Int)).toNat, ?_, ?_⟩
  · rw [BitVec.toNat_and, BitVec.ofInt_natCast, BitVec.toNat_ofNat]
    exact Nat.le_trans Nat.and_le_right (Nat.mod_le _ _)
  · show IntKind.i64.wrap ((BitVec.ofInt 64 n &&& BitVec.ofInt 64 (m : Int)).toNat : Int) = _
    have h : (BitVec.ofInt 64 n &&& BitVec.ofInt 64 (m : Int)).toNat ≤ m := by
      rw [BitVec.toNat_and, BitVec.ofInt_natCast, BitVec.toNat_ofNat]
      exact Nat.le_trans Nat.and_le_right (Nat.mod_le _ _)
    rw [IntWalk.i64_in _ (by omega)]

theorem iterR_mem {α : Type} {f : St → α × St} {p : α → Prop} (h : ∀ st, p (f st).1) : ∀ (k : Nat) (st : St), ∀ x ∈ (iterR f k st).1, p x
  | 0, _, x, hx => by simp [iterR] at hx
  | k + 1, st, x, hx => by
    rw [iterR_cons] at hx
    rcases List.mem_cons.1 hx with rfl | hx
    · exact h _
    · exact iterR_mem h k _ x hx
theorem tyR_fit (st : St) : (tyR st).1.fit := textR_len 40 st
theorem vrR_fit (st : St) : (vrR st).1.fit := ⟨textR_len 40 st, tyR_fit _⟩
theorem sgR_fit (st : St) : (sgR st).1.fit := by
  rw [sgR_eq]
  refine ⟨textR_len 40 _, tyR_fit _, ?_, ?_⟩
  · show (secR tyR 200 _).1.length ≤ 200
    unfold secR
    rw [iterR_len]
    exact manyR_le 200 _
  · exact iterR_mem tyR_fit _ _
theorem fcR_fit (st : St) : (fcR st).1.fit := by
  rw [fcR_eq]
  refine ⟨textR_len 40 _, textR_len 40 _, ⟨?_, ?_⟩, ?_, ?_⟩
  · show (secR vrR 200 _).1.length ≤ 200
    unfold secR
    rw [iterR_len]
    exact manyR_le 200 _
  · exact iterR_mem vrR_fit _ _
  · show (secR sgR 200 _).1.length ≤ 200
    unfold secR
    rw [iterR_len]
    exact manyR_le 200 _
  · exact iterR_mem sgR_fit _ _
/-- What is cut off is none. -/
theorem face_cut {F : FcP} (hF : F.fit) {t u : List UInt8} (hu : u ≠ []) (e : fcL F = t ++ u) : doneR (fcR (some t)).2 = 2 := by
  unfold doneR
  rw [if_neg]
  intro h
  have e1 := fcI (some t) [] h
  injection e1 with e1
  rw [List.append_nil] at e1
  have e2 := fcF (fcR (some t)).1 u (fcR_fit _)
  rw [← e1, ← e] at e2
  have e3 := fcF F [] hF
  rw [List.append_nil, e2] at e3
  injection e3 with _ e3
  injection e3 with e3
  exact hu e3

set_option maxRecDepth 100000 in
set_option maxHeartbeats 16000000 in
theorem fbytes_walk (f : Fc) (cut : Int) (w : World) (h : f.at_ w (fun k => w.heap.size ≤ k)) : Calls Try.prog 7 #[f.val, .int .i64 cut] w (Gives w (.bool true)) := by
  obtain ⟨N, hN, hNe⟩ := i64_low' 16 65535 (by decide) (by decide) cut
  have hNe' : bits .and .i64 cut 65535 = (N : Int) := hNe
  clear hNe
  obtain ⟨wA, hwA⟩ : ∃ wA, wA = w.alloc (.cells #[S f.n, S f.su, .slice f.fA f.fl f.fc, .slice f.mA f.ml f.mc] 25) := ⟨_, rfl⟩
  have hbA : Below w.heap.size w wA := by rw [hwA]; exact (Below.refl _ _).alloc (Nat.le_refl _) _
  have hbk : Blk wA w.heap.size 25 #[S f.n, S f.su, .slice f.fA f.fl f.fc, .slice f.mA f.ml f.mc] := by rw [hwA]; exact Blk.new _ _ _
  have HBA := hide hbA
  have HK : Hid (∀ w', Below wA.heap.size wA w' → Blk w' w.heap.size 25 #[S f.n, S f.su, .slice f.fA f.fl f.fc, .slice f.mA f.ml f.mc]) := hide (fun w' hb => hbk.below hb hbk.lt)
  have HA : Hid (∀ w', Below wA.heap.size wA w' → f.at_ w' (fun k => wA.heap.size ≤ k)) := hide (fun w' hb => (h.below (hbA.trans (hb.mono hbA.size))).weak (fun _ hk => Nat.le_trans hbA.size hk))
  have HA2 : Hid (∀ w', Below wA.heap.size wA w' → f.at_ w' (fun k => w'.heap.size ≤ k)) := hide (fun w' hb => (HA.out w' hb).weak (fun _ hk => Nat.le_trans hb.size hk))
  have HLE := hide (fun hf : f.few => few_le h hf)
  have HRP := hide (Fc.right_pl h)
  have HF1 : Hid (∀ w', Below wA.heap.size wA w' → Calls Try.prog 9 #[f.val] w' (Asks w' f.few)) := hide (fun w' hb => few_any f w' (HA2.out w' hb))
  have HH := hide (fhead_any wA)
  obtain ⟨R, hR⟩ : ∃ R, R = f.right := ⟨_, rfl⟩
  have HC1 : Hid (∀ w', Below wA.heap.size wA w' → Calls Try.prog 25 #[f.val] w' (Gives w' (.bool R))) := hide (fun w' hb => by rw [hR]; exact right_any f w' (HA2.out w' hb))
  have HC2 : Hid (∀ w', Below wA.heap.size wA w' → Calls Try.prog 16 #[f.val] w' (Gives w' (.bool R))) := hide (fun w' hb => by rw [hR]; exact right7_any f w' (HA2.out w' hb))
  have HRR := hide hR
  clear hbA hbk h hR
  go_enter Try.func7, Try.ntmps7
  go_upto_region 1 with fail
  rw [← hwA]
  clear hwA
  go_upto_region 3 with (go_at_call 8; refine HH.out.mono ?_; rintro e w1 ⟨rfl, hb1⟩)
  have HB1 := hide hb1
  clear hb1 HH
  have k0 := (HK.out w1 HB1.out).cell 0
  have k1 := (HK.out w1 HB1.out).cell 1
  have k2 := (HK.out w1 HB1.out).cell 2
  have k3 := (HK.out w1 HB1.out).cell 3
  simp at k0 k1 k2 k3
  go_wp2_with fail
  refine (HF1.out w1 HB1.out).mono ?_
  rintro e w2 ⟨R1, rfl, hb2, hr1⟩
  clear k0 k1 k2 k3
  have HB2 : Hid (Below wA.heap.size wA w2) := hide (HB1.out.trans (hb2.mono HB1.out.size))
  clear hb2 HB1 HF1
  cases R1 with
  | false =>
    clear hr1
    go_wp2_with fail
    go_ret
    exact ⟨rfl, HBA.out.trans (HB2.out.mono HBA.out.size)⟩
  | true =>
  have HR1 := hide (HLE.out (hr1 rfl))
  clear hr1 HLE
  have k0 : ∀ t : After w2, t.val.cell? ⟨w.heap.size, 0, none⟩ = some (S f.n) := fun t => (HK.out t.val (HB2.out.trans (t.prop.mono HB2.out.size))).cell 0
  have k1 : ∀ t : After w2, t.val.cell? ⟨w.heap.size, 1, none⟩ = some (S f.su) := fun t => (HK.out t.val (HB2.out.trans (t.prop.mono HB2.out.size))).cell 1
  have k2 : ∀ t : After w2, t.val.cell? ⟨w.heap.size, 2, none⟩ = some (.slice f.fA f.fl f.fc) := fun t => (HK.out t.val (HB2.out.trans (t.prop.mono HB2.out.size))).cell 2
  have k3 : ∀ t : After w2, t.val.cell? ⟨w.heap.size, 3, none⟩ = some (.slice f.mA f.ml f.mc) := fun t => (HK.out t.val (HB2.out.trans (t.prop.mono HB2.out.size))).cell 3
  go_upto_region 5 with fail
  refine region_after (by kernel_rfl) (by kernel_rfl) ?_
  repeat (go_big_quiet_step (first | (go_at_call 25; refine call_after (HC1.out _ (HB2.out.trans (After.prop _ |>.mono HB2.out.size)))) | (go_at_call 16; refine call_after (HC2.out _ (HB2.out.trans (After.prop _ |>.mono HB2.out.size))))))
  refine wpQuiet_nil ?_
  rintro _ ⟨t, rfl⟩
  obtain ⟨w3, hw3⟩ : ∃ w3, w3 = t.val := ⟨_, rfl⟩
  have HB3 : Hid (Below wA.heap.size wA w3) := hide (by rw [hw3]; exact HB2.out.trans (t.prop.mono HB2.out.size))
  rw [← hw3]
  clear hw3 k0 k1 k2 k3 HB2
  have hne : (R == R) = true := by simp
  go_upto_region 8 with fail
  refine name_world ?_
  intro w4 hw4
  have HB4 : Hid (Below wA.heap.size wA w4) := hide (by rw [hw4]; exact HB3.out.alloc HB3.out.size _)
  have HW4 : Hid (Wr w4 w3.heap.size (.slice none 0 0) []) := hide (by rw [hw4]; exact wr_new w3)
  have HG4 : Hid (wA.heap.size ≤ w3.heap.size) := hide HB3.out.size
  clear hw4 HB3 hne
  obtain ⟨g, hg⟩ : ∃ g, g = w3.heap.size := ⟨_, rfl⟩
  rw [← hg] at HW4 HG4 ⊢
  clear hg
  obtain ⟨FB, hFB⟩ : ∃ F, F = fcL f.pl := ⟨_, rfl⟩
  have HFB := hide (fun _ : Unit => hFB)
  rw [← hFB] at HR1
  have HLY : Hid (Calls Try.prog 10 #[f.val, .pointer (some ⟨g, 0, none⟩)] w4 (LaysOff g (.slice none 0 0) w4 FB w4)) := hide (by
    have := flay_any f g (.slice none 0 0) [] w4 HW4.out ((HA.out w4 HB4.out).weak (fun k hk => by rcases hk with hk | hk <;> first | (rw [hk]; exact HG4.out) | (simp [Value.ownBlock] at hk))) (by have := HR1.out; rw [← hFB]; simp; omega)
    rw [List.nil_append, ← hFB] at this
    exact this)
  clear hFB
  have k0 := (HK.out w4 HB4.out).cell 0
  have k1 := (HK.out w4 HB4.out).cell 1
  have k2 := (HK.out w4 HB4.out).cell 2
  have k3 := (HK.out w4 HB4.out).cell 3
  simp at k0 k1 k2 k3
  go_upto_region 9 with (go_at_call 10; refine HLY.out.mono ?_; rintro e w5 ⟨rfl, ⟨v5, hwr⟩, hst⟩)
  clear k0 k1 k2 k3
  have HB5 : Hid (Below wA.heap.size wA w5) := hide (((Keep.of_below (F := fun i => wA.heap.size ≤ i) HB4.out (fun i _ h => h)).trans (hwr.2.1.mono (fun i _ h => by rcases h with h | h <;> first | (rw [h]; exact HG4.out) | (simp [Value.ownBlock] at h)))).below (Nat.le_refl _) (fun i h => h))
  have HST := hide (string_any g v5 FB w5 hwr.1)
  clear hwr hst HLY HW4 HB4
  obtain ⟨DZ, hDZ⟩ : ∃ d, d = darr (digF f.pl) := ⟨_, rfl⟩
  have HDG : Hid (∀ w', Below wA.heap.size wA w' → Calls Try.prog 15 #[f.val] w' (fun e w'' => e = .returned (.agg DZ) ∧ Below w'.heap.size w' w'')) := hide (fun w' hb => by
    rw [hDZ]
    exact dig_any f w' (HA2.out w' hb) (by have := HR1.out; rw [HFB.out ()] at this; omega))
  have HSU : Hid (∀ w' : World, Calls Try.prog 26 #[.slice (some ⟨w'.heap.size, 0, none⟩) 1 1] (w'.alloc (.cells #[S (faceT ++ FB)] 9)) (fun e w'' => e = .returned (.agg DZ) ∧ Below (w'.alloc (.cells #[S (faceT ++ FB)] 9)).heap.size (w'.alloc (.cells #[S (faceT ++ FB)] 9)) w'')) := hide (fun w' => by
    have := sum_any (w'.alloc (.cells #[S (faceT ++ FB)] 9)) (some ⟨w'.heap.size, 0, none⟩) 1 1 [faceT ++ FB] (Rd.blk (l := [faceT ++ FB].map S) (Blk.new _ _ _) (by simp)) rfl (by have := HR1.out; simp [faceT]; omega) (by decide)
    have e : darr (sumM [faceT ++ FB].flatten) = DZ := by rw [hDZ, digF, HFB.out ()]; simp
    rw [e] at this
    exact this)
  have hNQ : ∀ w, (binOp .neq 51 (.agg DZ) (.agg DZ)).run Try.prog w = .ok (.bool false) w := fun w => by
    have hl : (digF f.pl).length = 32 := by simp [digF, sumM_len]
    have := run_neq_darr (digF f.pl) (digF f.pl) hl hl w
    rw [hDZ]
    simpa using this
  clear hDZ
  simp only [faceT, List.cons_append, List.nil_append] at HSU
  have hflb : FB.length ≤ 13000 := HR1.out
  have k0 := (HK.out w5 HB5.out).cell 0
  have k1 := (HK.out w5 HB5.out).cell 1
  have k2 := (HK.out w5 HB5.out).cell 2
  have k3 := (HK.out w5 HB5.out).cell 3
  simp at k0 k1 k2 k3
  go_upto_region 12 with (first
    | (go_at_call 12; refine HST.out.mono ?_; rintro e w6 ⟨rfl, hw6⟩; subst w6)
    | (go_at_call 15; refine (HDG.out _ HB5.out).mono ?_; rintro e w7 ⟨rfl, hb7⟩)
    | (go_at_call 26; refine (HSU.out _).mono ?_; rintro e w8 ⟨rfl, hb8⟩))
  clear k0 k1 k2 k3
  have HB7 : Hid (Below wA.heap.size wA w7) := hide (HB5.out.trans (hb7.mono HB5.out.size))
  have HB8 : Hid (Below wA.heap.size wA w8) := hide ((HB7.out.alloc HB7.out.size _).trans (hb8.mono (HB7.out.alloc HB7.out.size _).size))
  clear hb7 hb8 HST HDG HSU HB7 HB5 hNQ hflb
  have k0 := (HK.out w8 HB8.out).cell 0
  have k1 := (HK.out w8 HB8.out).cell 1
  have k2 := (HK.out w8 HB8.out).cell 2
  have k3 := (HK.out w8 HB8.out).cell 3
  simp at k0 k1 k2 k3
  go_wp2_with fail
  refine (HC2.out w8 HB8.out).mono ?_
  rintro e w9 ⟨rfl, hb9⟩
  clear k0 k1 k2 k3
  have HB9 : Hid (Below wA.heap.size wA w9) := hide (HB8.out.trans (hb9.mono HB8.out.size))
  clear hb9 HB8 HC2
  cases R with
  | false =>
    go_wp2_with fail
    go_ret
    exact ⟨rfl, HBA.out.trans (HB9.out.mono HBA.out.size)⟩
  | true =>
  have hfit : f.pl.fit := fright_fit (by rw [← HRP.out]; exact HRR.out.symm)
  have hrd : fcR (some FB) = (f.pl, some []) := by
    have := fcF f.pl [] hfit
    rw [List.append_nil, ← HFB.out ()] at this
    exact this
  have HFIT := hide hfit
  have HRDF := hide hrd
  have hFL : FB.length ≤ 9223372036854775807 := by have := HR1.out; omega
  have HP := hide (pread_any FB w9)
  have HRL := hide (Rl.new w9 FB hFL)
  clear hfit hrd hFL
  obtain ⟨wa, hwa⟩ : ∃ wa, wa = w9.alloc (.cells #[S FB, .bool false] 86) := ⟨_, rfl⟩
  rw [← hwa] at HP HRL
  have HBa : Hid (Below wA.heap.size wA wa) := hide (by rw [hwa]; exact HB9.out.alloc HB9.out.size _)
  have HG9 : Hid (wA.heap.size ≤ w9.heap.size) := hide HB9.out.size
  clear hwa HB9
  have HRD := hide (fread_any w9.heap.size (some FB) wa HRL.out)
  go_upto_region 16 with (first
    | (go_at_call 20; refine HP.out.mono ?_; rintro e wx ⟨rfl, hwx⟩; subst wx)
    | (go_at_call 21; refine HRD.out.mono ?_; rintro e wb ⟨f2, rfl, hpl, hat, -, hrl, hkp⟩))
  refine name_world ?_
  intro wc hwc
  rw [HRDF.out] at hpl hrl
  have HBb : Hid (Below wA.heap.size wA wb) := hide (((Keep.of_below (F := fun i => wA.heap.size ≤ i) HBa.out (fun i _ h => h)).trans (hkp.mono (fun i _ h => by rw [h]; exact HG9.out))).below (Nat.le_refl _) (fun i h => h))
  have HBc : Hid (Below wA.heap.size wA wc) := hide (by rw [hwc]; exact HBb.out.alloc HBb.out.size _)
  have HF2 : Hid (Blk wc wb.heap.size 25 #[S f2.n, S f2.su, .slice f2.fA f2.fl f2.fc, .slice f2.mA f2.ml f2.mc]) := hide (by rw [hwc]; exact Blk.new _ _ _)
  have HA3 : Hid (f2.at_ wc (fun k => wc.heap.size ≤ k)) := hide (by
    have h1 : f2.at_ wb (fun k => wb.heap.size ≤ k) := ⟨⟨hat.1.1.weak (fun i h1 h => absurd h (by omega)), hat.1.2⟩, ⟨hat.2.1.1.weak (fun i h1 h => absurd h (by omega)), hat.2.1.2.1, hat.2.1.2.2.1, fun m hm => ⟨(hat.2.1.2.2.2 m hm).1.weak (fun i h1 h => absurd h (by omega)), (hat.2.1.2.2.2 m hm).2⟩⟩, hat.2.2⟩
    rw [hwc]
    exact fat_up h1 ((Below.refl _ _).alloc (Nat.le_refl _) _))
  have HPL := hide hpl
  have HDN : Hid (Calls Try.prog 22 #[.pointer (some ⟨w9.heap.size, 0, none⟩)] wc fun e w' => e = .returned (.int .i64 0) ∧ wc = w') := hide (by
    have := rdone_any w9.heap.size (some []) wc (by rw [hwc]; exact hrl.alloc _)
    exact this)
  clear hwc hpl hat hrl hkp HRD HP HRL HBa HBb
  have HSM : Hid (Calls Try.prog 11 #[f2.val, f.val] wc (Gives wc (.bool true))) := hide (by
    have := facesame_any f2 f wc HA3.out (HA2.out wc HBc.out)
    rwa [decide_eq_true (Fc.pl_p.1 HPL.out)] at this)
  have HRT : Hid (∀ w', Below wc.heap.size wc w' → Calls Try.prog 25 #[f2.val] w' (Gives w' (.bool true))) := hide (fun w' hb => by
    have h2 := fat_up HA3.out hb
    have := right_any f2 w' h2
    rwa [Fc.right_pl h2, HPL.out, ← HRP.out, ← HRR.out] at this)
  have m0 := HF2.out.cell 0
  have m1 := HF2.out.cell 1
  have m2 := HF2.out.cell 2
  have m3 := HF2.out.cell 3
  simp at m0 m1 m2 m3
  have k0 := (HK.out wc HBc.out).cell 0
  have k1 := (HK.out wc HBc.out).cell 1
  have k2 := (HK.out wc HBc.out).cell 2
  have k3 := (HK.out wc HBc.out).cell 3
  simp at k0 k1 k2 k3
  have hmq : wb.heap.size < wc.heap.size := HF2.out.lt
  go_wp2_with (go_at_call 22; refine HDN.out.mono ?_; rintro e wx ⟨rfl, hwx⟩; subst wx)
  refine HSM.out.mono ?_
  rintro e wd ⟨rfl, hbd⟩
  clear m0 m1 m2 m3 k0 k1 k2 k3
  have HBD := hide hbd
  clear hbd
  have m0 := (HF2.out.below HBD.out HF2.out.lt).cell 0
  have m1 := (HF2.out.below HBD.out HF2.out.lt).cell 1
  have m2 := (HF2.out.below HBD.out HF2.out.lt).cell 2
  have m3 := (HF2.out.below HBD.out HF2.out.lt).cell 3
  simp at m0 m1 m2 m3
  go_upto_region 18 with (go_at_call 25; refine (HRT.out _ HBD.out).mono ?_; rintro e we ⟨rfl, hbe⟩)
  clear m0 m1 m2 m3 hmq
  have HBE : Hid (Below wA.heap.size wA we) := hide (HBc.out.trans ((HBD.out.trans (hbe.mono HBD.out.size)).mono HBc.out.size))
  clear hbe HBD HRT HSM HDN HF2 HA3 HPL HBc
  have hpos : 1 ≤ FB.length := by rw [HFB.out ()]; exact fcL_pos _
  obtain ⟨m, hm⟩ : ∃ m, m = N % FB.length := ⟨_, rfl⟩
  have hml : m < FB.length := by rw [hm]; exact Nat.mod_lt _ (by omega)
  have e1 : Int.tmod (N : Int) (FB.length : Int) = (m : Int) := by rw [hm]; exact Int.ofNat_tmod _ _
  have e2 : (N : Int) % (FB.length : Int) = (m : Int) := by rw [hm]; rfl
  have hz : ¬ (FB.length : Int) = 0 := by omega
  have hz2 : ¬ FB.length = 0 := by omega
  have hz3 : ¬ FB = [] := fun e => by rw [e] at hpos; simp at hpos
  have hflb : FB.length ≤ 13000 := HR1.out
  have HCUT : Hid (doneR (fcR (some (FB.take m))).2 = 2) := hide (face_cut (F := f.pl) (u := FB.drop m) HFIT.out (fun h => by have := congrArg List.length h; simp at this; omega) (by rw [← HFB.out (), List.take_append_drop]))
  have HP := hide (pread_any (FB.take m) we)
  have HRL := hide (Rl.new we (FB.take m) (by rw [List.length_take]; omega))
  obtain ⟨wf, hwf⟩ : ∃ wf, wf = we.alloc (.cells #[S (FB.take m), .bool false] 86) := ⟨_, rfl⟩
  rw [← hwf] at HP HRL
  have HBf : Hid (Below wA.heap.size wA wf) := hide (by rw [hwf]; exact HBE.out.alloc HBE.out.size _)
  have HGE : Hid (wA.heap.size ≤ we.heap.size) := hide HBE.out.size
  have HRD := hide (fread_any we.heap.size (some (FB.take m)) wf HRL.out)
  clear hwf hm hN HRL HBE
  go_upto_region 19 with (go_at_call 20; refine HP.out.mono ?_; rintro e wx ⟨rfl, hwx⟩; subst wx)
  clear e1 e2 hz hz2 hz3 hflb hml hpos hNe'
  go_upto_region 20 with (go_at_call 21; refine HRD.out.mono ?_; rintro e wg ⟨f3, rfl, hpl, hat, hso, hrl, hkp⟩)
  have HBG : Hid (Below wA.heap.size wA wg) := hide (((Keep.of_below (F := fun i => wA.heap.size ≤ i) HBf.out (fun i _ h => h)).trans (hkp.mono (fun i _ h => by rw [h]; exact HGE.out))).below (Nat.le_refl _) (fun i h => h))
  have HDN := hide (rdone_any we.heap.size _ wg hrl)
  rw [HCUT.out] at HDN
  clear hpl hat hso hrl hkp HRD
  go_wp2_with (go_at_call 22; refine HDN.out.mono ?_; rintro e wx ⟨rfl, hwx⟩; subst wx)
  go_ret
  exact ⟨rfl, HBA.out.trans (HBG.out.mono HBA.out.size)⟩
end Go.Proofs.Ytkgnoemagklmiaa
