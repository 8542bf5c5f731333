/- A class's file as bytes, walked; no statement of the seat is proved here. -/
import Derived.Test.YtkldfbacagnhoaaDoorPoolLay
import Derived.Test.YtkldfbacagnhoaaDoorClsRight
import Derived.Test.YtkldfbacagnhoaaDoorClsSize
namespace Go.Proofs.YtkldfbacagnhoaaDoor
open Go.RowKit

theorem Fl.at_.nok {w : World} {F : Nat → Prop} {f : Fl} (h : f.at_ w F) : f.pl.nok := h.po.nW
theorem bodies_lo {p : PoolP} : ∀ (ms : List SgP) (bs : List BdP), bodiesOk p ms bs = true → bs.length = ms.length → ∀ b ∈ bs, b.lo ≤ 401 ∧ b.sk ≤ 1000 := fun ms bs h hl => by
  induction ms generalizing bs with
  | nil => intro b hb; cases bs with
    | nil => cases hb
    | cons => simp at hl
  | cons m ms ih =>
    cases bs with
    | nil => intro b hb; cases hb
    | cons b bs =>
      simp only [bodiesOk, Bool.and_eq_true] at h
      intro x hx
      rcases List.mem_cons.1 hx with rfl | hx
      · have := h.1
        simp only [bdOk, Bool.and_eq_true, decide_eq_true_eq] at this
        exact ⟨by omega, by omega⟩
      · exact ih bs h.2 (by simpa using hl) x hx

set_option maxRecDepth 100000 in
theorem enc_bad (f : Fl) (w : World) (hm : Laid w) (h : f.at_ w (fun k => w.heap.size ≤ k)) (hr : f.pl.right = false) : Calls Tryd.prog 11 #[f.val] w (Gives w (.tuple #[S [], .int .i64 1])) := by
  go_enter Tryd.func11, Tryd.ntmps11
  go_upto_region 1 with fail
  refine name_world ?_
  intro wA hwA
  have HB : Hid (Below w.heap.size w wA) := hide (by rw [hwA]; exact (Below.refl _ _).alloc (Nat.le_refl _) _)
  have HX : Hid (Blk wA w.heap.size 36 f.cells.toArray) := hide (by rw [hwA]; exact Blk.new _ _ _)
  have HR := hide (fright_any f wA (hm.below HB.out (Nat.le_refl _)) ((h.below HB.out).weak (G := fun k => wA.heap.size ≤ k) (fun k hk => by have := HB.out.size; omega)))
  rw [hr] at HR
  clear hwA hm h hr
  have k0 := HX.out.cell 0
  have k1 := HX.out.cell 1
  have k2 := HX.out.cell 2
  have k3 := HX.out.cell 3
  have k4 := HX.out.cell 4
  have k5 := HX.out.cell 5
  have k6 := HX.out.cell 6
  have k7 := HX.out.cell 7
  have k8 := HX.out.cell 8
  have k9 := HX.out.cell 9
  simp at k0 k1 k2 k3 k4 k5 k6 k7 k8 k9
  go_wp2_with (go_at_call 12; refine HR.out.mono ?_; rintro e w2 ⟨rfl, hb2⟩)
  go_ret2
  exact ⟨rfl, HB.out.trans (hb2.mono HB.out.size)⟩

set_option maxRecDepth 100000 in
set_option maxHeartbeats 8000000 in
theorem enc_ok (f : Fl) (w : World) (hm : Laid w) (h : f.at_ w (fun k => w.heap.size ≤ k)) (hr : f.pl.right = true) : Calls Tryd.prog 11 #[f.val] w (Gives w (.tuple #[S (fileL f.pl), .int .i64 0])) := by
  have hfit := right_fit h.nok hr
  have hsz := fileL_bd hfit
  obtain ⟨R, hR⟩ : ∃ R, R = fileL f.pl := ⟨_, rfl⟩
  rw [← hR]
  have hR2 : R = fcL f.f.pl ++ poolL f.ppl ++ catAll bdL (f.bs.map Bd.pl) := by
    rw [hR, fileL, ← List.append_assoc]
    rfl
  rw [← hR] at hsz
  have hbf : ∀ b ∈ f.bs, b.lo ≤ 401 ∧ b.sk ≤ 1000 := by
    have h1 : bodiesOk f.ppl (f.f.ms.map Sg.pl) (f.bs.map Bd.pl) = true ∧ (f.bs.map Bd.pl).length = (f.f.ms.map Sg.pl).length := by
      unfold FileP.right at hr
      simp only [Bool.and_eq_true, decide_eq_true_eq] at hr
      exact ⟨hr.2, hr.1.2⟩
    intro b hb
    exact bodies_lo _ _ h1.1 h1.2 b.pl (List.mem_map.2 ⟨b, hb, rfl⟩)
  have hco : ∀ b ∈ f.bs, ∀ x ∈ b.code, coFit x := by
    intro b hb
    exact (hfit.b.2 b.pl (List.mem_map.2 ⟨b, hb, rfl⟩)).2.2.2
  obtain ⟨M, hM⟩ : ∃ M, M = f.bs.map Bd.pl := ⟨_, rfl⟩
  have hML : M.length = f.bl := by rw [hM]; simp [h.bL]
  rw [← hM] at hR2
  obtain ⟨D1, hD1⟩ : ∃ D1, D1 = fcL f.f.pl ++ poolL f.ppl := ⟨_, rfl⟩
  have hl1 : D1.length + (catAll bdL M).length ≤ 300000000 := by rw [hR2, ← hD1, List.length_append] at hsz; exact hsz
  have hl0 : (fcL f.f.pl).length + (poolL f.ppl).length ≤ 300000000 := by rw [hD1, List.length_append] at hl1; omega
  have hbl := h.bB
  have HCO := hide hco
  have HBF := hide hbf
  have HMM := hide hM
  have HML := hide hML
  have HL1 := hide hl1
  have HL0 := hide hl0
  have HRR : Hid (R = D1 ++ catAll bdL M) := hide (by rw [hR2, hD1])
  have HD1 := hide hD1
  have HA := hide h
  have HLD := hide hm
  clear hfit hsz hR hR2 hbf hco hM hML hl1 hl0 hD1 hm
  go_enter Tryd.func11, Tryd.ntmps11
  go_upto_region 1 with fail
  refine name_world ?_
  intro wA hwA
  have HB : Hid (Below w.heap.size w wA) := hide (by rw [hwA]; exact (Below.refl _ _).alloc (Nat.le_refl _) _)
  have HX : Hid (Blk wA w.heap.size 36 f.cells.toArray) := hide (by rw [hwA]; exact Blk.new _ _ _)
  have HR := hide (fright_any f wA (HLD.out.below HB.out (Nat.le_refl _)) ((h.below HB.out).weak (G := fun k => wA.heap.size ≤ k) (fun k hk => by have := HB.out.size; omega)))
  rw [hr] at HR
  clear hwA h hr
  have k0 := HX.out.cell 0
  have k1 := HX.out.cell 1
  have k2 := HX.out.cell 2
  have k3 := HX.out.cell 3
  have k4 := HX.out.cell 4
  have k5 := HX.out.cell 5
  have k6 := HX.out.cell 6
  have k7 := HX.out.cell 7
  have k8 := HX.out.cell 8
  have k9 := HX.out.cell 9
  simp at k0 k1 k2 k3 k4 k5 k6 k7 k8 k9
  go_upto_region 4 with (go_at_call 12; refine HR.out.mono ?_; rintro e w2 ⟨rfl, hb2⟩; have HB2 := hide (HB.out.trans (hb2.mono HB.out.size)); have HX2 := hide (HX.out.below hb2 HX.out.lt); clear hb2)
  clear k0 k1 k2 k3 k4 k5 k6 k7 k8 k9 HR HX HB
  refine name_world ?_
  intro wo hwo
  have HB : Hid (Below w.heap.size w wo) := hide (by rw [hwo]; exact HB2.out.alloc HB2.out.size _)
  have HX : Hid (Blk wo w.heap.size 36 f.cells.toArray) := hide (by rw [hwo]; exact HX2.out.alloc _)
  have HW : Hid (Wr wo w2.heap.size (.slice none 0 0) []) := hide (by rw [hwo]; exact wr_new w2)
  have HG : Hid (w.heap.size ≤ w2.heap.size) := hide HB2.out.size
  clear hwo HB2 HX2
  generalize w2.heap.size = g at HW HG ⊢
  obtain ⟨v, hv⟩ : ∃ v : Value, v = .slice none 0 0 := ⟨_, rfl⟩
  have HVN : Hid (∀ k, v.ownBlock = some k → w.heap.size ≤ k) := hide (by rw [hv]; intro k hk; cases hk)
  rw [← hv] at HW
  clear hv
  have HAT : Hid (f.at_ wo (Same g v)) := hide ((HA.out.below HB.out).weak (G := Same g v) (fun k hk => by
    rcases hk with e | e
    · rw [e]; exact HG.out
    · exact HVN.out k e.symm))
  have HBW : Hid (∀ bs w', Wk g v wo bs w' → Below w.heap.size w w') := hide (fun bs w' hk => HB.out.trans (hk.below HB.out.size HG.out HVN.out))
  clear HA
  have k0 := HX.out.cell 0
  have k1 := HX.out.cell 1
  have k2 := HX.out.cell 2
  have k3 := HX.out.cell 3
  simp at k0 k1 k2 k3
  have HF := hide (flay_any f.f g v [] wo HW.out HAT.out.fa (by have := HL0.out; simp only [List.length_nil]; omega))
  rw [List.nil_append] at HF
  go_upto_region 5 with (go_at_call 31; refine HF.out.mono ?_; rintro e w3 ⟨rfl, h1, h2⟩; have HK1 := hide h1; have HX3 := hide (h2 _ _ _ (by decide) HX.out); clear h1 h2)
  clear k0 k1 k2 k3 HF HX
  have k4 := HX3.out.cell 4
  have k5 := HX3.out.cell 5
  have k6 := HX3.out.cell 6
  have k7 := HX3.out.cell 7
  have k8 := HX3.out.cell 8
  simp at k4 k5 k6 k7 k8
  obtain ⟨v1, h1⟩ := HK1.out
  have HPat : Hid (f.pat w3 (Same g v1)) := hide { HAT.out.po with nr := HAT.out.po.nr.wrote h1, cr := HAT.out.po.cr.wrote h1, tr := HAT.out.po.tr.wrote h1, dr := HAT.out.po.dr.wrote h1, mr := HAT.out.po.mr.wrote h1, mW := fun x hx => ⟨⟨(HAT.out.po.mW x hx).1.1.wrote h1, (HAT.out.po.mW x hx).1.2⟩, (HAT.out.po.mW x hx).2⟩ }
  have HP := hide (play_any f g v1 (fcL f.f.pl) w3 h1.1 HPat.out (by have := HL0.out; omega))
  have H1 := hide h1
  clear h1 HPat
  go_upto_region 6 with (go_at_call 32; refine HP.out.mono ?_; rintro e w4 ⟨rfl, ⟨v2, h2⟩, h3⟩; have HK2 := hide (Wk.step H1.out h2).1; have HX4 := hide (h3 _ _ _ (by decide) HX3.out); clear h2 h3)
  clear k4 k5 k6 k7 k8 HP HX3 HK1 H1
  have k9 := HX4.out.cell 9
  simp at k9
  go_upto_region 7 with fail
  clear k9
  rw [← HD1.out] at HK2
  go_wp2_with fail
  go_loopw [21] (fun i wr => ∃ k : Nat, k ≤ f.bl ∧ i = .int .i64 k ∧ Hid (Wk g v wo (D1 ++ catTo bdL M k) wr)) (fun i _ => f.bl - (intOf i).toNat)
  case atStart => exact ⟨0, Nat.zero_le _, rfl, hide (by rw [catTo_zero, List.append_nil]; exact HK2.out)⟩
  case round =>
    obtain ⟨k, hk, rfl, HK⟩ := hrel
    clear HK2 HX4
    by_cases hlt : k < f.bl
    · obtain ⟨b, o, hA, _, _, hcs⟩ := Rd.rec_ (f := Bd.cells) (fun _ => rfl) (HAT.out.br.wk HK.out) HAT.out.bL k hlt
      have hlk : k < f.bs.length := by have := HAT.out.bL; omega
      have hlM : k < M.length := by have := HML.out; omega
      have HT := hide (catTo_succ bdL M k hlM)
      have hdl := catTo_bd bdL M k hlM
      have hMk : M[k] = f.bs[k].pl := by simp [HMM.out]
      rw [hMk] at HT hdl
      have hat := HAT.out.bW f.bs[k] (List.getElem_mem hlk)
      have hcf := HCO.out f.bs[k] (List.getElem_mem hlk)
      have hlo := HBF.out f.bs[k] (List.getElem_mem hlk)
      clear hMk
      have c0 := hcs 0 _ rfl
      have c1 := hcs 1 _ rfl
      have c2 := hcs 2 _ rfl
      clear hcs
      generalize f.bs[k] = t at c0 c1 c2 HT hdl hat hcf hlo
      obtain ⟨lo, sk, cA, ck, cc, code⟩ := t
      obtain ⟨hc1, hc2, hc3, _⟩ := hat
      simp only [Nat.add_zero] at c0 c1 c2 hc1 hc2 hc3 hcf hlo
      obtain ⟨D, hD⟩ : ∃ D, D = D1 ++ catTo bdL M k := ⟨_, rfl⟩
      obtain ⟨D2, hD2⟩ : ∃ D2, D2 = D ++ (vi lo.toNat ++ (vi sk.toNat ++ vi (ck : Int).toNat)) := ⟨_, rfl⟩
      have hTT : D ++ bdL (Bd.pl ⟨lo, sk, cA, ck, cc, code⟩) = D2 ++ catAll coL code := by
        rw [hD2]
        simp only [bdL, Bd.pl, Int.toNat_natCast, hc2, List.append_assoc]
      have hDl : D.length + (bdL (Bd.pl ⟨lo, sk, cA, ck, cc, code⟩)).length ≤ 300000000 := by
        have := HL1.out
        rw [hD, List.length_append]
        omega
      have hDl2 : D2.length + (catAll coL code).length ≤ 300000000 := by
        have := congrArg List.length hTT
        rw [List.length_append, List.length_append] at this
        omega
      have hDl0 : D.length ≤ 300000000 := by omega
      rw [← hD] at HK
      have HD := hide hD
      have HD2 := hide hD2
      have HTT := hide hTT
      have HDL := hide hDl0
      have HDL2 := hide hDl2
      have HC := hide (And.intro hc1 (And.intro hc2 hcf))
      have hlo1 := hlo.1
      have hsk1 := hlo.2
      clear hD hDl hdl hD2 hTT hDl2 hDl0 hc1 hc2 hcf hlo
      rw [hA]
      go_upto_region 9 with fail
      refine name_world ?_
      intro wC hwC
      have HKC : Hid (Wk g v wo D wC) := hide (by rw [hwC]; exact HK.out.alloc _)
      have HBV : Hid (Blk wC wr.heap.size 58 #[.int .i64 lo, .int .i64 sk, .slice cA ck cc]) := hide (by rw [hwC]; exact Blk.new _ _ _)
      clear hwC HK c0 c1 c2
      generalize wr.heap.size = q1 at HBV ⊢
      have k0 := HBV.out.cell 0
      have k1 := HBV.out.cell 1
      have k2 := HBV.out.cell 2
      simp at k0 k1 k2
      go_upto_region 10 with (go_at_call 22; refine (cnum3 lo sk (ck : Int) (HKC.out.alloc _) (Blk.new _ _ _) (by have := HDL.out; omega) (by omega) (by omega) (by omega)).mono ?_; rintro e w3 ⟨rfl, h1, h2⟩; have HKD := hide h1; have HBV3 := hide (h2 _ _ _ (by decide) (HBV.out.alloc _)); clear h1 h2)
      rw [← HD2.out] at HKD
      clear k0 k1 k2 HKC HBV
      have k2 := HBV3.out.cell 2
      simp at k2
      go_upto_region 11 with fail
      clear k2 HBV3
      go_wp2_with fail
      go_loopw [37] (fun i wr => ∃ j : Nat, j ≤ ck ∧ i = .int .i64 j ∧ Hid (Wk g v wo (D2 ++ catTo coL code j) wr)) (fun i _ => ck - (intOf i).toNat)
      case atStart => exact ⟨0, Nat.zero_le _, rfl, hide (by rw [catTo_zero, List.append_nil]; exact HKD.out)⟩
      case round =>
        obtain ⟨j, hj, rfl, HK⟩ := hrel
        clear HKD
        by_cases hlt2 : j < ck
        · obtain ⟨b2, o2, hA2, _, _, hcs⟩ := Rd.rec_ (f := coC) (fun _ => rfl) (HC.out.1.wk HK.out) HC.out.2.1 j hlt2
          have hlj : j < code.length := by have := HC.out.2.1; omega
          have HTJ := hide (catTo_succ coL code j hlj)
          have hdl := catTo_bd coL code j hlj
          have hcf := HC.out.2.2 code[j] (List.getElem_mem hlj)
          have c0 := hcs 0 _ rfl
          have c1 := hcs 1 _ rfl
          clear hcs
          generalize code[j] = x at c0 c1 HTJ hdl hcf
          obtain ⟨xc, xa⟩ := x
          simp only [Nat.add_zero] at c0 c1
          obtain ⟨D3, hD3⟩ : ∃ D3, D3 = D2 ++ catTo coL code j := ⟨_, rfl⟩
          have hDl3 : D3.length ≤ 300000000 := by have := HDL2.out; rw [hD3, List.length_append]; omega
          rw [← hD3] at HK
          have HD3 := hide hD3
          have HDL3 := hide hDl3
          have hxc : xc ≤ 9223372036854775807 := by have := hcf.1; simp only at this; omega
          have hxa : xa ≤ 9223372036854775807 := by
            have := hcf.2
            simp only at this
            split at this <;> omega
          clear hD3 hDl3 hdl hcf
          rw [hA2]
          go_upto_region 13 with fail
          refine name_world ?_
          intro wC2 hwC
          have HKC : Hid (Wk g v wo D3 wC2) := hide (by rw [hwC]; exact HK.out.alloc _)
          have HBI : Hid (Blk wC2 wr.heap.size 55 #[.int .i64 xc, .int .i64 xa]) := hide (by rw [hwC]; exact Blk.new _ _ _)
          clear hwC HK c0 c1
          generalize wr.heap.size = q2 at HBI ⊢
          have k0 := HBI.out.cell 0
          simp at k0
          go_upto_region 14 with (go_at_call 22; refine (cnum1 xc (HKC.out.alloc _) (Blk.new _ _ _) (by have := HDL3.out; omega) hxc).mono ?_; rintro e w5 ⟨rfl, h1, h2⟩; have HKE := hide h1; have HBI3 := hide (h2 _ _ _ (by decide) (HBI.out.alloc _)); clear h1 h2)
          clear k0 HKC HBI
          have k0 := HBI3.out.cell 0
          have k1 := HBI3.out.cell 1
          simp at k0 k1
          have HPL := hide (pool_any xc w5 (HLD.out.below (HBW.out _ _ HKE.out) (Nat.le_refl _)))
          cases hz : (pl xc == 0) with
          | true =>
            have HK2 : Hid (Wk g v wo (D2 ++ catTo coL code (j + 1)) w5) := hide (by
              rw [HTJ.out, ← List.append_assoc, ← HD3.out, coL]
              simp only
              rw [if_pos hz, List.append_nil]
              exact HKE.out)
            go_wp2_with (go_at_call 17; refine HPL.out.mono ?_; rintro e w6 ⟨rfl, hw6⟩; subst w6)
            go_roundw
            case rel => exact ⟨j + 1, by omega, by go_num, HK2⟩
            case measure => simp [intOf]; omega
          | false =>
            go_upto_region 16 with (first
              | (go_at_call 17; refine HPL.out.mono ?_; rintro e w6 ⟨rfl, hw6⟩; subst w6)
              | (go_at_call 22; refine (cnum1 xa (HKE.out.alloc _) (Blk.new _ _ _) (by have := HDL3.out; have := vi_len_10 xc.toNat (by omega); rw [List.length_append]; omega) hxa).mono ?_; rintro e w7 ⟨rfl, h1, h2⟩; have HKF := hide h1; clear h1 h2))
            have HK2 : Hid (Wk g v wo (D2 ++ catTo coL code (j + 1)) w7) := hide (by
              rw [HTJ.out, ← List.append_assoc, ← HD3.out, coL]
              simp only
              rw [if_neg (by rw [hz]; decide), ← List.append_assoc]
              exact HKF.out)
            clear k0 k1 HKE HKF HPL
            go_wp2_with fail
            go_roundw
            case rel => exact ⟨j + 1, by omega, by go_num, HK2⟩
            case measure => simp [intOf]; omega
        · have HKN : Hid (Wk g v wo (D1 ++ catTo bdL M (k + 1)) wr) := hide (by
            rw [HT.out, ← List.append_assoc, ← HD.out, HTT.out, ← catTo_all coL code j (by have := HC.out.2.1; omega)]
            exact HK.out)
          clear HK
          go_wp2_with fail
          go_roundw
          case rel => first | exact ⟨k + 1, by omega, by go_num, HKN⟩ | ((repeat apply Exists.intro); exact ⟨⟨k + 1, by omega, by go_num, HKN⟩, rfl⟩)
          case measure => simp [intOf]; omega
    · have HFI : Hid (Wk g v wo R wr) := hide (by rw [HRR.out, ← catTo_all bdL M k (by have := HML.out; omega)]; exact HK.out)
      obtain ⟨v2, h2⟩ := HFI.out
      have HS := hide (string_any g v2 R wr h2.1)
      clear h2 HK
      go_wp2_with (go_at_call 24; refine HS.out.mono ?_; rintro e w6 ⟨rfl, hw6⟩; subst w6)
      go_ret2
      exact ⟨rfl, HBW.out _ _ HFI.out⟩
end Go.Proofs.YtkldfbacagnhoaaDoor
