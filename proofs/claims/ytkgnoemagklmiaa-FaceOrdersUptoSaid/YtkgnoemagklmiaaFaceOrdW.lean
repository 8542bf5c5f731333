/- FaceOrders returns true for whatever class of bounded bulk: the walk. -/
import Derived.Test.YtkgnoemagklmiaaFaceOrdL
namespace Go.Proofs.Ytkgnoemagklmiaa
open Go.RowKit Go.Maps
set_option linter.unusedVariables false

set_option maxRecDepth 100000 in
set_option maxHeartbeats 40000000 in
theorem orders_walk (c : K5.Kl) (turn : Int) (w : World) (h0 : c.At w (fun _ => False)) (hb : c.len ≤ 104857600) : Calls Try.prog 4 #[c.val, .int .i64 turn] w (Gives w (.bool true)) := by
  have h := h0.old
  have HFC : Hid (∀ w', Below w.heap.size w w' → Calls Try.prog 13 #[c.val] w' (Gives w' (.bool c.few))) := hide (fun w' hw => K5.fewclass_any c w' (h.on hw))
  have HMM := hide (@run_makeMap Try.prog)
  have HAT := hide h
  have HH := hide (fun w => fhead_any w)
  have HNM := hide (kl_names hb)
  obtain ⟨r, hr7, hre⟩ := i64_lowO 3 7 (by decide) (by decide) turn
  have hturn : bits .and .i64 turn 7 = (r : Int) := hre
  have HTU := hide hturn
  clear h h0 hb hre hturn
  obtain ⟨cln, cco, cn, csu, cfA, cfk, cfc, cfs, cmA, cmq, cmc, cms⟩ := c
  obtain ⟨FW, hFW⟩ : ∃ FW, FW = K5.Kl.few ⟨cln, cco, cn, csu, cfA, cfk, cfc, cfs, cmA, cmq, cmc, cms⟩ := ⟨_, rfl⟩
  rw [← hFW] at HFC
  have HFW := hide (fun _ : Unit => hFW)
  clear hFW
  replace HFC : Hid (∀ w', Below w.heap.size w w' → Calls Try.prog 13 #[.agg #[.int .i64 cln, .int .i64 cco, S cn, S csu, .slice cfA cfk cfc, .slice cmA cmq cmc]] w' (Gives w' (.bool FW))) := HFC
  show Calls Try.prog 4 #[.agg #[.int .i64 cln, .int .i64 cco, S cn, S csu, .slice cfA cfk cfc, .slice cmA cmq cmc], .int .i64 turn] w _
  go_enter Try.func4, Try.ntmps4
  go_upto_region 1 with fail
  refine name_world ?_
  intro wA hwA
  have HBA : Hid (Below w.heap.size w wA) := hide (by rw [hwA]; exact (Below.refl _ _).alloc (Nat.le_refl _) _)
  have HE : Hid (Blk wA w.heap.size 39 #[.int .i64 cln, .int .i64 cco, S cn, S csu, .slice cfA cfk cfc, .slice cmA cmq cmc]) := hide (by rw [hwA]; exact Blk.new _ _ _)
  clear hwA
  obtain ⟨g2, hg2⟩ : ∃ g, g = w.heap.size := ⟨_, rfl⟩
  have HG2 := hide hg2
  rw [← hg2] at HE ⊢
  clear hg2
  go_upto_region 3 with (go_at_call 8; refine (HH.out _).mono ?_; rintro e w1 ⟨rfl, hb1⟩)
  have HB1 : Hid (Below w.heap.size w w1) := hide (HBA.out.trans (hb1.mono HBA.out.size))
  have HE1 := hide (HE.out.below hb1 HE.out.lt)
  clear hb1 HBA HE HH
  have q0 := HE1.out.cell 0
  have q1 := HE1.out.cell 1
  have q2 := HE1.out.cell 2
  have q3 := HE1.out.cell 3
  have q4 := HE1.out.cell 4
  have q5 := HE1.out.cell 5
  simp at q0 q1 q2 q3 q4 q5
  cases FW
  case false =>
    go_wp2_with (go_at_call 13; refine (HFC.out _ HB1.out).mono ?_; rintro e w2 ⟨rfl, hb2⟩)
    go_ret
    exact ⟨rfl, HB1.out.trans (hb2.mono HB1.out.size)⟩
  have HFK := hide (kl_few (HFW.out ()).symm)
  clear HFW
  go_upto_region 5 with (go_at_call 13; refine (HFC.out _ HB1.out).mono ?_; rintro e w2 ⟨rfl, hb2⟩)
  have HB2 : Hid (Below w.heap.size w w2) := hide (HB1.out.trans (hb2.mono HB1.out.size))
  have HE2 := hide (HE1.out.below hb2 HE1.out.lt)
  clear hb2 q0 q1 q2 q3 q4 q5 HB1 HE1 HFC
  have q2 := HE2.out.cell 2
  have q3 := HE2.out.cell 3
  simp at q2 q3
  have hmm := HMM.out
  go_upto_region 7 with fail
  clear hmm HMM
  refine name_world ?_
  intro w3 hw3
  have HB3 : Hid (Below w2.heap.size w2 w3) := hide (by rw [hw3]; exact ((Below.refl _ _).alloc (Nat.le_refl _) _).alloc (by simp) _)
  have HD3 : Hid (Blk w3 w2.heap.size 39 #[.int .i64 0, .int .i64 0, S cn, S csu, .slice none 0 0, .slice none 0 0]) := hide (by rw [hw3]; exact (Blk.new _ _ _).alloc _)
  have HS3 : Hid (K5.SetIs w3 (w2.heap.size + 1) 0 []) := hide (by
    rw [hw3]
    have := K5.SetIs.made (w2.alloc (.cells #[.int .i64 0, .int .i64 0, S cn, S csu, .slice none 0 0, .slice none 0 0] 39))
    rwa [World.size_alloc] at this)
  have HE3 := hide (HE2.out.below HB3.out HE2.out.lt)
  have HGE : Hid (g2 < w2.heap.size) := hide HE2.out.lt
  obtain ⟨gd, hgd⟩ : ∃ gd, gd = w2.heap.size := ⟨_, rfl⟩
  rw [← hgd] at HD3 HS3 HGE ⊢
  obtain ⟨gm, hgm⟩ : ∃ gm, gm = gd + 1 := ⟨_, rfl⟩
  rw [← hgm] at HS3 ⊢
  have HG := hide (And.intro hgd hgm)
  clear hw3 hgd hgm q2 q3 HE2
  have HBW3 : Hid (Below w.heap.size w w3) := hide (HB2.out.trans (HB3.out.mono HB2.out.size))
  have HFL : Hid (cfs.length = cfk) := hide HAT.out.fl
  have HML : Hid (cms.length = cmq) := hide HAT.out.ml
  have q4 := HE3.out.cell 4
  simp at q4
  go_wp2_with fail
  clear q4
  go_loopw [32] (fun i wr => ∃ (j : Nat) (A : Option Addr) (c : Nat), j ≤ cfk ∧ i = .int .i64 j ∧ Hid (Gx wr gd 39 [.int .i64 0, .int .i64 0, S cn, S csu, .slice A (firsts Vr.n (cfs.take j)).length c, .slice none 0 0] 4 w3.heap.size 45 3 (firsts Vr.n (cfs.take j)).length ((firsts Vr.n (cfs.take j)).flatMap Vr.cells) (.slice A (firsts Vr.n (cfs.take j)).length c)) ∧ Hid (K5.SetIs wr gm j ((cfs.take j).map fun v => 102 :: v.n)) ∧ Hid (Keep (fun k => k = gd ∨ k = gm) w3 wr)) (fun i _ => cfk - (intOf i).toNat)
  case atStart => exact ⟨0, none, 0, Nat.zero_le _, rfl, hide ⟨HD3.out, rfl, World.ownsRow_nil _ _ _ _, by decide⟩, HS3, hide (Keep.refl _ _)⟩
  case round =>
    obtain ⟨j, A, cc, hj, rfl, HGX, HSE, HKJ⟩ := hrel
    by_cases hlt : j < cfk
    case pos =>
      focus
        have HBR : Hid (Below w.heap.size w wr) := hide (HBW3.out.trans ((HKJ.out.below (B := gd) (by have := HB3.out.size; have := HG.out; omega) (fun k hk => by have := HG.out; omega)).mono (by have := HG.out; have := HB2.out.size; omega)))
        obtain ⟨b, o, hA, _, hbl, hcs⟩ := Rd.rec_ (f := Vr.cells) (size := 3) (fun _ => rfl) (HAT.out.fr.below HBR.out) HFL.out j hlt
        have hlk : j < cfs.length := by have := HFL.out; omega
        have HFS := hide (firsts_step Vr.n hlk)
        have HNS : Hid ((cfs.take (j + 1)).map (fun v => (102 : UInt8) :: v.n) = (cfs.take j).map (fun v => (102 : UInt8) :: v.n) ++ [102 :: cfs[j].n]) := hide (by rw [List.take_succ_eq_append_getElem hlk, List.map_append]; rfl)
        have HVN := hide (HNM.out.1 cfs[j] (List.getElem_mem hlk))
        have HLE : Hid ((firsts Vr.n (cfs.take j)).length ≤ 10) := hide (by have := firsts_len Vr.n (cfs.take j); rw [List.length_take] at this; have := HFK.out.1; omega)
        have HMM : Hid ((102 :: cfs[j].n) ∈ (cfs.take j).map (fun v => (102 : UInt8) :: v.n) ↔ cfs[j].n ∈ (cfs.take j).map Vr.n) := hide (by simp only [List.mem_map]; exact ⟨fun ⟨v, hv, e⟩ => ⟨v, hv, by injection e⟩, fun ⟨v, hv, e⟩ => ⟨v, hv, by rw [e]⟩⟩)
        generalize hx : cfs[j] = x at hcs HFS HNS HVN HMM
        obtain ⟨vn, ⟨vt, va⟩⟩ := x
        have q0 := hcs 0 (S vn) rfl
        have q1 := hcs 1 (S vt) rfl
        have q2 := hcs 2 (.bool va) rfl
        simp only [Nat.add_zero] at q0 q1 q2
        clear hcs hx
        replace hA : cfA = some ⟨b, o, none⟩ := hA
        rw [hA]
        have hjk : (j : Int) < (cfk : Int) := by omega
        go_upto_region 10 with fail
        refine name_world ?_
        intro wC hwC
        have HC : Hid (Blk wC wr.heap.size 45 #[S vn, S vt, .bool va]) := hide (by rw [hwC]; exact Blk.new _ _ _)
        have HGC := hide (show Gx wC gd _ _ _ _ _ _ _ _ _ by rw [hwC]; exact HGX.out.alloc _)
        have HSC : Hid (K5.SetIs wC gm j ((cfs.take j).map fun v => (102 : UInt8) :: v.n)) := hide (HSE.out.of_block (by rw [hwC]; exact Below.heap_alloc _ _ _ HSE.out.lt))
        have HKC : Hid (Keep (fun k => k = gd ∨ k = gm) w3 wC) := hide (by rw [hwC]; exact HKJ.out.alloc _)
        have HGR : Hid (gd < wr.heap.size ∧ gm < wr.heap.size) := hide ⟨HGX.out.blk.lt, HSE.out.lt⟩
        have HRL : Hid (∀ i, (Value.slice A (firsts Vr.n (cfs.take j)).length cc).ownBlock = some i → i < wr.heap.size) := hide (fun i hi => (HGX.out.own.lt i hi).2)
        clear hwC q0 q1 q2 HGX HSE HKJ hbl
        obtain ⟨g8, hg8⟩ : ∃ g, g = wr.heap.size := ⟨_, rfl⟩
        rw [← hg8] at HC HGR HRL ⊢
        clear hg8
        have q0 := HC.out.cell 0
        have q1 := HC.out.cell 1
        have q2 := HC.out.cell 2
        simp at q0 q1 q2
        have hkey : keyOf Try.prog 9 (S (102 :: vn)) = some (.string (102 :: vn)) := K5.key_S (by have h1 : vn.length ≤ 104857600 := HVN.out.1; unfold short; simp; omega)
        obtain ⟨D, hD, hDat⟩ := HSC.out
        have HDM := hide hD.isMap
        have HDAT := hide hDat
        have hj10 : j < 10 := by have := HFK.out.1; omega
        have HJ := hide hj10
        obtain ⟨sn, hsn⟩ : ∃ b, decide (102 :: vn ∈ (cfs.take j).map fun v => (102 : UInt8) :: v.n) = b := ⟨_, rfl⟩
        have hV : D.atKey (.string (102 :: vn)) (.held (.bool false)) = .held (.bool sn) := by rw [hDat (102 :: vn), hsn]
        have HSN := hide hsn
        clear hDat hsn
        have hcl : vn.length + 1 ≤ 104857601 := by have h1 : vn.length ≤ 104857600 := HVN.out.1; omega
        cases sn
        case false =>
          focus
            have HF1 : Hid (firsts Vr.n (cfs.take (j + 1)) = firsts Vr.n (cfs.take j) ++ [⟨vn, ⟨vt, va⟩⟩]) := hide (by rw [HFS.out, if_neg (fun e => of_decide_eq_false HSN.out (HMM.out.2 e))])
            obtain ⟨F1, hQ1⟩ : ∃ F1, F1 = firsts Vr.n (cfs.take (j + 1)) := ⟨_, rfl⟩
            rw [← hQ1] at HF1
            have HQ1 := hide hQ1
            clear hQ1
            generalize firsts Vr.n (cfs.take j) = F0 at HGC HF1 HLE HRL
            have HSW : Hid (w3.heap.size ≤ wC.heap.size) := hide HKC.out.size
            have q3 : wC.cell? ⟨gd, 4, none⟩ = some (.slice A F0.length cc) := HGC.out.cell
            go_upto_region 12 with (first | (at_lookup; refine K5.lookup_held1 _ rfl _ _ 41 rfl 9 4 K5.klaw Try.underlying41 (K5.zero_bool _) gm _ D rfl hD _ _ rfl hkey (.bool false) hV ?_) | (at_builtin; refine wpList_appB rfl (.tmp 43) (.tmp 45) 22 rfl w3.heap.size 45 (.agg #[S [], S [], .bool false]) 3 40 Try.underlying22 var_info rfl (by decide) (.slice A F0.length cc) F0.length (F0.flatMap Vr.cells) rfl (HGC.out.own.alloc _) wC.heap.size [S vn, S vt, .bool va] rfl rfl (Blk.new _ _ _) (by intro u hu; simp only [List.mem_cons, List.not_mem_nil, or_false] at hu; rcases hu with rfl | rfl | rfl <;> rfl) (by unfold maxLen; have := HLE.out; omega) (by have := HLE.out; omega) (by have := HSW.out; simp; omega) ?_; intro A4 c4 w9 hown9 hg9; obtain ⟨hn9, hc9, hf9⟩ := (HGC.out.alloc _).next hown9 hg9))
            simp only [List.set_cons_zero, List.set_cons_succ] at hn9
            have hkk : Keep (fun i => i = gd ∨ some i = (Value.slice A F0.length cc).ownBlock) wC (w9.setCell ⟨gd, 4, none⟩ (.slice A4 (F0.length + 1) c4)) := (((Keep.refl _ wC).alloc _).grown hg9 (fun i hi _ => .inr hi.symm)).setCell (fun _ => .inl rfl) _
            have HKK := hide hkk
            refine name_world ?_
            intro wS hwS
            rw [← hwS] at hn9 hkk
            have HG9 := hide hn9
            have hD9 := K5.owns_of_block hD (hkk.block gm hD.lt (fun h => h.elim (fun h => by have := HG.out; omega) (fun h => by have := own_base HGC.out.own h.symm; have := HS3.out.lt; omega)))
            have HK9 : Hid (Keep (fun k => k = gd ∨ k = gm) w3 wS) := hide (HKC.out.trans' hkk (fun i hi h => h.elim .inl (fun h => by have := own_base HGC.out.own h.symm; omega)))
            have HC9 := hide (HC.out.keep hkk (fun h => h.elim (fun h => by have := HGR.out; omega) (fun h => by have := HRL.out _ h.symm; omega)))
            clear hwS hown9 hg9 hn9 hc9 hf9 hkk hD HGC q0 q1 q2 q3 HC HSC HKC
            have q0 := HC9.out.cell 0
            have q1 := HC9.out.cell 1
            have q2 := HC9.out.cell 2
            simp at q0 q1 q2
            go_wp2_with (at_mapUpdate; refine wpList_mapUpdate_own _ rfl _ _ _ 41 rfl 9 4 K5.klaw Try.underlying41 _ gm _ D rfl hD9 (by unfold maxLen; have := HJ.out; omega) _ _ _ rfl rfl hkey _ [] (show K5.heldR (.bool true) = some (.held (.bool true), []) from rfl) ?_; intro wT hownT hgT)
            have hkT : Keep (fun i => i = gm) wS wT := (Keep.refl _ wS).grown hgT (fun i hi _ => by injection hi with hi; exact hi.symm)
            have HST : Hid (K5.SetIs wT gm (j + 1) ((cfs.take (j + 1)).map fun v => (102 : UInt8) :: v.n)) := hide (by rw [HNS.out]; exact ⟨_, hownT, K5.set_put HDM.out HDAT.out⟩)
            have HGT : Hid (Gx wT gd 39 [.int .i64 0, .int .i64 0, S cn, S csu, .slice A4 F1.length c4, .slice none 0 0] 4 w3.heap.size 45 3 F1.length (F1.flatMap Vr.cells) (.slice A4 F1.length c4)) := hide (by
              have h1 := HG9.out.keep hkT (by have := HG.out; omega) (fun i hi h => by have := own_base HG9.out.own hi; have := HS3.out.lt; omega)
              rw [HF1.out, List.length_append, List.flatMap_append]
              simpa using h1)
            have HKT : Hid (Keep (fun k => k = gd ∨ k = gm) w3 wT) := hide (HK9.out.trans' hkT (fun i hi h => .inr h))
            clear hownT hgT hkT hD9 hV hkey HG9 HK9 HC9 q0 q1 q2
            go_wp2_with fail
            go_roundw
            case rel => exact ⟨j + 1, A4, c4, by omega, by have := HJ.out; go_num, by rw [← HQ1.out]; exact HGT, HST, HKT⟩
            case measure => have := HJ.out; simp [intOf]; omega
        case true =>
          focus
            have HF1 : Hid (firsts Vr.n (cfs.take (j + 1)) = firsts Vr.n (cfs.take j)) := hide (by rw [HFS.out, if_pos (HMM.out.1 (of_decide_eq_true HSN.out))])
            go_wp2_with (first | (at_lookup; refine K5.lookup_held1 _ rfl _ _ 41 rfl 9 4 K5.klaw Try.underlying41 (K5.zero_bool _) gm _ D rfl hD _ _ rfl hkey (.bool true) hV ?_) | (at_mapUpdate; refine wpList_mapUpdate_own _ rfl _ _ _ 41 rfl 9 4 K5.klaw Try.underlying41 _ gm _ D rfl hD (by unfold maxLen; have := HJ.out; omega) _ _ _ rfl rfl hkey _ [] (show K5.heldR (.bool true) = some (.held (.bool true), []) from rfl) ?_; intro wT hownT hgT))
            have hkT : Keep (fun i => i = gm) wC wT := (Keep.refl _ wC).grown hgT (fun i hi _ => by injection hi with hi; exact hi.symm)
            have HST : Hid (K5.SetIs wT gm (j + 1) ((cfs.take (j + 1)).map fun v => (102 : UInt8) :: v.n)) := hide (by rw [HNS.out]; exact ⟨_, hownT, K5.set_put HDM.out HDAT.out⟩)
            have HGT := hide (HGC.out.keep hkT (by have := HG.out; omega) (fun i hi h => by have := own_base HGC.out.own hi; have := HS3.out.lt; omega))
            have HKT : Hid (Keep (fun k => k = gd ∨ k = gm) w3 wT) := hide (HKC.out.trans' hkT (fun i hi h => .inr h))
            clear hownT hgT hkT hD hV hkey HGC q0 q1 q2
            go_roundw
            case rel => exact ⟨j + 1, A, cc, by omega, by have := HJ.out; go_num, by rw [HF1.out]; exact HGT, HST, HKT⟩
            case measure => have := HJ.out; simp [intOf]; omega
    case neg =>
      focus
        obtain rfl : cfk = j := by omega
        have hTK : cfs.take cfk = cfs := List.take_of_length_le (by have := HFL.out; omega)
        rw [hTK] at HGX HSE
        clear hTK hj hlt
        obtain ⟨wD, rfl⟩ : ∃ wD : World, wD = wr := ⟨_, rfl⟩
        have HLF : Hid ((firsts Vr.n cfs).length ≤ 10) := hide (by have := firsts_len Vr.n cfs; have := HFL.out; have := HFK.out.1; omega)
        obtain ⟨DF, hDF⟩ : ∃ DF, DF = firsts Vr.n cfs := ⟨_, rfl⟩
        rw [← hDF] at HGX HLF
        have HDF := hide hDF
        clear hDF
        obtain ⟨NF, hNF⟩ : ∃ NF, NF = cfs.map fun v => (102 : UInt8) :: v.n := ⟨_, rfl⟩
        have HNF : Hid (∀ x : List UInt8, 109 :: x ∉ NF) := hide (by rw [hNF]; intro x hx; obtain ⟨v, _, e⟩ := List.mem_map.1 hx; injection e with e _; exact absurd e (by decide))
        rw [← hNF] at HSE
        clear hNF
        have HBWD : Hid (Below w.heap.size w wD) := hide (HBW3.out.trans ((HKJ.out.below (B := gd) (by have := HB3.out.size; have := HG.out; omega) (fun k hk => by have := HG.out; omega)).mono (by have := HG.out; have := HB2.out.size; omega)))
        have HED := hide (HE3.out.keep HKJ.out (by have := HGE.out; have := HG.out; omega))
        have HGDM : Hid (gd < wD.heap.size ∧ gm < wD.heap.size) := hide ⟨HGX.out.blk.lt, HSE.out.lt⟩
        have HRF : Hid (wD.ownsRow w3.heap.size 45 3 (.slice A DF.length cc) DF.length (DF.flatMap Vr.cells)) := hide HGX.out.own
        have HGB : Hid (Blk wD gd 39 #[.int .i64 0, .int .i64 0, S cn, S csu, .slice A DF.length cc, .slice none 0 0]) := hide HGX.out.blk
        have HKD := hide HKJ.out
        clear HGX HKJ
        obtain ⟨FA, hFA⟩ : ∃ FA, FA = A := ⟨_, rfl⟩
        rw [← hFA] at HRF HGB
        clear hFA
        obtain ⟨fc, hfc⟩ : ∃ fc, fc = cc := ⟨_, rfl⟩
        rw [← hfc] at HRF HGB
        clear hfc
        have hjk : ¬ (cfk : Int) < (cfk : Int) := by omega
        have q5 := HED.out.cell 5
        simp at q5
        go_wp2_with fail
        clear q5
        go_loopw [56] (fun i wr => ∃ (j : Nat) (A : Option Addr) (c : Nat), j ≤ cmq ∧ i = .int .i64 j ∧ Hid (Gx wr gd 39 [.int .i64 0, .int .i64 0, S cn, S csu, .slice FA DF.length fc, .slice A (firsts K5.Me.n (cms.take j)).length c] 5 wD.heap.size 48 8 (firsts K5.Me.n (cms.take j)).length ((firsts K5.Me.n (cms.take j)).flatMap K5.Me.cells) (.slice A (firsts K5.Me.n (cms.take j)).length c)) ∧ Hid (K5.SetIs wr gm (cfk + j) (NF ++ (cms.take j).map fun v => (109 : UInt8) :: v.n)) ∧ Hid (Keep (fun k => k = gd ∨ k = gm) wD wr)) (fun i _ => cmq - (intOf i).toNat)
        case atStart => exact ⟨0, none, 0, Nat.zero_le _, rfl, hide ⟨HGB.out, rfl, World.ownsRow_nil _ _ _ _, by decide⟩, by simpa using HSE, hide (Keep.refl _ _)⟩
        case round =>
          obtain ⟨j, A, cc, hj, rfl, HGX, HSE, HKJ⟩ := hrel
          by_cases hlt : j < cmq
          case pos =>
            focus
              have HBR : Hid (Below w.heap.size w wr) := hide (HBWD.out.trans ((HKJ.out.below (B := gd) (by have := HGDM.out; omega) (fun k hk => by have := HG.out; omega)).mono (by have := HG.out; have := HB2.out.size; omega)))
              obtain ⟨b, o, hA, _, hbl, hcs⟩ := Rd.rec_ (f := K5.Me.cells) (size := 8) K5.Me.cells_len (HAT.out.mr.below HBR.out) HML.out j hlt
              have hlk : j < cms.length := by have := HML.out; omega
              have HFS := hide (firsts_step K5.Me.n hlk)
              have HNS : Hid (NF ++ (cms.take (j + 1)).map (fun v => (109 : UInt8) :: v.n) = (NF ++ (cms.take j).map (fun v => (109 : UInt8) :: v.n)) ++ [109 :: cms[j].n]) := hide (by rw [List.take_succ_eq_append_getElem hlk, List.map_append, ← List.append_assoc]; rfl)
              have HVN := hide (HNM.out.2 cms[j] (List.getElem_mem hlk))
              have HLE : Hid ((firsts K5.Me.n (cms.take j)).length ≤ 10) := hide (by have := firsts_len K5.Me.n (cms.take j); rw [List.length_take] at this; have := HFK.out.2.1; omega)
              have HMM : Hid ((109 :: cms[j].n) ∈ NF ++ (cms.take j).map (fun v => (109 : UInt8) :: v.n) ↔ cms[j].n ∈ (cms.take j).map K5.Me.n) := hide (by simp only [List.mem_append, List.mem_map]; exact ⟨fun h => h.elim (fun h => absurd h (HNF.out _)) (fun ⟨v, hv, e⟩ => ⟨v, hv, by injection e⟩), fun ⟨v, hv, e⟩ => .inr ⟨v, hv, by rw [e]⟩⟩)
              generalize hx : cms[j] = x at hcs HFS HNS HVN HMM
              obtain ⟨mln, mco, vn, mst, mpA, mpk, mpc, mps, mrn, mra, mbA, mbk, mbc, mbs⟩ := x
              have q0 := hcs 0 (.int .i64 mln) rfl
              have q1 := hcs 1 (.int .i64 mco) rfl
              have q2 := hcs 2 (S vn) rfl
              have q3 := hcs 3 (.bool mst) rfl
              have q4 := hcs 4 (.slice mpA mpk mpc) rfl
              have q5 := hcs 5 (S mrn) rfl
              have q6 := hcs 6 (.bool mra) rfl
              have q7 := hcs 7 (.slice mbA mbk mbc) rfl
              simp only [Nat.add_zero] at q0 q1 q2 q3 q4 q5 q6 q7
              clear hcs hx
              replace hA : cmA = some ⟨b, o, none⟩ := hA
              rw [hA]
              have hjk : (j : Int) < (cmq : Int) := by omega
              go_upto_region 17 with fail
              refine name_world ?_
              intro wC hwC
              have HC : Hid (Blk wC wr.heap.size 48 #[.int .i64 mln, .int .i64 mco, S vn, .bool mst, .slice mpA mpk mpc, S mrn, .bool mra, .slice mbA mbk mbc]) := hide (by rw [hwC]; exact Blk.new _ _ _)
              have HGC := hide (show Gx wC gd _ _ _ _ _ _ _ _ _ by rw [hwC]; exact HGX.out.alloc _)
              have HSC : Hid (K5.SetIs wC gm (cfk + j) (NF ++ (cms.take j).map fun v => (109 : UInt8) :: v.n)) := hide (HSE.out.of_block (by rw [hwC]; exact Below.heap_alloc _ _ _ HSE.out.lt))
              have HKC : Hid (Keep (fun k => k = gd ∨ k = gm) wD wC) := hide (by rw [hwC]; exact HKJ.out.alloc _)
              have HGR : Hid (gd < wr.heap.size ∧ gm < wr.heap.size) := hide ⟨HGX.out.blk.lt, HSE.out.lt⟩
              have HRL : Hid (∀ i, (Value.slice A (firsts K5.Me.n (cms.take j)).length cc).ownBlock = some i → i < wr.heap.size) := hide (fun i hi => (HGX.out.own.lt i hi).2)
              clear hwC q0 q1 q2 q3 q4 q5 q6 q7 HGX HSE HKJ hbl
              obtain ⟨g8, hg8⟩ : ∃ g, g = wr.heap.size := ⟨_, rfl⟩
              rw [← hg8] at HC HGR HRL ⊢
              clear hg8
              have q0 := HC.out.cell 0
              have q1 := HC.out.cell 1
              have q2 := HC.out.cell 2
              have q3 := HC.out.cell 3
              have q4 := HC.out.cell 4
              have q5 := HC.out.cell 5
              have q6 := HC.out.cell 6
              have q7 := HC.out.cell 7
              simp at q0 q1 q2 q3 q4 q5 q6 q7
              have hkey : keyOf Try.prog 9 (S (109 :: vn)) = some (.string (109 :: vn)) := K5.key_S (by have h1 : vn.length ≤ 104857600 := HVN.out.1; unfold short; simp; omega)
              obtain ⟨D, hD, hDat⟩ := HSC.out
              have HDM := hide hD.isMap
              have HDAT := hide hDat
              have hj10 : j < 10 := by have := HFK.out.2.1; omega
              have HJ := hide hj10
              obtain ⟨sn, hsn⟩ : ∃ b, decide (109 :: vn ∈ NF ++ (cms.take j).map fun v => (109 : UInt8) :: v.n) = b := ⟨_, rfl⟩
              have hV : D.atKey (.string (109 :: vn)) (.held (.bool false)) = .held (.bool sn) := by rw [hDat (109 :: vn), hsn]
              have HSN := hide hsn
              clear hDat hsn
              have hcl : vn.length + 1 ≤ 104857601 := by have h1 : vn.length ≤ 104857600 := HVN.out.1; omega
              cases sn
              case false =>
                focus
                  have HF1 : Hid (firsts K5.Me.n (cms.take (j + 1)) = firsts K5.Me.n (cms.take j) ++ [⟨mln, mco, vn, mst, mpA, mpk, mpc, mps, mrn, mra, mbA, mbk, mbc, mbs⟩]) := hide (by rw [HFS.out, if_neg (fun e => of_decide_eq_false HSN.out (HMM.out.2 e))])
                  obtain ⟨F1, hQ1⟩ : ∃ F1, F1 = firsts K5.Me.n (cms.take (j + 1)) := ⟨_, rfl⟩
                  rw [← hQ1] at HF1
                  have HQ1 := hide hQ1
                  clear hQ1
                  generalize firsts K5.Me.n (cms.take j) = F0 at HGC HF1 HLE HRL
                  have HSW : Hid (wD.heap.size ≤ wC.heap.size) := hide HKC.out.size
                  have q8 : wC.cell? ⟨gd, 5, none⟩ = some (.slice A F0.length cc) := HGC.out.cell
                  go_upto_region 19 with (first | (at_lookup; refine K5.lookup_held1 _ rfl _ _ 41 rfl 9 4 K5.klaw Try.underlying41 (K5.zero_bool _) gm _ D rfl hD _ _ rfl hkey (.bool false) hV ?_) | (at_builtin; have e1 := HGC.out.own.alloc (.cells #[.int .i64 mln, .int .i64 mco, S vn, .bool mst, .slice mpA mpk mpc, S mrn, .bool mra, .slice mbA mbk mbc] 48); have e2 : Blk (wC.alloc (.cells #[.int .i64 mln, .int .i64 mco, S vn, .bool mst, .slice mpA mpk mpc, S mrn, .bool mra, .slice mbA mbk mbc] 48)) wC.heap.size 48 [.int .i64 mln, .int .i64 mco, S vn, .bool mst, .slice mpA mpk mpc, S mrn, .bool mra, .slice mbA mbk mbc].toArray := Blk.new _ _ _; refine wpList_appB rfl (.tmp 67) (.tmp 69) 37 rfl wD.heap.size 48 (.agg #[.int .i64 0, .int .i64 0, .string ⟨#[]⟩, .bool false, .slice none 0 0, .string ⟨#[]⟩, .bool false, .slice none 0 0]) 8 112 Try.underlying37 me_info rfl (by decide) (.slice A F0.length cc) F0.length (F0.flatMap K5.Me.cells) ?hs e1 wC.heap.size [.int .i64 mln, .int .i64 mco, S vn, .bool mst, .slice mpA mpk mpc, S mrn, .bool mra, .slice mbA mbk mbc] ?hx rfl e2 ?h1 ?h63 ?hbytes ?hbase ?h; (case hs => exact rfl); (case hx => exact rfl); (case h1 => (intro u hu; simp only [List.mem_cons, List.not_mem_nil, or_false] at hu; rcases hu with rfl | rfl | rfl | rfl | rfl | rfl | rfl | rfl <;> rfl)); (case h63 => (unfold maxLen; have := HLE.out; omega)); (case hbytes => (have := HLE.out; omega)); (case hbase => (have := HSW.out; simp; omega)); intro A4 c4 w9 hown9 hg9; clear e1 e2; obtain ⟨hn9, hc9, hf9⟩ := (HGC.out.alloc _).next hown9 hg9))
                  simp only [List.set_cons_zero, List.set_cons_succ] at hn9
                  have hkk : Keep (fun i => i = gd ∨ some i = (Value.slice A F0.length cc).ownBlock) wC (w9.setCell ⟨gd, 5, none⟩ (.slice A4 (F0.length + 1) c4)) := (((Keep.refl _ wC).alloc _).grown hg9 (fun i hi _ => .inr hi.symm)).setCell (fun _ => .inl rfl) _
                  have HKK := hide hkk
                  refine name_world ?_
                  intro wS hwS
                  rw [← hwS] at hn9 hkk
                  have HG9 := hide hn9
                  have hD9 := K5.owns_of_block hD (hkk.block gm hD.lt (fun h => h.elim (fun h => by have := HG.out; omega) (fun h => by have := own_base HGC.out.own h.symm; have := HGDM.out; omega)))
                  have HK9 : Hid (Keep (fun k => k = gd ∨ k = gm) wD wS) := hide (HKC.out.trans' hkk (fun i hi h => h.elim .inl (fun h => by have := own_base HGC.out.own h.symm; omega)))
                  have HC9 := hide (HC.out.keep hkk (fun h => h.elim (fun h => by have := HGR.out; omega) (fun h => by have := HRL.out _ h.symm; omega)))
                  clear hwS hown9 hg9 hn9 hc9 hf9 hkk hD HGC q0 q1 q2 q3 q4 q5 q6 q7 q8 HC HSC HKC
                  have q0 := HC9.out.cell 0
                  have q1 := HC9.out.cell 1
                  have q2 := HC9.out.cell 2
                  have q3 := HC9.out.cell 3
                  have q4 := HC9.out.cell 4
                  have q5 := HC9.out.cell 5
                  have q6 := HC9.out.cell 6
                  have q7 := HC9.out.cell 7
                  simp at q0 q1 q2 q3 q4 q5 q6 q7
                  go_wp2_with (at_mapUpdate; refine wpList_mapUpdate_own _ rfl _ _ _ 41 rfl 9 4 K5.klaw Try.underlying41 _ gm _ D rfl hD9 (by unfold maxLen; have := HJ.out; have := HFK.out.1; omega) _ _ _ rfl rfl hkey _ [] (show K5.heldR (.bool true) = some (.held (.bool true), []) from rfl) ?_; intro wT hownT hgT)
                  have hkT : Keep (fun i => i = gm) wS wT := (Keep.refl _ wS).grown hgT (fun i hi _ => by injection hi with hi; exact hi.symm)
                  have HST : Hid (K5.SetIs wT gm (cfk + (j + 1)) (NF ++ (cms.take (j + 1)).map fun v => (109 : UInt8) :: v.n)) := hide (by rw [HNS.out]; exact ⟨_, hownT, K5.set_put HDM.out HDAT.out⟩)
                  have HGT : Hid (Gx wT gd 39 [.int .i64 0, .int .i64 0, S cn, S csu, .slice FA DF.length fc, .slice A4 F1.length c4] 5 wD.heap.size 48 8 F1.length (F1.flatMap K5.Me.cells) (.slice A4 F1.length c4)) := hide (by
                    have h1 := HG9.out.keep hkT (by have := HG.out; omega) (fun i hi h => by have := own_base HG9.out.own hi; have := HGDM.out; omega)
                    rw [HF1.out, List.length_append, List.flatMap_append]
                    rw [List.flatMap_singleton]
                    exact h1)
                  have HKT : Hid (Keep (fun k => k = gd ∨ k = gm) wD wT) := hide (HK9.out.trans' hkT (fun i hi h => .inr h))
                  clear hownT hgT hkT hD9 hV hkey HG9 HK9 HC9 q0 q1 q2
                  go_wp2_with fail
                  go_roundw
                  case rel => exact ⟨j + 1, A4, c4, by omega, by have := HJ.out; go_num, by rw [← HQ1.out]; exact HGT, HST, HKT⟩
                  case measure => have := HJ.out; simp [intOf]; omega
              case true =>
                focus
                  have HF1 : Hid (firsts K5.Me.n (cms.take (j + 1)) = firsts K5.Me.n (cms.take j)) := hide (by rw [HFS.out, if_pos (HMM.out.1 (of_decide_eq_true HSN.out))])
                  go_wp2_with (first | (at_lookup; refine K5.lookup_held1 _ rfl _ _ 41 rfl 9 4 K5.klaw Try.underlying41 (K5.zero_bool _) gm _ D rfl hD _ _ rfl hkey (.bool true) hV ?_) | (at_mapUpdate; refine wpList_mapUpdate_own _ rfl _ _ _ 41 rfl 9 4 K5.klaw Try.underlying41 _ gm _ D rfl hD (by unfold maxLen; have := HJ.out; have := HFK.out.1; omega) _ _ _ rfl rfl hkey _ [] (show K5.heldR (.bool true) = some (.held (.bool true), []) from rfl) ?_; intro wT hownT hgT))
                  have hkT : Keep (fun i => i = gm) wC wT := (Keep.refl _ wC).grown hgT (fun i hi _ => by injection hi with hi; exact hi.symm)
                  have HST : Hid (K5.SetIs wT gm (cfk + (j + 1)) (NF ++ (cms.take (j + 1)).map fun v => (109 : UInt8) :: v.n)) := hide (by rw [HNS.out]; exact ⟨_, hownT, K5.set_put HDM.out HDAT.out⟩)
                  have HGT := hide (HGC.out.keep hkT (by have := HG.out; omega) (fun i hi h => by have := own_base HGC.out.own hi; have := HGDM.out; omega))
                  have HKT : Hid (Keep (fun k => k = gd ∨ k = gm) wD wT) := hide (HKC.out.trans' hkT (fun i hi h => .inr h))
                  clear hownT hgT hkT hD hV hkey HGC q0 q1 q2
                  go_roundw
                  case rel => exact ⟨j + 1, A, cc, by omega, by have := HJ.out; go_num, by rw [HF1.out]; exact HGT, HST, HKT⟩
                  case measure => have := HJ.out; simp [intOf]; omega
          case neg =>
            focus
              obtain rfl : cmq = j := by omega
              have hTK : cms.take cmq = cms := List.take_of_length_le (by have := HML.out; omega)
              rw [hTK] at HGX
              clear hTK hj hlt HSE
              have HLM : Hid ((firsts K5.Me.n cms).length ≤ 10) := hide (by have := firsts_len K5.Me.n cms; have := HML.out; have := HFK.out.2.1; omega)
              obtain ⟨DM, hDM⟩ : ∃ DM, DM = firsts K5.Me.n cms := ⟨_, rfl⟩
              rw [← hDM] at HGX HLM
              have HDM := hide hDM
              clear hDM
              obtain ⟨MA, hMA⟩ : ∃ MA, MA = A := ⟨_, rfl⟩
              rw [← hMA] at HGX
              clear hMA
              obtain ⟨mc, hmc⟩ : ∃ mc, mc = cc := ⟨_, rfl⟩
              rw [← hmc] at HGX
              clear hmc
              obtain ⟨wE, rfl⟩ : ∃ wE : World, wE = wr := ⟨_, rfl⟩
              have HBWE : Hid (Below w.heap.size w wE) := hide (HBWD.out.trans ((HKJ.out.below (B := gd) (by have := HGDM.out; omega) (fun k hk => by have := HG.out; omega)).mono (by have := HG.out; have := HB2.out.size; omega)))
              have HRFE : Hid (wE.ownsRow w3.heap.size 45 3 (.slice FA DF.length fc) DF.length (DF.flatMap Vr.cells)) := hide (own_keep HRF.out HKJ.out (fun i hi h => h.elim (fun h => own_blk_ne HRF.out HGB.out (by decide) (by rw [hi, h])) (fun h => by have := own_base HRF.out hi; have := HS3.out.lt; omega)))
              have hjk : ¬ (cmq : Int) < (cmq : Int) := by omega
              have q2 := HGX.out.blk.cell 2
              have q3 := HGX.out.blk.cell 3
              simp at q2 q3
              go_upto_region 22 with fail
              clear q2 q3
              refine name_world ?_
              intro wF hwF
              have HBF : Hid (Below wE.heap.size wE wF) := hide (by rw [hwF]; exact (Below.refl _ _).alloc (Nat.le_refl _) _)
              have HDF' : Hid (Blk wF gd 39 #[.int .i64 0, .int .i64 0, S cn, S csu, .slice FA DF.length fc, .slice MA DM.length mc]) := hide (HGX.out.blk.below HBF.out HGX.out.blk.lt)
              have HX : Hid (Blk wF wE.heap.size 39 #[.int .i64 0, .int .i64 0, S cn, S csu, .slice none 0 0, .slice none 0 0]) := hide (by rw [hwF]; exact Blk.new _ _ _)
              have HGDE : Hid (gd < wE.heap.size) := hide HGX.out.blk.lt
              have HRFF : Hid (wF.ownsRow w3.heap.size 45 3 (.slice FA DF.length fc) DF.length (DF.flatMap Vr.cells)) := hide (own_below HRFE.out HBF.out)
              have HRMF : Hid (wF.ownsRow wD.heap.size 48 8 (.slice MA DM.length mc) DM.length (DM.flatMap K5.Me.cells)) := hide (own_below HGX.out.own HBF.out)
              have HBWF : Hid (Below w.heap.size w wF) := hide (HBWE.out.trans (HBF.out.mono HBWE.out.size))
              have HMKF : Hid (Keep (fun k => k = gd ∨ k = gm) wD wE) := HKJ
              obtain ⟨ge, hge⟩ : ∃ ge, ge = wE.heap.size := ⟨_, rfl⟩
              rw [← hge] at HX HGDE ⊢
              have HGEQ := hide hge
              clear hwF hge HGX HKJ HBF
              have q4 := HDF'.out.cell 4
              simp at q4
              go_wp2_with fail
              clear q4
              obtain ⟨nF, hnF⟩ : ∃ nF, nF = DF.length := ⟨_, rfl⟩
              rw [← hnF] at HLF HRFF HDF' HRFE HRF HGB ⊢
              have HNF := hide hnF
              clear hnF
              have hnF10 : nF ≤ 10 := HLF.out
              go_loopw [85] (fun i wr => ∃ (j : Nat) (A : Option Addr) (c : Nat), j ≤ nF ∧ i = .int .i64 j ∧ Hid (Gx wr ge 39 [.int .i64 0, .int .i64 0, S cn, S csu, .slice A j c, .slice none 0 0] 4 wF.heap.size 45 3 j (((turnd r DF).take j).flatMap Vr.cells) (.slice A j c)) ∧ Hid (Keep (fun k => k = ge) wF wr)) (fun i _ => nF - (intOf i).toNat)
              case atStart => exact ⟨0, none, 0, Nat.zero_le _, rfl, hide ⟨HX.out, rfl, World.ownsRow_nil _ _ _ _, by decide⟩, hide (Keep.refl _ _)⟩
              case round =>
                obtain ⟨i, A, c, hi, rfl, HGX, HKJ⟩ := hrel
                by_cases hlt : i < nF
                case pos =>
                  focus
                    have hil : i < DF.length := by have := HNF.out; omega
                    have HGDR := hide (HDF'.out.keep HKJ.out (by have := HGDE.out; omega))
                    have HRR := hide (own_keep HRFF.out HKJ.out (fun k hk h => by have := HGEQ.out; have := (HRFE.out.lt k hk).2; omega))
                    obtain ⟨mm, hmm⟩ : ∃ mm, mm = (i + r) % nF := ⟨_, rfl⟩
                    have hml : mm < nF := by rw [hmm]; exact Nat.mod_lt _ (by omega)
                    obtain ⟨bF, oF, hFA, _, hbl, hcs⟩ := Rd.rec_ (f := Vr.cells) (size := 3) (fun _ => rfl) (Rd.of_ownB HRR.out) HNF.out.symm mm hml
                    have HTA : Hid ((turnd r DF)[i]'(by rw [turnd_len]; exact hil) = DF[mm]'(by have := HNF.out; omega)) := hide (by rw [turnd_at r DF hil]; congr 1; rw [hmm, HNF.out])
                    have HTS : Hid ((turnd r DF).take (i + 1) = (turnd r DF).take i ++ [DF[mm]'(by have := HNF.out; omega)]) := hide (by rw [List.take_succ_eq_append_getElem (by rw [turnd_len]; exact hil), HTA.out])
                    generalize DF[mm]'(by have := HNF.out; omega) = x at hcs HTS HTA
                    clear HTA
                    obtain ⟨xn, ⟨xt, xa⟩⟩ := x
                    have HXC : Hid (∀ w', Keep (fun _ => False) wr w' → w'.cell? ⟨bF, oF + mm * 3, none⟩ = some (S xn) ∧ w'.cell? ⟨bF, oF + mm * 3 + 1, none⟩ = some (S xt) ∧ w'.cell? ⟨bF, oF + mm * 3 + 2, none⟩ = some (.bool xa)) := hide (fun w' hk => ⟨(hk.cell (p := ⟨bF, oF + mm * 3, none⟩) hbl id).trans (hcs 0 (S xn) rfl), (hk.cell (p := ⟨bF, oF + mm * 3 + 1, none⟩) hbl id).trans (hcs 1 (S xt) rfl), (hk.cell (p := ⟨bF, oF + mm * 3 + 2, none⟩) hbl id).trans (hcs 2 (.bool xa) rfl)⟩)
                    obtain ⟨ir, hir⟩ : ∃ ir, ir = i + r := ⟨_, rfl⟩
                    have HIR : Hid (IntKind.i64.wrap ((i : Int) + (r : Int)) = (ir : Int)) := hide (by rw [hir, IntWalk.i64_in ((i : Int) + (r : Int)) (by omega)]; omega)
                    have HMD : Hid (Int.tmod (ir : Int) (nF : Int) = (mm : Int) ∧ ¬ nF = 0 ∧ (mm : Int) < (nF : Int)) := hide ⟨by rw [hmm, hir]; exact (Int.ofNat_tmod _ _), by omega, by omega⟩
                    have HI : Hid (i < 10) := hide (by omega)
                    have HGB2 : Hid (wF.heap.size ≤ wr.heap.size) := hide HKJ.out.size
                    replace hFA : FA = some ⟨bF, oF, none⟩ := hFA
                    rw [hFA] at HGDR
                    clear hcs hmm hml hbl hir
                    have hjk : (i : Int) < (nF : Int) := by omega
                    go_upto_region 25 with fail
                    refine region_app (q := ge) (j := 4) (B := wF.heap.size) (sz := 3) (n := i) (T := 39) (e := 45) (cs := [.int .i64 0, .int .i64 0, S cn, S csu, .slice A i c, .slice none 0 0]) (xs := (((turnd r DF).take i).flatMap Vr.cells)) (news := [S xn, S xt, .bool xa]) (v := .slice A i c) (by kernel_rfl) [⟨0, some 88, false, [0, 1, 2], []⟩, ⟨1, some 89, false, [0], [88]⟩, ⟨2, some 90, false, [0, 1, 2], []⟩, ⟨3, some 91, false, [0], [90]⟩, ⟨4, some 92, false, [0, 1, 2], []⟩, ⟨5, some 93, false, [0, 1, 2], []⟩, ⟨6, some 94, false, [0, 1, 2], [93]⟩, ⟨7, some 95, false, [0, 1, 2], [92, 94]⟩, ⟨8, some 96, false, [0, 1, 2], []⟩, ⟨9, some 97, false, [0], [96]⟩, ⟨10, some 98, false, [0, 1, 2], [97]⟩, ⟨11, some 99, false, [0, 1, 2], [95, 98]⟩, ⟨12, some 100, false, [0, 1, 2], [91, 99]⟩, ⟨13, some 101, false, [0], [100]⟩, ⟨14, some 102, false, [0], [101]⟩, ⟨15, some 103, true, [0], [89, 102]⟩, ⟨16, some 104, false, [0, 1, 2], []⟩, ⟨17, none, true, [1], [104, 103]⟩] [15, 17] (fun d => match d with | 88 => .is (.pointer (some ⟨ge, 4, none⟩)) | 89 => .is (.slice A i c) | 90 => .is (.pointer (some ⟨gd, 4, none⟩)) | 91 => .is (.slice (some ⟨bF, oF, none⟩) nF fc) | 92 => .is (.int .i64 (i : Int)) | 93 => .is (.int .i64 turn) | 94 => .is (.int .i64 (r : Int)) | 95 => .is (.int .i64 (ir : Int)) | 96 => .is (.pointer (some ⟨gd, 4, none⟩)) | 97 => .is (.slice (some ⟨bF, oF, none⟩) nF fc) | 98 => .is (.int .i64 (nF : Int)) | 99 => .is (.int .i64 (mm : Int)) | 100 => .is (.pointer (some ⟨bF, oF + mm * 3, none⟩)) | 101 => .is (.agg #[S xn, S xt, .bool xa]) | 102 => .lit 1 45 ([S xn, S xt, .bool xa]).toArray | 103 => .app (wF.heap.size) 45 3 (i + 1) ((((turnd r DF).take i).flatMap Vr.cells) ++ [S xn, S xt, .bool xa]) | 104 => .is (.pointer (some ⟨ge, 4, none⟩)) | _ => .any) (fun _ => False) 0 (fun _ _ => True) XOk.none (by kernel_rfl) rfl trivial ?obs ?hend
                    case obs =>
                      refine List.forall_mem_cons.2 ⟨?_, ?_⟩
                      · refine ObA.pure (by rfl) (.pointer (some ⟨ge, 4, none⟩)) rfl ?_
                        intro z w' k hz G hG
                        simp only [putsAt, List.foldl]
                        unfold Runs
                        go_simp
                        exact hG
                      refine List.forall_mem_cons.2 ⟨?_, ?_⟩
                      · refine ObA.load (by rfl) (by decide) (.slice A i c) rfl ?_
                        intro z w' k hkp hz G hG
                        have e88 : z 88 = (.pointer (some ⟨ge, 4, none⟩)) := hz 88 (by simp)
                        have hc := (HGX.out.keep hkp id (fun _ _ h => h)).cell
                        simp only [putsAt, List.foldl, e88]
                        unfold Runs
                        go_simp
                        exact hG
                      refine List.forall_mem_cons.2 ⟨?_, ?_⟩
                      · refine ObA.pure (by rfl) (.pointer (some ⟨gd, 4, none⟩)) rfl ?_
                        intro z w' k hz G hG
                        simp only [putsAt, List.foldl]
                        unfold Runs
                        go_simp
                        exact hG
                      refine List.forall_mem_cons.2 ⟨?_, ?_⟩
                      · refine ObA.load (by rfl) (by decide) (.slice (some ⟨bF, oF, none⟩) nF fc) rfl ?_
                        intro z w' k hkp hz G hG
                        have e90 : z 90 = (.pointer (some ⟨gd, 4, none⟩)) := hz 90 (by simp)
                        have hc : w'.cell? ⟨gd, 4, none⟩ = some (.slice (some ⟨bF, oF, none⟩) nF fc) := ((HGDR.out.keep hkp id).cell 4).trans rfl
                        simp only [putsAt, List.foldl, e90]
                        unfold Runs
                        go_simp
                        exact hG
                      refine List.forall_mem_cons.2 ⟨?_, ?_⟩
                      · refine ObA.pure (by rfl) (.int .i64 (i : Int)) rfl ?_
                        intro z w' k hz G hG
                        simp only [putsAt, List.foldl]
                        unfold Runs
                        go_simp
                        exact hG
                      refine List.forall_mem_cons.2 ⟨?_, ?_⟩
                      · refine ObA.pure (by rfl) (.int .i64 turn) rfl ?_
                        intro z w' k hz G hG
                        simp only [putsAt, List.foldl]
                        unfold Runs
                        go_simp
                        exact hG
                      refine List.forall_mem_cons.2 ⟨?_, ?_⟩
                      · refine ObA.pure (by rfl) (.int .i64 (r : Int)) rfl ?_
                        intro z w' k hz G hG
                        have e93 : z 93 = (.int .i64 turn) := hz 93 (by simp)
                        have hand := HTU.out
                        simp only [putsAt, List.foldl, e93]
                        unfold Runs
                        go_simp
                        exact hG
                      refine List.forall_mem_cons.2 ⟨?_, ?_⟩
                      · refine ObA.pure (by rfl) (.int .i64 (ir : Int)) rfl ?_
                        intro z w' k hz G hG
                        have e92 : z 92 = (.int .i64 (i : Int)) := hz 92 (by simp)
                        have e94 : z 94 = (.int .i64 (r : Int)) := hz 94 (by simp)
                        have hadd := HIR.out
                        simp only [putsAt, List.foldl, e92, e94]
                        unfold Runs
                        go_simp
                        exact hG
                      refine List.forall_mem_cons.2 ⟨?_, ?_⟩
                      · refine ObA.pure (by rfl) (.pointer (some ⟨gd, 4, none⟩)) rfl ?_
                        intro z w' k hz G hG
                        simp only [putsAt, List.foldl]
                        unfold Runs
                        go_simp
                        exact hG
                      refine List.forall_mem_cons.2 ⟨?_, ?_⟩
                      · refine ObA.load (by rfl) (by decide) (.slice (some ⟨bF, oF, none⟩) nF fc) rfl ?_
                        intro z w' k hkp hz G hG
                        have e96 : z 96 = (.pointer (some ⟨gd, 4, none⟩)) := hz 96 (by simp)
                        have hc : w'.cell? ⟨gd, 4, none⟩ = some (.slice (some ⟨bF, oF, none⟩) nF fc) := ((HGDR.out.keep hkp id).cell 4).trans rfl
                        simp only [putsAt, List.foldl, e96]
                        unfold Runs
                        go_simp
                        exact hG
                      refine List.forall_mem_cons.2 ⟨?_, ?_⟩
                      · refine ObA.pure (by rfl) (.int .i64 (nF : Int)) rfl ?_
                        intro z w' k hz G hG
                        have e97 : z 97 = (.slice (some ⟨bF, oF, none⟩) nF fc) := hz 97 (by simp)
                        simp only [putsAt, List.foldl, e97]
                        unfold Runs
                        go_simp
                        exact hG
                      refine List.forall_mem_cons.2 ⟨?_, ?_⟩
                      · refine ObA.pure (by rfl) (.int .i64 (mm : Int)) rfl ?_
                        intro z w' k hz G hG
                        have e95 : z 95 = (.int .i64 (ir : Int)) := hz 95 (by simp)
                        have e98 : z 98 = (.int .i64 (nF : Int)) := hz 98 (by simp)
                        have hmod := HMD.out.1
                        have hnz := HMD.out.2.1
                        simp only [putsAt, List.foldl, e95, e98]
                        unfold Runs
                        go_simp
                        exact hG
                      refine List.forall_mem_cons.2 ⟨?_, ?_⟩
                      · refine ObA.pure (by rfl) (.pointer (some ⟨bF, oF + mm * 3, none⟩)) rfl ?_
                        intro z w' k hz G hG
                        have e91 : z 91 = (.slice (some ⟨bF, oF, none⟩) nF fc) := hz 91 (by simp)
                        have e99 : z 99 = (.int .i64 (mm : Int)) := hz 99 (by simp)
                        have hmlt := HMD.out.2.2
                        simp only [putsAt, List.foldl, e91, e99]
                        unfold Runs
                        go_simp
                        exact hG
                      refine List.forall_mem_cons.2 ⟨?_, ?_⟩
                      · refine ObA.load (by rfl) (by decide) (.agg #[S xn, S xt, .bool xa]) rfl ?_
                        intro z w' k hkp hz G hG
                        have e100 : z 100 = (.pointer (some ⟨bF, oF + mm * 3, none⟩)) := hz 100 (by simp)
                        obtain ⟨x0, x1, x2⟩ := HXC.out _ hkp
                        simp only [putsAt, List.foldl, e100]
                        unfold Runs
                        go_simp
                        exact hG
                      refine List.forall_mem_cons.2 ⟨?_, ?_⟩
                      · refine ObA.lit (by rfl) (by decide) rfl (fun _ h => h.elim) XOk.none ?_
                        intro z w' k hz G hG
                        have e101 : z 101 = (.agg #[S xn, S xt, .bool xa]) := hz 101 (by simp)
                        simp only [putsAt, List.foldl, e101]
                        unfold Runs
                        go_simp
                        exact hG
                      refine List.forall_mem_cons.2 ⟨?_, ?_⟩
                      · refine ObA.app (by rfl) rfl 22 rfl Try.underlying22 (.agg #[S [], S [], .bool false]) 40 var_info rfl (by decide) HGX.out id (fun _ _ h => h) HGB2.out rfl rfl rfl ?_ rfl (by intro u hu; simp only [List.mem_cons, List.not_mem_nil, or_false] at hu; rcases hu with rfl | rfl | rfl <;> rfl) (by unfold maxLen; have := HI.out; omega) (by have := HI.out; omega) (by simp) (by simp)
                        intro d' hd' B e sz n xs
                        split <;> first | (intro h; cases h; done) | exact absurd rfl hd'
                      refine List.forall_mem_cons.2 ⟨?_, ?_⟩
                      · refine ObA.pure (by rfl) (.pointer (some ⟨ge, 4, none⟩)) rfl ?_
                        intro z w' k hz G hG
                        simp only [putsAt, List.foldl]
                        unfold Runs
                        go_simp
                        exact hG
                      refine List.forall_mem_cons.2 ⟨?_, ?_⟩
                      · refine ObA.store (by rfl) rfl HGX.out id (fun _ _ h => h) XOk.none rfl rfl ?_
                        intro z w' ep hc hf A c ex G hG
                        simp only [putsAt, List.foldl, ep, ex]
                        unfold Runs
                        go_simp
                        exact hG
                      exact List.forall_mem_nil _
                    case hend =>
                      intro z w' A2 c2 hg2 _ hk20
                      have hk2 : Keep (fun i2 => False ∨ i2 = ge ∨ some i2 = (Value.slice A i c).ownBlock) _ w' := hk20
                      clear hk20
                      simp only [putsAt, List.foldl, dstsOf, List.filterMap, Act.put, List.setIfInBounds_toArray, List.set_cons_zero, List.set_cons_succ]
                      simp only [List.set_cons_zero, List.set_cons_succ] at hg2
                      generalize z 88 = y88
                      generalize z 89 = y89
                      generalize z 90 = y90
                      generalize z 91 = y91
                      generalize z 92 = y92
                      generalize z 93 = y93
                      generalize z 94 = y94
                      generalize z 95 = y95
                      generalize z 96 = y96
                      generalize z 97 = y97
                      generalize z 98 = y98
                      generalize z 99 = y99
                      generalize z 100 = y100
                      generalize z 101 = y101
                      generalize z 102 = y102
                      generalize z 103 = y103
                      generalize z 104 = y104
                      have HG5 : Hid (Gx w' ge 39 [.int .i64 0, .int .i64 0, S cn, S csu, .slice A2 (i + 1) c2, .slice none 0 0] 4 wF.heap.size 45 3 (i + 1) (((turnd r DF).take (i + 1)).flatMap Vr.cells) (.slice A2 (i + 1) c2)) := hide (by rw [HTS.out, List.flatMap_append, List.flatMap_singleton]; exact hg2)
                      have HK5 : Hid (Keep (fun k => k = ge) wF w') := hide (HKJ.out.trans' hk2 (fun k hk h => by
                        rcases h with h | h | h
                        · exact h.elim
                        · exact h
                        · have := own_base HGX.out.own h.symm; omega))
                      clear hg2 hk2 HGX HKJ HGDR HRR HXC HIR HMD HGB2 HTS hjk
                      have hi10 := HI.out
                      go_wp2_with fail
                      go_roundw
                      case rel => first | exact ⟨i + 1, A2, c2, by omega, by go_num, HG5, HK5⟩ | ((repeat apply Exists.intro); exact ⟨⟨i + 1, A2, c2, by omega, by go_num, HG5, HK5⟩, rfl⟩)
                      case measure => simp [intOf]; omega
                case neg =>
                  focus
                    obtain rfl : nF = i := by omega
                    have hTK : (turnd r DF).take nF = turnd r DF := List.take_of_length_le (by rw [turnd_len]; have := HNF.out; omega)
                    rw [hTK] at HGX
                    clear hTK hi hlt
                    obtain ⟨wG, rfl⟩ : ∃ wG : World, wG = wr := ⟨_, rfl⟩
                    have HGDG := hide (HDF'.out.keep HKJ.out (by have := HGDE.out; omega))
                    have HRFG := hide (own_keep HRFF.out HKJ.out (fun k hk h => by have := HGEQ.out; have := (HRFE.out.lt k hk).2; omega))
                    have HRMG := hide (own_keep HRMF.out HKJ.out (fun k hk h => own_blk_ne HRMF.out HX.out (by decide) (by rw [hk, h])))
                    have HREG : Hid (wG.ownsRow wF.heap.size 45 3 (.slice A nF c) nF ((turnd r DF).flatMap Vr.cells)) := hide HGX.out.own
                    have HXG : Hid (Blk wG ge 39 #[.int .i64 0, .int .i64 0, S cn, S csu, .slice A nF c, .slice none 0 0]) := hide HGX.out.blk
                    have HBWG : Hid (Below w.heap.size w wG) := hide (HBWF.out.trans ((HKJ.out.below (B := w.heap.size) HBWF.out.size (fun k hk => by have := HGEQ.out; have := HBWE.out.size; omega))))
                    clear HGX HKJ
                    obtain ⟨EA, hEA⟩ : ∃ EA, EA = A := ⟨_, rfl⟩
                    rw [← hEA] at HREG HXG
                    clear hEA
                    obtain ⟨ec, hec⟩ : ∃ ec, ec = c := ⟨_, rfl⟩
                    rw [← hec] at HREG HXG
                    clear hec
                    obtain ⟨nM, hnM⟩ : ∃ nM, nM = DM.length := ⟨_, rfl⟩
                    rw [← hnM] at HLM HRMG HGDG
                    have HNM2 := hide hnM
                    clear hnM
                    have hjk : ¬ (nF : Int) < (nF : Int) := by omega
                    have q5 := HGDG.out.cell 5
                    simp at q5
                    go_wp2_with fail
                    clear q5 hjk
                    have hnM10 : nM ≤ 10 := HLM.out
                    go_loopw [109] (fun i wr => ∃ (j : Nat) (A : Option Addr) (c : Nat) (L : List Md), j ≤ nM ∧ i = .int .i64 j ∧ Hid (Gx wr ge 39 [.int .i64 0, .int .i64 0, S cn, S csu, .slice EA nF ec, .slice A j c] 5 wG.heap.size 48 8 j (L.flatMap Md.cells) (.slice A j c)) ∧ Hid (∀ m ∈ L, MdOwn wr wG.heap.size m) ∧ Hid (L.map Md.p = ((turnd r DM).take j).map meP) ∧ Hid (Keep (fun k => k = ge) wG wr)) (fun i _ => nM - (intOf i).toNat)
                    case atStart => exact ⟨0, none, 0, [], Nat.zero_le _, rfl, hide ⟨HXG.out, rfl, World.ownsRow_nil _ _ _ _, by decide⟩, hide (fun m hm => by cases hm), hide rfl, hide (Keep.refl _ _)⟩
                    case round =>
                      obtain ⟨i, A, c, L, hi, rfl, HGX, HMO, HLP, HKJ⟩ := hrel
                      obtain ⟨wu, rfl⟩ : ∃ wu : World, wu = wr := ⟨_, rfl⟩
                      by_cases hlt : i < nM
                      case pos =>
                        focus
                          have hil : i < DM.length := by have := HNM2.out; omega
                          have HGDU := hide (HGDG.out.keep HKJ.out (by have := HGDE.out; omega))
                          have HRU := hide (own_keep HRMG.out HKJ.out (fun k hk h => own_blk_ne HRMG.out HXG.out (by decide) (by rw [hk, h])))
                          obtain ⟨mm, hmm⟩ : ∃ mm, mm = (i + r) % nM := ⟨_, rfl⟩
                          have hml : mm < nM := by rw [hmm]; exact Nat.mod_lt _ (by omega)
                          obtain ⟨bM, oM, hMA, _, hbl, hcs⟩ := Rd.rec_ (f := K5.Me.cells) (size := 8) K5.Me.cells_len (Rd.of_ownB HRU.out) HNM2.out.symm mm hml
                          have HTA : Hid ((turnd r DM)[i]'(by rw [turnd_len]; exact hil) = DM[mm]'(by have := HNM2.out; omega)) := hide (by rw [turnd_at r DM hil]; congr 1; rw [hmm, HNM2.out])
                          have HTS : Hid ((turnd r DM).take (i + 1) = (turnd r DM).take i ++ [DM[mm]'(by have := HNM2.out; omega)]) := hide (by rw [List.take_succ_eq_append_getElem (by rw [turnd_len]; exact hil), HTA.out])
                          have HIN : Hid (DM[mm]'(by have := HNM2.out; omega) ∈ cms) := hide (firsts_mem K5.Me.n _ (by rw [← HDM.out]; exact List.getElem_mem _))
                          generalize DM[mm]'(by have := HNM2.out; omega) = x at hcs HTS HTA HIN
                          clear HTA
                          have HME := hide ((HAT.out.ma x HIN.out).bel (HBWG.out.trans ((HKJ.out.below (B := w.heap.size) HBWG.out.size (fun k hk => by have := HGEQ.out; have := HBWE.out.size; omega)))))
                          have HP8 : Hid (x.pk ≤ 8) := hide (HFK.out.2.2.2 x HIN.out)
                          have HN8 := hide (HNM.out.2 x HIN.out)
                          obtain ⟨mln, mco, vn, mst, mpA, mpk, mpc, mps, mrn, mra, mbA, mbk, mbc, mbs⟩ := x
                          have q0 := hcs 0 (.int .i64 mln) rfl
                          have q1 := hcs 1 (.int .i64 mco) rfl
                          have q2 := hcs 2 (S vn) rfl
                          have q3 := hcs 3 (.bool mst) rfl
                          have q4 := hcs 4 (.slice mpA mpk mpc) rfl
                          have q5 := hcs 5 (S mrn) rfl
                          have q6 := hcs 6 (.bool mra) rfl
                          have q7 := hcs 7 (.slice mbA mbk mbc) rfl
                          simp only [Nat.add_zero] at q0 q1 q2 q3 q4 q5 q6 q7
                          replace hMA : MA = some ⟨bM, oM, none⟩ := hMA
                          have q8 : wu.cell? ⟨gd, 5, none⟩ = some (.slice (some ⟨bM, oM, none⟩) nM mc) := by rw [← hMA]; exact (HGDU.out.cell 5).trans rfl
                          obtain ⟨ir, hir⟩ : ∃ ir, ir = i + r := ⟨_, rfl⟩
                          have hand := HTU.out
                          have hadd : IntKind.i64.wrap ((i : Int) + (r : Int)) = (ir : Int) := by rw [hir, IntWalk.i64_in ((i : Int) + (r : Int)) (by omega)]; omega
                          have hmod : Int.tmod (ir : Int) (nM : Int) = (mm : Int) := by rw [hmm, hir]; exact (Int.ofNat_tmod _ _)
                          have hnz : ¬ nM = 0 := by omega
                          have hmlt : (mm : Int) < (nM : Int) := by omega
                          have HI : Hid (i < 10) := hide (by omega)
                          have HGL : Hid (gd < wu.heap.size) := hide HGDU.out.lt
                          have hal : ∀ (p : Addr) (u : Value), p.block < wu.heap.size → wu.cell? p = some u → ∀ o, (wu.alloc o).cell? p = some u := fun p u h1 h2 o => (World.cell?_alloc_lt wu o p h1).trans h2
                          have a0 := hal _ _ hbl q0
                          have a1 := hal _ _ hbl q1
                          have a2 := hal _ _ hbl q2
                          have a3 := hal _ _ hbl q3
                          have a4 := hal _ _ hbl q4
                          have a5 := hal _ _ hbl q5
                          have a6 := hal _ _ hbl q6
                          have a7 := hal _ _ hbl q7
                          have a8 := hal _ _ HGL.out q8
                          clear hcs hmm hml hbl hir hal
                          have hjk : (i : Int) < (nM : Int) := by omega
                          go_upto_region 30 with fail
                          go_region
                          clear q0 q1 q2 q3 q4 q5 q6 q7 q8 a0 a1 a2 a3 a4 a5 a6 a7 a8 hand hadd hmod hnz hmlt hjk
                          obtain ⟨wN, hwN⟩ : ∃ wN, wN = (wu.alloc (.cells #[.int .i64 mln, .int .i64 mco, S vn, .bool mst, .slice mpA mpk mpc, S mrn, .bool mra, .slice mbA mbk mbc] 48)).drew := ⟨_, rfl⟩
                          rw [← hwN]
                          have HMB : Hid (Blk wN wu.heap.size 48 #[.int .i64 mln, .int .i64 mco, S vn, .bool mst, .slice mpA mpk mpc, S mrn, .bool mra, .slice mbA mbk mbc]) := hide (by rw [hwN]; exact (Blk.new _ _ _).drew)
                          have HKN : Hid (Keep (fun _ => False) wu wN) := hide (by rw [hwN]; exact ((Keep.refl _ wu).alloc _).drew)
                          clear hwN
                          obtain ⟨g9, hg9⟩ : ∃ g, g = wu.heap.size := ⟨_, rfl⟩
                          have HG9 := hide hg9
                          rw [← hg9] at HMB ⊢
                          clear hg9
                          have q4 := HMB.out.cell 4
                          have q7 := HMB.out.cell 7
                          have z7 := HMB.out.frozen 7
                          simp at q4 q7
                          have HMB2 : Hid (Blk (wN.setCell ⟨g9, 7, none⟩ (.slice none 0 0)) g9 48 #[.int .i64 mln, .int .i64 mco, S vn, .bool mst, .slice mpA mpk mpc, S mrn, .bool mra, .slice none 0 0]) := hide (by simpa using HMB.out.set_ 7 (.slice none 0 0))
                          have q4' : ∀ o, ((wN.setCell ⟨g9, 7, none⟩ (.slice none 0 0)).alloc o).cell? ⟨g9, 4, none⟩ = some (.slice mpA mpk mpc) := fun o => ((HMB2.out.alloc o).cell 4).trans rfl
                          go_upto_region 34 with fail
                          clear q4 q7 z7 q4'
                          refine name_world ?_
                          intro wP hwP
                          have HPB : Hid (Blk wP g9 48 #[.int .i64 mln, .int .i64 mco, S vn, .bool mst, .slice mpA mpk mpc, S mrn, .bool mra, .slice none 0 0]) := hide (by rw [hwP]; exact HMB2.out.alloc _)
                          have HOP : Hid (wP.ownsRow wN.heap.size 45 3 (.slice (some ⟨wN.heap.size, 0, none⟩) 0 0) 0 []) := hide (by
                            rw [hwP]
                            have := World.ownsRow_lit (base := wN.heap.size) (e := 45) (size := 3) (wN.setCell ⟨g9, 7, none⟩ (.slice none 0 0)) #[] 0 (by simp) (by unfold maxLen; omega) rfl
                            simpa using this)
                          have HKP : Hid (Keep (fun _ => False) wu wP) := hide (by
                            rw [hwP]
                            exact ((HKN.out.mono (G := fun k => False) (fun _ _ h => h)).trans' ((Keep.setCell (F := fun k => k = g9) (Keep.refl _ wN) (p := ⟨g9, 7, none⟩) (fun _ => rfl) (.slice none 0 0)).alloc _) (fun k hk h => by have := HG9.out; omega)))
                          have HQ9 : Hid (g9 < wN.heap.size) := hide HMB.out.lt
                          have HNP : Hid (wN.heap.size ≤ wP.heap.size) := hide (by rw [hwP]; simp)
                          clear hwP HMB HMB2 HKN
                          obtain ⟨gq, hgq⟩ : ∃ g, g = wN.heap.size := ⟨_, rfl⟩
                          rw [← hgq] at HOP HQ9 HNP ⊢
                          clear hgq
                          have HPL : Hid (mps.length = mpk) := hide HME.out.pl
                          have hp8 : mpk ≤ 8 := HP8.out
                          have HWP : Hid (Below w.heap.size w wP) := hide ((HBWG.out.trans ((HKJ.out.below (B := w.heap.size) HBWG.out.size (fun k hk => by have := HGEQ.out; have := HBWE.out.size; omega)))).trans ((HKP.out.below (B := w.heap.size) (by have := HKJ.out.size; have := HBWG.out.size; omega) (fun k hk => hk.elim))))
                          go_loopw [15, 129] (fun v i wr => ∃ (t : Nat) (A2 : Option Addr) (c2 : Nat), t ≤ mpk ∧ i = .int .i64 t ∧ v = .slice A2 t c2 ∧ Hid (wr.ownsRow gq 45 3 (.slice A2 t c2) t (((mps.take t).map vx).flatMap Vr.cells)) ∧ Hid (Keep (fun k => gq ≤ k) wP wr)) (fun _ i _ => mpk - (intOf i).toNat)
                          case atStart => exact ⟨0, _, _, Nat.zero_le _, rfl, rfl, HOP, hide (Keep.refl _ _)⟩
                          case round =>
                            obtain ⟨t, A2, c2, ht, rfl, rfl, HOW, HKW⟩ := hrel
                            by_cases hltp : t < mpk
                            case pos =>
                              focus
                                have HBR : Hid (Below w.heap.size w wr) := hide (HWP.out.trans (HKW.out.below (B := w.heap.size) HWP.out.size (fun k hk => by have := HQ9.out; have := HG9.out; have := HKJ.out.size; have := HBWG.out.size; omega)))
                                obtain ⟨b, o, hA, _, hbl, hcs⟩ := Rd.rec_ (f := Vr.cells) (size := 3) (fun _ => rfl) ((HAT.out.ma _ HIN.out).pr.below HBR.out) HPL.out t hltp
                                have hlk : t < mps.length := by have := HPL.out; omega
                                have HNS : Hid (((mps.take (t + 1)).map vx) = (mps.take t).map vx ++ [vx mps[t]]) := hide (by rw [List.take_succ_eq_append_getElem hlk, List.map_append]; rfl)
                                have HVN := hide (HN8.out.2.2 mps[t] (List.getElem_mem hlk))
                                generalize mps[t] = x at hcs HNS HVN
                                obtain ⟨pn, ⟨pt, pa⟩⟩ := x
                                have q0 := hcs 0 (S pn) rfl
                                have q1 := hcs 1 (S pt) rfl
                                have q2 := hcs 2 (.bool pa) rfl
                                simp only [Nat.add_zero] at q0 q1 q2
                                replace hA : mpA = some ⟨b, o, none⟩ := hA
                                rw [hA]
                                have hjk : (t : Int) < (mpk : Int) := by omega
                                have HT8 : Hid (t < 8) := hide (by omega)
                                clear hcs hbl
                                go_upto_region 36 with fail
                                refine name_world ?_
                                intro wC hwC
                                have HC : Hid (Blk wC wr.heap.size 45 #[S pn, S pt, .bool pa]) := hide (by rw [hwC]; exact Blk.new _ _ _)
                                have HOC := hide (show wC.ownsRow _ _ _ _ _ _ by rw [hwC]; exact HOW.out.alloc _)
                                have HKC : Hid (Keep (fun k => gq ≤ k) wP wC) := hide (by rw [hwC]; exact HKW.out.alloc _)
                                have HSW : Hid (gq ≤ wC.heap.size) := hide (Nat.le_trans HNP.out HKC.out.size)
                                clear hwC q0 q1 q2
                                have q0 := HC.out.cell 0
                                have q1 := HC.out.cell 1
                                have q2 := HC.out.cell 2
                                simp at q0 q1 q2
                                have hpl : pn.length + 1 ≤ 104857601 := by have h1 : pn.length ≤ 104857600 := HVN.out.1; omega
                                go_wp2_with (at_builtin; have e1 := HOC.out.alloc (.cells #[S (pn ++ [120]), S pt, .bool pa] 45); have e2 : Blk (wC.alloc (.cells #[S (pn ++ [120]), S pt, .bool pa] 45)) wC.heap.size 45 [S (pn ++ [120]), S pt, .bool pa].toArray := Blk.new _ _ _; refine wpList_appB rfl (.tmp 133) (.tmp 140) 22 rfl gq 45 (.agg #[S [], S [], .bool false]) 3 40 Try.underlying22 var_info rfl (by decide) (.slice A2 t c2) t (((mps.take t).map vx).flatMap Vr.cells) ?hs e1 wC.heap.size [S (pn ++ [120]), S pt, .bool pa] ?hx rfl e2 ?h1 ?h63 ?hbytes ?hbase ?h; (case hs => exact rfl); (case hx => exact rfl); (case h1 => (intro u hu; simp only [List.mem_cons, List.not_mem_nil, or_false] at hu; rcases hu with rfl | rfl | rfl <;> rfl)); (case h63 => (unfold maxLen; have := HT8.out; omega)); (case hbytes => (have := HT8.out; omega)); (case hbase => (have := HSW.out; simp; omega)); intro A4 c4 w9 hown9 hg9; clear e1 e2)
                                have HO9 : Hid (w9.ownsRow gq 45 3 (.slice A4 (t + 1) c4) (t + 1) (((mps.take (t + 1)).map vx).flatMap Vr.cells)) := hide (by rw [HNS.out, List.flatMap_append, List.flatMap_singleton]; exact hown9)
                                have HK9 : Hid (Keep (fun k => gq ≤ k) wP w9) := hide (((HKC.out.alloc _).grown hg9 (fun k hk _ => own_base HOC.out hk)))
                                clear hown9 hg9 HOC HKC q0 q1 q2 HC HOW HKW hjk
                                have ht8 := HT8.out
                                go_wp2_with fail
                                go_roundw
                                case rel => first | exact ⟨t + 1, A4, c4, by omega, by go_num, rfl, HO9, HK9⟩ | ((repeat apply Exists.intro); exact ⟨⟨t + 1, A4, c4, by omega, by go_num, rfl, HO9, HK9⟩, rfl⟩)
                                case measure => simp [intOf]; omega
                            case neg =>
                              focus
                                obtain rfl : mpk = t := by omega
                                have hTK : mps.take mpk = mps := List.take_of_length_le (by have := HPL.out; omega)
                                rw [hTK] at HOW
                                clear hTK ht hltp
                                obtain ⟨wQ, rfl⟩ : ∃ wQ : World, wQ = wr := ⟨_, rfl⟩
                                have HQB : Hid (Blk wQ g9 48 #[.int .i64 mln, .int .i64 mco, S vn, .bool mst, .slice mpA mpk mpc, S mrn, .bool mra, .slice none 0 0]) := hide (HPB.out.keep HKW.out (by have := HQ9.out; omega))
                                have HKQ : Hid (Keep (fun _ => False) wu wQ) := hide (HKP.out.trans' HKW.out (fun k hk h => by have := HG9.out; have := HQ9.out; omega))
                                have HGQ := hide (HGX.out.keep HKQ.out id (fun _ _ h => h))
                                have HGE9 : Hid (ge < g9) := hide (by have := HGX.out.blk.lt; have := HG9.out; omega)
                                have HQB2 : Hid (Blk (wQ.setCell ⟨g9, 4, none⟩ (.slice A2 mpk c2)) g9 48 #[.int .i64 mln, .int .i64 mco, S vn, .bool mst, .slice A2 mpk c2, S mrn, .bool mra, .slice none 0 0]) := hide (by simpa using HQB.out.set_ 4 (.slice A2 mpk c2))
                                have q4 := HQB.out.cell 4
                                have z4 := HQB.out.frozen 4
                                simp at q4
                                have hjk : ¬ (mpk : Int) < (mpk : Int) := by omega
                                go_upto_region 39 with fail
                                clear q4 z4 hjk
                                refine name_world ?_
                                intro wR hwR
                                rw [← hwR] at HQB2
                                have HKR : Hid (Keep (fun k => k = g9) wQ wR) := hide (by rw [hwR]; exact Keep.setCell (F := fun k => k = g9) (Keep.refl _ wQ) (p := ⟨g9, 4, none⟩) (fun _ => rfl) _)
                                have HGR := hide (HGQ.out.keep HKR.out (by have := HGE9.out; omega) (fun k hk h => by have := (HGX.out.own.lt k hk).2; have := HG9.out; omega))
                                have HOR := hide (own_keep HOW.out HKR.out (fun k hk h => own_blk_ne HOW.out HQB.out (by decide) (by rw [hk, h])))
                                have HSR : Hid (wG.heap.size ≤ wR.heap.size) := hide (Nat.le_trans HKJ.out.size (Nat.le_trans HKQ.out.size HKR.out.size))
                                have HGG : Hid (wG.heap.size ≤ gq) := hide (by have := HKJ.out.size; have := HG9.out; have := HQ9.out; omega)
                                have HKUR : Hid (Keep (fun _ => False) wu wR) := hide (HKQ.out.trans' HKR.out (fun k hk h => by have := HG9.out; omega))
                                clear hwR HKQ HKR HGQ HQB HOW HKW HPB HKP
                                have q0 := HQB2.out.cell 0
                                have q1 := HQB2.out.cell 1
                                have q2 := HQB2.out.cell 2
                                have q3 := HQB2.out.cell 3
                                have q4 := HQB2.out.cell 4
                                have q5 := HQB2.out.cell 5
                                have q6 := HQB2.out.cell 6
                                have q7 := HQB2.out.cell 7
                                simp at q0 q1 q2 q3 q4 q5 q6 q7
                                have q8 : wR.cell? ⟨ge, 5, none⟩ = some (.slice A i c) := HGR.out.cell
                                go_upto_region 40 with (at_builtin; have e1 := HGR.out.own.alloc (.cells #[.int .i64 mln, .int .i64 mco, S vn, .bool mst, .slice A2 mpk c2, S mrn, .bool mra, .slice none 0 0] 48); have e2 : Blk (wR.alloc (.cells #[.int .i64 mln, .int .i64 mco, S vn, .bool mst, .slice A2 mpk c2, S mrn, .bool mra, .slice none 0 0] 48)) wR.heap.size 48 [.int .i64 mln, .int .i64 mco, S vn, .bool mst, .slice A2 mpk c2, S mrn, .bool mra, .slice none 0 0].toArray := Blk.new _ _ _; refine wpList_appB rfl (.tmp 146) (.tmp 148) 37 rfl wG.heap.size 48 (.agg #[.int .i64 0, .int .i64 0, .string ⟨#[]⟩, .bool false, .slice none 0 0, .string ⟨#[]⟩, .bool false, .slice none 0 0]) 8 112 Try.underlying37 me_info rfl (by decide) (.slice A i c) i (L.flatMap Md.cells) ?hs e1 wR.heap.size [.int .i64 mln, .int .i64 mco, S vn, .bool mst, .slice A2 mpk c2, S mrn, .bool mra, .slice none 0 0] ?hx rfl e2 ?h1 ?h63 ?hbytes ?hbase ?h; (case hs => exact rfl); (case hx => exact rfl); (case h1 => (intro u hu; simp only [List.mem_cons, List.not_mem_nil, or_false] at hu; rcases hu with rfl | rfl | rfl | rfl | rfl | rfl | rfl | rfl <;> rfl)); (case h63 => (unfold maxLen; have := HI.out; omega)); (case hbytes => (have := HI.out; omega)); (case hbase => (have := HSR.out; simp; omega)); intro A4 c4 w9 hown9 hg9; clear e1 e2; obtain ⟨hn9, hc9, hf9⟩ := (HGR.out.alloc _).next hown9 hg9)
                                simp only [List.set_cons_zero, List.set_cons_succ] at hn9
                                have hkk : Keep (fun k => k = ge ∨ some k = (Value.slice A i c).ownBlock) wR (w9.setCell ⟨ge, 5, none⟩ (.slice A4 (i + 1) c4)) := (((Keep.refl _ wR).alloc _).grown hg9 (fun k hk _ => .inr hk.symm)).setCell (fun _ => .inl rfl) _
                                refine name_world ?_
                                intro wS hwS
                                rw [← hwS] at hn9 hkk
                                obtain ⟨mN, hmN⟩ : ∃ mN : Md, mN = ⟨mln, mco, vn, mst, A2, mpk, c2, mps.map vx, ⟨mrn, mra⟩, none, 0, 0⟩ := ⟨_, rfl⟩
                                have HG9' : Hid (Gx wS ge 39 [.int .i64 0, .int .i64 0, S cn, S csu, .slice EA nF ec, .slice A4 (i + 1) c4] 5 wG.heap.size 48 8 (i + 1) ((L ++ [mN]).flatMap Md.cells) (.slice A4 (i + 1) c4)) := hide (by rw [List.flatMap_append, List.flatMap_singleton, hmN]; exact hn9)
                                have HK9 : Hid (Keep (fun k => k = ge) wG wS) := hide ((HKJ.out.trans' HKUR.out (fun k _ h => h.elim)).trans' hkk (fun k hk h => h.elim id (fun h => by have := own_base HGR.out.own h.symm; omega)))
                                have HM9 : Hid (∀ m ∈ L ++ [mN], MdOwn wS wG.heap.size m) := hide (by
                                  intro m hm
                                  rcases List.mem_append.1 hm with hm | hm
                                  · have h1 := (HMO.out m hm).keep HKUR.out (fun _ _ h => h)
                                    exact h1.keep hkk (fun k hk h => h.elim (fun h => own_blk_ne h1.own HGR.out.blk (by decide) (by rw [hk, h])) (fun h => own_own_ne h1.own HGR.out.own (by decide) k hk h.symm))
                                  · obtain rfl := List.mem_singleton.1 hm
                                    have h2 := own_keep HOR.out hkk (fun k hk h => h.elim (fun h => own_blk_ne HOR.out HGR.out.blk (by decide) (by rw [hk, h])) (fun h => own_own_ne HOR.out HGR.out.own (by decide) k hk h.symm))
                                    subst hmN
                                    exact ⟨own_base_mono h2 HGG.out, by simp only [List.length_map]; exact HPL.out, hp8, HN8.out.1, HN8.out.2.1, fun p hp => by
                                      obtain ⟨v, hv, rfl⟩ := List.mem_map.1 hp
                                      have := HN8.out.2.2 v hv
                                      simp only [vx, List.length_append, List.length_cons, List.length_nil]
                                      omega⟩)
                                have HL9 : Hid ((L ++ [mN]).map Md.p = ((turnd r DM).take (i + 1)).map meP) := hide (by
                                  rw [HTS.out, List.map_append, List.map_append, HLP.out, hmN]
                                  simp [mdOf, Md.p, tyz, vx])
                                clear hn9 hown9 hg9 hc9 hf9 hkk hwS hmN q0 q1 q2 q3 q4 q5 q6 q7 q8 HGR HOR HKUR HQB2 HGX HMO HLP HKJ HTS HME HN8 HP8 HIN HPL HWP HGDU HRU
                                have hi10 := HI.out
                                go_wp2_with fail
                                go_roundw
                                case rel => rw [hMA]; first | exact ⟨i + 1, A4, c4, L ++ [mN], by omega, by go_num, HG9', HM9, HL9, HK9⟩ | ((repeat apply Exists.intro); exact ⟨⟨i + 1, A4, c4, L ++ [mN], by omega, by go_num, HG9', HM9, HL9, HK9⟩, rfl⟩)
                                case measure => simp [intOf]; omega
                      case neg =>
                        focus
                          obtain rfl : nM = i := by omega
                          have hTK : (turnd r DM).take nM = turnd r DM := List.take_of_length_le (by rw [turnd_len]; have := HNM2.out; omega)
                          rw [hTK] at HLP
                          clear hTK hi hlt
                          have HBWH : Hid (Below w.heap.size w wu) := hide (HBWG.out.trans ((HKJ.out.below (B := w.heap.size) HBWG.out.size (fun k hk => by have := HGEQ.out; have := HBWE.out.size; omega))))
                          have HLM2 : Hid (L.length = nM) := hide (by have := congrArg List.length HLP.out; rw [List.length_map, List.length_map, turnd_len] at this; rw [this]; exact HNM2.out.symm)
                          have HFM : Hid (∀ v ∈ DF, v.n.length ≤ 104857600 ∧ v.t.n.length ≤ 104857600) := hide (fun v hv => HNM.out.1 v (firsts_mem Vr.n v (by rw [← HDF.out]; exact hv)))
                          have HMM2 : Hid (∀ m ∈ DM, m ∈ cms) := hide (fun m hm => firsts_mem K5.Me.n m (by rw [← HDM.out]; exact hm))
                          have HRF9 := hide (own_keep HRFG.out HKJ.out (fun k hk h => own_blk_ne HRFG.out HXG.out (by decide) (by rw [hk, h])))
                          have HRM9 := hide (own_keep HRMG.out HKJ.out (fun k hk h => own_blk_ne HRMG.out HXG.out (by decide) (by rw [hk, h])))
                          have HRE9 := hide (own_keep HREG.out HKJ.out (fun k hk h => own_blk_ne HREG.out HXG.out (by decide) (by rw [hk, h])))
                          have HCD : Hid ((⟨0, 0, cn, csu, FA, nF, fc, DF, MA, nM, mc, DM.map mdOf⟩ : Cs).at_ wu (fun k => wu.heap.size ≤ k)) := hide {
                            fr := (Rd.of_ownB HRF9.out).weak (fun k h1 h2 => by omega)
                            fl := HNF.out.symm
                            fb := by show nF ≤ 19; omega
                            fo := fun v hv => by have := HFM.out v hv; exact ⟨by unfold short; omega, by show short _; unfold short; omega⟩
                            mr := by
                              have h := (Rd.of_ownB HRM9.out).weak (G := fun k => wu.heap.size ≤ k) (fun k h1 h2 => by omega)
                              simp only [List.flatMap_map]
                              exact h
                            ml := by simp only [List.length_map]; exact HNM2.out.symm
                            mb := by show nM ≤ 19; omega
                            mo := fun m hm => by
                              obtain ⟨x, hx, rfl⟩ := List.mem_map.1 hm
                              have hxc := HMM2.out x hx
                              have hx8 := HFK.out.2.2.2 x hxc
                              have hxn := HNM.out.2 x hxc
                              have hxa := HAT.out.ma x hxc
                              refine ⟨(hxa.pr.below HBWH.out).weak (fun k h1 h2 => by omega), hxa.pl, by show x.pk ≤ 200; omega, by show short x.n; unfold short; omega, by show short x.rn; unfold short; omega, fun p hp => ?_⟩
                              have := hxn.2.2 p hp
                              exact ⟨by unfold short; omega, by show short _; unfold short; omega⟩
                            sn := by show short cn; unfold short; have := HFK.out.2.2.1; omega
                            ss := by show short csu; unfold short; have := HFK.out.2.2.1; omega }
                          have HCE : Hid ((⟨0, 0, cn, csu, EA, nF, ec, turnd r DF, A, nM, c, L⟩ : Cs).at_ wu (fun k => wu.heap.size ≤ k)) := hide {
                            fr := (Rd.of_ownB HRE9.out).weak (fun k h1 h2 => by omega)
                            fl := by show (turnd r DF).length = nF; rw [turnd_len]; exact HNF.out.symm
                            fb := by show nF ≤ 19; omega
                            fo := fun v hv => by have := HFM.out v ((turnd_perm r DF).mem_iff.1 hv); exact ⟨by unfold short; omega, by show short _; unfold short; omega⟩
                            mr := (Rd.of_ownB HGX.out.own).weak (fun k h1 h2 => by omega)
                            ml := HLM2.out
                            mb := by show nM ≤ 19; omega
                            mo := fun m hm => by
                              have hx := HMO.out m hm
                              have h1 := hx.le
                              have h2 := hx.sn
                              have h3 := hx.sr
                              refine ⟨(Rd.of_ownB hx.own).weak (fun k h1 h2 => by omega), hx.len, by omega, by unfold short; omega, by unfold short; omega, fun p hp => ?_⟩
                              have := hx.sp p hp
                              exact ⟨by unfold short; omega, by show short _; unfold short; omega⟩
                            sn := by show short cn; unfold short; have := HFK.out.2.2.1; omega
                            ss := by show short csu; unfold short; have := HFK.out.2.2.1; omega }
                          have HGD9 := hide (HGDG.out.keep HKJ.out (by have := HGDE.out; omega))
                          have i0 : Ho gd ge (⟨0, 0, cn, csu, FA, nF, fc, DF, MA, nM, mc, DM.map mdOf⟩ : Cs) (⟨0, 0, cn, csu, EA, nF, ec, turnd r DF, A, nM, c, L⟩ : Cs) wu wu := ⟨HGD9.out, HGX.out.blk, Below.refl _ _⟩
                          obtain ⟨P, hP⟩ := cond_pl cn csu cfs cms
                          rw [← HDF.out, ← HDM.out] at hP
                          have HPP := hide hP
                          clear hP
                          have HCN : Hid (cn.length ≤ 80 ∧ csu.length ≤ 80) := hide (by have := HFK.out.2.2.1; omega)
                          obtain ⟨DZ, hDZ⟩ : ∃ d, d = darr (digF P) := ⟨_, rfl⟩
                          have hEQ : ∀ w, (binOp .eql 51 (.agg DZ) (.agg DZ)).run Try.prog w = .ok (.bool true) w := fun w => by
                            have hl : (digF P).length = 32 := by simp [digF, sumM_len]
                            have := run_eql_darr (digF P) (digF P) hl hl w
                            rw [hDZ]
                            simpa using this
                          have HDZ := hide (fun _ : Unit => hDZ)
                          clear hDZ
                          have HO1 : Hid (∀ w', Ho gd ge (⟨0, 0, cn, csu, FA, nF, fc, DF, MA, nM, mc, DM.map mdOf⟩ : Cs) (⟨0, 0, cn, csu, EA, nF, ec, turnd r DF, A, nM, c, L⟩ : Cs) wu w' → Calls Try.prog 14 #[(.agg #[.int .i64 0, .int .i64 0, S cn, S csu, .slice FA nF fc, .slice MA nM mc])] w' (fun e w'' => ∃ f : Fc, e = .returned f.val ∧ (f.pl = P ∧ (fcL f.pl).length ≤ 1099511627000) ∧ f.at_ w'' (fun k => w''.heap.size ≤ k) ∧ Below w'.heap.size w' w'' ∧ Ho gd ge (⟨0, 0, cn, csu, FA, nF, fc, DF, MA, nM, mc, DM.map mdOf⟩ : Cs) (⟨0, 0, cn, csu, EA, nF, ec, turnd r DF, A, nM, c, L⟩ : Cs) wu w'')) := hide (fun w' i => by
                            refine (faceof_any (⟨0, 0, cn, csu, FA, nF, fc, DF, MA, nM, mc, DM.map mdOf⟩ : Cs) w' ((HCD.out.below i.be).weak (fun k h1 h2 => by have := i.be.size; omega))).mono ?_
                            rintro e w'' ⟨f, rfl, h1, h2, h3, h4, h5, h6, h7, h8, h9, h10, hb⟩
                            have hc : CondF cn csu DF DM f := ⟨h1, h2, h3, h4, by rw [List.map_map] at h5; exact h5, h6⟩
                            refine ⟨f, rfl, ⟨HPP.out f hc, mid_le h7 (mid_of h1 h2 h3 h5 h8 h9 h10 (by have := HCN.out.1; show cn.length ≤ _; omega) (by have := HCN.out.2; show csu.length ≤ _; omega) HFM.out (fun m hm => ?_))⟩, h7, hb, i.below hb⟩
                            obtain ⟨x, hx, rfl⟩ := List.mem_map.1 hm
                            have hxn := HNM.out.2 x (HMM2.out x hx)
                            exact ⟨hxn.1, hxn.2.1, fun p hp => (hxn.2.2 p hp).2⟩)
                          have HO2 : Hid (∀ w', Ho gd ge (⟨0, 0, cn, csu, FA, nF, fc, DF, MA, nM, mc, DM.map mdOf⟩ : Cs) (⟨0, 0, cn, csu, EA, nF, ec, turnd r DF, A, nM, c, L⟩ : Cs) wu w' → Calls Try.prog 14 #[(.agg #[.int .i64 0, .int .i64 0, S cn, S csu, .slice EA nF ec, .slice A nM c])] w' (fun e w'' => ∃ f : Fc, e = .returned f.val ∧ (f.pl = P ∧ (fcL f.pl).length ≤ 1099511627000) ∧ f.at_ w'' (fun k => w''.heap.size ≤ k) ∧ Below w'.heap.size w' w'' ∧ Ho gd ge (⟨0, 0, cn, csu, FA, nF, fc, DF, MA, nM, mc, DM.map mdOf⟩ : Cs) (⟨0, 0, cn, csu, EA, nF, ec, turnd r DF, A, nM, c, L⟩ : Cs) wu w'')) := hide (fun w' i => by
                            refine (faceof_any (⟨0, 0, cn, csu, EA, nF, ec, turnd r DF, A, nM, c, L⟩ : Cs) w' ((HCE.out.below i.be).weak (fun k h1 h2 => by have := i.be.size; omega))).mono ?_
                            rintro e w'' ⟨f, rfl, h1, h2, h3, h4, h5, h6, h7, h8, h9, h10, hb⟩
                            have h5' : (f.ms.map Sg.p).Perm (DM.map meP) := h5.trans (by show (L.map Md.p).Perm _; rw [HLP.out]; exact (turnd_perm r DM).map _)
                            have hc : CondF cn csu DF DM f := ⟨h1, h2, h3.trans (turnd_perm r DF), h4, h5', h6⟩
                            refine ⟨f, rfl, ⟨HPP.out f hc, mid_le h7 (mid_of h1 h2 h3 h5 h8 h9 h10 (by have := HCN.out.1; show cn.length ≤ _; omega) (by have := HCN.out.2; show csu.length ≤ _; omega) (fun v hv => HFM.out v ((turnd_perm r DF).mem_iff.1 hv)) (fun m hm => ?_))⟩, h7, hb, i.below hb⟩
                            have hx := HMO.out m hm
                            exact ⟨hx.sn, hx.sr, fun p hp => (hx.sp p hp).2⟩)
                          have HSM : Hid (∀ w' (fa fb : Fc), fa.at_ w' (fun k => w'.heap.size ≤ k) → fb.at_ w' (fun k => w'.heap.size ≤ k) → (fa.pl = P ∧ (fcL fa.pl).length ≤ 1099511627000) → (fb.pl = P ∧ (fcL fb.pl).length ≤ 1099511627000) → Ho gd ge (⟨0, 0, cn, csu, FA, nF, fc, DF, MA, nM, mc, DM.map mdOf⟩ : Cs) (⟨0, 0, cn, csu, EA, nF, ec, turnd r DF, A, nM, c, L⟩ : Cs) wu w' → Calls Try.prog 11 #[fa.val, fb.val] w' (fun e w'' => e = .returned (.bool true) ∧ Ho gd ge (⟨0, 0, cn, csu, FA, nF, fc, DF, MA, nM, mc, DM.map mdOf⟩ : Cs) (⟨0, 0, cn, csu, EA, nF, ec, turnd r DF, A, nM, c, L⟩ : Cs) wu w'')) := hide (fun w' fa fb ha hb pa pb i => by
                            refine (facesame_any fa fb w' ha hb).mono ?_
                            rintro e w'' ⟨rfl, hbe⟩
                            refine ⟨?_, i.below hbe⟩
                            rw [decide_eq_true (Fc.pl_p.1 (pa.1.trans pb.1.symm))])
                          have HDG : Hid (∀ w' (f : Fc), f.at_ w' (fun k => w'.heap.size ≤ k) → (f.pl = P ∧ (fcL f.pl).length ≤ 1099511627000) → Ho gd ge (⟨0, 0, cn, csu, FA, nF, fc, DF, MA, nM, mc, DM.map mdOf⟩ : Cs) (⟨0, 0, cn, csu, EA, nF, ec, turnd r DF, A, nM, c, L⟩ : Cs) wu w' → Calls Try.prog 15 #[f.val] w' (fun e w'' => e = .returned (.agg DZ) ∧ Below w'.heap.size w' w'' ∧ Ho gd ge (⟨0, 0, cn, csu, FA, nF, fc, DF, MA, nM, mc, DM.map mdOf⟩ : Cs) (⟨0, 0, cn, csu, EA, nF, ec, turnd r DF, A, nM, c, L⟩ : Cs) wu w'')) := hide (fun w' f ha pa i => by
                            refine (dig_any f w' ha pa.2).mono ?_
                            rintro e w'' ⟨rfl, hbe⟩
                            exact ⟨by rw [pa.1, HDZ.out ()], hbe, i.below hbe⟩)
                          have hjk : ¬ (nM : Int) < (nM : Int) := by omega
                          clear HCD HCE HRF9 HRM9 HRE9 HGD9 HGX HMO HLP HKJ HLM2 HFM HMM2 HPP HCN HDZ HXG HREG HRFG HRMG HGDG HFK HNM HAT HTU
                          go_upto_region 41 with fail
                          clear hjk
                          obtain ⟨wz, hwz⟩ : ∃ wz, wz = wu := ⟨_, rfl⟩
                          have hcel : wu.cell? ⟨gd, 0, none⟩ = some (.int .i64 0) ∧ wu.cell? ⟨gd, 1, none⟩ = some (.int .i64 0) ∧ wu.cell? ⟨gd, 2, none⟩ = some (S cn) ∧ wu.cell? ⟨gd, 3, none⟩ = some (S csu) ∧ wu.cell? ⟨gd, 4, none⟩ = some (.slice FA nF fc) ∧ wu.cell? ⟨gd, 5, none⟩ = some (.slice MA nM mc) ∧ wu.cell? ⟨ge, 0, none⟩ = some (.int .i64 0) ∧ wu.cell? ⟨ge, 1, none⟩ = some (.int .i64 0) ∧ wu.cell? ⟨ge, 2, none⟩ = some (S cn) ∧ wu.cell? ⟨ge, 3, none⟩ = some (S csu) ∧ wu.cell? ⟨ge, 4, none⟩ = some (.slice EA nF ec) ∧ wu.cell? ⟨ge, 5, none⟩ = some (.slice A nM c) := i0.cells
                          have j0 := i0.below ((Below.refl _ wu).drew)
                          (go_region_held3 (fun w' => w'.cell? ⟨gd, 0, none⟩ = some (.int .i64 0) ∧ w'.cell? ⟨gd, 1, none⟩ = some (.int .i64 0) ∧ w'.cell? ⟨gd, 2, none⟩ = some (S cn) ∧ w'.cell? ⟨gd, 3, none⟩ = some (S csu) ∧ w'.cell? ⟨gd, 4, none⟩ = some (.slice FA nF fc) ∧ w'.cell? ⟨gd, 5, none⟩ = some (.slice MA nM mc) ∧ w'.cell? ⟨ge, 0, none⟩ = some (.int .i64 0) ∧ w'.cell? ⟨ge, 1, none⟩ = some (.int .i64 0) ∧ w'.cell? ⟨ge, 2, none⟩ = some (S cn) ∧ w'.cell? ⟨ge, 3, none⟩ = some (S csu) ∧ w'.cell? ⟨ge, 4, none⟩ = some (.slice EA nF ec) ∧ w'.cell? ⟨ge, 5, none⟩ = some (.slice A nM c))
                            (first | exact hcel | assumption | exact i.cells | exact j0.cells | exact i0.cells | fail)
                            (first
                              | (go_at_call 14; (with_reducible refine (HO1.out _ j0).mono ?_); rintro e w5 ⟨fa, rfl, pa, ha, hba, i⟩)
                              | (go_at_call 14; (with_reducible refine (HO2.out _ i).mono ?_); rintro e w6 ⟨fb, rfl, pb, hb, hbb, i⟩; try have ha2 := fat_up ha hbb)
                              | (go_at_call 11; (with_reducible refine (HSM.out _ fa fb ha2 hb pa pb i).mono ?_); rintro e w7 ⟨rfl, i⟩)
                              | (go_at_call 14; (with_reducible refine (HO1.out _ i).mono ?_); rintro e w8 ⟨fq, rfl, pq, hq, hbq, i⟩)
                              | (go_at_call 15; (with_reducible refine (HDG.out _ fq hq pq i).mono ?_); rintro e w9 ⟨rfl, hbd, i⟩)
                              | (go_at_call 15; (with_reducible refine (HDG.out _ fb hb pb i).mono ?_); rintro e wa ⟨rfl, hbe, i⟩)
                              | fail))
                          go_wp2_with fail
                          go_ret
                          exact ⟨rfl, HBWH.out.trans (i.be.mono HBWH.out.size)⟩
end Go.Proofs.Ytkgnoemagklmiaa
