/- A class's file laid by the law's own page, walked; no statement of the seat is proved here. -/
import Derived.Test.YtkldfbacagnhoaaDoorPoolLay
import Derived.Test.YtkldfbacagnhoaaDoorClsEnc
namespace Go.Proofs.YtkldfbacagnhoaaDoor
open Go.RowKit

theorem fcL_mtF (n : List UInt8) (st : Bool) (r : Ty) (ps : List Ty) (c : List UInt8) : fcL (mtF ⟨⟨n, st, ps, r⟩, c⟩) = tx c ++ tx [] ++ vi 0 ++ vi 1 ++ tx n ++ fl st ++ tyL r ++ vi ps.length ++ catAll tyL ps := by
  simp [fcL, mtF, sgL, catAll]

section
variable {g : Nat} {v : Value} {wo w' : World} {bs : List UInt8}
set_option maxRecDepth 100000 in
set_option maxHeartbeats 4000000 in
/-- The law's closure that lays a type. -/
theorem cty (q3 : Nat) (tn : List UInt8) (ta : Bool) (hk : Wk g v wo bs w') (h3 : Blk w' q3 65 #[.pointer (some ⟨g, 0, none⟩)]) (hl : bs.length + (tyL ⟨tn, ta⟩).length + 200 ≤ 140737488355328) :
    Calls Tryd.prog 43 #[.agg #[S tn, .bool ta], .pointer (some ⟨q3, 0, none⟩)] w' (LaysOff g v wo (bs ++ tyL ⟨tn, ta⟩) w') := by
  have HB : Hid (bs.length + (vi tn.length).length + tn.length + 150 ≤ 140737488355328) := hide (by simp only [tyL, tx, List.length_append] at hl; omega)
  have HKB0 := hide hk
  have HP0 := hide h3
  clear hl hk h3
  go_enter Tryd.func43, Tryd.ntmps43
  go_upto_region 1 with fail
  refine name_world ?_
  intro wB hwB
  have HKB : Hid (Wk g v wo bs wB) := hide (by rw [hwB]; exact HKB0.out.alloc _)
  have HS0 : Hid (Stay w' wB) := hide (by rw [hwB]; exact Stay.alloc _ _)
  have HBX : Hid (Blk wB w'.heap.size 49 #[S tn, .bool ta]) := hide (by rw [hwB]; exact Blk.new _ _ _)
  have HPW : Hid (Blk wB q3 65 #[.pointer (some ⟨g, 0, none⟩)]) := hide (by rw [hwB]; exact HP0.out.alloc _)
  clear hwB HP0
  generalize w'.heap.size = q at HBX ⊢
  obtain ⟨w0, hw0⟩ : ∃ w0 : World, w0 = w' := ⟨_, rfl⟩
  rw [← hw0] at HS0 ⊢
  clear hw0
  refine region_lays (by kernel_rfl) [⟨0, some 3, false, [0, 1, 2], []⟩, ⟨1, some 4, false, [0, 1, 2], []⟩, ⟨2, some 5, false, [0, 1, 2], [4]⟩, ⟨3, some 6, false, [0, 1, 2], [5]⟩, ⟨4, some 7, true, [0], [3, 6]⟩, ⟨5, some 8, false, [0, 1, 2], []⟩, ⟨6, some 9, false, [0, 1, 2], [8]⟩, ⟨7, some 10, false, [0, 1, 2], [9]⟩, ⟨8, some 11, true, [1], [7, 10]⟩] [4, 8] (fun d => match d with | 3 => .is (.pointer (some ⟨g, 0, none⟩)) | 4 => .is (.pointer (some ⟨q, 0, none⟩)) | 5 => .is (S tn) | 6 => .lit 1 9 #[S tn] | 7 => .is (.pointer (some ⟨g, 0, none⟩)) | 8 => .is (.pointer (some ⟨q, 1, none⟩)) | 9 => .is (.bool ta) | 10 => .lit 1 4 #[.bool ta] | 11 => .is (.pointer (some ⟨g, 0, none⟩)) | _ => .any) g v wo (fun k => match k with | 0 => bs | 1 => bs ++ tx tn | _ => bs ++ tx tn ++ fl ta) (by kernel_rfl) HKB.out ?obs ?hend
  case obs =>
    refine List.forall_mem_cons.2 ⟨?_, ?_⟩
    · refine ObL.pure (by rfl) ?_
      intro z w' hs hz G hG
      have hc0 := (hs _ _ _ (by decide) HPW.out).cell 0
      simp at hc0
      simp only [putsAt, List.foldl]
      unfold Runs
      go_simp
      exact hG _ rfl
    refine List.forall_mem_cons.2 ⟨?_, ?_⟩
    · refine ObL.pure (by rfl) ?_
      intro z w' hs hz G hG
      simp only [putsAt, List.foldl]
      unfold Runs
      go_simp
      exact hG _ rfl
    refine List.forall_mem_cons.2 ⟨?_, ?_⟩
    · refine ObL.pure (by rfl) ?_
      intro z w' hs hz G hG
      have e4 : z 4 = .pointer (some ⟨q, 0, none⟩) := hz 4 (by simp)
      have hc0 := (hs _ _ _ (by decide) HBX.out).cell 0
      simp at hc0
      simp only [putsAt, List.foldl, e4]
      unfold Runs
      go_simp
      exact hG _ rfl
    refine List.forall_mem_cons.2 ⟨?_, ?_⟩
    · refine ObL.lit (by rfl) rfl (by decide) ?_
      intro z w' hs hz G hG
      have e5 : z 5 = S tn := hz 5 (by simp)
      simp only [putsAt, List.foldl, e5]
      unfold Runs
      go_simp
      exact hG
    refine List.forall_mem_cons.2 ⟨?_, ?_⟩
    · refine ObL.call (by rfl) ?_
      intro z w' hk0 hs hz G hG
      have hk : Wk g v wo (bs) w' := hk0
      clear hk0
      have e3 : z 3 = .pointer (some ⟨g, 0, none⟩) := hz 3 (by simp)
      obtain ⟨_, b6, e6, k6⟩ : farT 9 = true ∧ ∃ b, z 6 = .slice (some ⟨b, 0, none⟩) 1 1 ∧ Blk w' b 9 #[S tn] := hz 6 (by simp)
      simp only [putsAt, List.foldl, e3, e6]
      unfold Runs
      go_simp
      refine (ctext1 tn hk k6 (by have := HB.out; omega)).mono ?_
      rintro e w2 ⟨rfl, h1, h2⟩
      exact ⟨_, rfl, hG _ _ (fun d' e => by cases e; rfl) h1 h2⟩
    refine List.forall_mem_cons.2 ⟨?_, ?_⟩
    · refine ObL.pure (by rfl) ?_
      intro z w' hs hz G hG
      simp only [putsAt, List.foldl]
      unfold Runs
      go_simp
      exact hG _ rfl
    refine List.forall_mem_cons.2 ⟨?_, ?_⟩
    · refine ObL.pure (by rfl) ?_
      intro z w' hs hz G hG
      have e8 : z 8 = .pointer (some ⟨q, 1, none⟩) := hz 8 (by simp)
      have hc1 := (hs _ _ _ (by decide) HBX.out).cell 1
      simp at hc1
      simp only [putsAt, List.foldl, e8]
      unfold Runs
      go_simp
      exact hG _ rfl
    refine List.forall_mem_cons.2 ⟨?_, ?_⟩
    · refine ObL.lit (by rfl) rfl (by decide) ?_
      intro z w' hs hz G hG
      have e9 : z 9 = .bool ta := hz 9 (by simp)
      simp only [putsAt, List.foldl, e9]
      unfold Runs
      go_simp
      exact hG
    refine List.forall_mem_cons.2 ⟨?_, ?_⟩
    · refine ObL.call (by rfl) ?_
      intro z w' hk0 hs hz G hG
      have hk : Wk g v wo (bs ++ tx tn) w' := hk0
      clear hk0
      have e7 : z 7 = .pointer (some ⟨g, 0, none⟩) := hz 7 (by simp)
      obtain ⟨_, b10, e10, k10⟩ : farT 4 = true ∧ ∃ b, z 10 = .slice (some ⟨b, 0, none⟩) 1 1 ∧ Blk w' b 4 #[.bool ta] := hz 10 (by simp)
      simp only [putsAt, List.foldl, e7, e10]
      unfold Runs
      go_simp
      refine (cflag1 ta hk k10 (by have := HB.out; simp only [List.length_append, tx] at this ⊢; omega)).mono ?_
      rintro e w2 ⟨rfl, h1, h2⟩
      exact ⟨_, rfl, hG _ _ (fun d' e => by cases e; rfl) h1 h2⟩
    exact List.forall_mem_nil _
  case hend =>
    intro z w' hz hk0 hs
    have hk : Wk g v wo (bs ++ tx tn ++ fl ta) w' := hk0
    clear hk0
    simp only [putsAt, List.foldl, dstsOf, List.filterMap, Act.put, List.setIfInBounds_toArray, List.set_cons_zero, List.set_cons_succ]
    generalize z 3 = y3
    generalize z 4 = y4
    generalize z 5 = y5
    generalize z 6 = y6
    generalize z 7 = y7
    generalize z 8 = y8
    generalize z 9 = y9
    generalize z 10 = y10
    generalize z 11 = y11
    clear hz
    have HS := hide (HS0.out.trans hs)
    have HF : Hid (Wk g v wo (bs ++ tyL ⟨tn, ta⟩) w') := hide (by rw [tyL, ← List.append_assoc]; exact hk)
    clear hk hs
    go_wp2_with fail
    exact bodyPost_end (v := .tuple #[]) (by simp [results, Tryd.results43, go_sem]) rfl ⟨rfl, HF.out, HS.out⟩
end
set_option maxRecDepth 100000 in
set_option maxHeartbeats 32000000 in
theorem clay_any (f : Fl) (w : World) (hm : Laid w) (h : f.at_ w (fun k => w.heap.size ≤ k)) (hsz : (fileL f.pl).length + 1000 ≤ 140737488355328) : Calls Tryd.prog 20 #[f.val] w (Gives w (S (fileL f.pl))) := by
  obtain ⟨R, hR⟩ : ∃ R, R = fileL f.pl := ⟨_, rfl⟩
  rw [← hR] at hsz ⊢
  obtain ⟨M, hM⟩ : ∃ M, M = (f.mts.map Mt.pl).map mtF := ⟨_, rfl⟩
  obtain ⟨N, hN⟩ : ∃ N, N = f.bs.map Bd.pl := ⟨_, rfl⟩
  have hML : M.length = f.ml := by rw [hM]; simp [h.po.mL]
  have hNL : N.length = f.bl := by rw [hN]; simp [h.bL]
  obtain ⟨D0, hD0⟩ : ∃ D, D = fcL f.f.pl := ⟨_, rfl⟩
  obtain ⟨D1, hD1⟩ : ∃ D, D = D0 ++ vi (f.nl : Int).toNat := ⟨_, rfl⟩
  obtain ⟨D2, hD2⟩ : ∃ D, D = D1 ++ catAll zi f.nums ++ vi (f.cl : Int).toNat := ⟨_, rfl⟩
  obtain ⟨D3, hD3⟩ : ∃ D, D = D2 ++ catAll tx f.cls ++ vi (f.tl : Int).toNat := ⟨_, rfl⟩
  obtain ⟨D4, hD4⟩ : ∃ D, D = D3 ++ catAll tyL f.tys ++ vi (f.dl : Int).toNat := ⟨_, rfl⟩
  obtain ⟨D5, hD5⟩ : ∃ D, D = D4 ++ catAll fdL f.fds ++ vi (f.ml : Int).toNat := ⟨_, rfl⟩
  obtain ⟨D6, hD6⟩ : ∃ D, D = D5 ++ catAll fcL M := ⟨_, rfl⟩
  have hRR : R = D6 ++ catAll bdL N := by
    rw [hR, hD6, hD5, hD4, hD3, hD2, hD1, hD0, hM, hN]
    simp only [fileL, Fl.pl, poolL, poL, poL1, poL2, secL, Fl.ppl, List.length_map, h.po.nL, h.po.cL, h.po.tL, h.po.dL, h.po.mL, List.append_assoc, Int.toNat_natCast]
  have hl6 : D6.length + (catAll bdL N).length + 1000 ≤ 140737488355328 := by rw [hRR, List.length_append] at hsz; omega
  have hl5 : D5.length + (catAll fcL M).length + 1000 ≤ 140737488355328 := by rw [hD6, List.length_append] at hl6; omega
  have hl4 : D4.length + (catAll fdL f.fds).length + 1000 ≤ 140737488355328 := by rw [hD5, List.length_append, List.length_append] at hl5; omega
  have hl3 : D3.length + (catAll tyL f.tys).length + 1000 ≤ 140737488355328 := by rw [hD4, List.length_append, List.length_append] at hl4; omega
  have hl2 : D2.length + (catAll tx f.cls).length + 1000 ≤ 140737488355328 := by rw [hD3, List.length_append, List.length_append] at hl3; omega
  have hl1 : D1.length + (catAll zi f.nums).length + 1000 ≤ 140737488355328 := by rw [hD2, List.length_append, List.length_append] at hl2; omega
  have hl0 : D0.length + 1000 ≤ 140737488355328 := by rw [hD1, List.length_append] at hl1; omega
  have hn := h.po.nB
  have hc := h.po.cB
  have ht := h.po.tB
  have hd := h.po.dB
  have hmb := h.po.mB
  have hbl := h.bB
  have HA := hide h
  have HLD := hide hm
  have HL0 := hide hl0
  have HL1 := hide hl1
  have HL2 := hide hl2
  have HL3 := hide hl3
  have HL4 := hide hl4
  have HL5 := hide hl5
  have HL6 := hide hl6
  have HD0 := hide hD0
  have HD1 := hide hD1
  have HD2 := hide hD2
  have HD3 := hide hD3
  have HD4 := hide hD4
  have HD5 := hide hD5
  have HD6 := hide hD6
  have HRR := hide hRR
  have HMM := hide hM
  have HNN := hide hN
  have HML := hide hML
  have HNL := hide hNL
  clear h hm hsz hR hM hN hML hNL hD0 hD1 hD2 hD3 hD4 hD5 hD6 hRR hl0 hl1 hl2 hl3 hl4 hl5 hl6
  go_enter Tryd.func20, Tryd.ntmps20
  go_upto_region 1 with fail
  refine name_world ?_
  intro wA hwA
  have HB : Hid (Below w.heap.size w wA) := hide (by rw [hwA]; exact (Below.refl _ _).alloc (Nat.le_refl _) _)
  have HX : Hid (Blk wA w.heap.size 36 f.cells.toArray) := hide (by rw [hwA]; exact Blk.new _ _ _)
  have HG : Hid (w.heap.size ≤ wA.heap.size) := hide HB.out.size
  clear hwA
  obtain ⟨q, hq⟩ : ∃ q, q = w.heap.size := ⟨_, rfl⟩
  rw [← hq] at HX ⊢
  have HQ := hide hq
  clear hq
  go_upto_region 2 with fail
  refine name_world ?_
  intro wo hwo
  have HBo : Hid (Below w.heap.size w wo) := hide (by rw [hwo]; first | exact (HB.out.alloc HB.out.size _).alloc (Nat.le_trans HB.out.size (by simp)) _ | exact ((HB.out.alloc HB.out.size _).alloc (Nat.le_trans HB.out.size (by simp)) _).setCell (Nat.le_trans HB.out.size (by simp)) _)
  have HXo : Hid (Blk wo q 36 f.cells.toArray) := hide (by rw [hwo]; first | exact (HX.out.alloc _).alloc _ | exact ((HX.out.alloc _).alloc _).far (by have := HX.out.lt; simp; omega) _)
  have HW : Hid (Wr wo wA.heap.size (.slice none 0 0) []) := hide (by rw [hwo]; exact (wr_new wA).alloc _)
  have HPW : Hid (Blk wo (wA.heap.size + 1) 65 #[.pointer (some ⟨wA.heap.size, 0, none⟩)]) := hide (by
    rw [hwo]
    have := Blk.new (wA.alloc (.cells #[.slice none 0 0] 68)) 65 #[.pointer (some ⟨wA.heap.size, 0, none⟩)]
    rwa [World.size_alloc] at this)
  clear hwo HB HX
  obtain ⟨g, hg⟩ : ∃ g, g = wA.heap.size := ⟨_, rfl⟩
  rw [← hg] at HW HPW HG ⊢
  clear hg
  obtain ⟨q3, hq3⟩ : ∃ q, q = g + 1 := ⟨_, rfl⟩
  rw [← hq3] at HPW ⊢
  clear hq3
  have HX := HXo
  have HB := HBo
  clear HXo HBo
  obtain ⟨v, hv⟩ : ∃ v : Value, v = .slice none 0 0 := ⟨_, rfl⟩
  have HVN : Hid (∀ k, v.ownBlock = some k → w.heap.size ≤ k) := hide (by rw [hv]; intro k hk; cases hk)
  rw [← hv] at HW
  clear hv
  have HAT : Hid (f.at_ wo (Same g v)) := hide ((HA.out.below HB.out).weak (G := Same g v) (fun k hk => by
    rcases hk with e | e
    · rw [e]; exact HG.out
    · exact HVN.out k e.symm))
  have HBW : Hid (∀ bs w', Wk g v wo bs w' → Below w.heap.size w w') := hide (fun bs w' hk => HB.out.trans (hk.below HB.out.size HG.out HVN.out))
  clear HA
  have k0 := HX.out.cell 0
  have k1 := HX.out.cell 1
  have k2 := HX.out.cell 2
  have k3 := HX.out.cell 3
  have kw := HPW.out.cell 0
  simp at k0 k1 k2 k3 kw
  have HF := hide (flay_any f.f g v [] wo HW.out HAT.out.fa (by have := HL0.out; rw [HD0.out] at this; simp only [List.length_nil]; omega))
  rw [List.nil_append, ← HD0.out] at HF
  go_upto_region 3 with (go_at_call 31; refine HF.out.mono ?_; rintro e w3 ⟨rfl, h1, h2⟩; have HK0 := hide h1; have HX3 := hide (h2 _ _ _ (by decide) HX.out); have HP3 := hide (h2 _ _ _ (by decide) HPW.out); clear h1 h2)
  clear k0 k1 k2 k3 kw HF HX HPW
  obtain ⟨wr, hwr⟩ : ∃ wr : World, wr = w3 := ⟨_, rfl⟩
  subst hwr
  have HK := HK0
  have HX := HX3
  have HP := HP3
  clear HK0 HX3 HP3
  have k5 := HX.out.cell 4
  have kw := HP.out.cell 0
  simp at k5 kw
  go_upto_region 4 with (go_at_call 22; refine (cnum1 (f.nl : Int) (HK.out.alloc _) (Blk.new _ _ _) (by have := HL0.out; first | omega | (simp only [List.length_append]; omega)) (by omega)).mono ?_; rintro e w3 ⟨rfl, h1, h2⟩; have HKD := hide h1; have HS3 := hide ((Stay.alloc _ _).trans h2); clear h1 h2)
  have HX3 := hide (HS3.out _ _ _ (by decide) HX.out)
  have HP3 := hide (HS3.out _ _ _ (by decide) HP.out)
  have HK2 : Hid (Wk g v wo D1 w3) := hide (by rw [HD1.out]; exact HKD.out)
  clear HS3 HX HK HKD HP k5 kw
  obtain ⟨wr, hwr⟩ : ∃ wr : World, wr = w3 := ⟨_, rfl⟩
  subst hwr
  have HK := HK2
  have HX := HX3
  have HP := HP3
  clear HK2 HX3 HP3
  have k5 := HX.out.cell 4
  simp at k5
  go_upto_region 5 with fail
  clear k5
  go_wp2_with fail
  go_loopw [38] (fun i wr => ∃ k : Nat, k ≤ f.nl ∧ i = .int .i64 k ∧ Hid (Wk g v wo (D1 ++ catTo zi f.nums k) wr) ∧ Hid (Blk wr q 36 f.cells.toArray) ∧ Hid (Blk wr q3 65 #[.pointer (some ⟨g, 0, none⟩)])) (fun i _ => f.nl - (intOf i).toNat)
  case atStart => exact ⟨0, Nat.zero_le _, rfl, hide (by rw [catTo_zero, List.append_nil]; exact HK.out), HX, HP⟩
  case round =>
    clear HK HX HP
    obtain ⟨k, hk, rfl, HK, HX, HP⟩ := hrel
    by_cases hlt : k < f.nl
    · obtain ⟨b, o, u, hA, hu, hc0⟩ := (HAT.out.po.nr.wk HK.out).at_ k hlt
      have hlk : k < f.nums.length := by have := HAT.out.po.nL; omega
      obtain rfl : Value.int .i64 f.nums[k] = u := by simpa [hlk] using hu
      have HT := hide (catTo_succ zi f.nums k hlk)
      have hdl := catTo_bd zi f.nums k hlk
      have hin := HAT.out.po.nW f.nums[k] (List.getElem_mem hlk)
      generalize f.nums[k] = x at hc0 HT hdl hin
      clear hu
      obtain ⟨D, hD⟩ : ∃ D, D = D1 ++ catTo zi f.nums k := ⟨_, rfl⟩
      have hDl : D.length + (zi x).length + 500 ≤ 140737488355328 := by
        have := HL1.out
        rw [hD, List.length_append]
        omega
      rw [← hD] at HK
      have HD := hide hD
      have HDL := hide hDl
      clear hD hDl hdl
      rw [hA]
      have HIN := hide hin
      clear hin
      have kw := HP.out.cell 0
      simp at kw
      go_upto_region 8 with (go_at_call 42; refine (cint1 x (HK.out.alloc _) (Blk.new _ _ _) HIN.out.1 HIN.out.2 (by have := HDL.out; omega)).mono ?_; rintro e w3 ⟨rfl, h1, h2⟩; have HKD := hide h1; have HS3 := hide ((Stay.alloc _ _).trans h2); clear h1 h2)
      have HX3 := hide (HS3.out _ _ _ (by decide) HX.out)
      have HP3 := hide (HS3.out _ _ _ (by decide) HP.out)
      clear HS3 HX HP HK hc0 kw
      have HK2 : Hid (Wk g v wo (D1 ++ catTo zi f.nums (k + 1)) w3) := hide (by rw [HT.out, ← List.append_assoc, ← HD.out]; exact HKD.out)
      go_wp2_with fail
      go_roundw
      case rel => first | exact ⟨k + 1, by omega, by go_num, HK2, HX3, HP3⟩ | ((repeat apply Exists.intro); exact ⟨⟨k + 1, by omega, by go_num, HK2, HX3, HP3⟩, rfl⟩)
      case measure => simp [intOf]; omega
    · have HK1 : Hid (Wk g v wo (D1 ++ catAll zi f.nums) wr) := hide (by rw [← catTo_all zi f.nums k (by have := HAT.out.po.nL; omega)]; exact HK.out)
      clear HK
      have HK := HK1
      clear HK1
      have k5 := HX.out.cell 5
      have kw := HP.out.cell 0
      simp at k5 kw
      go_upto_region 10 with (go_at_call 22; refine (cnum1 (f.cl : Int) (HK.out.alloc _) (Blk.new _ _ _) (by have := HL1.out; first | omega | (simp only [List.length_append]; omega)) (by omega)).mono ?_; rintro e w3 ⟨rfl, h1, h2⟩; have HKD := hide h1; have HS3 := hide ((Stay.alloc _ _).trans h2); clear h1 h2)
      have HX3 := hide (HS3.out _ _ _ (by decide) HX.out)
      have HP3 := hide (HS3.out _ _ _ (by decide) HP.out)
      have HK2 : Hid (Wk g v wo D2 w3) := hide (by rw [HD2.out]; exact HKD.out)
      clear HS3 HX HK HKD HP k5 kw
      obtain ⟨wr, hwr⟩ : ∃ wr : World, wr = w3 := ⟨_, rfl⟩
      subst hwr
      have HK := HK2
      have HX := HX3
      have HP := HP3
      clear HK2 HX3 HP3
      have k5 := HX.out.cell 5
      simp at k5
      go_upto_region 11 with fail
      clear k5
      go_wp2_with fail
      go_loopw [58] (fun i wr => ∃ k : Nat, k ≤ f.cl ∧ i = .int .i64 k ∧ Hid (Wk g v wo (D2 ++ catTo tx f.cls k) wr) ∧ Hid (Blk wr q 36 f.cells.toArray) ∧ Hid (Blk wr q3 65 #[.pointer (some ⟨g, 0, none⟩)])) (fun i _ => f.cl - (intOf i).toNat)
      case atStart => exact ⟨0, Nat.zero_le _, rfl, hide (by rw [catTo_zero, List.append_nil]; exact HK.out), HX, HP⟩
      case round =>
        clear HK HX HP
        obtain ⟨k, hk, rfl, HK, HX, HP⟩ := hrel
        by_cases hlt : k < f.cl
        · obtain ⟨b, o, u, hA, hu, hc0⟩ := (HAT.out.po.cr.wk HK.out).at_ k hlt
          have hlk : k < f.cls.length := by have := HAT.out.po.cL; omega
          obtain rfl : S f.cls[k] = u := by simpa [hlk] using hu
          have HT := hide (catTo_succ tx f.cls k hlk)
          have hdl := catTo_bd tx f.cls k hlk
          generalize f.cls[k] = x at hc0 HT hdl
          clear hu
          obtain ⟨D, hD⟩ : ∃ D, D = D2 ++ catTo tx f.cls k := ⟨_, rfl⟩
          have hDl : D.length + (tx x).length + 500 ≤ 140737488355328 := by
            have := HL2.out
            rw [hD, List.length_append]
            omega
          rw [← hD] at HK
          have HD := hide hD
          have HDL := hide hDl
          clear hD hDl hdl
          rw [hA]
          have kw := HP.out.cell 0
          simp at kw
          go_upto_region 14 with (go_at_call 23; refine (ctext1 x (HK.out.alloc _) (Blk.new _ _ _) (by have := HDL.out; rw [tx, List.length_append] at this; omega)).mono ?_; rintro e w3 ⟨rfl, h1, h2⟩; have HKD := hide h1; have HS3 := hide ((Stay.alloc _ _).trans h2); clear h1 h2)
          have HX3 := hide (HS3.out _ _ _ (by decide) HX.out)
          have HP3 := hide (HS3.out _ _ _ (by decide) HP.out)
          clear HS3 HX HP HK hc0 kw
          have HK2 : Hid (Wk g v wo (D2 ++ catTo tx f.cls (k + 1)) w3) := hide (by rw [HT.out, ← List.append_assoc, ← HD.out]; exact HKD.out)
          go_wp2_with fail
          go_roundw
          case rel => first | exact ⟨k + 1, by omega, by go_num, HK2, HX3, HP3⟩ | ((repeat apply Exists.intro); exact ⟨⟨k + 1, by omega, by go_num, HK2, HX3, HP3⟩, rfl⟩)
          case measure => simp [intOf]; omega
        · have HK1 : Hid (Wk g v wo (D2 ++ catAll tx f.cls) wr) := hide (by rw [← catTo_all tx f.cls k (by have := HAT.out.po.cL; omega)]; exact HK.out)
          clear HK
          have HK := HK1
          clear HK1
          have k5 := HX.out.cell 6
          have kw := HP.out.cell 0
          simp at k5 kw
          go_upto_region 17 with (go_at_call 22; refine (cnum1 (f.tl : Int) (HK.out.alloc _) (Blk.new _ _ _) (by have := HL2.out; first | omega | (simp only [List.length_append]; omega)) (by omega)).mono ?_; rintro e w3 ⟨rfl, h1, h2⟩; have HKD := hide h1; have HS3 := hide ((Stay.alloc _ _).trans h2); clear h1 h2)
          have HX3 := hide (HS3.out _ _ _ (by decide) HX.out)
          have HP3 := hide (HS3.out _ _ _ (by decide) HP.out)
          have HK2 : Hid (Wk g v wo D3 w3) := hide (by rw [HD3.out]; exact HKD.out)
          clear HS3 HX HK HKD HP k5 kw
          obtain ⟨wr, hwr⟩ : ∃ wr : World, wr = w3 := ⟨_, rfl⟩
          subst hwr
          have HK := HK2
          have HX := HX3
          have HP := HP3
          clear HK2 HX3 HP3
          have k5 := HX.out.cell 6
          simp at k5
          go_upto_region 18 with fail
          clear k5
          go_wp2_with fail
          go_loopw [79] (fun i wr => ∃ k : Nat, k ≤ f.tl ∧ i = .int .i64 k ∧ Hid (Wk g v wo (D3 ++ catTo tyL f.tys k) wr) ∧ Hid (Blk wr q 36 f.cells.toArray) ∧ Hid (Blk wr q3 65 #[.pointer (some ⟨g, 0, none⟩)])) (fun i _ => f.tl - (intOf i).toNat)
          case atStart => exact ⟨0, Nat.zero_le _, rfl, hide (by rw [catTo_zero, List.append_nil]; exact HK.out), HX, HP⟩
          case round =>
            clear HK HX HP
            obtain ⟨k, hk, rfl, HK, HX, HP⟩ := hrel
            by_cases hlt : k < f.tl
            · obtain ⟨b, o, hA, _, _, hcs⟩ := Rd.rec_ (f := Ty.cells) (fun _ => rfl) (HAT.out.po.tr.wk HK.out) HAT.out.po.tL k hlt
              have hlk : k < f.tys.length := by have := HAT.out.po.tL; omega
              have HT := hide (catTo_succ tyL f.tys k hlk)
              have hdl := catTo_bd tyL f.tys k hlk
              have c0 := hcs 0 _ rfl
              have c1 := hcs 1 _ rfl
              clear hcs
              generalize f.tys[k] = t at c0 c1 HT hdl
              obtain ⟨tn, ta⟩ := t
              simp only [Nat.add_zero] at c0 c1
              obtain ⟨D, hD⟩ : ∃ D, D = D3 ++ catTo tyL f.tys k := ⟨_, rfl⟩
              have hDl : D.length + (tyL ⟨tn, ta⟩).length + 500 ≤ 140737488355328 := by
                have := HL3.out
                rw [hD, List.length_append]
                omega
              rw [← hD] at HK
              have HD := hide hD
              have HDL := hide hDl
              clear hD hDl hdl
              rw [hA]
              go_upto_region 20 with fail
              refine name_world ?_
              intro wC hwC
              have HKC : Hid (Wk g v wo D wC) := hide (by rw [hwC]; exact HK.out.alloc _)
              have HBV : Hid (Blk wC wr.heap.size 49 #[S tn, .bool ta]) := hide (by rw [hwC]; exact Blk.new _ _ _)
              have HXC : Hid (Blk wC q 36 f.cells.toArray) := hide (by rw [hwC]; exact HX.out.alloc _)
              have HPC : Hid (Blk wC q3 65 #[.pointer (some ⟨g, 0, none⟩)]) := hide (by rw [hwC]; exact HP.out.alloc _)
              clear hwC HK HX HP c0 c1
              generalize wr.heap.size = q1 at HBV ⊢
              have k0 := HBV.out.cell 0
              have k1 := HBV.out.cell 1
              simp at k0 k1
              go_upto_region 21 with (go_at_call 43; refine (cty q3 tn ta HKC.out HPC.out (by have := HDL.out; omega)).mono ?_; rintro e w3 ⟨rfl, h1, h2⟩; have HKD := hide h1; have HS3 := hide h2; clear h1 h2)
              have HX3 := hide (HS3.out _ _ _ (by decide) HXC.out)
              have HP3 := hide (HS3.out _ _ _ (by decide) HPC.out)
              clear HS3 HXC HPC HKC HBV k0 k1
              have HK2 : Hid (Wk g v wo (D3 ++ catTo tyL f.tys (k + 1)) w3) := hide (by rw [HT.out, ← List.append_assoc, ← HD.out]; exact HKD.out)
              go_wp2_with fail
              go_roundw
              case rel => first | exact ⟨k + 1, by omega, by go_num, HK2, HX3, HP3⟩ | ((repeat apply Exists.intro); exact ⟨⟨k + 1, by omega, by go_num, HK2, HX3, HP3⟩, rfl⟩)
              case measure => simp [intOf]; omega
            · have HK1 : Hid (Wk g v wo (D3 ++ catAll tyL f.tys) wr) := hide (by rw [← catTo_all tyL f.tys k (by have := HAT.out.po.tL; omega)]; exact HK.out)
              clear HK
              have HK := HK1
              clear HK1
              have k5 := HX.out.cell 7
              have kw := HP.out.cell 0
              simp at k5 kw
              go_upto_region 23 with (go_at_call 22; refine (cnum1 (f.dl : Int) (HK.out.alloc _) (Blk.new _ _ _) (by have := HL3.out; first | omega | (simp only [List.length_append]; omega)) (by omega)).mono ?_; rintro e w3 ⟨rfl, h1, h2⟩; have HKD := hide h1; have HS3 := hide ((Stay.alloc _ _).trans h2); clear h1 h2)
              have HX3 := hide (HS3.out _ _ _ (by decide) HX.out)
              have HP3 := hide (HS3.out _ _ _ (by decide) HP.out)
              have HK2 : Hid (Wk g v wo D4 w3) := hide (by rw [HD4.out]; exact HKD.out)
              clear HS3 HX HK HKD HP k5 kw
              obtain ⟨wr, hwr⟩ : ∃ wr : World, wr = w3 := ⟨_, rfl⟩
              subst hwr
              have HK := HK2
              have HX := HX3
              have HP := HP3
              clear HK2 HX3 HP3
              have k5 := HX.out.cell 7
              simp at k5
              go_upto_region 24 with fail
              clear k5
              go_wp2_with fail
              go_loopw [98] (fun i wr => ∃ k : Nat, k ≤ f.dl ∧ i = .int .i64 k ∧ Hid (Wk g v wo (D4 ++ catTo fdL f.fds k) wr) ∧ Hid (Blk wr q 36 f.cells.toArray) ∧ Hid (Blk wr q3 65 #[.pointer (some ⟨g, 0, none⟩)])) (fun i _ => f.dl - (intOf i).toNat)
              case atStart => exact ⟨0, Nat.zero_le _, rfl, hide (by rw [catTo_zero, List.append_nil]; exact HK.out), HX, HP⟩
              case round =>
                clear HK HX HP
                obtain ⟨k, hk, rfl, HK, HX, HP⟩ := hrel
                by_cases hlt : k < f.dl
                · obtain ⟨b, o, hA, _, _, hcs⟩ := Rd.rec_ (f := FdP.cells) (fun _ => rfl) (HAT.out.po.dr.wk HK.out) HAT.out.po.dL k hlt
                  have hlk : k < f.fds.length := by have := HAT.out.po.dL; omega
                  have HT := hide (catTo_succ fdL f.fds k hlk)
                  have hdl := catTo_bd fdL f.fds k hlk
                  have c0 := hcs 0 _ rfl
                  have c1 := hcs 1 _ rfl
                  have c2 := hcs 2 _ rfl
                  have c3 := hcs 3 _ rfl
                  clear hcs
                  generalize f.fds[k] = t at c0 c1 c2 c3 HT hdl
                  obtain ⟨⟨xn, ⟨tn, ta⟩⟩, xc⟩ := t
                  simp only [Nat.add_zero] at c0 c1 c2 c3
                  obtain ⟨D, hD⟩ : ∃ D, D = D4 ++ catTo fdL f.fds k := ⟨_, rfl⟩
                  have hDl : D.length + (fdL ⟨⟨xn, ⟨tn, ta⟩⟩, xc⟩).length + 500 ≤ 140737488355328 := by
                    have := HL4.out
                    rw [hD, List.length_append]
                    omega
                  rw [← hD] at HK
                  have HD := hide hD
                  have HDL := hide hDl
                  clear hD hDl hdl
                  rw [hA]
                  go_upto_region 26 with fail
                  refine name_world ?_
                  intro wC hwC
                  have HKC : Hid (Wk g v wo D wC) := hide (by rw [hwC]; exact HK.out.alloc _)
                  have HBV : Hid (Blk wC wr.heap.size 92 #[S xn, S tn, .bool ta, S xc]) := hide (by rw [hwC]; exact Blk.new _ _ _)
                  have HXC : Hid (Blk wC q 36 f.cells.toArray) := hide (by rw [hwC]; exact HX.out.alloc _)
                  have HPC : Hid (Blk wC q3 65 #[.pointer (some ⟨g, 0, none⟩)]) := hide (by rw [hwC]; exact HP.out.alloc _)
                  clear hwC HK HX HP c0 c1 c2 c3
                  generalize wr.heap.size = q1 at HBV ⊢
                  have HDB : Hid (D.length + (tx xc).length + (tx xn).length + (tyL ⟨tn, ta⟩).length + 500 ≤ 140737488355328 ∧ xc.length ≤ (tx xc).length ∧ xn.length ≤ (tx xn).length) := hide ⟨by have := HDL.out; simp only [fdL, List.length_append] at this; omega, by rw [tx, List.length_append]; omega, by rw [tx, List.length_append]; omega⟩
                  refine region_lays (by kernel_rfl) [⟨0, some 102, false, [0, 1, 2], []⟩, ⟨1, some 103, false, [0, 1, 2], []⟩, ⟨2, some 104, false, [0, 1, 2], [103]⟩, ⟨3, some 105, false, [0, 1, 2], [104]⟩, ⟨4, some 106, true, [0], [102, 105]⟩, ⟨5, some 107, false, [0, 1, 2], []⟩, ⟨6, some 108, false, [0, 1, 2], [107]⟩, ⟨7, some 109, false, [0, 1, 2], [108]⟩, ⟨8, some 110, false, [0, 1, 2], [109]⟩, ⟨9, some 111, true, [1], [106, 110]⟩] [4, 9] (fun d => match d with | 102 => .is (.pointer (some ⟨g, 0, none⟩)) | 103 => .is (.pointer (some ⟨q1, 3, none⟩)) | 104 => .is (S xc) | 105 => .lit 1 9 #[S xc] | 106 => .is (.pointer (some ⟨g, 0, none⟩)) | 107 => .is (.pointer (some ⟨q1, 0, none⟩)) | 108 => .is (.pointer (some ⟨q1, 0, none⟩)) | 109 => .is (S xn) | 110 => .lit 1 9 #[S xn] | 111 => .is (.pointer (some ⟨g, 0, none⟩)) | _ => .any) g v wo (fun k => match k with | 0 => D | 1 => D ++ tx xc | _ => D ++ tx xc ++ tx xn) (by kernel_rfl) HKC.out ?obs ?hend
                  case obs =>
                    refine List.forall_mem_cons.2 ⟨?_, ?_⟩
                    · refine ObL.pure (by rfl) ?_
                      intro z w' hs hz G hG
                      have hc0 := (hs _ _ _ (by decide) HPC.out).cell 0
                      simp at hc0
                      simp only [putsAt, List.foldl]
                      unfold Runs
                      go_simp
                      exact hG _ rfl
                    refine List.forall_mem_cons.2 ⟨?_, ?_⟩
                    · refine ObL.pure (by rfl) ?_
                      intro z w' hs hz G hG
                      simp only [putsAt, List.foldl]
                      unfold Runs
                      go_simp
                      exact hG _ rfl
                    refine List.forall_mem_cons.2 ⟨?_, ?_⟩
                    · refine ObL.pure (by rfl) ?_
                      intro z w' hs hz G hG
                      have e103 : z 103 = .pointer (some ⟨q1, 3, none⟩) := hz 103 (by simp)
                      have hc3 := (hs _ _ _ (by decide) HBV.out).cell 3
                      simp at hc3
                      simp only [putsAt, List.foldl, e103]
                      unfold Runs
                      go_simp
                      exact hG _ rfl
                    refine List.forall_mem_cons.2 ⟨?_, ?_⟩
                    · refine ObL.lit (by rfl) rfl (by decide) ?_
                      intro z w' hs hz G hG
                      have e104 : z 104 = S xc := hz 104 (by simp)
                      simp only [putsAt, List.foldl, e104]
                      unfold Runs
                      go_simp
                      exact hG
                    refine List.forall_mem_cons.2 ⟨?_, ?_⟩
                    · refine ObL.call (by rfl) ?_
                      intro z w' hk0 hs hz G hG
                      have hk : Wk g v wo (D) w' := hk0
                      clear hk0
                      have e102 : z 102 = .pointer (some ⟨g, 0, none⟩) := hz 102 (by simp)
                      obtain ⟨_, b105, e105, k105⟩ : farT 9 = true ∧ ∃ b, z 105 = .slice (some ⟨b, 0, none⟩) 1 1 ∧ Blk w' b 9 #[S xc] := hz 105 (by simp)
                      simp only [putsAt, List.foldl, e102, e105]
                      unfold Runs
                      go_simp
                      refine (ctext1 xc hk k105 (by have := HDB.out; omega)).mono ?_
                      rintro e w2 ⟨rfl, h1, h2⟩
                      exact ⟨_, rfl, hG _ _ (fun d' e => by cases e; rfl) h1 h2⟩
                    refine List.forall_mem_cons.2 ⟨?_, ?_⟩
                    · refine ObL.pure (by rfl) ?_
                      intro z w' hs hz G hG
                      simp only [putsAt, List.foldl]
                      unfold Runs
                      go_simp
                      exact hG _ rfl
                    refine List.forall_mem_cons.2 ⟨?_, ?_⟩
                    · refine ObL.pure (by rfl) ?_
                      intro z w' hs hz G hG
                      have e107 : z 107 = .pointer (some ⟨q1, 0, none⟩) := hz 107 (by simp)
                      simp only [putsAt, List.foldl, e107]
                      unfold Runs
                      go_simp
                      exact hG _ rfl
                    refine List.forall_mem_cons.2 ⟨?_, ?_⟩
                    · refine ObL.pure (by rfl) ?_
                      intro z w' hs hz G hG
                      have e108 : z 108 = .pointer (some ⟨q1, 0, none⟩) := hz 108 (by simp)
                      have hc0 := (hs _ _ _ (by decide) HBV.out).cell 0
                      simp at hc0
                      simp only [putsAt, List.foldl, e108]
                      unfold Runs
                      go_simp
                      exact hG _ rfl
                    refine List.forall_mem_cons.2 ⟨?_, ?_⟩
                    · refine ObL.lit (by rfl) rfl (by decide) ?_
                      intro z w' hs hz G hG
                      have e109 : z 109 = S xn := hz 109 (by simp)
                      simp only [putsAt, List.foldl, e109]
                      unfold Runs
                      go_simp
                      exact hG
                    refine List.forall_mem_cons.2 ⟨?_, ?_⟩
                    · refine ObL.call (by rfl) ?_
                      intro z w' hk0 hs hz G hG
                      have hk : Wk g v wo (D ++ tx xc) w' := hk0
                      clear hk0
                      have e106 : z 106 = .pointer (some ⟨g, 0, none⟩) := hz 106 (by simp)
                      obtain ⟨_, b110, e110, k110⟩ : farT 9 = true ∧ ∃ b, z 110 = .slice (some ⟨b, 0, none⟩) 1 1 ∧ Blk w' b 9 #[S xn] := hz 110 (by simp)
                      simp only [putsAt, List.foldl, e106, e110]
                      unfold Runs
                      go_simp
                      refine (ctext1 xn hk k110 (by have := HDB.out; simp only [List.length_append] at this ⊢; omega)).mono ?_
                      rintro e w2 ⟨rfl, h1, h2⟩
                      exact ⟨_, rfl, hG _ _ (fun d' e => by cases e; rfl) h1 h2⟩
                    exact List.forall_mem_nil _
                  case hend =>
                    intro z w' hz hk0 hs
                    have hk : Wk g v wo (D ++ tx xc ++ tx xn) w' := hk0
                    clear hk0
                    simp only [putsAt, List.foldl, dstsOf, List.filterMap, Act.put, List.setIfInBounds_toArray, List.set_cons_zero, List.set_cons_succ]
                    generalize z 102 = y102
                    generalize z 103 = y103
                    generalize z 104 = y104
                    generalize z 105 = y105
                    generalize z 106 = y106
                    generalize z 107 = y107
                    generalize z 108 = y108
                    generalize z 109 = y109
                    generalize z 110 = y110
                    generalize z 111 = y111
                    clear hz
                    have HX3 := hide (hs _ _ _ (by decide) HXC.out)
                    have HP3 := hide (hs _ _ _ (by decide) HPC.out)
                    have HBV3 := hide (hs _ _ _ (by decide) HBV.out)
                    have HK3 := hide hk
                    clear hk hs HKC HXC HPC HBV
                    have HBV := HBV3
                    have HXC := HX3
                    have HPC := HP3
                    clear HBV3 HX3 HP3
                    have k1 := HBV.out.cell 1
                    have k2 := HBV.out.cell 2
                    simp at k1 k2
                    go_upto_region 28 with (go_at_call 43; refine (cty q3 tn ta HK3.out HPC.out (by have := HDB.out; simp only [List.length_append] at this ⊢; omega)).mono ?_; rintro e w3 ⟨rfl, h1, h2⟩; have HKD := hide h1; have HS3 := hide h2; clear h1 h2)
                    have HX3 := hide (HS3.out _ _ _ (by decide) HXC.out)
                    have HP3 := hide (HS3.out _ _ _ (by decide) HPC.out)
                    clear HS3 HXC HPC HK3 HBV k1 k2
                    have HKD2 : Hid (Wk g v wo (D ++ fdL ⟨⟨xn, ⟨tn, ta⟩⟩, xc⟩) w3) := hide (by have := HKD.out; simpa only [fdL, List.append_assoc] using this)
                    clear HKD
                    have HKD := HKD2
                    clear HKD2
                    have HK2 : Hid (Wk g v wo (D4 ++ catTo fdL f.fds (k + 1)) w3) := hide (by rw [HT.out, ← List.append_assoc, ← HD.out]; exact HKD.out)
                    go_wp2_with fail
                    go_roundw
                    case rel => first | exact ⟨k + 1, by omega, by go_num, HK2, HX3, HP3⟩ | ((repeat apply Exists.intro); exact ⟨⟨k + 1, by omega, by go_num, HK2, HX3, HP3⟩, rfl⟩)
                    case measure => simp [intOf]; omega
                · have HK1 : Hid (Wk g v wo (D4 ++ catAll fdL f.fds) wr) := hide (by rw [← catTo_all fdL f.fds k (by have := HAT.out.po.dL; omega)]; exact HK.out)
                  clear HK
                  have HK := HK1
                  clear HK1
                  have k5 := HX.out.cell 8
                  have kw := HP.out.cell 0
                  simp at k5 kw
                  go_upto_region 30 with (go_at_call 22; refine (cnum1 (f.ml : Int) (HK.out.alloc _) (Blk.new _ _ _) (by have := HL4.out; first | omega | (simp only [List.length_append]; omega)) (by omega)).mono ?_; rintro e w3 ⟨rfl, h1, h2⟩; have HKD := hide h1; have HS3 := hide ((Stay.alloc _ _).trans h2); clear h1 h2)
                  have HX3 := hide (HS3.out _ _ _ (by decide) HX.out)
                  have HP3 := hide (HS3.out _ _ _ (by decide) HP.out)
                  have HK2 : Hid (Wk g v wo D5 w3) := hide (by rw [HD5.out]; exact HKD.out)
                  clear HS3 HX HK HKD HP k5 kw
                  obtain ⟨wr, hwr⟩ : ∃ wr : World, wr = w3 := ⟨_, rfl⟩
                  subst hwr
                  have HK := HK2
                  have HX := HX3
                  have HP := HP3
                  clear HK2 HX3 HP3
                  have k5 := HX.out.cell 8
                  simp at k5
                  go_upto_region 31 with fail
                  clear k5
                  go_wp2_with fail
                  go_loopw [129] (fun i wr => ∃ k : Nat, k ≤ f.ml ∧ i = .int .i64 k ∧ Hid (Wk g v wo (D5 ++ catTo fcL M k) wr) ∧ Hid (Blk wr q 36 f.cells.toArray) ∧ Hid (Blk wr q3 65 #[.pointer (some ⟨g, 0, none⟩)])) (fun i _ => f.ml - (intOf i).toNat)
                  case atStart => exact ⟨0, Nat.zero_le _, rfl, hide (by rw [catTo_zero, List.append_nil]; exact HK.out), HX, HP⟩
                  case round =>
                    clear HK HX HP
                    obtain ⟨k, hk, rfl, HK, HX, HP⟩ := hrel
                    by_cases hlt : k < f.ml
                    · obtain ⟨b, o, hA, _, _, hcs⟩ := Rd.rec_ (f := Mt.cells) (fun _ => rfl) (HAT.out.po.mr.wk HK.out) HAT.out.po.mL k hlt
                      have hlk : k < f.mts.length := by have := HAT.out.po.mL; omega
                      have hlM : k < M.length := by have := HML.out; omega
                      have HT := hide (catTo_succ fcL M k hlM)
                      have hdl := catTo_bd fcL M k hlM
                      have hMk : M[k] = mtF f.mts[k].pl := by simp [HMM.out]
                      rw [hMk] at HT hdl
                      have hat := HAT.out.po.mW f.mts[k] (List.getElem_mem hlk)
                      clear hMk
                      have c0 := hcs 0 _ rfl
                      have c1 := hcs 1 _ rfl
                      have c2 := hcs 2 _ rfl
                      have c3 := hcs 3 _ rfl
                      have c4 := hcs 4 _ rfl
                      have c5 := hcs 5 _ rfl
                      clear hcs
                      generalize f.mts[k] = t at c0 c1 c2 c3 c4 c5 HT hdl hat
                      obtain ⟨⟨xn, st, pA, pk, pc, ps, ⟨rn, ra⟩⟩, xc⟩ := t
                      simp only [Nat.add_zero] at c0 c1 c2 c3 c4 c5
                      obtain ⟨D, hD⟩ : ∃ D, D = D5 ++ catTo fcL M k := ⟨_, rfl⟩
                      have hDl : D.length + (fcL (mtF (Mt.pl ⟨⟨xn, st, pA, pk, pc, ps, ⟨rn, ra⟩⟩, xc⟩))).length + 500 ≤ 140737488355328 := by
                        have := HL5.out
                        rw [hD, List.length_append]
                        omega
                      rw [← hD] at HK
                      have HD := hide hD
                      have HDL := hide hDl
                      clear hD hDl hdl
                      rw [hA]
                      go_upto_region 33 with fail
                      refine name_world ?_
                      intro wC hwC
                      have HKC : Hid (Wk g v wo D wC) := hide (by rw [hwC]; exact HK.out.alloc _)
                      have HBV : Hid (Blk wC wr.heap.size 94 #[S xn, .bool st, .slice pA pk pc, S rn, .bool ra, S xc]) := hide (by rw [hwC]; exact Blk.new _ _ _)
                      have HXC : Hid (Blk wC q 36 f.cells.toArray) := hide (by rw [hwC]; exact HX.out.alloc _)
                      have HPC : Hid (Blk wC q3 65 #[.pointer (some ⟨g, 0, none⟩)]) := hide (by rw [hwC]; exact HP.out.alloc _)
                      clear hwC HK HX HP c0 c1 c2 c3 c4 c5
                      generalize wr.heap.size = q1 at HBV ⊢
                      have HPS : Hid (Rd wo (Same g v) 2 pA pk (ps.flatMap Ty.cells)) := hide hat.1.1
                      have hpk : ps.length = pk := hat.1.2.1
                      have hpk64 : pk ≤ 9223372036854775807 := hat.1.2.2.1
                      obtain ⟨E1, hE1⟩ : ∃ E, E = D ++ tx xc ++ tx [] ++ vi (0 : Int).toNat ++ vi (1 : Int).toNat ++ tx xn ++ fl st := ⟨_, rfl⟩
                      obtain ⟨E2, hE2⟩ : ∃ E, E = E1 ++ tyL ⟨rn, ra⟩ ++ vi (pk : Int).toNat := ⟨_, rfl⟩
                      have hEE : D ++ fcL (mtF (Mt.pl ⟨⟨xn, st, pA, pk, pc, ps, ⟨rn, ra⟩⟩, xc⟩)) = E2 ++ catAll tyL ps := by
                        rw [hE2, hE1]
                        have e := fcL_mtF xn st ⟨rn, ra⟩ ps xc
                        show D ++ fcL (mtF ⟨⟨xn, st, ps, ⟨rn, ra⟩⟩, xc⟩) = _
                        rw [e, hpk]
                        simp only [List.append_assoc, Int.toNat_natCast]
                        rfl
                      have hEl : E2.length + (catAll tyL ps).length + 500 ≤ 140737488355328 := by
                        have := congrArg List.length hEE
                        have := HDL.out
                        simp only [List.length_append] at *
                        omega
                      have hEl1 : E1.length + (tyL ⟨rn, ra⟩).length + (vi (pk : Int).toNat).length + 500 ≤ 140737488355328 := by rw [hE2, List.length_append, List.length_append] at hEl; omega
                      have hEl0 : D.length + (tx xc).length + (tx []).length + (vi (0 : Int).toNat).length + (vi (1 : Int).toNat).length + (tx xn).length + (fl st).length + 500 ≤ 140737488355328 ∧ xc.length ≤ (tx xc).length ∧ xn.length ≤ (tx xn).length := by
                        refine ⟨?_, by rw [tx, List.length_append]; omega, by rw [tx, List.length_append]; omega⟩
                        rw [hE1] at hEl1
                        simp only [List.length_append] at hEl1
                        omega
                      have HE1 := hide hE1
                      have HE2 := hide hE2
                      have HEE := hide hEE
                      have HEL := hide hEl
                      have HEL1 := hide hEl1
                      have HEL0 := hide hEl0
                      have HPK := hide hpk
                      clear hat hE1 hE2 hEE hEl hEl1 hEl0 hpk
                      refine region_lays (by kernel_rfl) [⟨0, some 133, false, [0, 1, 2, 3, 4, 5, 6], []⟩, ⟨1, some 134, false, [0, 1, 2, 3, 4, 5, 6], []⟩, ⟨2, some 135, false, [0, 1, 2, 3, 4, 5, 6], [134]⟩, ⟨3, some 136, false, [0, 1, 2, 3, 4, 5, 6], [135]⟩, ⟨4, some 137, true, [0], [133, 136]⟩, ⟨5, some 138, false, [0, 1, 2, 3, 4, 5, 6], []⟩, ⟨6, some 139, true, [1], [137, 138]⟩, ⟨7, some 140, false, [0, 1, 2, 3, 4, 5, 6], []⟩, ⟨8, some 141, true, [2], [139, 140]⟩, ⟨9, some 142, false, [0, 1, 2, 3, 4, 5, 6], []⟩, ⟨10, some 143, true, [3], [141, 142]⟩, ⟨11, some 144, false, [0, 1, 2, 3, 4, 5, 6], []⟩, ⟨12, some 145, false, [0, 1, 2, 3, 4, 5, 6], [144]⟩, ⟨13, some 146, false, [0, 1, 2, 3, 4, 5, 6], [145]⟩, ⟨14, some 147, false, [0, 1, 2, 3, 4, 5, 6], [146]⟩, ⟨15, some 148, true, [4], [143, 147]⟩, ⟨16, some 149, false, [0, 1, 2, 3, 4, 5, 6], []⟩, ⟨17, some 150, false, [0, 1, 2, 3, 4, 5, 6], [149]⟩, ⟨18, some 151, false, [0, 1, 2, 3, 4, 5, 6], [150]⟩, ⟨19, some 152, false, [0, 1, 2, 3, 4, 5, 6], [151]⟩, ⟨20, some 153, true, [5], [148, 152]⟩] [4, 6, 8, 10, 15, 20] (fun d => match d with | 133 => .is (.pointer (some ⟨g, 0, none⟩)) | 134 => .is (.pointer (some ⟨q1, 5, none⟩)) | 135 => .is (S xc) | 136 => .lit 1 9 #[S xc] | 137 => .is (.pointer (some ⟨g, 0, none⟩)) | 138 => .lit 1 9 #[S []] | 139 => .is (.pointer (some ⟨g, 0, none⟩)) | 140 => .lit 1 3 #[.int .i64 0] | 141 => .is (.pointer (some ⟨g, 0, none⟩)) | 142 => .lit 1 3 #[.int .i64 1] | 143 => .is (.pointer (some ⟨g, 0, none⟩)) | 144 => .is (.pointer (some ⟨q1, 0, none⟩)) | 145 => .is (.pointer (some ⟨q1, 0, none⟩)) | 146 => .is (S xn) | 147 => .lit 1 9 #[S xn] | 148 => .is (.pointer (some ⟨g, 0, none⟩)) | 149 => .is (.pointer (some ⟨q1, 0, none⟩)) | 150 => .is (.pointer (some ⟨q1, 1, none⟩)) | 151 => .is (.bool st) | 152 => .lit 1 4 #[.bool st] | 153 => .is (.pointer (some ⟨g, 0, none⟩)) | _ => .any) g v wo (fun k => match k with | 0 => D | 1 => D ++ tx xc | 2 => D ++ tx xc ++ tx [] | 3 => D ++ tx xc ++ tx [] ++ vi (0 : Int).toNat | 4 => D ++ tx xc ++ tx [] ++ vi (0 : Int).toNat ++ vi (1 : Int).toNat | 5 => D ++ tx xc ++ tx [] ++ vi (0 : Int).toNat ++ vi (1 : Int).toNat ++ tx xn | _ => D ++ tx xc ++ tx [] ++ vi (0 : Int).toNat ++ vi (1 : Int).toNat ++ tx xn ++ fl st) (by kernel_rfl) HKC.out ?obs ?hend
                      case obs =>
                        refine List.forall_mem_cons.2 ⟨?_, ?_⟩
                        · refine ObL.pure (by rfl) ?_
                          intro z w' hs hz G hG
                          have hc0 := (hs _ _ _ (by decide) HPC.out).cell 0
                          simp at hc0
                          simp only [putsAt, List.foldl]
                          unfold Runs
                          go_simp
                          exact hG _ rfl
                        refine List.forall_mem_cons.2 ⟨?_, ?_⟩
                        · refine ObL.pure (by rfl) ?_
                          intro z w' hs hz G hG
                          simp only [putsAt, List.foldl]
                          unfold Runs
                          go_simp
                          exact hG _ rfl
                        refine List.forall_mem_cons.2 ⟨?_, ?_⟩
                        · refine ObL.pure (by rfl) ?_
                          intro z w' hs hz G hG
                          have e134 : z 134 = .pointer (some ⟨q1, 5, none⟩) := hz 134 (by simp)
                          have hc5 := (hs _ _ _ (by decide) HBV.out).cell 5
                          simp at hc5
                          simp only [putsAt, List.foldl, e134]
                          unfold Runs
                          go_simp
                          exact hG _ rfl
                        refine List.forall_mem_cons.2 ⟨?_, ?_⟩
                        · refine ObL.lit (by rfl) rfl (by decide) ?_
                          intro z w' hs hz G hG
                          have e135 : z 135 = S xc := hz 135 (by simp)
                          simp only [putsAt, List.foldl, e135]
                          unfold Runs
                          go_simp
                          exact hG
                        refine List.forall_mem_cons.2 ⟨?_, ?_⟩
                        · refine ObL.call (by rfl) ?_
                          intro z w' hk0 hs hz G hG
                          have hk : Wk g v wo (D) w' := hk0
                          clear hk0
                          have e133 : z 133 = .pointer (some ⟨g, 0, none⟩) := hz 133 (by simp)
                          obtain ⟨_, b136, e136, k136⟩ : farT 9 = true ∧ ∃ b, z 136 = .slice (some ⟨b, 0, none⟩) 1 1 ∧ Blk w' b 9 #[S xc] := hz 136 (by simp)
                          simp only [putsAt, List.foldl, e133, e136]
                          unfold Runs
                          go_simp
                          refine (ctext1 xc hk k136 (by have := HEL0.out; first | omega | (simp only [List.length_append] at this ⊢; omega) | (simp only [List.length_append]; omega))).mono ?_
                          rintro e w2 ⟨rfl, h1, h2⟩
                          exact ⟨_, rfl, hG _ _ (fun d' e => by cases e; rfl) h1 h2⟩
                        refine List.forall_mem_cons.2 ⟨?_, ?_⟩
                        · refine ObL.lit (by rfl) rfl (by decide) ?_
                          intro z w' hs hz G hG
                          simp only [putsAt, List.foldl]
                          unfold Runs
                          go_simp
                          exact hG
                        refine List.forall_mem_cons.2 ⟨?_, ?_⟩
                        · refine ObL.call (by rfl) ?_
                          intro z w' hk0 hs hz G hG
                          have hk : Wk g v wo (D ++ tx xc) w' := hk0
                          clear hk0
                          have e137 : z 137 = .pointer (some ⟨g, 0, none⟩) := hz 137 (by simp)
                          obtain ⟨_, b138, e138, k138⟩ : farT 9 = true ∧ ∃ b, z 138 = .slice (some ⟨b, 0, none⟩) 1 1 ∧ Blk w' b 9 #[S []] := hz 138 (by simp)
                          simp only [putsAt, List.foldl, e137, e138]
                          unfold Runs
                          go_simp
                          refine (ctext1 [] hk k138 (by have := HEL0.out; simp only [List.length_append, List.length_nil] at this ⊢; omega)).mono ?_
                          rintro e w2 ⟨rfl, h1, h2⟩
                          exact ⟨_, rfl, hG _ _ (fun d' e => by cases e; rfl) h1 h2⟩
                        refine List.forall_mem_cons.2 ⟨?_, ?_⟩
                        · refine ObL.lit (by rfl) rfl (by decide) ?_
                          intro z w' hs hz G hG
                          simp only [putsAt, List.foldl]
                          unfold Runs
                          go_simp
                          exact hG
                        refine List.forall_mem_cons.2 ⟨?_, ?_⟩
                        · refine ObL.call (by rfl) ?_
                          intro z w' hk0 hs hz G hG
                          have hk : Wk g v wo (D ++ tx xc ++ tx []) w' := hk0
                          clear hk0
                          have e139 : z 139 = .pointer (some ⟨g, 0, none⟩) := hz 139 (by simp)
                          obtain ⟨_, b140, e140, k140⟩ : farT 3 = true ∧ ∃ b, z 140 = .slice (some ⟨b, 0, none⟩) 1 1 ∧ Blk w' b 3 #[.int .i64 0] := hz 140 (by simp)
                          simp only [putsAt, List.foldl, e139, e140]
                          unfold Runs
                          go_simp
                          refine (cnum1 0 hk k140 (by have := HEL0.out; first | omega | (simp only [List.length_append] at this ⊢; omega) | (simp only [List.length_append]; omega)) (by omega)).mono ?_
                          rintro e w2 ⟨rfl, h1, h2⟩
                          exact ⟨_, rfl, hG _ _ (fun d' e => by cases e; rfl) h1 h2⟩
                        refine List.forall_mem_cons.2 ⟨?_, ?_⟩
                        · refine ObL.lit (by rfl) rfl (by decide) ?_
                          intro z w' hs hz G hG
                          simp only [putsAt, List.foldl]
                          unfold Runs
                          go_simp
                          exact hG
                        refine List.forall_mem_cons.2 ⟨?_, ?_⟩
                        · refine ObL.call (by rfl) ?_
                          intro z w' hk0 hs hz G hG
                          have hk : Wk g v wo (D ++ tx xc ++ tx [] ++ vi (0 : Int).toNat) w' := hk0
                          clear hk0
                          have e141 : z 141 = .pointer (some ⟨g, 0, none⟩) := hz 141 (by simp)
                          obtain ⟨_, b142, e142, k142⟩ : farT 3 = true ∧ ∃ b, z 142 = .slice (some ⟨b, 0, none⟩) 1 1 ∧ Blk w' b 3 #[.int .i64 1] := hz 142 (by simp)
                          simp only [putsAt, List.foldl, e141, e142]
                          unfold Runs
                          go_simp
                          refine (cnum1 1 hk k142 (by have := HEL0.out; first | omega | (simp only [List.length_append] at this ⊢; omega) | (simp only [List.length_append]; omega)) (by omega)).mono ?_
                          rintro e w2 ⟨rfl, h1, h2⟩
                          exact ⟨_, rfl, hG _ _ (fun d' e => by cases e; rfl) h1 h2⟩
                        refine List.forall_mem_cons.2 ⟨?_, ?_⟩
                        · refine ObL.pure (by rfl) ?_
                          intro z w' hs hz G hG
                          simp only [putsAt, List.foldl]
                          unfold Runs
                          go_simp
                          exact hG _ rfl
                        refine List.forall_mem_cons.2 ⟨?_, ?_⟩
                        · refine ObL.pure (by rfl) ?_
                          intro z w' hs hz G hG
                          have e144 : z 144 = .pointer (some ⟨q1, 0, none⟩) := hz 144 (by simp)
                          simp only [putsAt, List.foldl, e144]
                          unfold Runs
                          go_simp
                          exact hG _ rfl
                        refine List.forall_mem_cons.2 ⟨?_, ?_⟩
                        · refine ObL.pure (by rfl) ?_
                          intro z w' hs hz G hG
                          have e145 : z 145 = .pointer (some ⟨q1, 0, none⟩) := hz 145 (by simp)
                          have hc0 := (hs _ _ _ (by decide) HBV.out).cell 0
                          simp at hc0
                          simp only [putsAt, List.foldl, e145]
                          unfold Runs
                          go_simp
                          exact hG _ rfl
                        refine List.forall_mem_cons.2 ⟨?_, ?_⟩
                        · refine ObL.lit (by rfl) rfl (by decide) ?_
                          intro z w' hs hz G hG
                          have e146 : z 146 = S xn := hz 146 (by simp)
                          simp only [putsAt, List.foldl, e146]
                          unfold Runs
                          go_simp
                          exact hG
                        refine List.forall_mem_cons.2 ⟨?_, ?_⟩
                        · refine ObL.call (by rfl) ?_
                          intro z w' hk0 hs hz G hG
                          have hk : Wk g v wo (D ++ tx xc ++ tx [] ++ vi (0 : Int).toNat ++ vi (1 : Int).toNat) w' := hk0
                          clear hk0
                          have e143 : z 143 = .pointer (some ⟨g, 0, none⟩) := hz 143 (by simp)
                          obtain ⟨_, b147, e147, k147⟩ : farT 9 = true ∧ ∃ b, z 147 = .slice (some ⟨b, 0, none⟩) 1 1 ∧ Blk w' b 9 #[S xn] := hz 147 (by simp)
                          simp only [putsAt, List.foldl, e143, e147]
                          unfold Runs
                          go_simp
                          refine (ctext1 xn hk k147 (by have := HEL0.out; first | omega | (simp only [List.length_append] at this ⊢; omega) | (simp only [List.length_append]; omega))).mono ?_
                          rintro e w2 ⟨rfl, h1, h2⟩
                          exact ⟨_, rfl, hG _ _ (fun d' e => by cases e; rfl) h1 h2⟩
                        refine List.forall_mem_cons.2 ⟨?_, ?_⟩
                        · refine ObL.pure (by rfl) ?_
                          intro z w' hs hz G hG
                          simp only [putsAt, List.foldl]
                          unfold Runs
                          go_simp
                          exact hG _ rfl
                        refine List.forall_mem_cons.2 ⟨?_, ?_⟩
                        · refine ObL.pure (by rfl) ?_
                          intro z w' hs hz G hG
                          have e149 : z 149 = .pointer (some ⟨q1, 0, none⟩) := hz 149 (by simp)
                          simp only [putsAt, List.foldl, e149]
                          unfold Runs
                          go_simp
                          exact hG _ rfl
                        refine List.forall_mem_cons.2 ⟨?_, ?_⟩
                        · refine ObL.pure (by rfl) ?_
                          intro z w' hs hz G hG
                          have e150 : z 150 = .pointer (some ⟨q1, 1, none⟩) := hz 150 (by simp)
                          have hc1 := (hs _ _ _ (by decide) HBV.out).cell 1
                          simp at hc1
                          simp only [putsAt, List.foldl, e150]
                          unfold Runs
                          go_simp
                          exact hG _ rfl
                        refine List.forall_mem_cons.2 ⟨?_, ?_⟩
                        · refine ObL.lit (by rfl) rfl (by decide) ?_
                          intro z w' hs hz G hG
                          have e151 : z 151 = .bool st := hz 151 (by simp)
                          simp only [putsAt, List.foldl, e151]
                          unfold Runs
                          go_simp
                          exact hG
                        refine List.forall_mem_cons.2 ⟨?_, ?_⟩
                        · refine ObL.call (by rfl) ?_
                          intro z w' hk0 hs hz G hG
                          have hk : Wk g v wo (D ++ tx xc ++ tx [] ++ vi (0 : Int).toNat ++ vi (1 : Int).toNat ++ tx xn) w' := hk0
                          clear hk0
                          have e148 : z 148 = .pointer (some ⟨g, 0, none⟩) := hz 148 (by simp)
                          obtain ⟨_, b152, e152, k152⟩ : farT 4 = true ∧ ∃ b, z 152 = .slice (some ⟨b, 0, none⟩) 1 1 ∧ Blk w' b 4 #[.bool st] := hz 152 (by simp)
                          simp only [putsAt, List.foldl, e148, e152]
                          unfold Runs
                          go_simp
                          refine (cflag1 st hk k152 (by have := HEL0.out; first | omega | (simp only [List.length_append] at this ⊢; omega) | (simp only [List.length_append]; omega))).mono ?_
                          rintro e w2 ⟨rfl, h1, h2⟩
                          exact ⟨_, rfl, hG _ _ (fun d' e => by cases e; rfl) h1 h2⟩
                        exact List.forall_mem_nil _
                      case hend =>
                        intro z w' hz hk0 hs
                        have hk : Wk g v wo (D ++ tx xc ++ tx [] ++ vi (0 : Int).toNat ++ vi (1 : Int).toNat ++ tx xn ++ fl st) w' := hk0
                        clear hk0
                        simp only [putsAt, List.foldl, dstsOf, List.filterMap, Act.put, List.setIfInBounds_toArray, List.set_cons_zero, List.set_cons_succ]
                        generalize z 133 = y133
                        generalize z 134 = y134
                        generalize z 135 = y135
                        generalize z 136 = y136
                        generalize z 137 = y137
                        generalize z 138 = y138
                        generalize z 139 = y139
                        generalize z 140 = y140
                        generalize z 141 = y141
                        generalize z 142 = y142
                        generalize z 143 = y143
                        generalize z 144 = y144
                        generalize z 145 = y145
                        generalize z 146 = y146
                        generalize z 147 = y147
                        generalize z 148 = y148
                        generalize z 149 = y149
                        generalize z 150 = y150
                        generalize z 151 = y151
                        generalize z 152 = y152
                        generalize z 153 = y153
                        clear hz
                        have HX3 := hide (hs _ _ _ (by decide) HXC.out)
                        have HP3 := hide (hs _ _ _ (by decide) HPC.out)
                        have HBV3 := hide (hs _ _ _ (by decide) HBV.out)
                        have HK3 : Hid (Wk g v wo E1 w') := hide (by rw [HE1.out]; exact hk)
                        clear hk hs HKC HXC HPC HBV
                        have HBV := HBV3
                        have HXC := HX3
                        have HPC := HP3
                        clear HBV3 HX3 HP3
                        have k3 := HBV.out.cell 3
                        have k4 := HBV.out.cell 4
                        simp at k3 k4
                        go_upto_region 35 with (go_at_call 43; refine (cty q3 rn ra HK3.out HPC.out (by have := HEL1.out; omega)).mono ?_; rintro e w3 ⟨rfl, h1, h2⟩; have HKD := hide h1; have HS3 := hide h2; clear h1 h2)
                        have HX3 := hide (HS3.out _ _ _ (by decide) HXC.out)
                        have HP3 := hide (HS3.out _ _ _ (by decide) HPC.out)
                        have HBV3 := hide (HS3.out _ _ _ (by decide) HBV.out)
                        clear HS3 HXC HPC HK3 HBV k3 k4
                        have k2 := HBV3.out.cell 2
                        have kw := HP3.out.cell 0
                        simp at k2 kw
                        go_upto_region 36 with (go_at_call 22; refine (cnum1 (pk : Int) (HKD.out.alloc _) (Blk.new _ _ _) (by have := HEL1.out; simp only [List.length_append] at this ⊢; omega) (by omega)).mono ?_; rintro e w4 ⟨rfl, h1, h2⟩; have HKE := hide h1; have HS4 := hide ((Stay.alloc _ _).trans h2); clear h1 h2)
                        have HX4 := hide (HS4.out _ _ _ (by decide) HX3.out)
                        have HP4 := hide (HS4.out _ _ _ (by decide) HP3.out)
                        have HBV4 := hide (HS4.out _ _ _ (by decide) HBV3.out)
                        have HK4 : Hid (Wk g v wo E2 w4) := hide (by rw [HE2.out]; exact HKE.out)
                        clear HS4 HX3 HP3 HBV3 HKD HKE k2 kw
                        have k2 := HBV4.out.cell 2
                        simp at k2
                        go_upto_region 37 with fail
                        clear k2 HBV4
                        go_wp2_with fail
                        go_loopw [170] (fun i wr => ∃ j : Nat, j ≤ pk ∧ i = .int .i64 j ∧ Hid (Wk g v wo (E2 ++ catTo tyL ps j) wr) ∧ Hid (Blk wr q 36 f.cells.toArray) ∧ Hid (Blk wr q3 65 #[.pointer (some ⟨g, 0, none⟩)])) (fun i _ => pk - (intOf i).toNat)
                        case atStart => exact ⟨0, Nat.zero_le _, rfl, hide (by rw [catTo_zero, List.append_nil]; exact HK4.out), HX4, HP4⟩
                        case round =>
                          clear HK4 HX4 HP4
                          obtain ⟨j, hj, rfl, HK, HX, HP⟩ := hrel
                          by_cases hlt2 : j < pk
                          · obtain ⟨b2, o2, hA2, _, _, hcs⟩ := Rd.rec_ (f := Ty.cells) (fun _ => rfl) (HPS.out.wk HK.out) HPK.out j hlt2
                            have hlj : j < ps.length := by have := HPK.out; omega
                            have HTJ := hide (catTo_succ tyL ps j hlj)
                            have hdl := catTo_bd tyL ps j hlj
                            have c0 := hcs 0 _ rfl
                            have c1 := hcs 1 _ rfl
                            clear hcs
                            generalize ps[j] = t at c0 c1 HTJ hdl
                            obtain ⟨tn, ta⟩ := t
                            simp only [Nat.add_zero] at c0 c1
                            obtain ⟨D7, hD7⟩ : ∃ D7, D7 = E2 ++ catTo tyL ps j := ⟨_, rfl⟩
                            have hDl7 : D7.length + (tyL ⟨tn, ta⟩).length + 500 ≤ 140737488355328 := by have := HEL.out; rw [hD7, List.length_append]; omega
                            rw [← hD7] at HK
                            have HD7 := hide hD7
                            have HDL7 := hide hDl7
                            clear hD7 hDl7 hdl
                            rw [hA2]
                            go_upto_region 39 with fail
                            refine name_world ?_
                            intro wC hwC
                            have HKC : Hid (Wk g v wo D7 wC) := hide (by rw [hwC]; exact HK.out.alloc _)
                            have HBV : Hid (Blk wC wr.heap.size 49 #[S tn, .bool ta]) := hide (by rw [hwC]; exact Blk.new _ _ _)
                            have HXC : Hid (Blk wC q 36 f.cells.toArray) := hide (by rw [hwC]; exact HX.out.alloc _)
                            have HPC : Hid (Blk wC q3 65 #[.pointer (some ⟨g, 0, none⟩)]) := hide (by rw [hwC]; exact HP.out.alloc _)
                            clear hwC HK HX HP c0 c1
                            generalize wr.heap.size = q1 at HBV ⊢
                            have k0 := HBV.out.cell 0
                            have k1 := HBV.out.cell 1
                            simp at k0 k1
                            go_upto_region 40 with (go_at_call 43; refine (cty q3 tn ta HKC.out HPC.out (by have := HDL7.out; omega)).mono ?_; rintro e w3 ⟨rfl, h1, h2⟩; have HKD := hide h1; have HS3 := hide h2; clear h1 h2)
                            have HX3 := hide (HS3.out _ _ _ (by decide) HXC.out)
                            have HP3 := hide (HS3.out _ _ _ (by decide) HPC.out)
                            clear HS3 HXC HPC HKC HBV k0 k1
                            have HK2 : Hid (Wk g v wo (E2 ++ catTo tyL ps (j + 1)) w3) := hide (by rw [HTJ.out, ← List.append_assoc, ← HD7.out]; exact HKD.out)
                            go_wp2_with fail
                            go_roundw
                            case rel => first | exact ⟨j + 1, by omega, by go_num, HK2, HX3, HP3⟩ | ((repeat apply Exists.intro); exact ⟨⟨j + 1, by omega, by go_num, HK2, HX3, HP3⟩, rfl⟩)
                            case measure => simp [intOf]; omega
                          · have HKD : Hid (Wk g v wo (D ++ fcL (mtF (Mt.pl ⟨⟨xn, st, pA, pk, pc, ps, ⟨rn, ra⟩⟩, xc⟩))) wr) := hide (by rw [HEE.out, ← catTo_all tyL ps j (by have := HPK.out; omega)]; exact HK.out)
                            clear HK
                            have HX3 := HX
                            have HP3 := HP
                            clear HX HP
                            obtain ⟨w3, hw3⟩ : ∃ w3 : World, w3 = wr := ⟨_, rfl⟩
                            subst hw3
                            have HK2 : Hid (Wk g v wo (D5 ++ catTo fcL M (k + 1)) w3) := hide (by rw [HT.out, ← List.append_assoc, ← HD.out]; exact HKD.out)
                            go_wp2_with fail
                            go_roundw
                            case rel => first | exact ⟨k + 1, by omega, by go_num, HK2, HX3, HP3⟩ | ((repeat apply Exists.intro); exact ⟨⟨k + 1, by omega, by go_num, HK2, HX3, HP3⟩, rfl⟩)
                            case measure => simp [intOf]; omega
                    · have HK1 : Hid (Wk g v wo D6 wr) := hide (by rw [HD6.out, ← catTo_all fcL M k (by have := HML.out; omega)]; exact HK.out)
                      clear HK
                      have HK := HK1
                      clear HK1
                      have k9 := HX.out.cell 9
                      simp at k9
                      go_upto_region 43 with fail
                      clear k9
                      go_wp2_with fail
                      go_loopw [182] (fun i wr => ∃ k : Nat, k ≤ f.bl ∧ i = .int .i64 k ∧ Hid (Wk g v wo (D6 ++ catTo bdL N k) wr) ∧ Hid (Blk wr q3 65 #[.pointer (some ⟨g, 0, none⟩)])) (fun i _ => f.bl - (intOf i).toNat)
                      case atStart => exact ⟨0, Nat.zero_le _, rfl, hide (by rw [catTo_zero, List.append_nil]; exact HK.out), HP⟩
                      case round =>
                        clear HK HX HP
                        obtain ⟨k, hk, rfl, HK, HP⟩ := hrel
                        by_cases hlt : k < f.bl
                        · obtain ⟨b, o, hA, _, _, hcs⟩ := Rd.rec_ (f := Bd.cells) (fun _ => rfl) (HAT.out.br.wk HK.out) HAT.out.bL k hlt
                          have hlk : k < f.bs.length := by have := HAT.out.bL; omega
                          have hlM : k < N.length := by have := HNL.out; omega
                          have HT := hide (catTo_succ bdL N k hlM)
                          have hdl := catTo_bd bdL N k hlM
                          have hMk : N[k] = f.bs[k].pl := by simp [HNN.out]
                          rw [hMk] at HT hdl
                          have hat := HAT.out.bW f.bs[k] (List.getElem_mem hlk)
                          clear hMk
                          have c0 := hcs 0 _ rfl
                          have c1 := hcs 1 _ rfl
                          have c2 := hcs 2 _ rfl
                          clear hcs
                          generalize f.bs[k] = t at c0 c1 c2 HT hdl hat
                          obtain ⟨lo, sk, cA, ck, cc, code⟩ := t
                          obtain ⟨hc1, hc2, hc3, hlo, hsk, hco⟩ := hat
                          simp only [Nat.add_zero] at c0 c1 c2 hc1 hc2 hc3 hlo hsk hco
                          have hlo2 : lo ≤ 9223372036854775807 := hlo.2
                          have hsk2 : sk ≤ 9223372036854775807 := hsk.2
                          obtain ⟨D, hD⟩ : ∃ D, D = D6 ++ catTo bdL N k := ⟨_, rfl⟩
                          obtain ⟨E2, hE2⟩ : ∃ E2, E2 = D ++ vi lo.toNat ++ vi sk.toNat ++ vi (ck : Int).toNat := ⟨_, rfl⟩
                          have hTT : D ++ bdL (Bd.pl ⟨lo, sk, cA, ck, cc, code⟩) = E2 ++ catAll coL code := by
                            rw [hE2]
                            simp only [bdL, Bd.pl, Int.toNat_natCast, hc2, List.append_assoc]
                          have hDl : D.length + (bdL (Bd.pl ⟨lo, sk, cA, ck, cc, code⟩)).length + 500 ≤ 140737488355328 := by
                            have := HL6.out
                            rw [hD, List.length_append]
                            omega
                          have hDl2 : E2.length + (catAll coL code).length + 500 ≤ 140737488355328 := by
                            have := congrArg List.length hTT
                            rw [List.length_append, List.length_append] at this
                            omega
                          have hDl0 : D.length + (vi lo.toNat).length + (vi sk.toNat).length + (vi (ck : Int).toNat).length + 500 ≤ 140737488355328 := by rw [hE2] at hDl2; simp only [List.length_append] at hDl2; omega
                          rw [← hD] at HK
                          have HD := hide hD
                          have HE2 := hide hE2
                          have HTT := hide hTT
                          have HDL := hide hDl0
                          have HEL := hide hDl2
                          have HC := hide (And.intro hc1 (And.intro hc2 hco))
                          clear hD hDl hdl hE2 hTT hDl2 hDl0 hc1 hc2 hco hlo hsk
                          rw [hA]
                          go_upto_region 45 with fail
                          refine name_world ?_
                          intro wC hwC
                          have HKC : Hid (Wk g v wo D wC) := hide (by rw [hwC]; exact HK.out.alloc _)
                          have HBV : Hid (Blk wC wr.heap.size 58 #[.int .i64 lo, .int .i64 sk, .slice cA ck cc]) := hide (by rw [hwC]; exact Blk.new _ _ _)
                          have HPC : Hid (Blk wC q3 65 #[.pointer (some ⟨g, 0, none⟩)]) := hide (by rw [hwC]; exact HP.out.alloc _)
                          clear hwC HK HP c0 c1 c2
                          generalize wr.heap.size = q1 at HBV ⊢
                          refine region_lays (by kernel_rfl) [⟨0, some 186, false, [0, 1, 2, 3], []⟩, ⟨1, some 187, false, [0, 1, 2, 3], []⟩, ⟨2, some 188, false, [0, 1, 2, 3], [187]⟩, ⟨3, some 189, false, [0, 1, 2, 3], [188]⟩, ⟨4, some 190, true, [0], [186, 189]⟩, ⟨5, some 191, false, [0, 1, 2, 3], []⟩, ⟨6, some 192, false, [0, 1, 2, 3], [191]⟩, ⟨7, some 193, false, [0, 1, 2, 3], [192]⟩, ⟨8, some 194, true, [1], [190, 193]⟩, ⟨9, some 195, false, [0, 1, 2, 3], []⟩, ⟨10, some 196, false, [0, 1, 2, 3], [195]⟩, ⟨11, some 197, false, [0, 1, 2, 3], [196]⟩, ⟨12, some 198, false, [0, 1, 2, 3], [197]⟩, ⟨13, some 199, true, [2], [194, 198]⟩] [4, 8, 13] (fun d => match d with | 186 => .is (.pointer (some ⟨g, 0, none⟩)) | 187 => .is (.pointer (some ⟨q1, 0, none⟩)) | 188 => .is (.int .i64 lo) | 189 => .lit 1 3 #[.int .i64 lo] | 190 => .is (.pointer (some ⟨g, 0, none⟩)) | 191 => .is (.pointer (some ⟨q1, 1, none⟩)) | 192 => .is (.int .i64 sk) | 193 => .lit 1 3 #[.int .i64 sk] | 194 => .is (.pointer (some ⟨g, 0, none⟩)) | 195 => .is (.pointer (some ⟨q1, 2, none⟩)) | 196 => .is (.slice cA ck cc) | 197 => .is (.int .i64 (ck : Int)) | 198 => .lit 1 3 #[.int .i64 (ck : Int)] | 199 => .is (.pointer (some ⟨g, 0, none⟩)) | _ => .any) g v wo (fun k => match k with | 0 => D | 1 => D ++ vi lo.toNat | 2 => D ++ vi lo.toNat ++ vi sk.toNat | _ => D ++ vi lo.toNat ++ vi sk.toNat ++ vi (ck : Int).toNat) (by kernel_rfl) HKC.out ?obs ?hend
                          case obs =>
                            refine List.forall_mem_cons.2 ⟨?_, ?_⟩
                            · refine ObL.pure (by rfl) ?_
                              intro z w' hs hz G hG
                              have hc0 := (hs _ _ _ (by decide) HPC.out).cell 0
                              simp at hc0
                              simp only [putsAt, List.foldl]
                              unfold Runs
                              go_simp
                              exact hG _ rfl
                            refine List.forall_mem_cons.2 ⟨?_, ?_⟩
                            · refine ObL.pure (by rfl) ?_
                              intro z w' hs hz G hG
                              simp only [putsAt, List.foldl]
                              unfold Runs
                              go_simp
                              exact hG _ rfl
                            refine List.forall_mem_cons.2 ⟨?_, ?_⟩
                            · refine ObL.pure (by rfl) ?_
                              intro z w' hs hz G hG
                              have e187 : z 187 = .pointer (some ⟨q1, 0, none⟩) := hz 187 (by simp)
                              have hc0 := (hs _ _ _ (by decide) HBV.out).cell 0
                              simp at hc0
                              simp only [putsAt, List.foldl, e187]
                              unfold Runs
                              go_simp
                              exact hG _ rfl
                            refine List.forall_mem_cons.2 ⟨?_, ?_⟩
                            · refine ObL.lit (by rfl) rfl (by decide) ?_
                              intro z w' hs hz G hG
                              have e188 : z 188 = .int .i64 lo := hz 188 (by simp)
                              simp only [putsAt, List.foldl, e188]
                              unfold Runs
                              go_simp
                              exact hG
                            refine List.forall_mem_cons.2 ⟨?_, ?_⟩
                            · refine ObL.call (by rfl) ?_
                              intro z w' hk0 hs hz G hG
                              have hk : Wk g v wo (D) w' := hk0
                              clear hk0
                              have e186 : z 186 = .pointer (some ⟨g, 0, none⟩) := hz 186 (by simp)
                              obtain ⟨_, b189, e189, k189⟩ : farT 3 = true ∧ ∃ b, z 189 = .slice (some ⟨b, 0, none⟩) 1 1 ∧ Blk w' b 3 #[.int .i64 lo] := hz 189 (by simp)
                              simp only [putsAt, List.foldl, e186, e189]
                              unfold Runs
                              go_simp
                              refine (cnum1 lo hk k189 (by have := HDL.out; first | omega | (simp only [List.length_append] at this ⊢; omega) | (simp only [List.length_append]; omega)) (by omega)).mono ?_
                              rintro e w2 ⟨rfl, h1, h2⟩
                              exact ⟨_, rfl, hG _ _ (fun d' e => by cases e; rfl) h1 h2⟩
                            refine List.forall_mem_cons.2 ⟨?_, ?_⟩
                            · refine ObL.pure (by rfl) ?_
                              intro z w' hs hz G hG
                              simp only [putsAt, List.foldl]
                              unfold Runs
                              go_simp
                              exact hG _ rfl
                            refine List.forall_mem_cons.2 ⟨?_, ?_⟩
                            · refine ObL.pure (by rfl) ?_
                              intro z w' hs hz G hG
                              have e191 : z 191 = .pointer (some ⟨q1, 1, none⟩) := hz 191 (by simp)
                              have hc1 := (hs _ _ _ (by decide) HBV.out).cell 1
                              simp at hc1
                              simp only [putsAt, List.foldl, e191]
                              unfold Runs
                              go_simp
                              exact hG _ rfl
                            refine List.forall_mem_cons.2 ⟨?_, ?_⟩
                            · refine ObL.lit (by rfl) rfl (by decide) ?_
                              intro z w' hs hz G hG
                              have e192 : z 192 = .int .i64 sk := hz 192 (by simp)
                              simp only [putsAt, List.foldl, e192]
                              unfold Runs
                              go_simp
                              exact hG
                            refine List.forall_mem_cons.2 ⟨?_, ?_⟩
                            · refine ObL.call (by rfl) ?_
                              intro z w' hk0 hs hz G hG
                              have hk : Wk g v wo (D ++ vi lo.toNat) w' := hk0
                              clear hk0
                              have e190 : z 190 = .pointer (some ⟨g, 0, none⟩) := hz 190 (by simp)
                              obtain ⟨_, b193, e193, k193⟩ : farT 3 = true ∧ ∃ b, z 193 = .slice (some ⟨b, 0, none⟩) 1 1 ∧ Blk w' b 3 #[.int .i64 sk] := hz 193 (by simp)
                              simp only [putsAt, List.foldl, e190, e193]
                              unfold Runs
                              go_simp
                              refine (cnum1 sk hk k193 (by have := HDL.out; first | omega | (simp only [List.length_append] at this ⊢; omega) | (simp only [List.length_append]; omega)) (by omega)).mono ?_
                              rintro e w2 ⟨rfl, h1, h2⟩
                              exact ⟨_, rfl, hG _ _ (fun d' e => by cases e; rfl) h1 h2⟩
                            refine List.forall_mem_cons.2 ⟨?_, ?_⟩
                            · refine ObL.pure (by rfl) ?_
                              intro z w' hs hz G hG
                              simp only [putsAt, List.foldl]
                              unfold Runs
                              go_simp
                              exact hG _ rfl
                            refine List.forall_mem_cons.2 ⟨?_, ?_⟩
                            · refine ObL.pure (by rfl) ?_
                              intro z w' hs hz G hG
                              have e195 : z 195 = .pointer (some ⟨q1, 2, none⟩) := hz 195 (by simp)
                              have hc2 := (hs _ _ _ (by decide) HBV.out).cell 2
                              simp at hc2
                              simp only [putsAt, List.foldl, e195]
                              unfold Runs
                              go_simp
                              exact hG _ rfl
                            refine List.forall_mem_cons.2 ⟨?_, ?_⟩
                            · refine ObL.pure (by rfl) ?_
                              intro z w' hs hz G hG
                              have e196 : z 196 = .slice cA ck cc := hz 196 (by simp)
                              simp only [putsAt, List.foldl, e196]
                              unfold Runs
                              go_simp
                              exact hG _ rfl
                            refine List.forall_mem_cons.2 ⟨?_, ?_⟩
                            · refine ObL.lit (by rfl) rfl (by decide) ?_
                              intro z w' hs hz G hG
                              have e197 : z 197 = .int .i64 (ck : Int) := hz 197 (by simp)
                              simp only [putsAt, List.foldl, e197]
                              unfold Runs
                              go_simp
                              exact hG
                            refine List.forall_mem_cons.2 ⟨?_, ?_⟩
                            · refine ObL.call (by rfl) ?_
                              intro z w' hk0 hs hz G hG
                              have hk : Wk g v wo (D ++ vi lo.toNat ++ vi sk.toNat) w' := hk0
                              clear hk0
                              have e194 : z 194 = .pointer (some ⟨g, 0, none⟩) := hz 194 (by simp)
                              obtain ⟨_, b198, e198, k198⟩ : farT 3 = true ∧ ∃ b, z 198 = .slice (some ⟨b, 0, none⟩) 1 1 ∧ Blk w' b 3 #[.int .i64 (ck : Int)] := hz 198 (by simp)
                              simp only [putsAt, List.foldl, e194, e198]
                              unfold Runs
                              go_simp
                              refine (cnum1 (ck : Int) hk k198 (by have := HDL.out; first | omega | (simp only [List.length_append] at this ⊢; omega) | (simp only [List.length_append]; omega)) (by omega)).mono ?_
                              rintro e w2 ⟨rfl, h1, h2⟩
                              exact ⟨_, rfl, hG _ _ (fun d' e => by cases e; rfl) h1 h2⟩
                            exact List.forall_mem_nil _
                          case hend =>
                            intro z w' hz hk0 hs
                            have hk : Wk g v wo (D ++ vi lo.toNat ++ vi sk.toNat ++ vi (ck : Int).toNat) w' := hk0
                            clear hk0
                            simp only [putsAt, List.foldl, dstsOf, List.filterMap, Act.put, List.setIfInBounds_toArray, List.set_cons_zero, List.set_cons_succ]
                            generalize z 186 = y186
                            generalize z 187 = y187
                            generalize z 188 = y188
                            generalize z 189 = y189
                            generalize z 190 = y190
                            generalize z 191 = y191
                            generalize z 192 = y192
                            generalize z 193 = y193
                            generalize z 194 = y194
                            generalize z 195 = y195
                            generalize z 196 = y196
                            generalize z 197 = y197
                            generalize z 198 = y198
                            generalize z 199 = y199
                            clear hz
                            have HP3 := hide (hs _ _ _ (by decide) HPC.out)
                            have HBV3 := hide (hs _ _ _ (by decide) HBV.out)
                            have HK3 : Hid (Wk g v wo E2 w') := hide (by rw [HE2.out]; exact hk)
                            clear hk hs HKC HPC HBV
                            have k2 := HBV3.out.cell 2
                            simp at k2
                            go_upto_region 47 with fail
                            clear k2 HBV3
                            go_wp2_with fail
                            go_loopw [203] (fun i wr => ∃ j : Nat, j ≤ ck ∧ i = .int .i64 j ∧ Hid (Wk g v wo (E2 ++ catTo coL code j) wr) ∧ Hid (Blk wr q3 65 #[.pointer (some ⟨g, 0, none⟩)])) (fun i _ => ck - (intOf i).toNat)
                            case atStart => exact ⟨0, Nat.zero_le _, rfl, hide (by rw [catTo_zero, List.append_nil]; exact HK3.out), HP3⟩
                            case round =>
                              clear HK3 HP3
                              obtain ⟨j, hj, rfl, HK, HP⟩ := hrel
                              by_cases hlt2 : j < ck
                              · obtain ⟨b2, o2, hA2, _, _, hcs⟩ := Rd.rec_ (f := coC) (fun _ => rfl) (HC.out.1.wk HK.out) HC.out.2.1 j hlt2
                                have hlj : j < code.length := by have := HC.out.2.1; omega
                                have HTJ := hide (catTo_succ coL code j hlj)
                                have hdl := catTo_bd coL code j hlj
                                have hcf := HC.out.2.2 code[j] (List.getElem_mem hlj)
                                have c0 := hcs 0 _ rfl
                                have c1 := hcs 1 _ rfl
                                clear hcs
                                generalize code[j] = x at c0 c1 HTJ hdl hcf
                                obtain ⟨xc, xa⟩ := x
                                simp only [Nat.add_zero] at c0 c1
                                have hxc : xc ≤ 9223372036854775807 := hcf.1.2
                                have hxa : xa ≤ 9223372036854775807 := hcf.2.2
                                obtain ⟨D7, hD7⟩ : ∃ D7, D7 = E2 ++ catTo coL code j := ⟨_, rfl⟩
                                have hDl7 : D7.length + (coL (xc, xa)).length + 500 ≤ 140737488355328 := by have := HEL.out; rw [hD7, List.length_append]; omega
                                have hDl8 : D7.length + (vi xc.toNat).length + 500 ≤ 140737488355328 := by simp only [coL, List.length_append] at hDl7; omega
                                rw [← hD7] at HK
                                have HD7 := hide hD7
                                have HDL7 := hide hDl7
                                have HDL8 := hide hDl8
                                clear hD7 hDl7 hDl8 hdl hcf
                                rw [hA2]
                                go_upto_region 49 with fail
                                refine name_world ?_
                                intro wC hwC
                                have HKC : Hid (Wk g v wo D7 wC) := hide (by rw [hwC]; exact HK.out.alloc _)
                                have HBV : Hid (Blk wC wr.heap.size 55 #[.int .i64 xc, .int .i64 xa]) := hide (by rw [hwC]; exact Blk.new _ _ _)
                                have HPC : Hid (Blk wC q3 65 #[.pointer (some ⟨g, 0, none⟩)]) := hide (by rw [hwC]; exact HP.out.alloc _)
                                clear hwC HK HP c0 c1
                                generalize wr.heap.size = q1 at HBV ⊢
                                have k0 := HBV.out.cell 0
                                have kw := HPC.out.cell 0
                                simp at k0 kw
                                go_upto_region 50 with (go_at_call 22; refine (cnum1 xc (HKC.out.alloc _) (Blk.new _ _ _) (by have := HDL8.out; omega) (by omega)).mono ?_; rintro e w3 ⟨rfl, h1, h2⟩; have HKD := hide h1; have HS3 := hide ((Stay.alloc _ _).trans h2); clear h1 h2)
                                have HP3 := hide (HS3.out _ _ _ (by decide) HPC.out)
                                have HBV3 := hide (HS3.out _ _ _ (by decide) HBV.out)
                                clear HS3 HKC HPC HBV k0 kw
                                have HCP := hide (pool_any xc w3 (HLD.out.below (HBW.out _ _ HKD.out) (Nat.le_refl _)))
                                have HPZ : Hid ((pl xc == 0) = true → D7 ++ coL (xc, xa) = D7 ++ vi xc.toNat) := hide (fun h => by rw [coL, if_pos h, List.append_nil])
                                have HPN : Hid ((pl xc == 0) = false → D7 ++ coL (xc, xa) = D7 ++ vi xc.toNat ++ vi xa.toNat) := hide (fun h => by rw [coL, if_neg (by rw [h]; decide), List.append_assoc])
                                have HBN : Hid ((pl xc == 0) = false → D7.length + (vi xc.toNat).length + (vi xa.toNat).length + 500 ≤ 140737488355328) := hide (fun h => by have := HDL7.out; simp only [coL, List.length_append] at this; rw [if_neg (by rw [h]; decide)] at this; omega)
                                generalize pl xc = pp at HCP HPZ HPN HBN
                                have k0 := HBV3.out.cell 0
                                have k1 := HBV3.out.cell 1
                                have kw := HP3.out.cell 0
                                simp at k0 k1 kw
                                have PPfact : True := trivial
                                cases hz : (pp == 0) with
                                | true =>
                                  have hzn : (pp != 0) = false := by simp only [bne, hz]; rfl
                                  go_wp2_with (go_at_call 17; refine HCP.out.mono ?_; rintro e w' ⟨rfl, hw'⟩; subst w')
                                  have HK2 : Hid (Wk g v wo (E2 ++ catTo coL code (j + 1)) w3) := hide (by rw [HTJ.out, ← List.append_assoc, ← HD7.out, HPZ.out hz]; exact HKD.out)
                                  clear k0 k1 kw
                                  go_roundw
                                  case rel => first | exact ⟨j + 1, by omega, by go_num, HK2, HP3⟩ | ((repeat apply Exists.intro); exact ⟨⟨j + 1, by omega, by go_num, HK2, HP3⟩, rfl⟩)
                                  case measure => simp [intOf]; omega
                                | false =>
                                  have hzn : (pp != 0) = true := by simp only [bne, hz]; rfl
                                  have HBN2 := hide (HBN.out hz)
                                  go_wp2_with (first
                                    | (go_at_call 17; refine HCP.out.mono ?_; rintro e w' ⟨rfl, hw'⟩; subst w')
                                    | (go_at_call 22; refine (cnum1 xa (HKD.out.alloc _) (Blk.new _ _ _) (by have := HBN2.out; simp only [List.length_append]; omega) (by omega)).mono ?_; rintro e w4 ⟨rfl, h1, h2⟩; have HKE := hide h1; have HS4 := hide ((Stay.alloc _ _).trans h2); clear h1 h2))
                                  have HP4 := hide (HS4.out _ _ _ (by decide) HP3.out)
                                  have HK2 : Hid (Wk g v wo (E2 ++ catTo coL code (j + 1)) w4) := hide (by rw [HTJ.out, ← List.append_assoc, ← HD7.out, HPN.out hz]; exact HKE.out)
                                  clear k0 k1 kw
                                  go_roundw
                                  case rel => first | exact ⟨j + 1, by omega, by go_num, HK2, HP4⟩ | ((repeat apply Exists.intro); exact ⟨⟨j + 1, by omega, by go_num, HK2, HP4⟩, rfl⟩)
                                  case measure => simp [intOf]; omega
                              · have HKD : Hid (Wk g v wo (D6 ++ catTo bdL N (k + 1)) wr) := hide (by rw [HT.out, ← List.append_assoc, ← HD.out, HTT.out, ← catTo_all coL code j (by have := HC.out.2.1; omega)]; exact HK.out)
                                clear HK
                                go_wp2_with fail
                                go_roundw
                                case rel => first | exact ⟨k + 1, by omega, by go_num, HKD, HP⟩ | ((repeat apply Exists.intro); exact ⟨⟨k + 1, by omega, by go_num, HKD, HP⟩, rfl⟩)
                                case measure => simp [intOf]; omega
                        · have HFI : Hid (Wk g v wo R wr) := hide (by rw [HRR.out, ← catTo_all bdL N k (by have := HNL.out; omega)]; exact HK.out)
                          obtain ⟨v2, h2⟩ := HFI.out
                          have HST := hide (string_any g v2 R wr h2.1)
                          have HBE := hide (HBW.out _ _ HFI.out)
                          clear HK h2
                          have kw := HP.out.cell 0
                          simp at kw
                          go_wp2_with (go_at_call 24; refine HST.out.mono ?_; rintro e w5 ⟨rfl, h5⟩)
                          go_ret
                          exact ⟨rfl, by subst h5; exact HBE.out⟩
                        end Go.Proofs.YtkldfbacagnhoaaDoor
