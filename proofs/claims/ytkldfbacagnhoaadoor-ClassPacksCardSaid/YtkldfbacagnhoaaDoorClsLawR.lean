/- Whether a class's file is right, by the law's own page, walked; no statement of the seat is proved here. -/
import Derived.Test.YtkldfbacagnhoaaDoorClsLaw1
import Derived.Test.YtkldfbacagnhoaaDoorClsRight
namespace Go.Proofs.YtkldfbacagnhoaaDoor
open Go.RowKit

set_option maxRecDepth 100000 in
set_option maxHeartbeats 16000000 in
theorem rightL_any (f : Fl) (w : World) (hm : Laid w) (h : f.at_ w (fun k => w.heap.size ≤ k)) (hmo : [f.nl, f.cl, f.tl, f.dl, f.ml].all most = true) : Calls Tryd.prog 19 #[f.val] w (Gives w (.bool f.pl.right)) := by
  have HAT := hide h
  have HP := hide h.po
  have HM := hide hm
  clear hm
  obtain ⟨R, hR⟩ : ∃ R, R = f.pl.right := ⟨_, rfl⟩
  rw [← hR]
  obtain ⟨F1, hF1⟩ : ∃ F1, F1 = f.f.right := ⟨_, rfl⟩
  obtain ⟨p, hp⟩ : ∃ p, p = f.ppl := ⟨_, rfl⟩
  obtain ⟨M, hM⟩ : ∃ M, M = f.f.ms.map Sg.pl := ⟨_, rfl⟩
  obtain ⟨Bs, hBs⟩ : ∃ Bs, Bs = f.bs.map Bd.pl := ⟨_, rfl⟩
  have HR0 : Hid (R = (F1 && decide (Bs.length = M.length) && (f.cls.all cname && (f.tys.all Ty.good && (f.fds.all fdOk && (f.mts.all mtOkM && bodiesOk p M Bs)))))) := hide (by
    have e : R = (F1 && prV f && decide (Bs.length = M.length) && bodiesOk p M Bs) := by
      rw [hR, hF1, Fc.right_pl h.fa, prV_eq h.po, hp, hM, hBs]; rfl
    rw [e, prV, hmo, Bool.true_and]
    cases F1 <;> cases decide (Bs.length = M.length) <;> cases f.cls.all cname <;> cases f.tys.all Ty.good <;> cases f.fds.all fdOk <;> cases f.mts.all mtOkM <;> rfl)
  have HFR := fun w' (hb : Below w.heap.size w w') => hide (right_any f.f w' ((h.fa.below hb).weak (G := fun k => w'.heap.size ≤ k) (fun k hk => by have := hb.size; omega)))
  rw [← hF1] at HFR
  have hML : M.length = f.f.ml := by rw [hM, List.length_map]; exact h.fa.2.1.2.1
  have hBL : Bs.length = f.bl := by rw [hBs, List.length_map]; exact h.bL
  have hbB := h.bB
  have hmB : f.f.ml ≤ 9223372036854775807 := h.fa.2.1.2.2.1
  have hc := h.po.cB
  have ht := h.po.tB
  have hd := h.po.dB
  have hm := h.po.mB
  have hcL := h.po.cL
  have htL := h.po.tL
  have hdL := h.po.dL
  have hmL := h.po.mL
  have HMS := hide (fun _ : Unit => hM)
  have HBS := hide (fun _ : Unit => hBs)
  have HPP := hide (fun _ : Unit => hp)
  have HF1R := hide (fun _ : Unit => hF1)
  clear h hR hF1 hM hBs hp hmo
  go_enter Tryd.func19, Tryd.ntmps19
  go_upto_region 1 with fail
  refine name_world ?_
  intro wA hwA
  have HB1 : Hid (Below w.heap.size w wA) := hide (by rw [hwA]; exact (Below.refl _ _).alloc (Nat.le_refl _) _)
  have HK : Hid (Blk wA w.heap.size 36 f.cells.toArray) := hide (by rw [hwA]; exact Blk.new _ _ _)
  clear hwA
  have k0 := HK.out.cell 0
  have k1 := HK.out.cell 1
  have k2 := HK.out.cell 2
  have k3 := HK.out.cell 3
  simp at k0 k1 k2 k3
  have HF1 := hide (HFR wA HB1.out).out
  go_wp2_with fail
  clear k0 k1 k2 k3
  go_at_call 33
  refine HF1.out.mono ?_
  rintro e w2 ⟨rfl, hb2⟩
  have HBW : Hid (Below w.heap.size w w2) := hide (HB1.out.trans (hb2.mono HB1.out.size))
  have HKO := hide (HK.out.below hb2 HK.out.lt)
  clear hb2 HB1 HK HF1 HFR
  cases F1 with
  | false =>
    have HF : Hid (R = false) := hide (by rw [HR0.out]; rfl)
    clear HR0
    go_wp2_with fail
    go_ret
    exact ⟨by rw [HF.out] <;> rfl, HBW.out⟩
  | true =>
  have k9 := HKO.out.cell 9
  have k3 := HKO.out.cell 3
  simp at k9 k3
  obtain ⟨E, hE⟩ : ∃ E, ((f.bl : Int) != (f.f.ml : Int)) = E := ⟨_, rfl⟩
  have hEL : decide (Bs.length = M.length) = !E := by
    rw [← hE, hML, hBL]
    by_cases h : f.bl = f.f.ml
    · simp [h]
    · have : ¬ (f.bl : Int) = (f.f.ml : Int) := by omega
      simp [h, this]
  cases E with
  | true =>
    have HF : Hid (R = false) := hide (by rw [HR0.out, hEL]; rfl)
    clear HR0
    go_wp2_with fail
    go_ret
    exact ⟨by rw [HF.out] <;> rfl, HBW.out⟩
  | false =>
  have hlen : Bs.length = M.length := by simpa using hEL
  have HR1 : Hid (R = (f.cls.all cname && (f.tys.all Ty.good && (f.fds.all fdOk && (f.mts.all mtOkM && bodiesOk p M Bs))))) := hide (by rw [HR0.out, hEL]; simp)
  clear HR0 hEL
  go_upto_region 4 with fail
  clear hE k9 k3
  obtain ⟨wr, hwr⟩ : ∃ wr : World, wr = w2 := ⟨_, rfl⟩
  subst hwr
  have k1 := HKO.out.cell 5
  simp at k1
  go_upto_region 5 with fail
  go_wp2_with fail
  clear k1
  obtain ⟨wo, hwo⟩ : ∃ wo : World, wo = wr := ⟨_, rfl⟩
  subst hwo
  go_loopw [37] (fun i wr => ∃ k : Nat, k ≤ f.cl ∧ i = .int .i64 (k : Int) ∧ Hid (Below wo.heap.size wo wr) ∧ Hid (R = ((f.cls.drop k).all cname && (f.tys.all Ty.good && (f.fds.all fdOk && (f.mts.all mtOkM && bodiesOk p M Bs)))))) (fun i _ => f.cl - (intOf i).toNat)
  case atStart => exact ⟨0, by omega, rfl, hide (Below.refl _ _), HR1⟩
  case round =>
    obtain ⟨k, hk, rfl, HBR, HR⟩ := hrel
    clear HR1
    by_cases hlt : k < f.cl
    · have hlt' : k < f.cls.length := by omega
      have HD := hide (drop_all cname f.cls k hlt')
      obtain ⟨b, o, u, hA, hu, hc0⟩ := (HP.out.cr.below (HBW.out.trans (HBR.out.mono HBW.out.size))).at_ k hlt
      obtain rfl : S f.cls[k] = u := by simpa [hlt'] using hu
      generalize f.cls[k] = x at hc0 HD
      clear hu
      have HC := fun w => hide (lawc_any x w)
      rw [hA]
      obtain ⟨G, hG⟩ : ∃ G, G = cname x := ⟨_, rfl⟩
      simp only [← hG] at HC HD
      clear hG
      cases G
      case' false => have HF : Hid (R = false) := hide (by rw [HR.out, HD.out]; rfl)
      case' true => have HF : Hid (R = ((f.cls.drop (k + 1)).all cname && (f.tys.all Ty.good && (f.fds.all fdOk && (f.mts.all mtOkM && bodiesOk p M Bs))))) := hide (by rw [HR.out, HD.out]; simp)
      all_goals
        clear HR HD
        go_wp2_with (go_at_call 39; refine (HC _).out.mono ?_; rintro e w2 ⟨rfl, hb2⟩; have HB3 : Hid (Below wo.heap.size wo w2) := hide (HBR.out.trans (hb2.mono HBR.out.size)); clear hb2)
      · skip
        go_roundw
        case rel => first | exact ⟨k + 1, by omega, by go_num, HB3, HF⟩ | ((repeat apply Exists.intro); exact ⟨⟨k + 1, by omega, by go_num, HB3, HF⟩, rfl⟩)
        case measure => simp [intOf]; omega
      · skip
        go_ret
        exact ⟨by rw [HF.out] <;> rfl, HBW.out.trans (HB3.out.mono HBW.out.size)⟩
    · obtain rfl : k = f.cl := by omega
      have HR1 : Hid (R = (f.tys.all Ty.good && (f.fds.all fdOk && (f.mts.all mtOkM && bodiesOk p M Bs)))) := hide (by rw [HR.out, ← hcL, List.drop_length]; rfl)
      clear HR
      have HBW2 : Hid (Below w.heap.size w wr) := hide (HBW.out.trans (HBR.out.mono HBW.out.size))
      have HKO2 := hide (HKO.out.below HBR.out HKO.out.lt)
      clear HBW HBR HKO
      have HBW := HBW2
      have HKO := HKO2
      clear HBW2 HKO2
      have k1 := HKO.out.cell 6
      simp at k1
      go_upto_region 11 with fail
      go_wp2_with fail
      clear k1
      obtain ⟨wo, hwo⟩ : ∃ wo : World, wo = wr := ⟨_, rfl⟩
      subst hwo
      go_loopw [50] (fun i wr => ∃ k : Nat, k ≤ f.tl ∧ i = .int .i64 (k : Int) ∧ Hid (Below wo.heap.size wo wr) ∧ Hid (R = ((f.tys.drop k).all Ty.good && (f.fds.all fdOk && (f.mts.all mtOkM && bodiesOk p M Bs))))) (fun i _ => f.tl - (intOf i).toNat)
      case atStart => exact ⟨0, by omega, rfl, hide (Below.refl _ _), HR1⟩
      case round =>
        obtain ⟨k, hk, rfl, HBR, HR⟩ := hrel
        clear HR1
        by_cases hlt : k < f.tl
        · have hlt' : k < f.tys.length := by omega
          have HD := hide (drop_all Ty.good f.tys k hlt')
          obtain ⟨b, o, hA, _, _, hcs⟩ := Rd.rec_ (f := Ty.cells) (fun _ => rfl) (HP.out.tr.below (HBW.out.trans (HBR.out.mono HBW.out.size))) htL k hlt
          generalize f.tys[k] = x at hcs HD
          have c0 := hcs 0 _ rfl
          have c1 := hcs 1 _ rfl
          clear hcs
          obtain ⟨xn, xa⟩ := x
          simp only [Nat.add_zero] at c0 c1
          have HC := fun w => hide (good_any xn xa w)
          rw [hA]
          obtain ⟨G, hG⟩ : ∃ G, G = Ty.good ⟨xn, xa⟩ := ⟨_, rfl⟩
          simp only [← hG] at HC HD
          clear hG
          cases G
          case' false => have HF : Hid (R = false) := hide (by rw [HR.out, HD.out]; rfl)
          case' true => have HF : Hid (R = ((f.tys.drop (k + 1)).all Ty.good && (f.fds.all fdOk && (f.mts.all mtOkM && bodiesOk p M Bs)))) := hide (by rw [HR.out, HD.out]; simp)
          all_goals
            clear HR HD
            go_wp2_with (go_at_call 40; refine (HC _).out.mono ?_; rintro e w2 ⟨rfl, hb2⟩; have HB3 : Hid (Below wo.heap.size wo w2) := hide ((HBR.out.alloc HBR.out.size _).trans (hb2.mono (Nat.le_trans HBR.out.size (by simp)))); clear hb2)
          · skip
            go_roundw
            case rel => first | exact ⟨k + 1, by omega, by go_num, HB3, HF⟩ | ((repeat apply Exists.intro); exact ⟨⟨k + 1, by omega, by go_num, HB3, HF⟩, rfl⟩)
            case measure => simp [intOf]; omega
          · skip
            go_ret
            exact ⟨by rw [HF.out] <;> rfl, HBW.out.trans (HB3.out.mono HBW.out.size)⟩
        · obtain rfl : k = f.tl := by omega
          have HR1 : Hid (R = (f.fds.all fdOk && (f.mts.all mtOkM && bodiesOk p M Bs))) := hide (by rw [HR.out, ← htL, List.drop_length]; rfl)
          clear HR
          have HBW2 : Hid (Below w.heap.size w wr) := hide (HBW.out.trans (HBR.out.mono HBW.out.size))
          have HKO2 := hide (HKO.out.below HBR.out HKO.out.lt)
          clear HBW HBR HKO
          have HBW := HBW2
          have HKO := HKO2
          clear HBW2 HKO2
          have k1 := HKO.out.cell 7
          simp at k1
          go_upto_region 17 with fail
          go_wp2_with fail
          clear k1
          obtain ⟨wo, hwo⟩ : ∃ wo : World, wo = wr := ⟨_, rfl⟩
          subst hwo
          go_loopw [62] (fun i wr => ∃ k : Nat, k ≤ f.dl ∧ i = .int .i64 (k : Int) ∧ Hid (Below wo.heap.size wo wr) ∧ Hid (R = ((f.fds.drop k).all fdOk && (f.mts.all mtOkM && bodiesOk p M Bs)))) (fun i _ => f.dl - (intOf i).toNat)
          case atStart => exact ⟨0, by omega, rfl, hide (Below.refl _ _), HR1⟩
          case round =>
            obtain ⟨k, hk, rfl, HBR, HR⟩ := hrel
            clear HR1
            by_cases hlt : k < f.dl
            · have hlt' : k < f.fds.length := by omega
              have HD := hide (drop_all fdOk f.fds k hlt')
              obtain ⟨b, o, hA, _, _, hcs⟩ := Rd.rec_ (f := FdP.cells) (fun _ => rfl) (HP.out.dr.below (HBW.out.trans (HBR.out.mono HBW.out.size))) hdL k hlt
              generalize f.fds[k] = x at hcs HD
              have c0 := hcs 0 _ rfl
              have c1 := hcs 1 _ rfl
              have c2 := hcs 2 _ rfl
              have c3 := hcs 3 _ rfl
              clear hcs
              obtain ⟨⟨xn, ⟨tn, ta⟩⟩, xc⟩ := x
              simp only [Nat.add_zero] at c0 c1 c2 c3
              have HC := fun w => hide (lawc_any xc w)
              have HG := fun w => hide (good_any tn ta w)
              rw [hA]
              obtain ⟨G, hG⟩ : ∃ G, G = cname xc := ⟨_, rfl⟩
              obtain ⟨T, hT⟩ : ∃ T, T = Ty.good ⟨tn, ta⟩ := ⟨_, rfl⟩
              simp only [fdOk, ← hG, ← hT] at HC HD HG
              obtain ⟨E, hE⟩ : ∃ E, (xn == []) = E := ⟨_, rfl⟩
              obtain ⟨M40, hM⟩ : ∃ M40, decide (40 < (xn.length : Int)) = M40 := ⟨_, rfl⟩
              rw [hE, dec_le xn.length 40, show decide (((40 : Nat) : Int) < (xn.length : Int)) = M40 from hM] at HD
              clear hG hT
              go_upto_region 19 with fail
              refine name_world ?_
              intro wB hwB
              have HBB : Hid (Below wo.heap.size wo wB) := hide (by rw [hwB]; exact HBR.out.alloc HBR.out.size _)
              have HXB : Hid (Blk wB wr.heap.size 92 #[S xn, S tn, .bool ta, S xc]) := hide (by rw [hwB]; exact Blk.new _ _ _)
              clear hwB c0 c1 c2 c3
              generalize wr.heap.size = q at HXB ⊢
              have c3 := HXB.out.cell 3
              simp at c3
              go_wp2_with fail
              go_at_call 39
              refine (HC _).out.mono ?_
              rintro e w2 ⟨rfl, hb2⟩
              have HB3 : Hid (Below wo.heap.size wo w2) := hide (HBB.out.trans (hb2.mono HBB.out.size))
              have HX2 := hide (HXB.out.below hb2 HXB.out.lt)
              clear hb2 c3
              have c0 := HX2.out.cell 0
              have c1 := HX2.out.cell 1
              have c2 := HX2.out.cell 2
              simp at c0 c1 c2
              cases G with
              | false =>
                have HF : Hid (R = false) := hide (by rw [HR.out, HD.out]; rfl)
                clear HR HD
                go_wp2_with fail
                go_ret
                exact ⟨by rw [HF.out] <;> rfl, HBW.out.trans (HB3.out.mono HBW.out.size)⟩
              | true =>
              cases E with
              | true =>
                have HF : Hid (R = false) := hide (by rw [HR.out, HD.out]; rfl)
                clear HR HD
                go_wp2_with fail
                go_ret
                exact ⟨by rw [HF.out] <;> rfl, HBW.out.trans (HB3.out.mono HBW.out.size)⟩
              | false =>
              cases M40 with
              | true =>
                have HF : Hid (R = false) := hide (by rw [HR.out, HD.out]; rfl)
                clear HR HD
                go_wp2_with fail
                go_ret
                exact ⟨by rw [HF.out] <;> rfl, HBW.out.trans (HB3.out.mono HBW.out.size)⟩
              | false =>
              cases T
              case' false => have HF : Hid (R = false) := hide (by rw [HR.out, HD.out]; rfl)
              case' true => have HF : Hid (R = ((f.fds.drop (k + 1)).all fdOk && (f.mts.all mtOkM && bodiesOk p M Bs))) := hide (by rw [HR.out, HD.out]; simp)
              all_goals
                clear HR HD
                go_wp2_with (go_at_call 40; refine (HG _).out.mono ?_; rintro e w3 ⟨rfl, hb3⟩; have HB4 : Hid (Below wo.heap.size wo w3) := hide (HB3.out.trans (hb3.mono HB3.out.size)); clear hb3)
              · skip
                go_roundw
                case rel => first | exact ⟨k + 1, by omega, by go_num, HB4, HF⟩ | ((repeat apply Exists.intro); exact ⟨⟨k + 1, by omega, by go_num, HB4, HF⟩, rfl⟩)
                case measure => simp [intOf]; omega
              · skip
                go_ret
                exact ⟨by rw [HF.out] <;> rfl, HBW.out.trans (HB4.out.mono HBW.out.size)⟩
            · obtain rfl : k = f.dl := by omega
              have HR1 : Hid (R = (f.mts.all mtOkM && bodiesOk p M Bs)) := hide (by rw [HR.out, ← hdL, List.drop_length]; rfl)
              clear HR
              have HBW2 : Hid (Below w.heap.size w wr) := hide (HBW.out.trans (HBR.out.mono HBW.out.size))
              have HKO2 := hide (HKO.out.below HBR.out HKO.out.lt)
              clear HBW HBR HKO
              have HBW := HBW2
              have HKO := HKO2
              clear HBW2 HKO2
              have k1 := HKO.out.cell 8
              simp at k1
              go_upto_region 23 with fail
              go_wp2_with fail
              clear k1
              obtain ⟨wo, hwo⟩ : ∃ wo : World, wo = wr := ⟨_, rfl⟩
              subst hwo
              go_loopw [96] (fun i wr => ∃ k : Nat, k ≤ f.ml ∧ i = .int .i64 (k : Int) ∧ Hid (Below wo.heap.size wo wr) ∧ Hid (R = ((f.mts.drop k).all mtOkM && bodiesOk p M Bs))) (fun i _ => f.ml - (intOf i).toNat)
              case atStart => exact ⟨0, by omega, rfl, hide (Below.refl _ _), HR1⟩
              case round =>
                obtain ⟨k, hk, rfl, HBR, HR⟩ := hrel
                clear HR1
                by_cases hlt : k < f.ml
                · have hlt' : k < f.mts.length := by omega
                  have HD := hide (drop_all mtOkM f.mts k hlt')
                  obtain ⟨b, o, hA, _, _, hcs⟩ := Rd.rec_ (f := Mt.cells) (fun _ => rfl) (HP.out.mr.below (HBW.out.trans (HBR.out.mono HBW.out.size))) hmL k hlt
                  have hmW := HP.out.mW f.mts[k] (List.getElem_mem hlt')
                  generalize f.mts[k] = x at hcs HD hmW
                  have c0 := hcs 0 _ rfl
                  have c1 := hcs 1 _ rfl
                  have c2 := hcs 2 _ rfl
                  have c3 := hcs 3 _ rfl
                  have c4 := hcs 4 _ rfl
                  have c5 := hcs 5 _ rfl
                  clear hcs
                  obtain ⟨⟨xn, xst, xA, xk, xc', xps, ⟨rn, ra⟩⟩, xc⟩ := x
                  simp only [Nat.add_zero] at c0 c1 c2 c3 c4 c5
                  have HC := fun w => hide (lawc_any xc w)
                  have HF : Hid (∀ w' g, Below w.heap.size w w' → Blk w' g 52 #[S xn, .bool xst, .slice xA xk xc', S rn, .bool ra] → Calls Tryd.prog 33 #[.agg #[S [65], S [], .slice none 0 0, .slice (some ⟨g, 0, none⟩) 1 1]] w' (Gives w' (.bool (FcP.right ⟨[65], [], [], [Sg.pl ⟨xn, xst, xA, xk, xc', xps, ⟨rn, ra⟩⟩]⟩)))) := hide (by
                    intro w' g hb hblk
                    have hat := oneF_at (m := ⟨xn, xst, xA, xk, xc', xps, ⟨rn, ra⟩⟩) (nm := [65]) (by show 1 ≤ 9223372036854775807; omega) ((hmW.1.below hb).weak (G := fun k => w'.heap.size ≤ k) (fun k hk => by have := hb.size; omega)) hblk
                    have h2 := right_any _ w' hat
                    rw [Fc.right_pl hat] at h2
                    exact h2)
                  clear hmW
                  rw [hA]
                  obtain ⟨G, hG⟩ : ∃ G, G = cname xc := ⟨_, rfl⟩
                  obtain ⟨T, hT⟩ : ∃ T, T = FcP.right ⟨[65], [], [], [Sg.pl ⟨xn, xst, xA, xk, xc', xps, ⟨rn, ra⟩⟩]⟩ := ⟨_, rfl⟩
                  simp only [mtOkM, ← hG, ← hT] at HC HD HF
                  clear hG hT
                  go_upto_region 25 with fail
                  refine name_world ?_
                  intro wB hwB
                  have HBB : Hid (Below wo.heap.size wo wB) := hide (by rw [hwB]; exact HBR.out.alloc HBR.out.size _)
                  have HXB : Hid (Blk wB wr.heap.size 94 #[S xn, .bool xst, .slice xA xk xc', S rn, .bool ra, S xc]) := hide (by rw [hwB]; exact Blk.new _ _ _)
                  clear hwB c0 c1 c2 c3 c4 c5
                  generalize wr.heap.size = q at HXB ⊢
                  have c0 := HXB.out.cell 0
                  have c1 := HXB.out.cell 1
                  have c2 := HXB.out.cell 2
                  have c3 := HXB.out.cell 3
                  have c4 := HXB.out.cell 4
                  simp at c0 c1 c2 c3 c4
                  go_upto_region 26 with fail
                  refine name_world ?_
                  intro wD hwD
                  have HBD : Hid (Below wo.heap.size wo wD) := hide (by rw [hwD]; exact (HBB.out.alloc HBB.out.size _).alloc (Nat.le_trans HBB.out.size (by simp)) _)
                  have HXD : Hid (Blk wD q 94 #[S xn, .bool xst, .slice xA xk xc', S rn, .bool ra, S xc]) := hide (by rw [hwD]; exact (HXB.out.alloc _).alloc _)
                  have HSD : Hid (Blk wD wB.heap.size 52 #[S xn, .bool xst, .slice xA xk xc', S rn, .bool ra]) := hide (by rw [hwD]; exact (Blk.new _ _ _).alloc _)
                  have HFD : Hid (Blk wD (wB.heap.size + 1) 26 #[S [65], S [], .slice none 0 0, .slice (some ⟨wB.heap.size, 0, none⟩) 1 1]) := hide (by
                    rw [hwD]
                    have := Blk.new (wB.alloc (.cells #[S xn, .bool xst, .slice xA xk xc', S rn, .bool ra] 52)) 26 #[S [65], S [], .slice none 0 0, .slice (some ⟨wB.heap.size, 0, none⟩) 1 1]
                    rwa [World.size_alloc] at this)
                  clear hwD c0 c1 c2 c3 c4 HXB
                  generalize wB.heap.size = q5 at HSD HFD ⊢
                  have c5 := HXD.out.cell 5
                  simp at c5
                  go_wp2_with fail
                  go_at_call 39
                  refine (HC _).out.mono ?_
                  rintro e w2 ⟨rfl, hb2⟩
                  have HB3 : Hid (Below wo.heap.size wo w2) := hide (HBD.out.trans (hb2.mono HBD.out.size))
                  have HF2 := hide (HFD.out.below hb2 HFD.out.lt)
                  have HFX := hide (HF.out w2 q5 (HBW.out.trans (HB3.out.mono HBW.out.size)) (HSD.out.below hb2 HSD.out.lt))
                  clear hb2 c5 HF
                  have c0 := HF2.out.cell 0
                  have c1 := HF2.out.cell 1
                  have c2 := HF2.out.cell 2
                  have c3 := HF2.out.cell 3
                  simp at c0 c1 c2 c3
                  cases G with
                  | false =>
                    have HF : Hid (R = false) := hide (by rw [HR.out, HD.out]; rfl)
                    clear HR HD
                    go_wp2_with fail
                    go_ret
                    exact ⟨by rw [HF.out] <;> rfl, HBW.out.trans (HB3.out.mono HBW.out.size)⟩
                  | true =>
                  cases T
                  case' false => have HF : Hid (R = false) := hide (by rw [HR.out, HD.out]; rfl)
                  case' true => have HF : Hid (R = ((f.mts.drop (k + 1)).all mtOkM && bodiesOk p M Bs)) := hide (by rw [HR.out, HD.out]; simp)
                  all_goals
                    clear HR HD
                    go_wp2_with (go_at_call 33; refine HFX.out.mono ?_; rintro e w3 ⟨rfl, hb3⟩; have HB4 : Hid (Below wo.heap.size wo w3) := hide (HB3.out.trans (hb3.mono HB3.out.size)); clear hb3)
                  · skip
                    go_roundw
                    case rel => first | exact ⟨k + 1, by omega, by go_num, HB4, HF⟩ | ((repeat apply Exists.intro); exact ⟨⟨k + 1, by omega, by go_num, HB4, HF⟩, rfl⟩)
                    case measure => simp [intOf]; omega
                  · skip
                    go_ret
                    exact ⟨by rw [HF.out] <;> rfl, HBW.out.trans (HB4.out.mono HBW.out.size)⟩
                · obtain rfl : k = f.ml := by omega
                  have HR1 : Hid (R = bodiesOk p M Bs) := hide (by rw [HR.out, ← hmL, List.drop_length]; rfl)
                  clear HR
                  have HBW2 : Hid (Below w.heap.size w wr) := hide (HBW.out.trans (HBR.out.mono HBW.out.size))
                  have HKO2 := hide (HKO.out.below HBR.out HKO.out.lt)
                  clear HBW HBR HKO
                  have HBW := HBW2
                  have HKO := HKO2
                  clear HBW2 HKO2
                  have k9 := HKO.out.cell 9
                  simp at k9
                  go_upto_region 30 with fail
                  go_wp2_with fail
                  clear k9
                  obtain ⟨wo, hwo⟩ : ∃ wo : World, wo = wr := ⟨_, rfl⟩
                  subst hwo
                  go_loopw [118] (fun i wr => ∃ k : Nat, k ≤ f.bl ∧ i = .int .i64 (k : Int) ∧ Hid (Below wo.heap.size wo wr) ∧ Hid (R = bodiesOk p (M.drop k) (Bs.drop k))) (fun i _ => f.bl - (intOf i).toNat)
                  case atStart => exact ⟨0, by omega, rfl, hide (Below.refl _ _), HR1⟩
                  case round =>
                    obtain ⟨k, hk, rfl, HBR, HR⟩ := hrel
                    clear HR1
                    by_cases hlt : k < f.bl
                    · have hk1 : k < f.bs.length := by rw [← HAT.out.bL] at hlt; exact hlt
                      have hk2 : k < f.f.ms.length := by have := HAT.out.fa.2.1.2.1; omega
                      obtain ⟨bb, bo, hbA, _, _, hbs⟩ := Rd.rec_ (f := Bd.cells) (fun _ => rfl) (HAT.out.below (HBW.out.trans (HBR.out.mono HBW.out.size))).br HAT.out.bL k hlt
                      have hbw := HAT.out.bW f.bs[k] (List.getElem_mem hk1)
                      have hmw := HAT.out.fa.2.1.2.2.2 f.f.ms[k] (List.getElem_mem hk2)
                      have hmk200 := right_k (HF1R.out ()).symm f.f.ms[k] (List.getElem_mem hk2)
                      have HD := hide (bodies_drop p M Bs k (by omega) (by omega))
                      have hMk : M[k]'(by omega) = f.f.ms[k].pl := by simp only [HMS.out ()]; simp
                      have hBk : Bs[k]'(by omega) = f.bs[k].pl := by simp only [HBS.out ()]; simp
                      rw [hMk, hBk] at HD
                      clear hMk hBk
                      have HCV : Hid (∀ z, cntV f f.bs[k] z = manyV p f.bs[k].pl z) := hide (fun z => by rw [HPP.out ()]; exact cntV_eq HAT.out.po hbw z)
                      generalize f.bs[k] = b at hbs hbw HD HCV
                      have HMC : Hid (∀ w', Below w.heap.size w w' → ∃ mb mo, f.f.mA = some ⟨mb, mo, none⟩ ∧ ∀ j u, (Sg.cells f.f.ms[k])[j]? = some u → w'.cell? ⟨mb, mo + k * 5 + j, none⟩ = some u) := hide (fun w' hb => by
                        obtain ⟨mb, mo, e, _, _, h⟩ := Rd.rec_ (f := Sg.cells) (fun _ => rfl) (HAT.out.below hb).fa.2.1.1 HAT.out.fa.2.1.2.1 k (by omega)
                        exact ⟨mb, mo, e, h⟩)
                      generalize f.f.ms[k] = m at HMC hmw hmk200 HD
                      obtain ⟨lo, sk, bA, bk, bc, code⟩ := b
                      obtain ⟨mn, st, mA, mk, mc, mps, ⟨rn, ra⟩⟩ := m
                      obtain ⟨hcr, hcl, hcb, _, _, _⟩ := hbw
                      simp only at hcr hcl hcb
                      have HCR := hide hcr
                      have hmk : mps.length = mk := hmw.2.1
                      have hmkb : mk ≤ 200 := hmk200
                      clear hcr hmw
                      have d0 := hbs 0 _ rfl
                      have d1 := hbs 1 _ rfl
                      have d2 := hbs 2 _ rfl
                      clear hbs
                      simp only [Nat.add_zero] at d0 d1 d2
                      rw [hbA]
                      obtain ⟨mb, mo, hmA, _⟩ := HMC.out w (Below.refl _ _)
                      rw [hmA]
                      have hbl64 := hbB
                      go_upto_region 32 with fail
                      refine name_world ?_
                      intro wB hwB
                      have HBB0 : Hid (Below wo.heap.size wo wB) := hide (by rw [hwB]; exact HBR.out.alloc HBR.out.size _)
                      have HWB : Hid (Below w.heap.size w wB) := hide (HBW.out.trans (HBB0.out.mono HBW.out.size))
                      have HBK : Hid (Blk wB wr.heap.size 58 #[.int .i64 lo, .int .i64 sk, .slice bA bk bc]) := hide (by rw [hwB]; exact Blk.new _ _ _)
                      have HKF := hide (HKO.out.below HBB0.out HKO.out.lt)
                      clear hwB d0 d1 d2
                      generalize wr.heap.size = q1 at HBK ⊢
                      have k3 := HKF.out.cell 3
                      simp at k3
                      obtain ⟨mb2, mo2, hmA2, hms⟩ := HMC.out wB HWB.out
                      rw [hmA] at hmA2
                      injection hmA2 with hmA2
                      injection hmA2 with hmA3 hmA4
                      subst hmA3 hmA4
                      rw [hmA] at k3
                      have e1 := hms 1 _ rfl
                      have e2 := hms 2 _ rfl
                      clear hms HMC
                      have b0 := HBK.out.cell 0
                      have b1 := HBK.out.cell 1
                      have b2 := HBK.out.cell 2
                      simp at b0 b1 b2
                      obtain ⟨RS, hRS⟩ : ∃ RS, RS = bodiesOk p (M.drop (k + 1)) (Bs.drop (k + 1)) := ⟨_, rfl⟩
                      have HRS := hide (fun _ : Unit => hRS)
                      obtain ⟨q, hq⟩ : ∃ q : Int × Int → Bool, q = fun x => rtC x.1 x.2 (manyV p ⟨lo, sk, code⟩ (pl x.1)) := ⟨_, rfl⟩
                      have HQQ : Hid (∀ x, q x = rt x.1 x.2 (cntV f ⟨lo, sk, bA, bk, bc, code⟩ (pl x.1))) := hide (fun x => by rw [HCV.out, hq]; rfl)
                      have HD1 : Hid (R = (((decide ((if st then (mk : Int) else mk + 1) ≤ lo) && decide (lo ≤ 401) && decide (0 ≤ sk) && decide (sk ≤ 1000) && decide (1 ≤ bk) && decide (bk ≤ 16384)) && code.all q) && RS)) := hide (by
                        rw [HR.out, HD.out, hRS, hq]
                        simp only [bdOk, Sg.pl, Bd.pl, hmk, hcl]
                        rfl)
                      clear HR HD HCV hRS hq
                      obtain ⟨v2, d2⟩ : ∃ v, decide (401 < lo) = v := ⟨_, rfl⟩
                      obtain ⟨v3, d3⟩ : ∃ v, decide (sk < 0) = v := ⟨_, rfl⟩
                      obtain ⟨v4, d4⟩ : ∃ v, decide (1000 < sk) = v := ⟨_, rfl⟩
                      obtain ⟨v5, d5⟩ : ∃ v, ((bk : Int) == 0) = v := ⟨_, rfl⟩
                      obtain ⟨v6, d6⟩ : ∃ v, decide (16384 < (bk : Int)) = v := ⟨_, rfl⟩
                      have h5 : decide (1 ≤ bk) = !v5 := by
                        rw [← d5]
                        by_cases h : 1 ≤ bk
                        · have : ¬ bk = 0 := by omega
                          simp [h, this]
                        · have : bk = 0 := by omega
                          simp [this]
                      have h6 : decide (bk ≤ 16384) = !v6 := by rw [← d6]; exact dec_le bk 16384
                      rw [i64_le d2, i64_le d3, i64_le d4, h5, h6] at HD1
                      clear h5 h6
                      have HC := hide (And.intro hcl (And.intro hcb (And.intro hbB hlt)))
                      have hlb : (k : Int) < (f.f.ml : Int) := by omega
                      have hmbb : f.f.ml ≤ 9223372036854775807 := hmB
                      clear hcl hcb hmk hlen hML hBL hbB hmB hlt hk1 hk2 hbl64
                      cases st
                      case' false => obtain ⟨v1, d1⟩ : ∃ v, decide (lo < (mk : Int) + 1) = v := ⟨_, rfl⟩
                      case' true => obtain ⟨v1, d1⟩ : ∃ v, decide (lo < (mk : Int)) = v := ⟨_, rfl⟩
                      all_goals
                        have HD2 : Hid (R = (((!v1 && !v2 && !v3 && !v4 && !v5 && !v6) && code.all q) && RS)) := hide (by rw [HD1.out]; simp only [if_true, if_false, Bool.false_eq_true, i64_le d1])
                        clear HD1
                        go_upto_region 35 with fail
                        clear hmkb e1 e2 k3 hlb hmbb
                        cases v1 with
                        | true =>
                          have HF : Hid (R = false) := hide (by rw [HD2.out]; simp)
                          clear HD2
                          go_wp2_with fail
                          go_ret
                          exact ⟨by rw [HF.out] <;> rfl, HWB.out⟩
                        | false =>
                        cases v2 with
                        | true =>
                          have HF : Hid (R = false) := hide (by rw [HD2.out]; simp)
                          clear HD2
                          go_wp2_with fail
                          go_ret
                          exact ⟨by rw [HF.out] <;> rfl, HWB.out⟩
                        | false =>
                        cases v3 with
                        | true =>
                          have HF : Hid (R = false) := hide (by rw [HD2.out]; simp)
                          clear HD2
                          go_wp2_with fail
                          go_ret
                          exact ⟨by rw [HF.out] <;> rfl, HWB.out⟩
                        | false =>
                        cases v4 with
                        | true =>
                          have HF : Hid (R = false) := hide (by rw [HD2.out]; simp)
                          clear HD2
                          go_wp2_with fail
                          go_ret
                          exact ⟨by rw [HF.out] <;> rfl, HWB.out⟩
                        | false =>
                        cases v5 with
                        | true =>
                          have HF : Hid (R = false) := hide (by rw [HD2.out]; simp)
                          clear HD2
                          go_wp2_with fail
                          go_ret
                          exact ⟨by rw [HF.out] <;> rfl, HWB.out⟩
                        | false =>
                        cases v6 with
                        | true =>
                          have HF : Hid (R = false) := hide (by rw [HD2.out]; simp)
                          clear HD2
                          go_wp2_with fail
                          go_ret
                          exact ⟨by rw [HF.out] <;> rfl, HWB.out⟩
                        | false =>
                        have HG : Hid (R = (code.all q && RS)) := hide (by rw [HD2.out]; simp)
                        clear HD2
                        go_upto_region 37 with fail
                        clear d1 d2 d3 d4 d5 d6 b0 b1
                        go_upto_region 38 with fail
                        go_wp2_with fail
                        clear b2
                        obtain ⟨hcl, hcb, hbB, hlt⟩ := HC.out
                        go_loopw [175] (fun i wx => ∃ j : Nat, j ≤ bk ∧ i = .int .i64 (j : Int) ∧ Hid (Below wB.heap.size wB wx) ∧ Hid (R = ((code.drop j).all q && RS))) (fun i _ => bk - (intOf i).toNat)
                        case atStart => exact ⟨0, by omega, rfl, hide (Below.refl _ _), HG⟩
                        case round =>
                          obtain ⟨j, hj, rfl, HBX, HJ⟩ := hrel
                          clear HG
                          by_cases hlt2 : j < bk
                          · obtain ⟨cb, co, hcA, _, _, hcs⟩ := Rd.rec_ (f := coC) (fun _ => rfl) (HCR.out.below (HWB.out.trans (HBX.out.mono HWB.out.size))) hcl j hlt2
                            have hj' : j < code.length := by omega
                            have HDJ := hide (drop_all q code j hj')
                            have HQ := hide (HQQ.out code[j])
                            generalize code[j] = x at hcs HDJ HQ
                            obtain ⟨xc, xa⟩ := x
                            have c0 := hcs 0 _ rfl
                            have c1 := hcs 1 _ rfl
                            clear hcs
                            simp only [Nat.add_zero] at c0 c1
                            subst hcA
                            have HRT : Hid (∀ w', Below wB.heap.size wB w' → Calls Tryd.prog 35 #[.agg #[.int .i64 xc, .int .i64 xa], .func (.func 41) #[] #[.pointer (some ⟨w.heap.size, 0, none⟩), .pointer (some ⟨q1, 0, none⟩)]] w' (Gives w' (.bool (q (xc, xa))))) := hide (fun w' hb => by
                              rw [HQ.out]
                              exact orightL_any xc xa _ _ _ w' (HM.out.below (HWB.out.trans (hb.mono HWB.out.size)) (Nat.le_refl _)) (fun hz w2 hb2 => cntL_any f ⟨lo, sk, some ⟨cb, co, none⟩, bk, bc, code⟩ _ _ _ w2 (HKF.out.below (hb.trans (hb2.mono hb.size)) HKF.out.lt) (HBK.out.below (hb.trans (hb2.mono hb.size)) HBK.out.lt) ((pl_one xc).resolve_left (fun e => by rw [e] at hz; cases hz))))
                            generalize q (xc, xa) = T at HRT HDJ
                            clear HQ
                            cases T
                            case' false => have HF : Hid (R = false) := hide (by rw [HJ.out, HDJ.out]; rfl)
                            case' true => have HF : Hid (R = ((code.drop (j + 1)).all q && RS)) := hide (by rw [HJ.out, HDJ.out]; simp)
                            all_goals
                              clear HJ HDJ
                              go_wp2_with (go_at_call 35; refine (HRT.out _ (HBX.out.alloc HBX.out.size _)).mono ?_; rintro e w6 ⟨rfl, hb6⟩; have HBX6 : Hid (Below wB.heap.size wB w6) := hide ((HBX.out.alloc HBX.out.size _).trans (hb6.mono (Nat.le_trans HBX.out.size (by simp)))); clear hb6)
                            · skip
                              go_roundw
                              case rel => first | exact ⟨j + 1, by omega, by go_num, HBX6, HF⟩ | ((repeat apply Exists.intro); exact ⟨⟨j + 1, by omega, by go_num, HBX6, HF⟩, rfl⟩)
                              case measure => simp [intOf]; omega
                            · skip
                              go_ret
                              exact ⟨by rw [HF.out] <;> rfl, HWB.out.trans (HBX6.out.mono HWB.out.size)⟩
                          · obtain rfl : j = bk := by omega
                            have HF : Hid (R = RS) := hide (by rw [HJ.out, ← hcl, List.drop_length]; rfl)
                            clear HJ
                            go_wp2_with fail
                            go_roundw
                            case rel => first | exact ⟨k + 1, by omega, by go_num, hide (HBB0.out.trans (HBX.out.mono HBB0.out.size)), hide (by rw [HF.out, HRS.out ()])⟩ | ((repeat apply Exists.intro); exact ⟨⟨k + 1, by omega, by go_num, hide (HBB0.out.trans (HBX.out.mono HBB0.out.size)), hide (by rw [HF.out, HRS.out ()])⟩, rfl⟩)
                            case measure => simp [intOf]; omega
                    · obtain rfl : k = f.bl := by omega
                      have HF : Hid (R = true) := hide (by rw [HR.out, ← hBL]; exact bodies_end p M Bs hlen)
                      clear HR
                      go_wp2_with fail
                      go_ret
                      exact ⟨by rw [HF.out] <;> rfl, HBW.out.trans (HBR.out.mono HBW.out.size)⟩
end Go.Proofs.YtkldfbacagnhoaaDoor
