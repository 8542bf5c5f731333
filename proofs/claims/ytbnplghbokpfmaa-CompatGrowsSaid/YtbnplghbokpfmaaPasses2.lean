/- Whether a face may take another one's place, walked whole; no statement of the seat is proved here. -/
import Derived.Test.YtbnplghbokpfmaaPasses
namespace Go.Proofs.Ytbnplghbokpfmaa
open Go.RowKit

set_option maxRecDepth 100000 in
set_option maxHeartbeats 8000000 in
theorem pass_any (o f : Fc) (w : World) (ho : o.at_ w (fun k => w.heap.size ≤ k)) (hf : f.at_ w (fun k => w.heap.size ≤ k)) :
    Calls Try.prog 10 #[o.val, f.val] w (Gives w (.bool (passB o f))) := by
  obtain ⟨wB, hwB⟩ : ∃ wB, wB = (w.alloc (.cells #[S o.n, S o.su, .slice o.fA o.fl o.fc, .slice o.mA o.ml o.mc] 25)).alloc (.cells #[S f.n, S f.su, .slice f.fA f.fl f.fc, .slice f.mA f.ml f.mc] 25) := ⟨_, rfl⟩
  have hB0 : Below w.heap.size w wB := by rw [hwB]; exact ((Below.refl _ _).alloc (Nat.le_refl _) _).alloc (by simp) _
  have hk1 : Blk wB w.heap.size 25 #[S o.n, S o.su, .slice o.fA o.fl o.fc, .slice o.mA o.ml o.mc] := by rw [hwB]; exact (Blk.new _ _ _).alloc _
  have hk2 : Blk wB (w.heap.size + 1) 25 #[S f.n, S f.su, .slice f.fA f.fl f.fc, .slice f.mA f.ml f.mc] := by
    rw [hwB]
    have := Blk.new (w.alloc (.cells #[S o.n, S o.su, .slice o.fA o.fl o.fc, .slice o.mA o.ml o.mc] 25)) 25 #[S f.n, S f.su, .slice f.fA f.fl f.fc, .slice f.mA f.ml f.mc]
    rwa [World.size_alloc] at this
  have hro : ∀ w', Below w.heap.size w w' → Calls Try.prog 8 #[o.val] w' (Gives w' (.bool o.right)) := fun w' hb => right_any o w' ((ho.below hb).weak (fun k hk => by have := hb.size; omega))
  have hrf : ∀ w', Below w.heap.size w w' → Calls Try.prog 8 #[f.val] w' (Gives w' (.bool f.right)) := fun w' hb => right_any f w' ((hf.below hb).weak (fun k hk => by have := hb.size; omega))
  have heq : ∀ w', Below w.heap.size w w' → Calls Try.prog 20 #[.slice o.fA o.fl o.fc, .slice f.fA f.fl f.fc] w' (Gives w' (.bool (decide (o.fs = f.fs)))) := fun w' hb =>
    equalvrs_any o.fA o.fl o.fc o.fs f.fA f.fl f.fc f.fs w' (((ho.below hb).weak (fun k hk => by have := hb.size; omega)).1.1) ho.1.2.1 (((hf.below hb).weak (fun k hk => by have := hb.size; omega)).1.1) hf.1.2.1 ho.1.2.2.1
  obtain ⟨R, hR⟩ : ∃ R, R = passB o f := ⟨_, rfl⟩
  rw [← hR]
  obtain ⟨H, hH⟩ : ∃ H, H = passH o f := ⟨_, rfl⟩
  have HR : Hid (R = (H && o.ms.all (keptM f) && !(f.ms.any (newM o)))) := hide (by rw [hR, hH]; rfl)
  have HO := hide ho
  have HF := hide hf
  clear hR ho hf
  go_enter Try.func10, Try.ntmps10
  go_upto_region 1 with fail
  rw [← hwB]
  clear hwB
  go_cut [38] (fun v wx => v = .bool (!H) ∧ Below wB.heap.size wB wx)
  case first =>
    obtain ⟨Ro, hRo⟩ : ∃ Ro, Ro = o.right := ⟨_, rfl⟩
    obtain ⟨Rf, hRf⟩ : ∃ Rf, Rf = f.right := ⟨_, rfl⟩
    obtain ⟨E, hE⟩ : ∃ E, E = decide (o.fs = f.fs) := ⟨_, rfl⟩
    have HH : Hid (H = (Ro && Rf && decide (o.n = f.n) && decide (o.su = f.su) && E)) := hide (by rw [hH, hRo, hRf, hE]; rfl)
    rw [← hRo] at hro
    rw [← hRf] at hrf
    rw [← hE] at heq
    have HRO := hide hro
    have HRF := hide hrf
    have HEQ := hide heq
    clear hro hrf heq hRo hRf hE hH HR
    have a0 : wB.cell? ⟨w.heap.size, 0, none⟩ = some (S o.n) := hk1.cell 0
    have a1 : wB.cell? ⟨w.heap.size, 1, none⟩ = some (S o.su) := hk1.cell 1
    have a2 : wB.cell? ⟨w.heap.size, 2, none⟩ = some (.slice o.fA o.fl o.fc) := hk1.cell 2
    have a3 : wB.cell? ⟨w.heap.size, 3, none⟩ = some (.slice o.mA o.ml o.mc) := hk1.cell 3
    go_wp2_with fail
    refine (HRO.out wB hB0).mono ?_
    rintro e w2 ⟨rfl, hb2⟩
    have hB2 := hB0.trans (hb2.mono hB0.size)
    cases Ro
    case false =>
      go_wp2_with fail
      go_meet
      exact ⟨by rw [HH.out] <;> rfl, hb2⟩
    case true =>
      have hj2 := hk2.below hb2 hk2.lt
      have b0 : w2.cell? ⟨w.heap.size + 1, 0, none⟩ = some (S f.n) := hj2.cell 0
      have b1 : w2.cell? ⟨w.heap.size + 1, 1, none⟩ = some (S f.su) := hj2.cell 1
      have b2 : w2.cell? ⟨w.heap.size + 1, 2, none⟩ = some (.slice f.fA f.fl f.fc) := hj2.cell 2
      have b3 : w2.cell? ⟨w.heap.size + 1, 3, none⟩ = some (.slice f.mA f.ml f.mc) := hj2.cell 3
      clear a0 a1 a2 a3
      go_wp2_with fail
      refine (HRF.out w2 hB2).mono ?_
      rintro e w3 ⟨rfl, hb3⟩
      have hb3' := hb2.trans (hb3.mono hb2.size)
      have hB3 := hB0.trans (hb3'.mono hB0.size)
      clear b0 b1 b2 b3 hb3
      cases Rf
      case false =>
        go_wp2_with fail
        go_meet
        exact ⟨by rw [HH.out] <;> rfl, hb3'⟩
      case true =>
        have hi3 := hk1.below hb3' hk1.lt
        have hj3 := hk2.below hb3' hk2.lt
        have a0 : w3.cell? ⟨w.heap.size, 0, none⟩ = some (S o.n) := hi3.cell 0
        have a1 : w3.cell? ⟨w.heap.size, 1, none⟩ = some (S o.su) := hi3.cell 1
        have a2 : w3.cell? ⟨w.heap.size, 2, none⟩ = some (.slice o.fA o.fl o.fc) := hi3.cell 2
        have b0 : w3.cell? ⟨w.heap.size + 1, 0, none⟩ = some (S f.n) := hj3.cell 0
        have b1 : w3.cell? ⟨w.heap.size + 1, 1, none⟩ = some (S f.su) := hj3.cell 1
        have b2 : w3.cell? ⟨w.heap.size + 1, 2, none⟩ = some (.slice f.fA f.fl f.fc) := hj3.cell 2
        by_cases e1 : o.n = f.n
        · obtain ⟨on, osu, ofA, ofl, ofc, ofs, omA, oml, omc, oms⟩ := o
          obtain ⟨fn, fsu, ffA, ffl, ffc, ffs, fmA, fml, fmc, fms⟩ := f
          simp only at *
          subst e1
          by_cases e2 : osu = fsu
          · subst e2
            have HX : Hid (H = E) := hide (by rw [HH.out]; simp)
            go_wp2_with fail
            refine (HEQ.out w3 hB3).mono ?_
            rintro e w4 ⟨rfl, hb4⟩
            have hb4' := hb3'.trans (hb4.mono hb3'.size)
            go_wp2_with fail
            go_meet
            exact ⟨by rw [HX.out] <;> rfl, hb4'⟩
          · have d2 : (osu == fsu) = false := by simpa using e2
            have HX : Hid (H = false) := hide (by rw [HH.out, decide_eq_false e2]; simp)
            go_wp2_with fail
            go_meet
            exact ⟨by rw [HX.out] <;> rfl, hb3'⟩
        · have d1 : (o.n == f.n) = false := by simpa using e1
          have HX : Hid (H = false) := hide (by rw [HH.out, decide_eq_false e1]; rfl)
          go_wp2_with fail
          go_meet
          exact ⟨by rw [HX.out] <;> rfl, hb3'⟩
  case rest =>
    obtain ⟨hv, hbc⟩ := hcut
    subst hv
    have hBc := hB0.trans (hbc.mono hB0.size)
    have hi := hk1.below hbc hk1.lt
    have hj := hk2.below hbc hk2.lt
    clear hbc hk1 hk2 hB0 hro hrf heq hH
    cases H with
    | false =>
      have HX : Hid (R = false) := hide (by rw [HR.out]; simp)
      go_wp2_with fail
      go_ret
      exact ⟨by rw [HX.out] <;> rfl, hBc⟩
    | true =>
      have HR2 : Hid (R = (o.ms.all (keptM f) && !(f.ms.any (newM o)))) := hide (by rw [HR.out]; simp)
      obtain ⟨on, osu, ofA, ofl, ofc, ofs, omA, oml, omc, oms⟩ := o
      have hom := HO.out.2.1
      simp only at hom HR2 hi
      obtain ⟨homr, homl, homm, homo⟩ := hom
      have HOL := hide homl
      have HOM := hide homo
      have c3 : wc.cell? ⟨w.heap.size, 3, none⟩ = some (.slice omA oml omc) := hi.cell 3
      clear HR homl homo
      simp only [Fc.val]
      go_wp2_with fail
      clear c3
      go_loopw [42] (fun i wr => ∃ k : Nat, k ≤ oml ∧ i = .int .i64 k ∧ Below wc.heap.size wc wr ∧ (∀ i (hi : i < oms.length), i < k → keptM f oms[i] = true)) (fun i _ => oml - (intOf i).toNat)
      case atStart => exact ⟨0, Nat.zero_le _, rfl, Below.refl _ _, by omega⟩
      case round =>
        obtain ⟨k, hk, rfl, hbr, hall⟩ := hrel
        have HA := hide hall
        have hBr := hBc.trans (hbr.mono hBc.size)
        clear hall
        by_cases hlt : k < oml
        · obtain ⟨x, off, rfl, _, _, hcell⟩ := Rd.rec_ (size := 5) (fun _ => rfl) (homr.below hBr) HOL.out k hlt
          have hlk : k < oms.length := by have := HOL.out; omega
          have hmw := HOM.out _ (List.getElem_mem hlk)
          have HNo : Hid (keptM f oms[k] = false → R = false) := hide (fun e => by
            rw [HR2.out, List.all_eq_false.2 ⟨oms[k], List.getElem_mem hlk, by simp [e]⟩]; rfl)
          obtain ⟨m, hm⟩ : ∃ m, m = oms[k] := ⟨_, rfl⟩
          rw [← hm] at hcell hmw HNo
          have HMK := hide hm
          clear hm
          obtain ⟨B, hB⟩ : ∃ B, B = (methOf f m.n).isSome := ⟨_, rfl⟩
          obtain ⟨V, hV⟩ : ∃ V, V = (methOf f m.n).getD zeroSg := ⟨_, rfl⟩
          obtain ⟨D, hD⟩ : ∃ D, D = decide (V.p = m.p) := ⟨_, rfl⟩
          have HKM : Hid (keptM f m = (B && D)) := hide (by rw [hB, hD, hV]; rfl)
          have hfm : ∀ w', Below w.heap.size w w' → Calls Try.prog 21 #[f.val, S m.n] w' (fun e w'' => e = .returned (.tuple #[V.val, .bool B]) ∧ Below w'.heap.size w' w'') := fun w' hb => by
            rw [hV, hB]
            exact facemethod_any f m.n w' ((HF.out.below hb).weak (fun k hk => by have := hb.size; omega))
          have hva := meth_at HF.out m.n
          rw [← hV] at hva
          have hsm : ∀ w', Below w.heap.size w w' → Calls Try.prog 22 #[V.val, m.val] w' (Gives w' (.bool D)) := fun w' hb => by
            rw [hD]
            exact sigsame_any V m w' ((hva.below hb).weak (fun k hk => by have := hb.size; omega)) ((hmw.below hb).weak (fun k hk => by have := hb.size; omega))
          have HFM := hide hfm
          have HSM := hide hsm
          clear hfm hsm hva hmw hB hV hD
          obtain ⟨mn, mst, mA, mk, mc, mps, mrn, mra⟩ := m
          have q0 : wr.cell? ⟨x, off + k * 5, none⟩ = some (S mn) := hcell 0 _ rfl
          have q1 : wr.cell? ⟨x, off + k * 5 + 1, none⟩ = some (.bool mst) := hcell 1 _ rfl
          have q2 : wr.cell? ⟨x, off + k * 5 + 2, none⟩ = some (.slice mA mk mc) := hcell 2 _ rfl
          have q3 : wr.cell? ⟨x, off + k * 5 + 3, none⟩ = some (S mrn) := hcell 3 _ rfl
          have q4 : wr.cell? ⟨x, off + k * 5 + 4, none⟩ = some (.bool mra) := hcell 4 _ rfl
          clear hcell
          obtain ⟨w1, hw1⟩ : ∃ w1, w1 = wr.alloc (.cells #[S mn, .bool mst, .slice mA mk mc, S mrn, .bool mra] 34) := ⟨_, rfl⟩
          have hb1 : Below wc.heap.size wc w1 := by rw [hw1]; exact hbr.alloc hbr.size _
          have hB1 := hBc.trans (hb1.mono hBc.size)
          have hv1 : Blk w1 wr.heap.size 34 #[S mn, .bool mst, .slice mA mk mc, S mrn, .bool mra] := by rw [hw1]; exact Blk.new _ _ _
          have hj1 := hj.below hb1 hj.lt
          have b0 : w1.cell? ⟨w.heap.size + 1, 0, none⟩ = some (S f.n) := hj1.cell 0
          have b1 : w1.cell? ⟨w.heap.size + 1, 1, none⟩ = some (S f.su) := hj1.cell 1
          have b2 : w1.cell? ⟨w.heap.size + 1, 2, none⟩ = some (.slice f.fA f.fl f.fc) := hj1.cell 2
          have b3 : w1.cell? ⟨w.heap.size + 1, 3, none⟩ = some (.slice f.mA f.ml f.mc) := hj1.cell 3
          have d0 : w1.cell? ⟨wr.heap.size, 0, none⟩ = some (S mn) := hv1.cell 0
          clear hj1
          subst hw1
          go_wp2_with fail
          refine (HFM.out _ hB1).mono ?_
          rintro e w2 ⟨rfl, hb2⟩
          have hb2' := hb1.trans (hb2.mono hb1.size)
          have hB2 := hBc.trans (hb2'.mono hBc.size)
          have hv2 := hv1.below hb2 hv1.lt
          have hb3 := hb2'.alloc hb2'.size (.cells #[S V.n, .bool V.st, .slice V.A V.k V.c, S V.r.n, .bool V.r.a] 34)
          have hB3 := hBc.trans (hb3.mono hBc.size)
          have hv3 := hv2.alloc (.cells #[S V.n, .bool V.st, .slice V.A V.k V.c, S V.r.n, .bool V.r.a] 34)
          have d0 := hv3.cell 0
          have d1 := hv3.cell 1
          have d2 := hv3.cell 2
          have d3 := hv3.cell 3
          have d4 := hv3.cell 4
          simp only [List.getElem?_toArray, List.getElem?_cons_zero, List.getElem?_cons_succ] at d0 d1 d2 d3 d4
          clear b0 b1 b2 b3 q0 q1 q2 q3 q4 hv1 hv2 hv3 hb2 hb1 hB1
          cases B
          case false =>
            have HX := hide (HNo.out (by rw [HKM.out]; rfl))
            go_wp2_with fail
            go_ret
            exact ⟨by rw [HX.out] <;> rfl, hB3⟩
          case true =>
            go_wp2_with fail
            refine (HSM.out _ hB3).mono ?_
            rintro e w4 ⟨rfl, hb4⟩
            have hb4' := hb3.trans (hb4.mono hb3.size)
            have hB4 := hBc.trans (hb4'.mono hBc.size)
            clear hb4 hb3 d0 d1 d2 d3 d4
            cases D
            case false =>
              have HX := hide (HNo.out (by rw [HKM.out]; rfl))
              go_wp2_with fail
              go_ret
              exact ⟨by rw [HX.out] <;> rfl, hB4⟩
            case true =>
              have HKT : Hid (keptM f ⟨mn, mst, mA, mk, mc, mps, ⟨mrn, mra⟩⟩ = true) := hide (by rw [HKM.out]; rfl)
              go_wp2_with fail
              go_roundw
              case rel => (repeat apply Exists.intro); exact ⟨⟨k + 1, by omega, by go_num, hb4', all_step (p := fun u => keptM f u = true) HA.out hlk (by rw [← HMK.out]; exact HKT.out)⟩, rfl⟩
              case measure => simp [intOf]; omega
        · have HALL : Hid (oms.all (keptM f) = true) := hide (by
            rw [List.all_eq_true]
            exact all_done (p := fun u => keptM f u = true) HA.out (by have := HOL.out; omega))
          have HR3 : Hid (R = !(f.ms.any (newM ⟨on, osu, ofA, ofl, ofc, ofs, omA, oml, omc, oms⟩))) := hide (by rw [HR2.out, HALL.out]; simp)
          have hi2 := hi.below hbr hi.lt
          have hj2 := hj.below hbr hj.lt
          have b3 : wr.cell? ⟨w.heap.size + 1, 3, none⟩ = some (.slice f.mA f.ml f.mc) := hj2.cell 3
          have hcf := hassg_any f.mA f.ml f.mc f.ms w.heap.size (newM ⟨on, osu, ofA, ofl, ofc, ofs, omA, oml, omc, oms⟩) wr ((HF.out.2.1.1.below hBr).weak (fun k hk => by have := hBr.size; omega)) HF.out.2.1.2.1 HF.out.2.1.2.2.1
            (fun w' hb' u _ => passclo_any ⟨on, osu, ofA, ofl, ofc, ofs, omA, oml, omc, oms⟩ w.heap.size u w' (hi2.below hb' hi2.lt) ((HO.out.below (hBr.trans (hb'.mono hBr.size))).weak (fun k hk => by have := hBr.size; have := hb'.size; omega)))
          obtain ⟨N, hN⟩ : ∃ N, N = f.ms.any (newM ⟨on, osu, ofA, ofl, ofc, ofs, omA, oml, omc, oms⟩) := ⟨_, rfl⟩
          rw [← hN] at hcf HR3
          have HCF := hide hcf
          clear hcf hN hi2 hj2
          go_wp2_with fail
          refine HCF.out.mono ?_
          rintro e w2 ⟨rfl, hb2⟩
          have hB2 := hBr.trans (hb2.mono hBr.size)
          go_wp2_with fail
          go_ret
          exact ⟨by rw [HR3.out] <;> rfl, hB2⟩
end Go.Proofs.Ytbnplghbokpfmaa
