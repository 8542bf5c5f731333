/- Whether a face may take another one's place, walked; no statement of the seat is proved here. -/
import Derived.Test.YtmbegaobnpoefaaDoorMOpLaidC
import Derived.Test.YtmbegaobnpoefaaDoorMFaceSameC
import Derived.Test.YtmbegaobnpoefaaDoorMHierTabH
namespace Go.Proofs.YtmbegaobnpoefaaDoor
open Go.RowKit
def keptM (n : Fc) (m : Sg) : Bool := (methOf n m.n).isSome && decide (((methOf n m.n).getD zeroSg).p = m.p)
def newM (o : Fc) (m : Sg) : Bool := !(methOf o m.n).isSome && !m.st
def passH (o n : Fc) : Bool := o.right && n.right && decide (o.n = n.n) && decide (o.su = n.su) && decide (o.fs = n.fs)
def passB (o n : Fc) : Bool := passH o n && o.ms.all (keptM n) && !(n.ms.any (newM o))
theorem meth_at {f : Fc} {w : World} {F : Nat → Prop} (h : f.at_ w F) (k : List UInt8) : ((methOf f k).getD zeroSg).at_ w F := by
 cases hm : methOf f k with
 | none => exact ⟨Rd.nil _ _ _ _, rfl, by simp [zeroSg], by simp [short, zeroSg], by simp [Ty.ok, short, zeroSg], by simp [zeroSg]⟩
 | some v => exact h.2.1.2.2.2 v (List.mem_of_find?_eq_some hm)
set_option maxRecDepth 100000 in
set_option maxHeartbeats 1000000 in
theorem passclo_any (o : Fc) (bx : Nat) (m : Sg) (w : World) (hbk : Blk w bx 43 #[S o.n, S o.su, .slice o.fA o.fl o.fc, .slice o.mA o.ml o.mc]) (ho : o.at_ w (fun k => w.heap.size ≤ k)) :
  Calls Tryd.prog 29 #[m.val, .pointer (some ⟨bx, 0, none⟩)] w (Gives w (.bool (newM o m))) := by
 obtain ⟨n, st, A, k, c, ps, rn, ra⟩ := m
 obtain ⟨V, hV⟩ : ∃ V, V = (methOf o n).getD zeroSg := ⟨_, rfl⟩
 obtain ⟨B, hB⟩ : ∃ B, B = (methOf o n).isSome := ⟨_, rfl⟩
 obtain ⟨w1, hw1⟩ : ∃ w1, w1 = w.alloc (.cells #[S n, .bool st, .slice A k c, S rn, .bool ra] 55) := ⟨_, rfl⟩
 have hB1 : Below w.heap.size w w1 := by rw [hw1]; exact (Below.refl _ _).alloc (Nat.le_refl _) _
 have hv1 : Blk w1 w.heap.size 55 #[S n, .bool st, .slice A k c, S rn, .bool ra] := by rw [hw1]; exact Blk.new _ _ _
 have hk1 := hbk.below hB1 hbk.lt
 have hfm := facemethod_any o n w1 ((ho.below hB1).weak (fun k hk => by have := hB1.size; omega))
 rw [← hV, ← hB] at hfm
 have HFM := hide hfm
 have HN : Hid (newM o ⟨n, st, A, k, c, ps, rn, ra⟩ = (!B && !st)) := hide (by rw [hB]; rfl)
 have c0 : w1.cell? ⟨bx, 0, none⟩ = some (S o.n) := hk1.cell 0
 have c1 : w1.cell? ⟨bx, 1, none⟩ = some (S o.su) := hk1.cell 1
 have c2 : w1.cell? ⟨bx, 2, none⟩ = some (.slice o.fA o.fl o.fc) := hk1.cell 2
 have c3 : w1.cell? ⟨bx, 3, none⟩ = some (.slice o.mA o.ml o.mc) := hk1.cell 3
 have d0 : w1.cell? ⟨w.heap.size, 0, none⟩ = some (S n) := hv1.cell 0
 clear hfm hV hB hbk hk1
 obtain ⟨R, hR⟩ : ∃ R, R = newM o ⟨n, st, A, k, c, ps, rn, ra⟩ := ⟨_, rfl⟩
 rw [← hR]
 rw [← hR] at HN
 clear hR ho
 subst hw1
 go_enter Tryd.func29, Tryd.ntmps29
 go_wp2_with fail
 refine HFM.out.mono ?_
 rintro e w2 ⟨rfl, hb2⟩
 have hB2 := hB1.trans (hb2.mono hB1.size)
 have hv2 := hv1.below hb2 hv1.lt
 have hB3 := hB2.alloc hB2.size (.cells #[S V.n, .bool V.st, .slice V.A V.k V.c, S V.r.n, .bool V.r.a] 55)
 have hv3 := hv2.alloc (.cells #[S V.n, .bool V.st, .slice V.A V.k V.c, S V.r.n, .bool V.r.a] 55)
 have d1 : (w2.alloc (.cells #[S V.n, .bool V.st, .slice V.A V.k V.c, S V.r.n, .bool V.r.a] 55)).cell? ⟨w.heap.size, 1, none⟩ = some (.bool st) := hv3.cell 1
 clear hb2 c0 c1 c2 c3 d0 hv1 hv2 hv3
 cases B
 all_goals
  go_wp2_with fail
  go_ret
  exact ⟨by rw [HN.out] <;> rfl, hB3⟩
end Go.Proofs.YtmbegaobnpoefaaDoor
namespace Go.Proofs.YtmbegaobnpoefaaDoor
open Go.RowKit
set_option maxRecDepth 100000 in
set_option maxHeartbeats 8000000 in
theorem pass_any (o f : Fc) (w : World) (ho : o.at_ w (fun k => w.heap.size ≤ k)) (hf : f.at_ w (fun k => w.heap.size ≤ k)) :
  Calls Tryd.prog 11 #[o.val, f.val] w (Gives w (.bool (passB o f))) := by
 obtain ⟨wB, hwB⟩ : ∃ wB, wB = (w.alloc (.cells #[S o.n, S o.su, .slice o.fA o.fl o.fc, .slice o.mA o.ml o.mc] 43)).alloc (.cells #[S f.n, S f.su, .slice f.fA f.fl f.fc, .slice f.mA f.ml f.mc] 43) := ⟨_, rfl⟩
 have hB0 : Below w.heap.size w wB := by rw [hwB]; exact ((Below.refl _ _).alloc (Nat.le_refl _) _).alloc (by simp) _
 have hk1 : Blk wB w.heap.size 43 #[S o.n, S o.su, .slice o.fA o.fl o.fc, .slice o.mA o.ml o.mc] := by rw [hwB]; exact (Blk.new _ _ _).alloc _
 have hk2 : Blk wB (w.heap.size + 1) 43 #[S f.n, S f.su, .slice f.fA f.fl f.fc, .slice f.mA f.ml f.mc] := by
  rw [hwB]
  have := Blk.new (w.alloc (.cells #[S o.n, S o.su, .slice o.fA o.fl o.fc, .slice o.mA o.ml o.mc] 43)) 43 #[S f.n, S f.su, .slice f.fA f.fl f.fc, .slice f.mA f.ml f.mc]
  rwa [World.size_alloc] at this
 have hro : ∀ w', Below w.heap.size w w' → Calls Tryd.prog 25 #[o.val] w' (Gives w' (.bool o.right)) := fun w' hb => right_any o w' ((ho.below hb).weak (fun k hk => by have := hb.size; omega))
 have hrf : ∀ w', Below w.heap.size w w' → Calls Tryd.prog 25 #[f.val] w' (Gives w' (.bool f.right)) := fun w' hb => right_any f w' ((hf.below hb).weak (fun k hk => by have := hb.size; omega))
 have heq : ∀ w', Below w.heap.size w w' → Calls Tryd.prog 26 #[.slice o.fA o.fl o.fc, .slice f.fA f.fl f.fc] w' (Gives w' (.bool (decide (o.fs = f.fs)))) := fun w' hb =>
  equalvrs_any o.fA o.fl o.fc o.fs f.fA f.fl f.fc f.fs w' (((ho.below hb).weak (fun k hk => by have := hb.size; omega)).1.1) ho.1.2.1 (((hf.below hb).weak (fun k hk => by have := hb.size; omega)).1.1) hf.1.2.1 ho.1.2.2.1
 obtain ⟨R, hR⟩ : ∃ R, R = passB o f := ⟨_, rfl⟩
 rw [← hR]
 obtain ⟨H, hH⟩ : ∃ H, H = passH o f := ⟨_, rfl⟩
 have HR : Hid (R = (H && o.ms.all (keptM f) && !(f.ms.any (newM o)))) := hide (by rw [hR, hH]; rfl)
 have HO := hide ho
 have HF := hide hf
 clear hR ho hf
 go_enter Tryd.func11, Tryd.ntmps11
 go_upto_region 1 with fail
 rw [← hwB]
 clear hwB
 go_cut [38] (fun v wx => v = .bool (!H) ∧ Below wB.heap.size wB wx)
 case first =>
  obtain ⟨Ro, hRo⟩ : ∃ Ro, Ro = o.right := ⟨_, rfl⟩
  obtain ⟨Rf, hRf⟩ : ∃ Rf, Rf = f.right := ⟨_, rfl⟩
  obtain ⟨E, hE⟩ : ∃ E, E = decide (o.fs = f.fs) := ⟨_, rfl⟩
  have HH : Hid (H = (Ro && Rf && decide (o.n = f.n) && decide (o.su = f.su) && E)) := hide (by rw [hH, hRo, hRf, hE]; rfl)
  rw [← hRo] at hro
  rw [← hRf] at hrf
  rw [← hE] at heq
  have HRO := hide hro
  have HRF := hide hrf
  have HEQ := hide heq
  clear hro hrf heq hRo hRf hE hH HR
  have a0 : wB.cell? ⟨w.heap.size, 0, none⟩ = some (S o.n) := hk1.cell 0
  have a1 : wB.cell? ⟨w.heap.size, 1, none⟩ = some (S o.su) := hk1.cell 1
  have a2 : wB.cell? ⟨w.heap.size, 2, none⟩ = some (.slice o.fA o.fl o.fc) := hk1.cell 2
  have a3 : wB.cell? ⟨w.heap.size, 3, none⟩ = some (.slice o.mA o.ml o.mc) := hk1.cell 3
  go_wp2_with fail
  refine (HRO.out wB hB0).mono ?_
  rintro e w2 ⟨rfl, hb2⟩
  have hB2 := hB0.trans (hb2.mono hB0.size)
  cases Ro
  case false =>
   go_wp2_with fail
   go_meet
   exact ⟨by rw [HH.out] <;> rfl, hb2⟩
  case true =>
   have hj2 := hk2.below hb2 hk2.lt
   have b0 : w2.cell? ⟨w.heap.size + 1, 0, none⟩ = some (S f.n) := hj2.cell 0
   have b1 : w2.cell? ⟨w.heap.size + 1, 1, none⟩ = some (S f.su) := hj2.cell 1
   have b2 : w2.cell? ⟨w.heap.size + 1, 2, none⟩ = some (.slice f.fA f.fl f.fc) := hj2.cell 2
   have b3 : w2.cell? ⟨w.heap.size + 1, 3, none⟩ = some (.slice f.mA f.ml f.mc) := hj2.cell 3
   clear a0 a1 a2 a3
   go_wp2_with fail
   refine (HRF.out w2 hB2).mono ?_
   rintro e w3 ⟨rfl, hb3⟩
   have hb3' := hb2.trans (hb3.mono hb2.size)
   have hB3 := hB0.trans (hb3'.mono hB0.size)
   clear b0 b1 b2 b3 hb3
   cases Rf
   case false =>
    go_wp2_with fail
    go_meet
    exact ⟨by rw [HH.out] <;> rfl, hb3'⟩
   case true =>
    have hi3 := hk1.below hb3' hk1.lt
    have hj3 := hk2.below hb3' hk2.lt
    have a0 : w3.cell? ⟨w.heap.size, 0, none⟩ = some (S o.n) := hi3.cell 0
    have a1 : w3.cell? ⟨w.heap.size, 1, none⟩ = some (S o.su) := hi3.cell 1
    have a2 : w3.cell? ⟨w.heap.size, 2, none⟩ = some (.slice o.fA o.fl o.fc) := hi3.cell 2
    have b0 : w3.cell? ⟨w.heap.size + 1, 0, none⟩ = some (S f.n) := hj3.cell 0
    have b1 : w3.cell? ⟨w.heap.size + 1, 1, none⟩ = some (S f.su) := hj3.cell 1
    have b2 : w3.cell? ⟨w.heap.size + 1, 2, none⟩ = some (.slice f.fA f.fl f.fc) := hj3.cell 2
    by_cases e1 : o.n = f.n
    ·obtain ⟨on, osu, ofA, ofl, ofc, ofs, omA, oml, omc, oms⟩ := o
     obtain ⟨fn, fsu, ffA, ffl, ffc, ffs, fmA, fml, fmc, fms⟩ := f
     simp only at *
     subst e1
     by_cases e2 : osu = fsu
     ·subst e2
      have HX : Hid (H = E) := hide (by rw [HH.out]; simp)
      go_wp2_with fail
      refine (HEQ.out w3 hB3).mono ?_
      rintro e w4 ⟨rfl, hb4⟩
      have hb4' := hb3'.trans (hb4.mono hb3'.size)
      go_wp2_with fail
      go_meet
      exact ⟨by rw [HX.out] <;> rfl, hb4'⟩
     ·have d2 : (osu == fsu) = false := by simpa using e2
      have HX : Hid (H = false) := hide (by rw [HH.out, decide_eq_false e2]; simp)
      go_wp2_with fail
      go_meet
      exact ⟨by rw [HX.out] <;> rfl, hb3'⟩
    ·have d1 : (o.n == f.n) = false := by simpa using e1
     have HX : Hid (H = false) := hide (by rw [HH.out, decide_eq_false e1]; rfl)
     go_wp2_with fail
     go_meet
     exact ⟨by rw [HX.out] <;> rfl, hb3'⟩
 case rest =>
  obtain ⟨hv, hbc⟩ := hcut
  subst hv
  have hBc := hB0.trans (hbc.mono hB0.size)
  have hi := hk1.below hbc hk1.lt
  have hj := hk2.below hbc hk2.lt
  clear hbc hk1 hk2 hB0 hro hrf heq hH
  cases H with
  | false =>
   have HX : Hid (R = false) := hide (by rw [HR.out]; simp)
   go_wp2_with fail
   go_ret
   exact ⟨by rw [HX.out] <;> rfl, hBc⟩
  | true =>
   have HR2 : Hid (R = (o.ms.all (keptM f) && !(f.ms.any (newM o)))) := hide (by rw [HR.out]; simp)
   obtain ⟨on, osu, ofA, ofl, ofc, ofs, omA, oml, omc, oms⟩ := o
   have hom := HO.out.2.1
   simp only at hom HR2 hi
   obtain ⟨homr, homl, homm, homo⟩ := hom
   have HOL := hide homl
   have HOM := hide homo
   have c3 : wc.cell? ⟨w.heap.size, 3, none⟩ = some (.slice omA oml omc) := hi.cell 3
   clear HR homl homo
   simp only [Fc.val]
   go_wp2_with fail
   clear c3
   go_loopw [42] (fun i wr => ∃ k : Nat, k ≤ oml ∧ i = .int .i64 k ∧ Below wc.heap.size wc wr ∧ (∀ i (hi : i < oms.length), i < k → keptM f oms[i] = true)) (fun i _ => oml - (intOf i).toNat)
   case atStart => exact ⟨0, Nat.zero_le _, rfl, Below.refl _ _, by omega⟩
   case round =>
    obtain ⟨k, hk, rfl, hbr, hall⟩ := hrel
    have HA := hide hall
    have hBr := hBc.trans (hbr.mono hBc.size)
    clear hall
    by_cases hlt : k < oml
    ·obtain ⟨x, off, rfl, _, _, hcell⟩ := Rd.rec_ (size := 5) (fun _ => rfl) (homr.below hBr) HOL.out k hlt
     have hlk : k < oms.length := by have := HOL.out; omega
     have hmw := HOM.out _ (List.getElem_mem hlk)
     have HNo : Hid (keptM f oms[k] = false → R = false) := hide (fun e => by
      rw [HR2.out, List.all_eq_false.2 ⟨oms[k], List.getElem_mem hlk, by simp [e]⟩]; rfl)
     obtain ⟨m, hm⟩ : ∃ m, m = oms[k] := ⟨_, rfl⟩
     rw [← hm] at hcell hmw HNo
     have HMK := hide hm
     clear hm
     obtain ⟨B, hB⟩ : ∃ B, B = (methOf f m.n).isSome := ⟨_, rfl⟩
     obtain ⟨V, hV⟩ : ∃ V, V = (methOf f m.n).getD zeroSg := ⟨_, rfl⟩
     obtain ⟨D, hD⟩ : ∃ D, D = decide (V.p = m.p) := ⟨_, rfl⟩
     have HKM : Hid (keptM f m = (B && D)) := hide (by rw [hB, hD, hV]; rfl)
     have hfm : ∀ w', Below w.heap.size w w' → Calls Tryd.prog 9 #[f.val, S m.n] w' (fun e w'' => e = .returned (.tuple #[V.val, .bool B]) ∧ Below w'.heap.size w' w'') := fun w' hb => by
      rw [hV, hB]
      exact facemethod_any f m.n w' ((HF.out.below hb).weak (fun k hk => by have := hb.size; omega))
     have hva := meth_at HF.out m.n
     rw [← hV] at hva
     have hsm : ∀ w', Below w.heap.size w w' → Calls Tryd.prog 27 #[V.val, m.val] w' (Gives w' (.bool D)) := fun w' hb => by
      rw [hD]
      exact sigsame_any V m w' ((hva.below hb).weak (fun k hk => by have := hb.size; omega)) ((hmw.below hb).weak (fun k hk => by have := hb.size; omega))
     have HFM := hide hfm
     have HSM := hide hsm
     clear hfm hsm hva hmw hB hV hD
     obtain ⟨mn, mst, mA, mk, mc, mps, mrn, mra⟩ := m
     have q0 : wr.cell? ⟨x, off + k * 5, none⟩ = some (S mn) := hcell 0 _ rfl
     have q1 : wr.cell? ⟨x, off + k * 5 + 1, none⟩ = some (.bool mst) := hcell 1 _ rfl
     have q2 : wr.cell? ⟨x, off + k * 5 + 2, none⟩ = some (.slice mA mk mc) := hcell 2 _ rfl
     have q3 : wr.cell? ⟨x, off + k * 5 + 3, none⟩ = some (S mrn) := hcell 3 _ rfl
     have q4 : wr.cell? ⟨x, off + k * 5 + 4, none⟩ = some (.bool mra) := hcell 4 _ rfl
     clear hcell
     obtain ⟨w1, hw1⟩ : ∃ w1, w1 = wr.alloc (.cells #[S mn, .bool mst, .slice mA mk mc, S mrn, .bool mra] 55) := ⟨_, rfl⟩
     have hb1 : Below wc.heap.size wc w1 := by rw [hw1]; exact hbr.alloc hbr.size _
     have hB1 := hBc.trans (hb1.mono hBc.size)
     have hv1 : Blk w1 wr.heap.size 55 #[S mn, .bool mst, .slice mA mk mc, S mrn, .bool mra] := by rw [hw1]; exact Blk.new _ _ _
     have hj1 := hj.below hb1 hj.lt
     have b0 : w1.cell? ⟨w.heap.size + 1, 0, none⟩ = some (S f.n) := hj1.cell 0
     have b1 : w1.cell? ⟨w.heap.size + 1, 1, none⟩ = some (S f.su) := hj1.cell 1
     have b2 : w1.cell? ⟨w.heap.size + 1, 2, none⟩ = some (.slice f.fA f.fl f.fc) := hj1.cell 2
     have b3 : w1.cell? ⟨w.heap.size + 1, 3, none⟩ = some (.slice f.mA f.ml f.mc) := hj1.cell 3
     have d0 : w1.cell? ⟨wr.heap.size, 0, none⟩ = some (S mn) := hv1.cell 0
     clear hj1
     subst hw1
     go_wp2_with fail
     refine (HFM.out _ hB1).mono ?_
     rintro e w2 ⟨rfl, hb2⟩
     have hb2' := hb1.trans (hb2.mono hb1.size)
     have hB2 := hBc.trans (hb2'.mono hBc.size)
     have hv2 := hv1.below hb2 hv1.lt
     have hb3 := hb2'.alloc hb2'.size (.cells #[S V.n, .bool V.st, .slice V.A V.k V.c, S V.r.n, .bool V.r.a] 55)
     have hB3 := hBc.trans (hb3.mono hBc.size)
     have hv3 := hv2.alloc (.cells #[S V.n, .bool V.st, .slice V.A V.k V.c, S V.r.n, .bool V.r.a] 55)
     have d0 := hv3.cell 0
     have d1 := hv3.cell 1
     have d2 := hv3.cell 2
     have d3 := hv3.cell 3
     have d4 := hv3.cell 4
     simp only [List.getElem?_toArray, List.getElem?_cons_zero, List.getElem?_cons_succ] at d0 d1 d2 d3 d4
     clear b0 b1 b2 b3 q0 q1 q2 q3 q4 hv1 hv2 hv3 hb2 hb1 hB1
     cases B
     case false =>
      have HX := hide (HNo.out (by rw [HKM.out]; rfl))
      go_wp2_with fail
      go_ret
      exact ⟨by rw [HX.out] <;> rfl, hB3⟩
     case true =>
      go_wp2_with fail
      refine (HSM.out _ hB3).mono ?_
      rintro e w4 ⟨rfl, hb4⟩
      have hb4' := hb3.trans (hb4.mono hb3.size)
      have hB4 := hBc.trans (hb4'.mono hBc.size)
      clear hb4 hb3 d0 d1 d2 d3 d4
      cases D
      case false =>
       have HX := hide (HNo.out (by rw [HKM.out]; rfl))
       go_wp2_with fail
       go_ret
       exact ⟨by rw [HX.out] <;> rfl, hB4⟩
      case true =>
       have HKT : Hid (keptM f ⟨mn, mst, mA, mk, mc, mps, ⟨mrn, mra⟩⟩ = true) := hide (by rw [HKM.out]; rfl)
       go_wp2_with fail
       go_roundw
       case rel => (repeat apply Exists.intro); exact ⟨⟨k + 1, by omega, by go_num, hb4', all_step (p := fun u => keptM f u = true) HA.out hlk (by rw [← HMK.out]; exact HKT.out)⟩, rfl⟩
       case measure => simp [intOf]; omega
    ·have HALL : Hid (oms.all (keptM f) = true) := hide (by
      rw [List.all_eq_true]
      exact all_done (p := fun u => keptM f u = true) HA.out (by have := HOL.out; omega))
     have HR3 : Hid (R = !(f.ms.any (newM ⟨on, osu, ofA, ofl, ofc, ofs, omA, oml, omc, oms⟩))) := hide (by rw [HR2.out, HALL.out]; simp)
     have hi2 := hi.below hbr hi.lt
     have hj2 := hj.below hbr hj.lt
     have b3 : wr.cell? ⟨w.heap.size + 1, 3, none⟩ = some (.slice f.mA f.ml f.mc) := hj2.cell 3
     have hcf := hassg_any f.mA f.ml f.mc f.ms w.heap.size (newM ⟨on, osu, ofA, ofl, ofc, ofs, omA, oml, omc, oms⟩) wr ((HF.out.2.1.1.below hBr).weak (fun k hk => by have := hBr.size; omega)) HF.out.2.1.2.1 HF.out.2.1.2.2.1
      (fun w' hb' u _ => passclo_any ⟨on, osu, ofA, ofl, ofc, ofs, omA, oml, omc, oms⟩ w.heap.size u w' (hi2.below hb' hi2.lt) ((HO.out.below (hBr.trans (hb'.mono hBr.size))).weak (fun k hk => by have := hBr.size; have := hb'.size; omega)))
     obtain ⟨N, hN⟩ : ∃ N, N = f.ms.any (newM ⟨on, osu, ofA, ofl, ofc, ofs, omA, oml, omc, oms⟩) := ⟨_, rfl⟩
     rw [← hN] at hcf HR3
     have HCF := hide hcf
     clear hcf hN hi2 hj2
     go_wp2_with fail
     refine HCF.out.mono ?_
     rintro e w2 ⟨rfl, hb2⟩
     have hB2 := hBr.trans (hb2.mono hBr.size)
     go_wp2_with fail
     go_ret
     exact ⟨by rw [HR3.out] <;> rfl, hB2⟩
end Go.Proofs.YtmbegaobnpoefaaDoor
namespace Go.Proofs.YtmbegaobnpoefaaDoor
open Go.RowKit
set_option maxRecDepth 100000 in
theorem int_any (w : World) : Calls Tryd.prog 12 #[] w (Gives w (.agg #[S [105, 110, 116], .bool false])) := by
 have hb : ∀ o, Below w.heap.size w (w.alloc o) := fun o => (Below.refl _ _).alloc (Nat.le_refl _) o
 go_enter Tryd.func12, Tryd.ntmps12
 go_wp2_with fail
 refine bodyPost_ret (v := .agg #[S [105, 110, 116], .bool false]) ?_ rfl ?_
 ·simp [results, Tryd.results12, go_sem]
 ·first
   | exact ⟨rfl, hb _⟩
   | exact ⟨rfl, set_below' (hb _) (Nat.le_refl _) _⟩
   | exact ⟨rfl, set_below' (set_below' (hb _) (Nat.le_refl _) _) (Nat.le_refl _) _⟩
def hfa : Fc := ⟨[65], [], none, 0, 0, [], none, 0, 0, []⟩
def hfb (b : Nat) : Fc := ⟨[65], [], none, 0, 0, [], some ⟨b, 0, none⟩, 1, 1, [⟨[109], true, none, 0, 0, [], ⟨[105, 110, 116], false⟩⟩]⟩
def hfc (b : Nat) : Fc := ⟨[65], [], some ⟨b, 0, none⟩, 1, 1, [⟨[102], ⟨[105, 110, 116], false⟩⟩], none, 0, 0, []⟩
theorem head_ab (b : Nat) : passB hfa (hfb b) = true := by kernel_rfl
theorem head_ac (b : Nat) : passB hfa (hfc b) = false := by kernel_rfl
theorem head_ba (b : Nat) : passB (hfb b) hfa = false := by kernel_rfl
theorem hfa_at (w : World) (F : Nat → Prop) : hfa.at_ w F := by
 refine ⟨⟨Rd.nil _ _ _ _, rfl, by simp [hfa], by simp [hfa]⟩, ⟨Rd.nil _ _ _ _, rfl, by simp [hfa], by simp [hfa]⟩, by simp [hfa, short], by simp [hfa, short]⟩
theorem hfb_at {w : World} {b : Nat} (h : Blk w b 55 #[S [109], .bool true, .slice none 0 0, S [105, 110, 116], .bool false]) : (hfb b).at_ w (fun k => w.heap.size ≤ k) := by
 refine ⟨⟨Rd.nil _ _ _ _, rfl, by simp [hfb], by simp [hfb]⟩, ⟨Rd.of_blk h (by have := h.lt; omega) rfl, rfl, by simp [hfb], fun m hm => ?_⟩, by simp [hfb, short], by simp [hfb, short]⟩
 obtain rfl : m = ⟨[109], true, none, 0, 0, [], ⟨[105, 110, 116], false⟩⟩ := by simpa [hfb] using hm
 exact ⟨Rd.nil _ _ _ _, rfl, by simp, by simp [short], by simp [Ty.ok, short], by simp⟩
theorem hfc_at {w : World} {b : Nat} (h : Blk w b 63 #[S [102], S [105, 110, 116], .bool false]) : (hfc b).at_ w (fun k => w.heap.size ≤ k) := by
 refine ⟨⟨Rd.of_blk h (by have := h.lt; omega) rfl, rfl, by simp [hfc], fun v hv => ?_⟩, ⟨Rd.nil _ _ _ _, rfl, by simp [hfc], by simp [hfc]⟩, by simp [hfc, short], by simp [hfc, short]⟩
 obtain rfl : v = ⟨[102], ⟨[105, 110, 116], false⟩⟩ := by simpa [hfc] using hv
 exact ⟨by simp [short], by simp [Ty.ok, short]⟩
set_option maxRecDepth 100000 in
set_option maxHeartbeats 2000000 in
theorem head_any (w : World) : Calls Tryd.prog 4 #[] w (Gives w (.bool true)) := by
 have HI : Hid (∀ w, Calls Tryd.prog 12 #[] w (Gives w (.agg #[S [105, 110, 116], .bool false]))) := hide int_any
 have hab : ∀ b w', (hfb b).at_ w' (fun k => w'.heap.size ≤ k) → Calls Tryd.prog 11 #[hfa.val, (hfb b).val] w' (Gives w' (.bool true)) := fun b w' h => by rw [← head_ab b]; exact pass_any _ _ w' (hfa_at _ _) h
 have hac : ∀ b w', (hfc b).at_ w' (fun k => w'.heap.size ≤ k) → Calls Tryd.prog 11 #[hfa.val, (hfc b).val] w' (Gives w' (.bool false)) := fun b w' h => by rw [← head_ac b]; exact pass_any _ _ w' (hfa_at _ _) h
 have hba : ∀ b w', (hfb b).at_ w' (fun k => w'.heap.size ≤ k) → Calls Tryd.prog 11 #[(hfb b).val, hfa.val] w' (Gives w' (.bool false)) := fun b w' h => by rw [← head_ba b]; exact pass_any _ _ w' h (hfa_at _ _)
 have HAB := hide hab
 have HAC := hide hac
 have HBA := hide hba
 clear hab hac hba
 go_enter Tryd.func4, Tryd.ntmps4
 go_wp2_with fail
 obtain ⟨wA, hwA⟩ : ∃ wA, wA = w.alloc (.cells #[.string { data := #[65] }, .string { data := #[] }, .slice none 0 0, .slice none 0 0] 43) := ⟨_, rfl⟩
 have hA : Blk wA w.heap.size 43 #[S [65], S [], .slice none 0 0, .slice none 0 0] := by rw [hwA]; exact Blk.new _ _ _
 have hbA : Below w.heap.size w wA := by rw [hwA]; exact (Below.refl _ _).alloc (Nat.le_refl _) _
 rw [← hwA]
 clear hwA
 refine (HI.out wA).mono ?_
 rintro e w2 ⟨rfl, hb2⟩
 have hA2 := hA.below hb2 hA.lt
 have hB2 := hbA.trans (hb2.mono hbA.size)
 obtain ⟨w3, hw3⟩ : ∃ w3, w3 = (w2.alloc (.cells #[.string { data := #[109] }, .bool true, .slice none 0 0, .string { data := #[105, 110, 116] }, .bool false] 55)).alloc
  (.cells #[.string { data := #[65] }, .string { data := #[] }, .slice none 0 0, .slice (some ⟨w2.heap.size, 0, none⟩) 1 1] 43) := ⟨_, rfl⟩
 have hS3 : Blk w3 w2.heap.size 55 #[S [109], .bool true, .slice none 0 0, S [105, 110, 116], .bool false] := by rw [hw3]; exact (Blk.new _ _ _).alloc _
 have hF3 : Blk w3 (w2.heap.size + 1) 43 #[S [65], S [], .slice none 0 0, .slice (some ⟨w2.heap.size, 0, none⟩) 1 1] := by
  rw [hw3]
  have := Blk.new (w2.alloc (.cells #[.string { data := #[109] }, .bool true, .slice none 0 0, .string { data := #[105, 110, 116] }, .bool false] 55)) 43 #[S [65], S [], .slice none 0 0, .slice (some ⟨w2.heap.size, 0, none⟩) 1 1]
  rwa [World.size_alloc] at this
 have hA3 : Blk w3 w.heap.size 43 #[S [65], S [], .slice none 0 0, .slice none 0 0] := by rw [hw3]; exact (hA2.alloc _).alloc _
 have hB3 : Below w.heap.size w w3 := by rw [hw3]; exact (hB2.alloc hB2.size _).alloc (by have := hB2.size; simp; omega) _
 clear hA hbA hb2 hA2 hB2
 go_wp2_with fail
 rw [← hw3]
 clear hw3
 refine (HI.out w3).mono ?_
 rintro e w4 ⟨rfl, hb4⟩
 have hA4 := hA3.below hb4 hA3.lt
 have hS4 := hS3.below hb4 hS3.lt
 have hF4 := hF3.below hb4 hF3.lt
 have hB4 := hB3.trans (hb4.mono hB3.size)
 have hV5 : Blk ((w4.alloc (.cells #[.string { data := #[102] }, .string { data := #[105, 110, 116] }, .bool false] 63)).alloc
  (.cells #[.string { data := #[65] }, .string { data := #[] }, .slice (some ⟨w4.heap.size, 0, none⟩) 1 1, .slice none 0 0] 43)) w4.heap.size 63 #[S [102], S [105, 110, 116], .bool false] := (Blk.new _ _ _).alloc _
 have hC5 : Blk ((w4.alloc (.cells #[.string { data := #[102] }, .string { data := #[105, 110, 116] }, .bool false] 63)).alloc
  (.cells #[.string { data := #[65] }, .string { data := #[] }, .slice (some ⟨w4.heap.size, 0, none⟩) 1 1, .slice none 0 0] 43)) (w4.heap.size + 1) 43 #[S [65], S [], .slice (some ⟨w4.heap.size, 0, none⟩) 1 1, .slice none 0 0] := by
  have := Blk.new (w4.alloc (.cells #[.string { data := #[102] }, .string { data := #[105, 110, 116] }, .bool false] 63)) 43 #[S [65], S [], .slice (some ⟨w4.heap.size, 0, none⟩) 1 1, .slice none 0 0]
  rwa [World.size_alloc] at this
 obtain ⟨w5, hw5⟩ : ∃ w5, w5 = (w4.alloc (.cells #[.string { data := #[102] }, .string { data := #[105, 110, 116] }, .bool false] 63)).alloc
  (.cells #[.string { data := #[65] }, .string { data := #[] }, .slice (some ⟨w4.heap.size, 0, none⟩) 1 1, .slice none 0 0] 43) := ⟨_, rfl⟩
 have hA5 : Blk w5 w.heap.size 43 #[S [65], S [], .slice none 0 0, .slice none 0 0] := by rw [hw5]; exact (hA4.alloc _).alloc _
 have hS5 : Blk w5 w2.heap.size 55 #[S [109], .bool true, .slice none 0 0, S [105, 110, 116], .bool false] := by rw [hw5]; exact (hS4.alloc _).alloc _
 have hF5 : Blk w5 (w2.heap.size + 1) 43 #[S [65], S [], .slice none 0 0, .slice (some ⟨w2.heap.size, 0, none⟩) 1 1] := by rw [hw5]; exact (hF4.alloc _).alloc _
 have hB5 : Below w.heap.size w w5 := by rw [hw5]; exact (hB4.alloc hB4.size _).alloc (by have := hB4.size; simp; omega) _
 rw [← hw5] at hV5 hC5
 have a0 : w5.cell? ⟨w.heap.size, 0, none⟩ = some (.string { data := #[65] }) := hA5.cell 0
 have a1 : w5.cell? ⟨w.heap.size, 1, none⟩ = some (.string { data := #[] }) := hA5.cell 1
 have a2 : w5.cell? ⟨w.heap.size, 2, none⟩ = some (.slice none 0 0) := hA5.cell 2
 have a3 : w5.cell? ⟨w.heap.size, 3, none⟩ = some (.slice none 0 0) := hA5.cell 3
 have b0 : w5.cell? ⟨w2.heap.size + 1, 0, none⟩ = some (.string { data := #[65] }) := hF5.cell 0
 have b1 : w5.cell? ⟨w2.heap.size + 1, 1, none⟩ = some (.string { data := #[] }) := hF5.cell 1
 have b2 : w5.cell? ⟨w2.heap.size + 1, 2, none⟩ = some (.slice none 0 0) := hF5.cell 2
 have b3 : w5.cell? ⟨w2.heap.size + 1, 3, none⟩ = some (.slice (some ⟨w2.heap.size, 0, none⟩) 1 1) := hF5.cell 3
 have hcab := HAB.out w2.heap.size w5 (hfb_at hS5)
 subst hw5
 clear hA3 hS3 hF3 hb4 hA4 hS4 hF4
 go_wp2_with fail
 refine hcab.mono ?_
 rintro e w6 ⟨rfl, hb6⟩
 have hA6 := hA5.below hb6 hA5.lt
 have hS6 := hS5.below hb6 hS5.lt
 have hF6 := hF5.below hb6 hF5.lt
 have hV6 := hV5.below hb6 hV5.lt
 have hC6 := hC5.below hb6 hC5.lt
 have hB6 := hB5.trans (hb6.mono hB5.size)
 have a0 : w6.cell? ⟨w.heap.size, 0, none⟩ = some (.string { data := #[65] }) := hA6.cell 0
 have a1 : w6.cell? ⟨w.heap.size, 1, none⟩ = some (.string { data := #[] }) := hA6.cell 1
 have a2 : w6.cell? ⟨w.heap.size, 2, none⟩ = some (.slice none 0 0) := hA6.cell 2
 have a3 : w6.cell? ⟨w.heap.size, 3, none⟩ = some (.slice none 0 0) := hA6.cell 3
 have b0 : w6.cell? ⟨w4.heap.size + 1, 0, none⟩ = some (.string { data := #[65] }) := hC6.cell 0
 have b1 : w6.cell? ⟨w4.heap.size + 1, 1, none⟩ = some (.string { data := #[] }) := hC6.cell 1
 have b2 : w6.cell? ⟨w4.heap.size + 1, 2, none⟩ = some (.slice (some ⟨w4.heap.size, 0, none⟩) 1 1) := hC6.cell 2
 have b3 : w6.cell? ⟨w4.heap.size + 1, 3, none⟩ = some (.slice none 0 0) := hC6.cell 3
 clear hb6 hA5 hS5 hF5 hV5 hC5 hB5
 go_wp2_with fail
 refine (HAC.out w4.heap.size w6 (hfc_at hV6)).mono ?_
 rintro e w7 ⟨rfl, hb7⟩
 have hA7 := hA6.below hb7 hA6.lt
 have hS7 := hS6.below hb7 hS6.lt
 have hF7 := hF6.below hb7 hF6.lt
 have hB7 := hB6.trans (hb7.mono hB6.size)
 clear a0 a1 a2 a3 b0 b1 b2 b3 hb7 hA6 hS6 hF6 hV6 hC6
 have a0 : w7.cell? ⟨w.heap.size, 0, none⟩ = some (.string { data := #[65] }) := hA7.cell 0
 have a1 : w7.cell? ⟨w.heap.size, 1, none⟩ = some (.string { data := #[] }) := hA7.cell 1
 have a2 : w7.cell? ⟨w.heap.size, 2, none⟩ = some (.slice none 0 0) := hA7.cell 2
 have a3 : w7.cell? ⟨w.heap.size, 3, none⟩ = some (.slice none 0 0) := hA7.cell 3
 have b0 : w7.cell? ⟨w2.heap.size + 1, 0, none⟩ = some (.string { data := #[65] }) := hF7.cell 0
 have b1 : w7.cell? ⟨w2.heap.size + 1, 1, none⟩ = some (.string { data := #[] }) := hF7.cell 1
 have b2 : w7.cell? ⟨w2.heap.size + 1, 2, none⟩ = some (.slice none 0 0) := hF7.cell 2
 have b3 : w7.cell? ⟨w2.heap.size + 1, 3, none⟩ = some (.slice (some ⟨w2.heap.size, 0, none⟩) 1 1) := hF7.cell 3
 go_wp2_with fail
 refine (HBA.out w2.heap.size w7 (hfb_at hS7)).mono ?_
 rintro e w8 ⟨rfl, hb8⟩
 have hB8 := hB7.trans (hb8.mono hB7.size)
 go_wp2_with fail
 go_ret
 exact ⟨rfl, hB8⟩
end Go.Proofs.YtmbegaobnpoefaaDoor
