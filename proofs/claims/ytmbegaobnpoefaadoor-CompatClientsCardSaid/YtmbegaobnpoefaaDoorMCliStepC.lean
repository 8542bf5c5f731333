/- A state behind an instruction: walked; no statement of the seat is proved here. (Written by gen/vstep.py.) -/
import Derived.Test.YtmbegaobnpoefaaDoorMCliObj
import Derived.BigRegion
import Derived.Deep.RegionHeld3
namespace Go.Proofs.YtmbegaobnpoefaaDoor
open Go.RowKit Go.Maps
set_option linter.unusedVariables false
set_option linter.unusedSimpArgs false
set_option maxRecDepth 100000 in
set_option maxHeartbeats 4000000 in
theorem step3 (w : World) (B q p gi g m s n : Nat) (T : List Fc) (f : Fl) (b : Bd) (sg : Sg) (va vd : Value) (v : Vs) (a : Nat) (h : Sx w B q gi g m s n T f b sg va vd) (hv : WsE w B p v) (hS : VsS v) (hn : n ≤ 6000000000000000) (ha : a < v.lo.length) :
  Calls Tryd.prog 42 #[.pointer (some ⟨q, 0, none⟩), .pointer (some ⟨p, 0, none⟩), .agg #[.int .i64 3, .int .i64 (a : Int)]] w (StpEnd w B q p gi g m s n T f b sg va vd 100000 (stepM T f.ppl b.sk sg.r 3 a v)) := by
 obtain ⟨hBp, hpl⟩ := hv.n.hp
 have hlt := h.lt
 have hBw := h.hB
 obtain ⟨w1, hw1⟩ : ∃ w1, w1 = w.alloc (.cells #[.int .i64 3, .int .i64 (a : Int)] 87) := ⟨_, rfl⟩
 have hb1 : Blk w1 w.heap.size 87 #[.int .i64 3, .int .i64 (a : Int)] := by rw [hw1]; exact Blk.new _ _ _
 have hbb : Below w.heap.size w w1 := by rw [hw1]; exact (Below.refl _ w).alloc (Nat.le_refl _) _
 have HX := hide (h.below hbb)
 have HV := hide (hv.n.below hbb)
 have HF : Hid (Keep (Fr3 s B w.heap.size) w w1) := hide (keep_fr hbb)
 have HI : Hid (Blk w1 w.heap.size 87 #[.int .i64 3, .int .i64 (a : Int)]) := hide hb1
 have i0 : w1.cell? ⟨w.heap.size, 0, none⟩ = some (.int .i64 3) := hb1.cell 0
 have i1 : w1.cell? ⟨w.heap.size, 1, none⟩ = some (.int .i64 (a : Int)) := hb1.cell 1
 have hwl : w.heap.size < w1.heap.size := hb1.lt
 clear h hbb hb1
 go_enter Tryd.func42, Tryd.ntmps42
 go_upto_region 1 with fail
 rw [← hw1]
 clear hw1
 have hS2 : v.st.length ≤ 2000 := hS.2.2.2
 go_upto_region 2 with (first | (go_at_call 12; refine (int_any _).mono ?_; rintro e w2 ⟨rfl, hb2⟩; replace HX := hide (HX.out.below hb2); replace HV := hide (HV.out.below hb2); replace HF := hide (HF.out.tr (keep_fr hb2)); replace HI := hide (HI.out.below hb2 HI.out.lt); clear hb2) | (go_at_call 58; refine (bool_any _).mono ?_; rintro e w3 ⟨rfl, hb3⟩; replace HX := hide (HX.out.below hb3); replace HV := hide (HV.out.below hb3); replace HF := hide (HF.out.tr (keep_fr hb3)); replace HI := hide (HI.out.below hb3 HI.out.lt); clear hb3))
 obtain ⟨w4, hw4⟩ : ∃ x, x = w3.alloc (.cells #[S [105, 110, 116], .bool false] 24) := ⟨_, rfl⟩
 obtain ⟨w5, hw5⟩ : ∃ x, x = w4.alloc (.cells #[S [98, 111, 111, 108], .bool false] 24) := ⟨_, rfl⟩
 obtain ⟨r7, hr7⟩ : ∃ x, x = w3.heap.size := ⟨_, rfl⟩
 have hs4 : w4.heap.size = r7 + 1 := by rw [hw4, hr7]; simp
 obtain ⟨r8, hr8⟩ : ∃ x, x = r7 + 1 := ⟨_, rfl⟩
 have HT : Hid (Blk w5 r7 24 #[S [105, 110, 116], .bool false]) := hide (by rw [hw5, hw4, hr7]; exact (Blk.new _ _ _).alloc _)
 have HU : Hid (Blk w5 r8 24 #[S [98, 111, 111, 108], .bool false]) := hide (by rw [hr8, ← hs4, hw5]; exact Blk.new _ _ _)
 have hl_r7 : w.heap.size ≤ r7 := by rw [hr7]; exact HF.out.size
 have hbel : Below w3.heap.size w3 w5 := by rw [hw5, hw4]; exact ((Below.refl _ _).alloc (Nat.le_refl _) _).alloc (by simp) _
 replace HX := hide (HX.out.below hbel)
 replace HV := hide (HV.out.below hbel)
 replace HF := hide (HF.out.tr (keep_fr hbel))
 replace HI := hide (HI.out.below hbel HI.out.lt)
 rw [← hw4, ← hw5, ← hr7, ← hr8]
 have hlr8 : w.heap.size ≤ r8 := by omega
 clear hw4 hw5 hr7 hs4 hr8 hbel i0 i1
 have i0 : w5.cell? ⟨w.heap.size, 0, none⟩ = some (.int .i64 3) := HI.out.cell 0
 have i1 : w5.cell? ⟨w.heap.size, 1, none⟩ = some (.int .i64 (a : Int)) := HI.out.cell 1
 have p0 : w5.cell? ⟨r7, 0, none⟩ = some (S [105, 110, 116]) := HT.out.cell 0
 have p1 : w5.cell? ⟨r7, 1, none⟩ = some (.bool false) := HT.out.cell 1
 have u0 : w5.cell? ⟨r8, 0, none⟩ = some (S [98, 111, 111, 108]) := HU.out.cell 0
 have u1 : w5.cell? ⟨r8, 1, none⟩ = some (.bool false) := HU.out.cell 1
 obtain ⟨la, lc, sa, sc, HWs, hpN, hlN, hsN⟩ := HV.out
 have HWS := hide HWs
 obtain ⟨bb, o, rfl, hbF, hbb, hct⟩ := Rd.rec_ (f := Ty.cells) (fun _ => rfl) (own_rd2 HWs.lown) rfl a ha
 have hLa : tyAt v.lo a = v.lo[a] := by unfold tyAt; exact (List.getElem_eq_getD _).symm
 generalize v.lo[a] = X at hct hLa
 obtain ⟨xn, xa⟩ := X
 have c0 : w5.cell? ⟨p, 0, none⟩ = some (.slice (some ⟨bb, o, none⟩) v.lo.length lc) := HWs.blk.cell 0
 have c1 : w5.cell? ⟨bb, o + a * 2, none⟩ = some (S xn) := hct 0 _ rfl
 have c2 : w5.cell? ⟨bb, o + a * 2 + 1, none⟩ = some (.bool xa) := hct 1 _ rfl
 clear hct HWs
 by_cases hz : (⟨xn, xa⟩ : Ty) = kZ
 ·injection hz with hz1 hz2
  subst hz1 hz2
  have HM : Hid (∀ _ : Unit, stepM T f.ppl b.sk sg.r 3 a v = none) := hide (fun _ => by unfold stepM; (iterate 3 rw [if_neg (by decide)]); rw [if_pos (by decide)]; rw [if_pos (by rw [hLa]; rfl)])
  go_upto_region 10 with fail
  go_quiet (fail)
  go_wp2_with fail
  go_ret
  exact ⟨by rw [HM.out ()] <;> rfl, (HX.out.drewN _).mono (by omega), HF.out.drewN _, fun x hx => by rw [HM.out ()] at hx; cases hx⟩
 ·have HM : Hid (∀ _ : Unit, stepM T f.ppl b.sk sg.r 3 a v = puM b.sk ⟨xn, xa⟩ v) := hide (fun _ => by unfold stepM; (iterate 3 rw [if_neg (by decide)]); rw [if_pos (by decide)]; rw [hLa, if_neg hz])
  cases xa
  case true =>
   go_upto_region 10 with fail
   have HX5 := hide HX.out.drew
   have HV5 := hide HV.out.drew
   have HF5 := hide HF.out.drew
   go_still_tail 21, (by kernel_rfl)
   go_wp2_with (go_at_call 59; refine (push_k HX5.out HV5.out (by first | omega | (have := hS.2.2.2; omega)) ⟨xn, true⟩).mono ?_; rintro e w7 ⟨rfl, hx7, hk7, hv7⟩; replace HX := hide hx7; replace HF := hide (HF5.out.tr hk7); have HVE := hide hv7; clear hx7 hk7 hv7)
   go_ret
   exact ⟨by rw [HM.out ()] <;> rfl, HX.out.mono (by omega), HF.out, fun x hx => HVE.out x (by rw [HM.out ()] at hx; exact hx)⟩
  case false =>
   have e1 : ¬ xn = [] := fun h => hz (by rw [h]; rfl)
   have e2 : xn.isEmpty = false := by simpa using e1
   have e3 : ¬ ([] : List UInt8) = xn := fun h => e1 h.symm
   go_upto_region 10 with fail
   have HX5 := hide HX.out.drew
   have HV5 := hide HV.out.drew
   have HF5 := hide HF.out.drew
   go_still_tail 21, (by kernel_rfl)
   go_wp2_with (go_at_call 59; refine (push_k HX5.out HV5.out (by first | omega | (have := hS.2.2.2; omega)) ⟨xn, false⟩).mono ?_; rintro e w7 ⟨rfl, hx7, hk7, hv7⟩; replace HX := hide hx7; replace HF := hide (HF5.out.tr hk7); have HVE := hide hv7; clear hx7 hk7 hv7)
   go_ret
   exact ⟨by rw [HM.out ()] <;> rfl, HX.out.mono (by omega), HF.out, fun x hx => HVE.out x (by rw [HM.out ()] at hx; exact hx)⟩
end Go.Proofs.YtmbegaobnpoefaaDoor
