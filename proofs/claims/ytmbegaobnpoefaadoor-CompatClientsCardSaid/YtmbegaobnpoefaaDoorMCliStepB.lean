/- A state behind an instruction: walked; no statement of the seat is proved here. (Written by gen/vstep.py.) -/
import Derived.Test.YtmbegaobnpoefaaDoorMTk2
import Derived.Test.YtmbegaobnpoefaaDoorMCliObj
import Derived.BigRegion
import Derived.Deep.RegionHeld3
namespace Go.Proofs.YtmbegaobnpoefaaDoor
open Go.RowKit Go.Maps
set_option linter.unusedVariables false
set_option linter.unusedSimpArgs false
set_option maxRecDepth 100000 in
set_option maxHeartbeats 4000000 in
theorem step10 (w : World) (B q p gi g m s n : Nat) (T : List Fc) (f : Fl) (b : Bd) (sg : Sg) (va vd : Value) (v : Vs) (a : Nat) (h : Sx w B q gi g m s n T f b sg va vd) (hv : WsE w B p v) (hS : VsS v) (hn : n ≤ 6000000000000000) :
  Calls Tryd.prog 42 #[.pointer (some ⟨q, 0, none⟩), .pointer (some ⟨p, 0, none⟩), .agg #[.int .i64 10, .int .i64 (a : Int)]] w (StpEnd w B q p gi g m s n T f b sg va vd 100000 (stepM T f.ppl b.sk sg.r 10 a v)) := by
 obtain ⟨hBp, hpl⟩ := hv.n.hp
 have hlt := h.lt
 have hBw := h.hB
 obtain ⟨w1, hw1⟩ : ∃ w1, w1 = w.alloc (.cells #[.int .i64 10, .int .i64 (a : Int)] 87) := ⟨_, rfl⟩
 have hb1 : Blk w1 w.heap.size 87 #[.int .i64 10, .int .i64 (a : Int)] := by rw [hw1]; exact Blk.new _ _ _
 have hbb : Below w.heap.size w w1 := by rw [hw1]; exact (Below.refl _ w).alloc (Nat.le_refl _) _
 have HX := hide (h.below hbb)
 have HV := hide (hv.n.below hbb)
 have HF : Hid (Keep (Fr3 s B w.heap.size) w w1) := hide (keep_fr hbb)
 have HI : Hid (Blk w1 w.heap.size 87 #[.int .i64 10, .int .i64 (a : Int)]) := hide hb1
 have i0 : w1.cell? ⟨w.heap.size, 0, none⟩ = some (.int .i64 10) := hb1.cell 0
 have i1 : w1.cell? ⟨w.heap.size, 1, none⟩ = some (.int .i64 (a : Int)) := hb1.cell 1
 have hwl : w.heap.size < w1.heap.size := hb1.lt
 clear h hbb hb1
 go_enter Tryd.func42, Tryd.ntmps42
 go_upto_region 1 with fail
 rw [← hw1]
 clear hw1
 have hS2 : v.st.length ≤ 2000 := hS.2.2.2
 go_upto_region 2 with (first | (go_at_call 12; refine (int_any _).mono ?_; rintro e w2 ⟨rfl, hb2⟩; replace HX := hide (HX.out.below hb2); replace HV := hide (HV.out.below hb2); replace HF := hide (HF.out.tr (keep_fr hb2)); replace HI := hide (HI.out.below hb2 HI.out.lt); clear hb2) | (go_at_call 58; refine (bool_any _).mono ?_; rintro e w3 ⟨rfl, hb3⟩; replace HX := hide (HX.out.below hb3); replace HV := hide (HV.out.below hb3); replace HF := hide (HF.out.tr (keep_fr hb3)); replace HI := hide (HI.out.below hb3 HI.out.lt); clear hb3))
 obtain ⟨w4, hw4⟩ : ∃ x, x = w3.alloc (.cells #[S [105, 110, 116], .bool false] 24) := ⟨_, rfl⟩
 obtain ⟨w5, hw5⟩ : ∃ x, x = w4.alloc (.cells #[S [98, 111, 111, 108], .bool false] 24) := ⟨_, rfl⟩
 obtain ⟨r7, hr7⟩ : ∃ x, x = w3.heap.size := ⟨_, rfl⟩
 have hs4 : w4.heap.size = r7 + 1 := by rw [hw4, hr7]; simp
 obtain ⟨r8, hr8⟩ : ∃ x, x = r7 + 1 := ⟨_, rfl⟩
 have HT : Hid (Blk w5 r7 24 #[S [105, 110, 116], .bool false]) := hide (by rw [hw5, hw4, hr7]; exact (Blk.new _ _ _).alloc _)
 have HU : Hid (Blk w5 r8 24 #[S [98, 111, 111, 108], .bool false]) := hide (by rw [hr8, ← hs4, hw5]; exact Blk.new _ _ _)
 have hl_r7 : w.heap.size ≤ r7 := by rw [hr7]; exact HF.out.size
 have hbel : Below w3.heap.size w3 w5 := by rw [hw5, hw4]; exact ((Below.refl _ _).alloc (Nat.le_refl _) _).alloc (by simp) _
 replace HX := hide (HX.out.below hbel)
 replace HV := hide (HV.out.below hbel)
 replace HF := hide (HF.out.tr (keep_fr hbel))
 replace HI := hide (HI.out.below hbel HI.out.lt)
 rw [← hw4, ← hw5, ← hr7, ← hr8]
 have hlr8 : w.heap.size ≤ r8 := by omega
 clear hw4 hw5 hr7 hs4 hr8 hbel i0 i1
 have i0 : w5.cell? ⟨w.heap.size, 0, none⟩ = some (.int .i64 10) := HI.out.cell 0
 have i1 : w5.cell? ⟨w.heap.size, 1, none⟩ = some (.int .i64 (a : Int)) := HI.out.cell 1
 have p0 : w5.cell? ⟨r7, 0, none⟩ = some (S [105, 110, 116]) := HT.out.cell 0
 have p1 : w5.cell? ⟨r7, 1, none⟩ = some (.bool false) := HT.out.cell 1
 have u0 : w5.cell? ⟨r8, 0, none⟩ = some (S [98, 111, 111, 108]) := HU.out.cell 0
 have u1 : w5.cell? ⟨r8, 1, none⟩ = some (.bool false) := HU.out.cell 1
 rcases hP : poM T [⟨[105, 110, 116], false⟩, ⟨[105, 110, 116], false⟩] v with _ | v1
 ·have HM : Hid (∀ _ : Unit, stepM T f.ppl b.sk sg.r 10 a v = none) := hide (fun _ => by unfold stepM; (iterate 6 rw [if_neg (by decide)]); rw [if_pos (by decide)]; show ppM T b.sk [⟨[105, 110, 116], false⟩, ⟨[105, 110, 116], false⟩] ⟨[98, 111, 111, 108], false⟩ v = _; unfold ppM; rw [hP]; rfl)
  have HPA : Hid (PuF B q gi g m s T f b sg va vd w.heap.size p (v) 2 #[S [105, 110, 116], .bool false, S [105, 110, 116], .bool false]) := hide (fun ww n' hx hv hw hn => by
   have hb : Below ww.heap.size ww (ww.alloc (.cells #[S [105, 110, 116], .bool false, S [105, 110, 116], .bool false] 24)) := (Below.refl _ _).alloc (Nat.le_refl _) _
   have hlw := hx.vt.tab.slt
   refine (pop_k (nW := 2) (hx.below hb) (hv.below hb) hS [⟨[105, 110, 116], false⟩, ⟨[105, 110, 116], false⟩] (Rd.of_blk (Blk.new ww 24 #[S [105, 110, 116], .bool false, S [105, 110, 116], .bool false]) (by unfold Fr3; omega) rfl) rfl (by omega) hn).mono (fun e w' hh => ?_)
   obtain ⟨h1, h2, h3, h4⟩ := hh
   rw [hP] at h1 h4
   exact ⟨h1, h2, (keep_fr hb).tr h3⟩)
  clear hP
  go_wp2_with (go_at_call 62; refine (HPA.out _ _ HX.out HV.out HF.out.size (by omega)).mono ?_; rintro e w6 ⟨rfl, hx6, hk6⟩; replace HX := hide hx6; replace HF := hide (HF.out.tr hk6); clear HV; clear hx6 hk6)
  go_ret
  exact ⟨by rw [HM.out ()] <;> rfl, HX.out.mono (by omega), HF.out, fun x hx => by rw [HM.out ()] at hx; cases hx⟩
 ·have HM : Hid (∀ _ : Unit, stepM T f.ppl b.sk sg.r 10 a v = puM b.sk ⟨[98, 111, 111, 108], false⟩ v1) := hide (fun _ => by unfold stepM; (iterate 6 rw [if_neg (by decide)]); rw [if_pos (by decide)]; show ppM T b.sk [⟨[105, 110, 116], false⟩, ⟨[105, 110, 116], false⟩] ⟨[98, 111, 111, 108], false⟩ v = _; unfold ppM; rw [hP]; rfl)
  have hS3 : v1.st.length ≤ 2000 := Nat.le_trans (po_len hP) hS2
  have HPA : Hid (PuT B q gi g m s T f b sg va vd w.heap.size p (v) 2 #[S [105, 110, 116], .bool false, S [105, 110, 116], .bool false] v1) := hide (fun ww n' hx hv hw hn => by
   have hb : Below ww.heap.size ww (ww.alloc (.cells #[S [105, 110, 116], .bool false, S [105, 110, 116], .bool false] 24)) := (Below.refl _ _).alloc (Nat.le_refl _) _
   have hlw := hx.vt.tab.slt
   refine (pop_k (nW := 2) (hx.below hb) (hv.below hb) hS [⟨[105, 110, 116], false⟩, ⟨[105, 110, 116], false⟩] (Rd.of_blk (Blk.new ww 24 #[S [105, 110, 116], .bool false, S [105, 110, 116], .bool false]) (by unfold Fr3; omega) rfl) rfl (by omega) hn).mono (fun e w' hh => ?_)
   obtain ⟨h1, h2, h3, h4⟩ := hh
   rw [hP] at h1 h4
   exact ⟨h1, h2, (keep_fr hb).tr h3, h4 _ rfl⟩)
  clear hP
  go_wp2_with (first | (go_at_call 62; refine (HPA.out _ _ HX.out HV.out HF.out.size (by omega)).mono ?_; rintro e w6 ⟨rfl, hx6, hk6, hv6⟩; replace HX := hide hx6; replace HF := hide (HF.out.tr hk6); replace HU := hide (HU.out.keep hk6 (by unfold Fr3; omega)); clear HV; have HV := hide hv6; have x0 : w6.cell? ⟨r8, 0, none⟩ = some (S [98, 111, 111, 108]) := HU.out.cell 0; have x1 : w6.cell? ⟨r8, 1, none⟩ = some (.bool false) := HU.out.cell 1; clear hx6 hk6 hv6) | (go_at_call 59; refine (push_k HX.out HV.out (by first | omega | (have := hS.2.2.2; omega)) ⟨[98, 111, 111, 108], false⟩).mono ?_; rintro e w7 ⟨rfl, hx7, hk7, hv7⟩; replace HX := hide hx7; replace HF := hide (HF.out.tr hk7); have HVE := hide hv7; clear hx7 hk7 hv7))
  go_ret
  exact ⟨by rw [HM.out ()] <;> rfl, HX.out.mono (by omega), HF.out, fun x hx => HVE.out x (by rw [HM.out ()] at hx; exact hx)⟩
set_option maxRecDepth 100000 in
set_option maxHeartbeats 4000000 in
theorem step11 (w : World) (B q p gi g m s n : Nat) (T : List Fc) (f : Fl) (b : Bd) (sg : Sg) (va vd : Value) (v : Vs) (a : Nat) (h : Sx w B q gi g m s n T f b sg va vd) (hv : WsE w B p v) (hS : VsS v) (hn : n ≤ 6000000000000000) :
  Calls Tryd.prog 42 #[.pointer (some ⟨q, 0, none⟩), .pointer (some ⟨p, 0, none⟩), .agg #[.int .i64 11, .int .i64 (a : Int)]] w (StpEnd w B q p gi g m s n T f b sg va vd 100000 (stepM T f.ppl b.sk sg.r 11 a v)) := by
 obtain ⟨hBp, hpl⟩ := hv.n.hp
 have hlt := h.lt
 have hBw := h.hB
 obtain ⟨w1, hw1⟩ : ∃ w1, w1 = w.alloc (.cells #[.int .i64 11, .int .i64 (a : Int)] 87) := ⟨_, rfl⟩
 have hb1 : Blk w1 w.heap.size 87 #[.int .i64 11, .int .i64 (a : Int)] := by rw [hw1]; exact Blk.new _ _ _
 have hbb : Below w.heap.size w w1 := by rw [hw1]; exact (Below.refl _ w).alloc (Nat.le_refl _) _
 have HX := hide (h.below hbb)
 have HV := hide (hv.n.below hbb)
 have HF : Hid (Keep (Fr3 s B w.heap.size) w w1) := hide (keep_fr hbb)
 have HI : Hid (Blk w1 w.heap.size 87 #[.int .i64 11, .int .i64 (a : Int)]) := hide hb1
 have i0 : w1.cell? ⟨w.heap.size, 0, none⟩ = some (.int .i64 11) := hb1.cell 0
 have i1 : w1.cell? ⟨w.heap.size, 1, none⟩ = some (.int .i64 (a : Int)) := hb1.cell 1
 have hwl : w.heap.size < w1.heap.size := hb1.lt
 clear h hbb hb1
 go_enter Tryd.func42, Tryd.ntmps42
 go_upto_region 1 with fail
 rw [← hw1]
 clear hw1
 have hS2 : v.st.length ≤ 2000 := hS.2.2.2
 go_upto_region 2 with (first | (go_at_call 12; refine (int_any _).mono ?_; rintro e w2 ⟨rfl, hb2⟩; replace HX := hide (HX.out.below hb2); replace HV := hide (HV.out.below hb2); replace HF := hide (HF.out.tr (keep_fr hb2)); replace HI := hide (HI.out.below hb2 HI.out.lt); clear hb2) | (go_at_call 58; refine (bool_any _).mono ?_; rintro e w3 ⟨rfl, hb3⟩; replace HX := hide (HX.out.below hb3); replace HV := hide (HV.out.below hb3); replace HF := hide (HF.out.tr (keep_fr hb3)); replace HI := hide (HI.out.below hb3 HI.out.lt); clear hb3))
 obtain ⟨w4, hw4⟩ : ∃ x, x = w3.alloc (.cells #[S [105, 110, 116], .bool false] 24) := ⟨_, rfl⟩
 obtain ⟨w5, hw5⟩ : ∃ x, x = w4.alloc (.cells #[S [98, 111, 111, 108], .bool false] 24) := ⟨_, rfl⟩
 obtain ⟨r7, hr7⟩ : ∃ x, x = w3.heap.size := ⟨_, rfl⟩
 have hs4 : w4.heap.size = r7 + 1 := by rw [hw4, hr7]; simp
 obtain ⟨r8, hr8⟩ : ∃ x, x = r7 + 1 := ⟨_, rfl⟩
 have HT : Hid (Blk w5 r7 24 #[S [105, 110, 116], .bool false]) := hide (by rw [hw5, hw4, hr7]; exact (Blk.new _ _ _).alloc _)
 have HU : Hid (Blk w5 r8 24 #[S [98, 111, 111, 108], .bool false]) := hide (by rw [hr8, ← hs4, hw5]; exact Blk.new _ _ _)
 have hl_r7 : w.heap.size ≤ r7 := by rw [hr7]; exact HF.out.size
 have hbel : Below w3.heap.size w3 w5 := by rw [hw5, hw4]; exact ((Below.refl _ _).alloc (Nat.le_refl _) _).alloc (by simp) _
 replace HX := hide (HX.out.below hbel)
 replace HV := hide (HV.out.below hbel)
 replace HF := hide (HF.out.tr (keep_fr hbel))
 replace HI := hide (HI.out.below hbel HI.out.lt)
 rw [← hw4, ← hw5, ← hr7, ← hr8]
 have hlr8 : w.heap.size ≤ r8 := by omega
 clear hw4 hw5 hr7 hs4 hr8 hbel i0 i1
 have i0 : w5.cell? ⟨w.heap.size, 0, none⟩ = some (.int .i64 11) := HI.out.cell 0
 have i1 : w5.cell? ⟨w.heap.size, 1, none⟩ = some (.int .i64 (a : Int)) := HI.out.cell 1
 have p0 : w5.cell? ⟨r7, 0, none⟩ = some (S [105, 110, 116]) := HT.out.cell 0
 have p1 : w5.cell? ⟨r7, 1, none⟩ = some (.bool false) := HT.out.cell 1
 have u0 : w5.cell? ⟨r8, 0, none⟩ = some (S [98, 111, 111, 108]) := HU.out.cell 0
 have u1 : w5.cell? ⟨r8, 1, none⟩ = some (.bool false) := HU.out.cell 1
 rcases hP : poM T [⟨[105, 110, 116], false⟩, ⟨[105, 110, 116], false⟩] v with _ | v1
 ·have HM : Hid (∀ _ : Unit, stepM T f.ppl b.sk sg.r 11 a v = none) := hide (fun _ => by unfold stepM; (iterate 6 rw [if_neg (by decide)]); rw [if_pos (by decide)]; show ppM T b.sk [⟨[105, 110, 116], false⟩, ⟨[105, 110, 116], false⟩] ⟨[98, 111, 111, 108], false⟩ v = _; unfold ppM; rw [hP]; rfl)
  have HPA : Hid (PuF B q gi g m s T f b sg va vd w.heap.size p (v) 2 #[S [105, 110, 116], .bool false, S [105, 110, 116], .bool false]) := hide (fun ww n' hx hv hw hn => by
   have hb : Below ww.heap.size ww (ww.alloc (.cells #[S [105, 110, 116], .bool false, S [105, 110, 116], .bool false] 24)) := (Below.refl _ _).alloc (Nat.le_refl _) _
   have hlw := hx.vt.tab.slt
   refine (pop_k (nW := 2) (hx.below hb) (hv.below hb) hS [⟨[105, 110, 116], false⟩, ⟨[105, 110, 116], false⟩] (Rd.of_blk (Blk.new ww 24 #[S [105, 110, 116], .bool false, S [105, 110, 116], .bool false]) (by unfold Fr3; omega) rfl) rfl (by omega) hn).mono (fun e w' hh => ?_)
   obtain ⟨h1, h2, h3, h4⟩ := hh
   rw [hP] at h1 h4
   exact ⟨h1, h2, (keep_fr hb).tr h3⟩)
  clear hP
  go_wp2_with (go_at_call 62; refine (HPA.out _ _ HX.out HV.out HF.out.size (by omega)).mono ?_; rintro e w6 ⟨rfl, hx6, hk6⟩; replace HX := hide hx6; replace HF := hide (HF.out.tr hk6); clear HV; clear hx6 hk6)
  go_ret
  exact ⟨by rw [HM.out ()] <;> rfl, HX.out.mono (by omega), HF.out, fun x hx => by rw [HM.out ()] at hx; cases hx⟩
 ·have HM : Hid (∀ _ : Unit, stepM T f.ppl b.sk sg.r 11 a v = puM b.sk ⟨[98, 111, 111, 108], false⟩ v1) := hide (fun _ => by unfold stepM; (iterate 6 rw [if_neg (by decide)]); rw [if_pos (by decide)]; show ppM T b.sk [⟨[105, 110, 116], false⟩, ⟨[105, 110, 116], false⟩] ⟨[98, 111, 111, 108], false⟩ v = _; unfold ppM; rw [hP]; rfl)
  have hS3 : v1.st.length ≤ 2000 := Nat.le_trans (po_len hP) hS2
  have HPA : Hid (PuT B q gi g m s T f b sg va vd w.heap.size p (v) 2 #[S [105, 110, 116], .bool false, S [105, 110, 116], .bool false] v1) := hide (fun ww n' hx hv hw hn => by
   have hb : Below ww.heap.size ww (ww.alloc (.cells #[S [105, 110, 116], .bool false, S [105, 110, 116], .bool false] 24)) := (Below.refl _ _).alloc (Nat.le_refl _) _
   have hlw := hx.vt.tab.slt
   refine (pop_k (nW := 2) (hx.below hb) (hv.below hb) hS [⟨[105, 110, 116], false⟩, ⟨[105, 110, 116], false⟩] (Rd.of_blk (Blk.new ww 24 #[S [105, 110, 116], .bool false, S [105, 110, 116], .bool false]) (by unfold Fr3; omega) rfl) rfl (by omega) hn).mono (fun e w' hh => ?_)
   obtain ⟨h1, h2, h3, h4⟩ := hh
   rw [hP] at h1 h4
   exact ⟨h1, h2, (keep_fr hb).tr h3, h4 _ rfl⟩)
  clear hP
  go_wp2_with (first | (go_at_call 62; refine (HPA.out _ _ HX.out HV.out HF.out.size (by omega)).mono ?_; rintro e w6 ⟨rfl, hx6, hk6, hv6⟩; replace HX := hide hx6; replace HF := hide (HF.out.tr hk6); replace HU := hide (HU.out.keep hk6 (by unfold Fr3; omega)); clear HV; have HV := hide hv6; have x0 : w6.cell? ⟨r8, 0, none⟩ = some (S [98, 111, 111, 108]) := HU.out.cell 0; have x1 : w6.cell? ⟨r8, 1, none⟩ = some (.bool false) := HU.out.cell 1; clear hx6 hk6 hv6) | (go_at_call 59; refine (push_k HX.out HV.out (by first | omega | (have := hS.2.2.2; omega)) ⟨[98, 111, 111, 108], false⟩).mono ?_; rintro e w7 ⟨rfl, hx7, hk7, hv7⟩; replace HX := hide hx7; replace HF := hide (HF.out.tr hk7); have HVE := hide hv7; clear hx7 hk7 hv7))
  go_ret
  exact ⟨by rw [HM.out ()] <;> rfl, HX.out.mono (by omega), HF.out, fun x hx => HVE.out x (by rw [HM.out ()] at hx; exact hx)⟩
set_option maxRecDepth 100000 in
set_option maxHeartbeats 4000000 in
theorem step14 (w : World) (B q p gi g m s n : Nat) (T : List Fc) (f : Fl) (b : Bd) (sg : Sg) (va vd : Value) (v : Vs) (a : Nat) (h : Sx w B q gi g m s n T f b sg va vd) (hv : WsE w B p v) (hS : VsS v) (hn : n ≤ 6000000000000000) :
  Calls Tryd.prog 42 #[.pointer (some ⟨q, 0, none⟩), .pointer (some ⟨p, 0, none⟩), .agg #[.int .i64 14, .int .i64 (a : Int)]] w (StpEnd w B q p gi g m s n T f b sg va vd 100000 (stepM T f.ppl b.sk sg.r 14 a v)) := by
 obtain ⟨hBp, hpl⟩ := hv.n.hp
 have hlt := h.lt
 have hBw := h.hB
 obtain ⟨w1, hw1⟩ : ∃ w1, w1 = w.alloc (.cells #[.int .i64 14, .int .i64 (a : Int)] 87) := ⟨_, rfl⟩
 have hb1 : Blk w1 w.heap.size 87 #[.int .i64 14, .int .i64 (a : Int)] := by rw [hw1]; exact Blk.new _ _ _
 have hbb : Below w.heap.size w w1 := by rw [hw1]; exact (Below.refl _ w).alloc (Nat.le_refl _) _
 have HX := hide (h.below hbb)
 have HV := hide (hv.n.below hbb)
 have HF : Hid (Keep (Fr3 s B w.heap.size) w w1) := hide (keep_fr hbb)
 have HI : Hid (Blk w1 w.heap.size 87 #[.int .i64 14, .int .i64 (a : Int)]) := hide hb1
 have i0 : w1.cell? ⟨w.heap.size, 0, none⟩ = some (.int .i64 14) := hb1.cell 0
 have i1 : w1.cell? ⟨w.heap.size, 1, none⟩ = some (.int .i64 (a : Int)) := hb1.cell 1
 have hwl : w.heap.size < w1.heap.size := hb1.lt
 clear h hbb hb1
 go_enter Tryd.func42, Tryd.ntmps42
 go_upto_region 1 with fail
 rw [← hw1]
 clear hw1
 have hS2 : v.st.length ≤ 2000 := hS.2.2.2
 go_upto_region 2 with (first | (go_at_call 12; refine (int_any _).mono ?_; rintro e w2 ⟨rfl, hb2⟩; replace HX := hide (HX.out.below hb2); replace HV := hide (HV.out.below hb2); replace HF := hide (HF.out.tr (keep_fr hb2)); replace HI := hide (HI.out.below hb2 HI.out.lt); clear hb2) | (go_at_call 58; refine (bool_any _).mono ?_; rintro e w3 ⟨rfl, hb3⟩; replace HX := hide (HX.out.below hb3); replace HV := hide (HV.out.below hb3); replace HF := hide (HF.out.tr (keep_fr hb3)); replace HI := hide (HI.out.below hb3 HI.out.lt); clear hb3))
 obtain ⟨w4, hw4⟩ : ∃ x, x = w3.alloc (.cells #[S [105, 110, 116], .bool false] 24) := ⟨_, rfl⟩
 obtain ⟨w5, hw5⟩ : ∃ x, x = w4.alloc (.cells #[S [98, 111, 111, 108], .bool false] 24) := ⟨_, rfl⟩
 obtain ⟨r7, hr7⟩ : ∃ x, x = w3.heap.size := ⟨_, rfl⟩
 have hs4 : w4.heap.size = r7 + 1 := by rw [hw4, hr7]; simp
 obtain ⟨r8, hr8⟩ : ∃ x, x = r7 + 1 := ⟨_, rfl⟩
 have HT : Hid (Blk w5 r7 24 #[S [105, 110, 116], .bool false]) := hide (by rw [hw5, hw4, hr7]; exact (Blk.new _ _ _).alloc _)
 have HU : Hid (Blk w5 r8 24 #[S [98, 111, 111, 108], .bool false]) := hide (by rw [hr8, ← hs4, hw5]; exact Blk.new _ _ _)
 have hl_r7 : w.heap.size ≤ r7 := by rw [hr7]; exact HF.out.size
 have hbel : Below w3.heap.size w3 w5 := by rw [hw5, hw4]; exact ((Below.refl _ _).alloc (Nat.le_refl _) _).alloc (by simp) _
 replace HX := hide (HX.out.below hbel)
 replace HV := hide (HV.out.below hbel)
 replace HF := hide (HF.out.tr (keep_fr hbel))
 replace HI := hide (HI.out.below hbel HI.out.lt)
 rw [← hw4, ← hw5, ← hr7, ← hr8]
 have hlr8 : w.heap.size ≤ r8 := by omega
 clear hw4 hw5 hr7 hs4 hr8 hbel i0 i1
 have i0 : w5.cell? ⟨w.heap.size, 0, none⟩ = some (.int .i64 14) := HI.out.cell 0
 have i1 : w5.cell? ⟨w.heap.size, 1, none⟩ = some (.int .i64 (a : Int)) := HI.out.cell 1
 have p0 : w5.cell? ⟨r7, 0, none⟩ = some (S [105, 110, 116]) := HT.out.cell 0
 have p1 : w5.cell? ⟨r7, 1, none⟩ = some (.bool false) := HT.out.cell 1
 have u0 : w5.cell? ⟨r8, 0, none⟩ = some (S [98, 111, 111, 108]) := HU.out.cell 0
 have u1 : w5.cell? ⟨r8, 1, none⟩ = some (.bool false) := HU.out.cell 1
 rcases hP : poM T [⟨[105, 110, 116], false⟩] v with _ | v1
 ·have HM : Hid (∀ _ : Unit, stepM T f.ppl b.sk sg.r 14 a v = none) := hide (fun _ => by unfold stepM; (iterate 7 rw [if_neg (by decide)]); rw [if_pos (by decide)]; show ppM T b.sk [⟨[105, 110, 116], false⟩] ⟨[105, 110, 116], false⟩ v = _; unfold ppM; rw [hP]; rfl)
  have HPA : Hid (PuF B q gi g m s T f b sg va vd w.heap.size p (v) 1 #[S [105, 110, 116], .bool false]) := hide (fun ww n' hx hv hw hn => by
   have hb : Below ww.heap.size ww (ww.alloc (.cells #[S [105, 110, 116], .bool false] 24)) := (Below.refl _ _).alloc (Nat.le_refl _) _
   have hlw := hx.vt.tab.slt
   refine (pop_k (nW := 1) (hx.below hb) (hv.below hb) hS [⟨[105, 110, 116], false⟩] (Rd.of_blk (Blk.new ww 24 #[S [105, 110, 116], .bool false]) (by unfold Fr3; omega) rfl) rfl (by omega) hn).mono (fun e w' hh => ?_)
   obtain ⟨h1, h2, h3, h4⟩ := hh
   rw [hP] at h1 h4
   exact ⟨h1, h2, (keep_fr hb).tr h3⟩)
  clear hP
  go_wp2_with (go_at_call 62; refine (HPA.out _ _ HX.out HV.out HF.out.size (by omega)).mono ?_; rintro e w6 ⟨rfl, hx6, hk6⟩; replace HX := hide hx6; replace HF := hide (HF.out.tr hk6); clear HV; clear hx6 hk6)
  go_ret
  exact ⟨by rw [HM.out ()] <;> rfl, HX.out.mono (by omega), HF.out, fun x hx => by rw [HM.out ()] at hx; cases hx⟩
 ·have HM : Hid (∀ _ : Unit, stepM T f.ppl b.sk sg.r 14 a v = puM b.sk ⟨[105, 110, 116], false⟩ v1) := hide (fun _ => by unfold stepM; (iterate 7 rw [if_neg (by decide)]); rw [if_pos (by decide)]; show ppM T b.sk [⟨[105, 110, 116], false⟩] ⟨[105, 110, 116], false⟩ v = _; unfold ppM; rw [hP]; rfl)
  have hS3 : v1.st.length ≤ 2000 := Nat.le_trans (po_len hP) hS2
  have HPA : Hid (PuT B q gi g m s T f b sg va vd w.heap.size p (v) 1 #[S [105, 110, 116], .bool false] v1) := hide (fun ww n' hx hv hw hn => by
   have hb : Below ww.heap.size ww (ww.alloc (.cells #[S [105, 110, 116], .bool false] 24)) := (Below.refl _ _).alloc (Nat.le_refl _) _
   have hlw := hx.vt.tab.slt
   refine (pop_k (nW := 1) (hx.below hb) (hv.below hb) hS [⟨[105, 110, 116], false⟩] (Rd.of_blk (Blk.new ww 24 #[S [105, 110, 116], .bool false]) (by unfold Fr3; omega) rfl) rfl (by omega) hn).mono (fun e w' hh => ?_)
   obtain ⟨h1, h2, h3, h4⟩ := hh
   rw [hP] at h1 h4
   exact ⟨h1, h2, (keep_fr hb).tr h3, h4 _ rfl⟩)
  clear hP
  go_wp2_with (first | (go_at_call 62; refine (HPA.out _ _ HX.out HV.out HF.out.size (by omega)).mono ?_; rintro e w6 ⟨rfl, hx6, hk6, hv6⟩; replace HX := hide hx6; replace HF := hide (HF.out.tr hk6); replace HT := hide (HT.out.keep hk6 (by unfold Fr3; omega)); clear HV; have HV := hide hv6; have x0 : w6.cell? ⟨r7, 0, none⟩ = some (S [105, 110, 116]) := HT.out.cell 0; have x1 : w6.cell? ⟨r7, 1, none⟩ = some (.bool false) := HT.out.cell 1; clear hx6 hk6 hv6) | (go_at_call 59; refine (push_k HX.out HV.out (by first | omega | (have := hS.2.2.2; omega)) ⟨[105, 110, 116], false⟩).mono ?_; rintro e w7 ⟨rfl, hx7, hk7, hv7⟩; replace HX := hide hx7; replace HF := hide (HF.out.tr hk7); have HVE := hide hv7; clear hx7 hk7 hv7))
  go_ret
  exact ⟨by rw [HM.out ()] <;> rfl, HX.out.mono (by omega), HF.out, fun x hx => HVE.out x (by rw [HM.out ()] at hx; exact hx)⟩
set_option maxRecDepth 100000 in
set_option maxHeartbeats 4000000 in
theorem step15 (w : World) (B q p gi g m s n : Nat) (T : List Fc) (f : Fl) (b : Bd) (sg : Sg) (va vd : Value) (v : Vs) (a : Nat) (h : Sx w B q gi g m s n T f b sg va vd) (hv : WsE w B p v) (hS : VsS v) (hn : n ≤ 6000000000000000) :
  Calls Tryd.prog 42 #[.pointer (some ⟨q, 0, none⟩), .pointer (some ⟨p, 0, none⟩), .agg #[.int .i64 15, .int .i64 (a : Int)]] w (StpEnd w B q p gi g m s n T f b sg va vd 100000 (stepM T f.ppl b.sk sg.r 15 a v)) := by
 obtain ⟨hBp, hpl⟩ := hv.n.hp
 have hlt := h.lt
 have hBw := h.hB
 obtain ⟨w1, hw1⟩ : ∃ w1, w1 = w.alloc (.cells #[.int .i64 15, .int .i64 (a : Int)] 87) := ⟨_, rfl⟩
 have hb1 : Blk w1 w.heap.size 87 #[.int .i64 15, .int .i64 (a : Int)] := by rw [hw1]; exact Blk.new _ _ _
 have hbb : Below w.heap.size w w1 := by rw [hw1]; exact (Below.refl _ w).alloc (Nat.le_refl _) _
 have HX := hide (h.below hbb)
 have HV := hide (hv.n.below hbb)
 have HF : Hid (Keep (Fr3 s B w.heap.size) w w1) := hide (keep_fr hbb)
 have HI : Hid (Blk w1 w.heap.size 87 #[.int .i64 15, .int .i64 (a : Int)]) := hide hb1
 have i0 : w1.cell? ⟨w.heap.size, 0, none⟩ = some (.int .i64 15) := hb1.cell 0
 have i1 : w1.cell? ⟨w.heap.size, 1, none⟩ = some (.int .i64 (a : Int)) := hb1.cell 1
 have hwl : w.heap.size < w1.heap.size := hb1.lt
 clear h hbb hb1
 go_enter Tryd.func42, Tryd.ntmps42
 go_upto_region 1 with fail
 rw [← hw1]
 clear hw1
 have hS2 : v.st.length ≤ 2000 := hS.2.2.2
 go_upto_region 2 with (first | (go_at_call 12; refine (int_any _).mono ?_; rintro e w2 ⟨rfl, hb2⟩; replace HX := hide (HX.out.below hb2); replace HV := hide (HV.out.below hb2); replace HF := hide (HF.out.tr (keep_fr hb2)); replace HI := hide (HI.out.below hb2 HI.out.lt); clear hb2) | (go_at_call 58; refine (bool_any _).mono ?_; rintro e w3 ⟨rfl, hb3⟩; replace HX := hide (HX.out.below hb3); replace HV := hide (HV.out.below hb3); replace HF := hide (HF.out.tr (keep_fr hb3)); replace HI := hide (HI.out.below hb3 HI.out.lt); clear hb3))
 obtain ⟨w4, hw4⟩ : ∃ x, x = w3.alloc (.cells #[S [105, 110, 116], .bool false] 24) := ⟨_, rfl⟩
 obtain ⟨w5, hw5⟩ : ∃ x, x = w4.alloc (.cells #[S [98, 111, 111, 108], .bool false] 24) := ⟨_, rfl⟩
 obtain ⟨r7, hr7⟩ : ∃ x, x = w3.heap.size := ⟨_, rfl⟩
 have hs4 : w4.heap.size = r7 + 1 := by rw [hw4, hr7]; simp
 obtain ⟨r8, hr8⟩ : ∃ x, x = r7 + 1 := ⟨_, rfl⟩
 have HT : Hid (Blk w5 r7 24 #[S [105, 110, 116], .bool false]) := hide (by rw [hw5, hw4, hr7]; exact (Blk.new _ _ _).alloc _)
 have HU : Hid (Blk w5 r8 24 #[S [98, 111, 111, 108], .bool false]) := hide (by rw [hr8, ← hs4, hw5]; exact Blk.new _ _ _)
 have hl_r7 : w.heap.size ≤ r7 := by rw [hr7]; exact HF.out.size
 have hbel : Below w3.heap.size w3 w5 := by rw [hw5, hw4]; exact ((Below.refl _ _).alloc (Nat.le_refl _) _).alloc (by simp) _
 replace HX := hide (HX.out.below hbel)
 replace HV := hide (HV.out.below hbel)
 replace HF := hide (HF.out.tr (keep_fr hbel))
 replace HI := hide (HI.out.below hbel HI.out.lt)
 rw [← hw4, ← hw5, ← hr7, ← hr8]
 have hlr8 : w.heap.size ≤ r8 := by omega
 clear hw4 hw5 hr7 hs4 hr8 hbel i0 i1
 have i0 : w5.cell? ⟨w.heap.size, 0, none⟩ = some (.int .i64 15) := HI.out.cell 0
 have i1 : w5.cell? ⟨w.heap.size, 1, none⟩ = some (.int .i64 (a : Int)) := HI.out.cell 1
 have p0 : w5.cell? ⟨r7, 0, none⟩ = some (S [105, 110, 116]) := HT.out.cell 0
 have p1 : w5.cell? ⟨r7, 1, none⟩ = some (.bool false) := HT.out.cell 1
 have u0 : w5.cell? ⟨r8, 0, none⟩ = some (S [98, 111, 111, 108]) := HU.out.cell 0
 have u1 : w5.cell? ⟨r8, 1, none⟩ = some (.bool false) := HU.out.cell 1
 rcases hP : poM T [⟨[98, 111, 111, 108], false⟩] v with _ | v1
 ·have HM : Hid (∀ _ : Unit, stepM T f.ppl b.sk sg.r 15 a v = none) := hide (fun _ => by unfold stepM; (iterate 8 rw [if_neg (by decide)]); rw [if_pos (by decide)]; show ppM T b.sk [⟨[98, 111, 111, 108], false⟩] ⟨[98, 111, 111, 108], false⟩ v = _; unfold ppM; rw [hP]; rfl)
  have HPA : Hid (PuF B q gi g m s T f b sg va vd w.heap.size p (v) 1 #[S [98, 111, 111, 108], .bool false]) := hide (fun ww n' hx hv hw hn => by
   have hb : Below ww.heap.size ww (ww.alloc (.cells #[S [98, 111, 111, 108], .bool false] 24)) := (Below.refl _ _).alloc (Nat.le_refl _) _
   have hlw := hx.vt.tab.slt
   refine (pop_k (nW := 1) (hx.below hb) (hv.below hb) hS [⟨[98, 111, 111, 108], false⟩] (Rd.of_blk (Blk.new ww 24 #[S [98, 111, 111, 108], .bool false]) (by unfold Fr3; omega) rfl) rfl (by omega) hn).mono (fun e w' hh => ?_)
   obtain ⟨h1, h2, h3, h4⟩ := hh
   rw [hP] at h1 h4
   exact ⟨h1, h2, (keep_fr hb).tr h3⟩)
  clear hP
  go_wp2_with (go_at_call 62; refine (HPA.out _ _ HX.out HV.out HF.out.size (by omega)).mono ?_; rintro e w6 ⟨rfl, hx6, hk6⟩; replace HX := hide hx6; replace HF := hide (HF.out.tr hk6); clear HV; clear hx6 hk6)
  go_ret
  exact ⟨by rw [HM.out ()] <;> rfl, HX.out.mono (by omega), HF.out, fun x hx => by rw [HM.out ()] at hx; cases hx⟩
 ·have HM : Hid (∀ _ : Unit, stepM T f.ppl b.sk sg.r 15 a v = puM b.sk ⟨[98, 111, 111, 108], false⟩ v1) := hide (fun _ => by unfold stepM; (iterate 8 rw [if_neg (by decide)]); rw [if_pos (by decide)]; show ppM T b.sk [⟨[98, 111, 111, 108], false⟩] ⟨[98, 111, 111, 108], false⟩ v = _; unfold ppM; rw [hP]; rfl)
  have hS3 : v1.st.length ≤ 2000 := Nat.le_trans (po_len hP) hS2
  have HPA : Hid (PuT B q gi g m s T f b sg va vd w.heap.size p (v) 1 #[S [98, 111, 111, 108], .bool false] v1) := hide (fun ww n' hx hv hw hn => by
   have hb : Below ww.heap.size ww (ww.alloc (.cells #[S [98, 111, 111, 108], .bool false] 24)) := (Below.refl _ _).alloc (Nat.le_refl _) _
   have hlw := hx.vt.tab.slt
   refine (pop_k (nW := 1) (hx.below hb) (hv.below hb) hS [⟨[98, 111, 111, 108], false⟩] (Rd.of_blk (Blk.new ww 24 #[S [98, 111, 111, 108], .bool false]) (by unfold Fr3; omega) rfl) rfl (by omega) hn).mono (fun e w' hh => ?_)
   obtain ⟨h1, h2, h3, h4⟩ := hh
   rw [hP] at h1 h4
   exact ⟨h1, h2, (keep_fr hb).tr h3, h4 _ rfl⟩)
  clear hP
  go_wp2_with (first | (go_at_call 62; refine (HPA.out _ _ HX.out HV.out HF.out.size (by omega)).mono ?_; rintro e w6 ⟨rfl, hx6, hk6, hv6⟩; replace HX := hide hx6; replace HF := hide (HF.out.tr hk6); replace HU := hide (HU.out.keep hk6 (by unfold Fr3; omega)); clear HV; have HV := hide hv6; have x0 : w6.cell? ⟨r8, 0, none⟩ = some (S [98, 111, 111, 108]) := HU.out.cell 0; have x1 : w6.cell? ⟨r8, 1, none⟩ = some (.bool false) := HU.out.cell 1; clear hx6 hk6 hv6) | (go_at_call 59; refine (push_k HX.out HV.out (by first | omega | (have := hS.2.2.2; omega)) ⟨[98, 111, 111, 108], false⟩).mono ?_; rintro e w7 ⟨rfl, hx7, hk7, hv7⟩; replace HX := hide hx7; replace HF := hide (HF.out.tr hk7); have HVE := hide hv7; clear hx7 hk7 hv7))
  go_ret
  exact ⟨by rw [HM.out ()] <;> rfl, HX.out.mono (by omega), HF.out, fun x hx => HVE.out x (by rw [HM.out ()] at hx; exact hx)⟩
set_option maxRecDepth 100000 in
set_option maxHeartbeats 4000000 in
theorem step30 (w : World) (B q p gi g m s n : Nat) (T : List Fc) (f : Fl) (b : Bd) (sg : Sg) (va vd : Value) (v : Vs) (a : Nat) (h : Sx w B q gi g m s n T f b sg va vd) (hv : WsE w B p v) (hS : VsS v) (hn : n ≤ 6000000000000000) :
  Calls Tryd.prog 42 #[.pointer (some ⟨q, 0, none⟩), .pointer (some ⟨p, 0, none⟩), .agg #[.int .i64 30, .int .i64 (a : Int)]] w (StpEnd w B q p gi g m s n T f b sg va vd 100000 (stepM T f.ppl b.sk sg.r 30 a v)) := by
 obtain ⟨hBp, hpl⟩ := hv.n.hp
 have hlt := h.lt
 have hBw := h.hB
 obtain ⟨w1, hw1⟩ : ∃ w1, w1 = w.alloc (.cells #[.int .i64 30, .int .i64 (a : Int)] 87) := ⟨_, rfl⟩
 have hb1 : Blk w1 w.heap.size 87 #[.int .i64 30, .int .i64 (a : Int)] := by rw [hw1]; exact Blk.new _ _ _
 have hbb : Below w.heap.size w w1 := by rw [hw1]; exact (Below.refl _ w).alloc (Nat.le_refl _) _
 have HX := hide (h.below hbb)
 have HV := hide (hv.n.below hbb)
 have HF : Hid (Keep (Fr3 s B w.heap.size) w w1) := hide (keep_fr hbb)
 have HI : Hid (Blk w1 w.heap.size 87 #[.int .i64 30, .int .i64 (a : Int)]) := hide hb1
 have i0 : w1.cell? ⟨w.heap.size, 0, none⟩ = some (.int .i64 30) := hb1.cell 0
 have i1 : w1.cell? ⟨w.heap.size, 1, none⟩ = some (.int .i64 (a : Int)) := hb1.cell 1
 have hwl : w.heap.size < w1.heap.size := hb1.lt
 clear h hbb hb1
 go_enter Tryd.func42, Tryd.ntmps42
 go_upto_region 1 with fail
 rw [← hw1]
 clear hw1
 have hS2 : v.st.length ≤ 2000 := hS.2.2.2
 go_upto_region 2 with (first | (go_at_call 12; refine (int_any _).mono ?_; rintro e w2 ⟨rfl, hb2⟩; replace HX := hide (HX.out.below hb2); replace HV := hide (HV.out.below hb2); replace HF := hide (HF.out.tr (keep_fr hb2)); replace HI := hide (HI.out.below hb2 HI.out.lt); clear hb2) | (go_at_call 58; refine (bool_any _).mono ?_; rintro e w3 ⟨rfl, hb3⟩; replace HX := hide (HX.out.below hb3); replace HV := hide (HV.out.below hb3); replace HF := hide (HF.out.tr (keep_fr hb3)); replace HI := hide (HI.out.below hb3 HI.out.lt); clear hb3))
 obtain ⟨w4, hw4⟩ : ∃ x, x = w3.alloc (.cells #[S [105, 110, 116], .bool false] 24) := ⟨_, rfl⟩
 obtain ⟨w5, hw5⟩ : ∃ x, x = w4.alloc (.cells #[S [98, 111, 111, 108], .bool false] 24) := ⟨_, rfl⟩
 obtain ⟨r7, hr7⟩ : ∃ x, x = w3.heap.size := ⟨_, rfl⟩
 have hs4 : w4.heap.size = r7 + 1 := by rw [hw4, hr7]; simp
 obtain ⟨r8, hr8⟩ : ∃ x, x = r7 + 1 := ⟨_, rfl⟩
 have HT : Hid (Blk w5 r7 24 #[S [105, 110, 116], .bool false]) := hide (by rw [hw5, hw4, hr7]; exact (Blk.new _ _ _).alloc _)
 have HU : Hid (Blk w5 r8 24 #[S [98, 111, 111, 108], .bool false]) := hide (by rw [hr8, ← hs4, hw5]; exact Blk.new _ _ _)
 have hl_r7 : w.heap.size ≤ r7 := by rw [hr7]; exact HF.out.size
 have hbel : Below w3.heap.size w3 w5 := by rw [hw5, hw4]; exact ((Below.refl _ _).alloc (Nat.le_refl _) _).alloc (by simp) _
 replace HX := hide (HX.out.below hbel)
 replace HV := hide (HV.out.below hbel)
 replace HF := hide (HF.out.tr (keep_fr hbel))
 replace HI := hide (HI.out.below hbel HI.out.lt)
 rw [← hw4, ← hw5, ← hr7, ← hr8]
 have hlr8 : w.heap.size ≤ r8 := by omega
 clear hw4 hw5 hr7 hs4 hr8 hbel i0 i1
 have i0 : w5.cell? ⟨w.heap.size, 0, none⟩ = some (.int .i64 30) := HI.out.cell 0
 have i1 : w5.cell? ⟨w.heap.size, 1, none⟩ = some (.int .i64 (a : Int)) := HI.out.cell 1
 have p0 : w5.cell? ⟨r7, 0, none⟩ = some (S [105, 110, 116]) := HT.out.cell 0
 have p1 : w5.cell? ⟨r7, 1, none⟩ = some (.bool false) := HT.out.cell 1
 have u0 : w5.cell? ⟨r8, 0, none⟩ = some (S [98, 111, 111, 108]) := HU.out.cell 0
 have u1 : w5.cell? ⟨r8, 1, none⟩ = some (.bool false) := HU.out.cell 1
 rcases hP : poM T [⟨[105, 110, 116], false⟩] v with _ | v1
 ·have HM : Hid (∀ _ : Unit, stepM T f.ppl b.sk sg.r 30 a v = none) := hide (fun _ => by unfold stepM; (iterate 10 rw [if_neg (by decide)]); rw [if_pos (by decide)]; exact hP)
  have HPA : Hid (PuF B q gi g m s T f b sg va vd w.heap.size p (v) 1 #[S [105, 110, 116], .bool false]) := hide (fun ww n' hx hv hw hn => by
   have hb : Below ww.heap.size ww (ww.alloc (.cells #[S [105, 110, 116], .bool false] 24)) := (Below.refl _ _).alloc (Nat.le_refl _) _
   have hlw := hx.vt.tab.slt
   refine (pop_k (nW := 1) (hx.below hb) (hv.below hb) hS [⟨[105, 110, 116], false⟩] (Rd.of_blk (Blk.new ww 24 #[S [105, 110, 116], .bool false]) (by unfold Fr3; omega) rfl) rfl (by omega) hn).mono (fun e w' hh => ?_)
   obtain ⟨h1, h2, h3, h4⟩ := hh
   rw [hP] at h1 h4
   exact ⟨h1, h2, (keep_fr hb).tr h3⟩)
  clear hP
  go_wp2_with (go_at_call 62; refine (HPA.out _ _ HX.out HV.out HF.out.size (by omega)).mono ?_; rintro e w6 ⟨rfl, hx6, hk6⟩; replace HX := hide hx6; replace HF := hide (HF.out.tr hk6); clear HV; clear hx6 hk6)
  go_ret
  exact ⟨by rw [HM.out ()] <;> rfl, HX.out.mono (by omega), HF.out, fun x hx => by rw [HM.out ()] at hx; cases hx⟩
 ·have HM : Hid (∀ _ : Unit, stepM T f.ppl b.sk sg.r 30 a v = some v1) := hide (fun _ => by unfold stepM; (iterate 10 rw [if_neg (by decide)]); rw [if_pos (by decide)]; exact hP)
  have HPA : Hid (PuT B q gi g m s T f b sg va vd w.heap.size p (v) 1 #[S [105, 110, 116], .bool false] v1) := hide (fun ww n' hx hv hw hn => by
   have hb : Below ww.heap.size ww (ww.alloc (.cells #[S [105, 110, 116], .bool false] 24)) := (Below.refl _ _).alloc (Nat.le_refl _) _
   have hlw := hx.vt.tab.slt
   refine (pop_k (nW := 1) (hx.below hb) (hv.below hb) hS [⟨[105, 110, 116], false⟩] (Rd.of_blk (Blk.new ww 24 #[S [105, 110, 116], .bool false]) (by unfold Fr3; omega) rfl) rfl (by omega) hn).mono (fun e w' hh => ?_)
   obtain ⟨h1, h2, h3, h4⟩ := hh
   rw [hP] at h1 h4
   exact ⟨h1, h2, (keep_fr hb).tr h3, h4 _ rfl⟩)
  clear hP
  go_wp2_with (go_at_call 62; refine (HPA.out _ _ HX.out HV.out HF.out.size (by omega)).mono ?_; rintro e w6 ⟨rfl, hx6, hk6, hv6⟩; replace HX := hide hx6; replace HF := hide (HF.out.tr hk6); clear HV; have HV := hide hv6; clear hx6 hk6 hv6)
  go_ret
  exact ⟨by rw [HM.out ()] <;> rfl, HX.out.mono (by omega), HF.out, fun x hx => by rw [HM.out ()] at hx; injection hx with hx; subst hx; exact HV.out.e⟩
set_option maxRecDepth 100000 in
set_option maxHeartbeats 4000000 in
theorem step28 (w : World) (B q p gi g m s n : Nat) (T : List Fc) (f : Fl) (b : Bd) (sg : Sg) (va vd : Value) (v : Vs) (a : Nat) (h : Sx w B q gi g m s n T f b sg va vd) (hv : WsE w B p v) (hS : VsS v) (hn : n ≤ 6000000000000000) :
  Calls Tryd.prog 42 #[.pointer (some ⟨q, 0, none⟩), .pointer (some ⟨p, 0, none⟩), .agg #[.int .i64 28, .int .i64 (a : Int)]] w (StpEnd w B q p gi g m s n T f b sg va vd 100000 (stepM T f.ppl b.sk sg.r 28 a v)) := by
 obtain ⟨hBp, hpl⟩ := hv.n.hp
 have hlt := h.lt
 have hBw := h.hB
 obtain ⟨w1, hw1⟩ : ∃ w1, w1 = w.alloc (.cells #[.int .i64 28, .int .i64 (a : Int)] 87) := ⟨_, rfl⟩
 have hb1 : Blk w1 w.heap.size 87 #[.int .i64 28, .int .i64 (a : Int)] := by rw [hw1]; exact Blk.new _ _ _
 have hbb : Below w.heap.size w w1 := by rw [hw1]; exact (Below.refl _ w).alloc (Nat.le_refl _) _
 have HX := hide (h.below hbb)
 have HV := hide (hv.n.below hbb)
 have HF : Hid (Keep (Fr3 s B w.heap.size) w w1) := hide (keep_fr hbb)
 have HI : Hid (Blk w1 w.heap.size 87 #[.int .i64 28, .int .i64 (a : Int)]) := hide hb1
 have i0 : w1.cell? ⟨w.heap.size, 0, none⟩ = some (.int .i64 28) := hb1.cell 0
 have i1 : w1.cell? ⟨w.heap.size, 1, none⟩ = some (.int .i64 (a : Int)) := hb1.cell 1
 have hwl : w.heap.size < w1.heap.size := hb1.lt
 clear h hbb hb1
 go_enter Tryd.func42, Tryd.ntmps42
 go_upto_region 1 with fail
 rw [← hw1]
 clear hw1
 have hS2 : v.st.length ≤ 2000 := hS.2.2.2
 go_upto_region 2 with (first | (go_at_call 12; refine (int_any _).mono ?_; rintro e w2 ⟨rfl, hb2⟩; replace HX := hide (HX.out.below hb2); replace HV := hide (HV.out.below hb2); replace HF := hide (HF.out.tr (keep_fr hb2)); replace HI := hide (HI.out.below hb2 HI.out.lt); clear hb2) | (go_at_call 58; refine (bool_any _).mono ?_; rintro e w3 ⟨rfl, hb3⟩; replace HX := hide (HX.out.below hb3); replace HV := hide (HV.out.below hb3); replace HF := hide (HF.out.tr (keep_fr hb3)); replace HI := hide (HI.out.below hb3 HI.out.lt); clear hb3))
 obtain ⟨w4, hw4⟩ : ∃ x, x = w3.alloc (.cells #[S [105, 110, 116], .bool false] 24) := ⟨_, rfl⟩
 obtain ⟨w5, hw5⟩ : ∃ x, x = w4.alloc (.cells #[S [98, 111, 111, 108], .bool false] 24) := ⟨_, rfl⟩
 obtain ⟨r7, hr7⟩ : ∃ x, x = w3.heap.size := ⟨_, rfl⟩
 have hs4 : w4.heap.size = r7 + 1 := by rw [hw4, hr7]; simp
 obtain ⟨r8, hr8⟩ : ∃ x, x = r7 + 1 := ⟨_, rfl⟩
 have HT : Hid (Blk w5 r7 24 #[S [105, 110, 116], .bool false]) := hide (by rw [hw5, hw4, hr7]; exact (Blk.new _ _ _).alloc _)
 have HU : Hid (Blk w5 r8 24 #[S [98, 111, 111, 108], .bool false]) := hide (by rw [hr8, ← hs4, hw5]; exact Blk.new _ _ _)
 have hl_r7 : w.heap.size ≤ r7 := by rw [hr7]; exact HF.out.size
 have hbel : Below w3.heap.size w3 w5 := by rw [hw5, hw4]; exact ((Below.refl _ _).alloc (Nat.le_refl _) _).alloc (by simp) _
 replace HX := hide (HX.out.below hbel)
 replace HV := hide (HV.out.below hbel)
 replace HF := hide (HF.out.tr (keep_fr hbel))
 replace HI := hide (HI.out.below hbel HI.out.lt)
 rw [← hw4, ← hw5, ← hr7, ← hr8]
 have hlr8 : w.heap.size ≤ r8 := by omega
 clear hw4 hw5 hr7 hs4 hr8 hbel i0 i1
 have i0 : w5.cell? ⟨w.heap.size, 0, none⟩ = some (.int .i64 28) := HI.out.cell 0
 have i1 : w5.cell? ⟨w.heap.size, 1, none⟩ = some (.int .i64 (a : Int)) := HI.out.cell 1
 have p0 : w5.cell? ⟨r7, 0, none⟩ = some (S [105, 110, 116]) := HT.out.cell 0
 have p1 : w5.cell? ⟨r7, 1, none⟩ = some (.bool false) := HT.out.cell 1
 have u0 : w5.cell? ⟨r8, 0, none⟩ = some (S [98, 111, 111, 108]) := HU.out.cell 0
 have u1 : w5.cell? ⟨r8, 1, none⟩ = some (.bool false) := HU.out.cell 1
 rcases hP : poM T [⟨[98, 111, 111, 108], false⟩] v with _ | v1
 ·have HM : Hid (∀ _ : Unit, stepM T f.ppl b.sk sg.r 28 a v = none) := hide (fun _ => by unfold stepM; (iterate 11 rw [if_neg (by decide)]); rw [if_pos (by decide)]; exact hP)
  have HPA : Hid (PuF B q gi g m s T f b sg va vd w.heap.size p (v) 1 #[S [98, 111, 111, 108], .bool false]) := hide (fun ww n' hx hv hw hn => by
   have hb : Below ww.heap.size ww (ww.alloc (.cells #[S [98, 111, 111, 108], .bool false] 24)) := (Below.refl _ _).alloc (Nat.le_refl _) _
   have hlw := hx.vt.tab.slt
   refine (pop_k (nW := 1) (hx.below hb) (hv.below hb) hS [⟨[98, 111, 111, 108], false⟩] (Rd.of_blk (Blk.new ww 24 #[S [98, 111, 111, 108], .bool false]) (by unfold Fr3; omega) rfl) rfl (by omega) hn).mono (fun e w' hh => ?_)
   obtain ⟨h1, h2, h3, h4⟩ := hh
   rw [hP] at h1 h4
   exact ⟨h1, h2, (keep_fr hb).tr h3⟩)
  clear hP
  go_wp2_with (go_at_call 62; refine (HPA.out _ _ HX.out HV.out HF.out.size (by omega)).mono ?_; rintro e w6 ⟨rfl, hx6, hk6⟩; replace HX := hide hx6; replace HF := hide (HF.out.tr hk6); clear HV; clear hx6 hk6)
  go_ret
  exact ⟨by rw [HM.out ()] <;> rfl, HX.out.mono (by omega), HF.out, fun x hx => by rw [HM.out ()] at hx; cases hx⟩
 ·have HM : Hid (∀ _ : Unit, stepM T f.ppl b.sk sg.r 28 a v = some v1) := hide (fun _ => by unfold stepM; (iterate 11 rw [if_neg (by decide)]); rw [if_pos (by decide)]; exact hP)
  have HPA : Hid (PuT B q gi g m s T f b sg va vd w.heap.size p (v) 1 #[S [98, 111, 111, 108], .bool false] v1) := hide (fun ww n' hx hv hw hn => by
   have hb : Below ww.heap.size ww (ww.alloc (.cells #[S [98, 111, 111, 108], .bool false] 24)) := (Below.refl _ _).alloc (Nat.le_refl _) _
   have hlw := hx.vt.tab.slt
   refine (pop_k (nW := 1) (hx.below hb) (hv.below hb) hS [⟨[98, 111, 111, 108], false⟩] (Rd.of_blk (Blk.new ww 24 #[S [98, 111, 111, 108], .bool false]) (by unfold Fr3; omega) rfl) rfl (by omega) hn).mono (fun e w' hh => ?_)
   obtain ⟨h1, h2, h3, h4⟩ := hh
   rw [hP] at h1 h4
   exact ⟨h1, h2, (keep_fr hb).tr h3, h4 _ rfl⟩)
  clear hP
  go_wp2_with (go_at_call 62; refine (HPA.out _ _ HX.out HV.out HF.out.size (by omega)).mono ?_; rintro e w6 ⟨rfl, hx6, hk6, hv6⟩; replace HX := hide hx6; replace HF := hide (HF.out.tr hk6); clear HV; have HV := hide hv6; clear hx6 hk6 hv6)
  go_ret
  exact ⟨by rw [HM.out ()] <;> rfl, HX.out.mono (by omega), HF.out, fun x hx => by rw [HM.out ()] at hx; injection hx with hx; subst hx; exact HV.out.e⟩
set_option maxRecDepth 100000 in
set_option maxHeartbeats 4000000 in
theorem step29 (w : World) (B q p gi g m s n : Nat) (T : List Fc) (f : Fl) (b : Bd) (sg : Sg) (va vd : Value) (v : Vs) (a : Nat) (h : Sx w B q gi g m s n T f b sg va vd) (hv : WsE w B p v) (hS : VsS v) (hn : n ≤ 6000000000000000) :
  Calls Tryd.prog 42 #[.pointer (some ⟨q, 0, none⟩), .pointer (some ⟨p, 0, none⟩), .agg #[.int .i64 29, .int .i64 (a : Int)]] w (StpEnd w B q p gi g m s n T f b sg va vd 100000 (stepM T f.ppl b.sk sg.r 29 a v)) := by
 obtain ⟨hBp, hpl⟩ := hv.n.hp
 have hlt := h.lt
 have hBw := h.hB
 obtain ⟨w1, hw1⟩ : ∃ w1, w1 = w.alloc (.cells #[.int .i64 29, .int .i64 (a : Int)] 87) := ⟨_, rfl⟩
 have hb1 : Blk w1 w.heap.size 87 #[.int .i64 29, .int .i64 (a : Int)] := by rw [hw1]; exact Blk.new _ _ _
 have hbb : Below w.heap.size w w1 := by rw [hw1]; exact (Below.refl _ w).alloc (Nat.le_refl _) _
 have HX := hide (h.below hbb)
 have HV := hide (hv.n.below hbb)
 have HF : Hid (Keep (Fr3 s B w.heap.size) w w1) := hide (keep_fr hbb)
 have HI : Hid (Blk w1 w.heap.size 87 #[.int .i64 29, .int .i64 (a : Int)]) := hide hb1
 have i0 : w1.cell? ⟨w.heap.size, 0, none⟩ = some (.int .i64 29) := hb1.cell 0
 have i1 : w1.cell? ⟨w.heap.size, 1, none⟩ = some (.int .i64 (a : Int)) := hb1.cell 1
 have hwl : w.heap.size < w1.heap.size := hb1.lt
 clear h hbb hb1
 go_enter Tryd.func42, Tryd.ntmps42
 go_upto_region 1 with fail
 rw [← hw1]
 clear hw1
 have hS2 : v.st.length ≤ 2000 := hS.2.2.2
 go_upto_region 2 with (first | (go_at_call 12; refine (int_any _).mono ?_; rintro e w2 ⟨rfl, hb2⟩; replace HX := hide (HX.out.below hb2); replace HV := hide (HV.out.below hb2); replace HF := hide (HF.out.tr (keep_fr hb2)); replace HI := hide (HI.out.below hb2 HI.out.lt); clear hb2) | (go_at_call 58; refine (bool_any _).mono ?_; rintro e w3 ⟨rfl, hb3⟩; replace HX := hide (HX.out.below hb3); replace HV := hide (HV.out.below hb3); replace HF := hide (HF.out.tr (keep_fr hb3)); replace HI := hide (HI.out.below hb3 HI.out.lt); clear hb3))
 obtain ⟨w4, hw4⟩ : ∃ x, x = w3.alloc (.cells #[S [105, 110, 116], .bool false] 24) := ⟨_, rfl⟩
 obtain ⟨w5, hw5⟩ : ∃ x, x = w4.alloc (.cells #[S [98, 111, 111, 108], .bool false] 24) := ⟨_, rfl⟩
 obtain ⟨r7, hr7⟩ : ∃ x, x = w3.heap.size := ⟨_, rfl⟩
 have hs4 : w4.heap.size = r7 + 1 := by rw [hw4, hr7]; simp
 obtain ⟨r8, hr8⟩ : ∃ x, x = r7 + 1 := ⟨_, rfl⟩
 have HT : Hid (Blk w5 r7 24 #[S [105, 110, 116], .bool false]) := hide (by rw [hw5, hw4, hr7]; exact (Blk.new _ _ _).alloc _)
 have HU : Hid (Blk w5 r8 24 #[S [98, 111, 111, 108], .bool false]) := hide (by rw [hr8, ← hs4, hw5]; exact Blk.new _ _ _)
 have hl_r7 : w.heap.size ≤ r7 := by rw [hr7]; exact HF.out.size
 have hbel : Below w3.heap.size w3 w5 := by rw [hw5, hw4]; exact ((Below.refl _ _).alloc (Nat.le_refl _) _).alloc (by simp) _
 replace HX := hide (HX.out.below hbel)
 replace HV := hide (HV.out.below hbel)
 replace HF := hide (HF.out.tr (keep_fr hbel))
 replace HI := hide (HI.out.below hbel HI.out.lt)
 rw [← hw4, ← hw5, ← hr7, ← hr8]
 have hlr8 : w.heap.size ≤ r8 := by omega
 clear hw4 hw5 hr7 hs4 hr8 hbel i0 i1
 have i0 : w5.cell? ⟨w.heap.size, 0, none⟩ = some (.int .i64 29) := HI.out.cell 0
 have i1 : w5.cell? ⟨w.heap.size, 1, none⟩ = some (.int .i64 (a : Int)) := HI.out.cell 1
 have p0 : w5.cell? ⟨r7, 0, none⟩ = some (S [105, 110, 116]) := HT.out.cell 0
 have p1 : w5.cell? ⟨r7, 1, none⟩ = some (.bool false) := HT.out.cell 1
 have u0 : w5.cell? ⟨r8, 0, none⟩ = some (S [98, 111, 111, 108]) := HU.out.cell 0
 have u1 : w5.cell? ⟨r8, 1, none⟩ = some (.bool false) := HU.out.cell 1
 have x0 : w5.cell? ⟨q, 17, none⟩ = some (S sg.r.n) := HX.out.kq.cell 17
 have x1 : w5.cell? ⟨q, 18, none⟩ = some (.bool sg.r.a) := HX.out.kq.cell 18
 obtain ⟨sn, hsn⟩ : ∃ x, x = sg.r.n := ⟨_, rfl⟩
 obtain ⟨sa, hsa⟩ : ∃ x, x = sg.r.a := ⟨_, rfl⟩
 have hret : sg.r = ⟨sn, sa⟩ := by rw [hsn, hsa]
 rw [← hsn] at x0
 rw [← hsa] at x1
 clear hsn hsa
 rcases hP : poM T [⟨sn, sa⟩] v with _ | v1
 ·have HM : Hid (∀ _ : Unit, stepM T f.ppl b.sk sg.r 29 a v = none) := hide (fun _ => by unfold stepM; (iterate 13 rw [if_neg (by decide)]); rw [if_pos (by decide)]; rw [hret]; exact hP)
  have HPA : Hid (PuF B q gi g m s T f b sg va vd w.heap.size p (v) 1 #[S sn, .bool sa]) := hide (fun ww n' hx hv hw hn => by
   have hb : Below ww.heap.size ww (ww.alloc (.cells #[S sn, .bool sa] 24)) := (Below.refl _ _).alloc (Nat.le_refl _) _
   have hlw := hx.vt.tab.slt
   refine (pop_k (nW := 1) (hx.below hb) (hv.below hb) hS [⟨sn, sa⟩] (Rd.of_blk (Blk.new ww 24 #[S sn, .bool sa]) (by unfold Fr3; omega) rfl) rfl (by omega) hn).mono (fun e w' hh => ?_)
   obtain ⟨h1, h2, h3, h4⟩ := hh
   rw [hP] at h1 h4
   exact ⟨h1, h2, (keep_fr hb).tr h3⟩)
  clear hP
  go_wp2_with (go_at_call 62; refine (HPA.out _ _ HX.out HV.out HF.out.size (by omega)).mono ?_; rintro e w6 ⟨rfl, hx6, hk6⟩; replace HX := hide hx6; replace HF := hide (HF.out.tr hk6); clear HV; clear hx6 hk6)
  go_ret
  exact ⟨by rw [HM.out ()] <;> rfl, HX.out.mono (by omega), HF.out, fun x hx => by rw [HM.out ()] at hx; cases hx⟩
 ·have HM : Hid (∀ _ : Unit, stepM T f.ppl b.sk sg.r 29 a v = some v1) := hide (fun _ => by unfold stepM; (iterate 13 rw [if_neg (by decide)]); rw [if_pos (by decide)]; rw [hret]; exact hP)
  have HPA : Hid (PuT B q gi g m s T f b sg va vd w.heap.size p (v) 1 #[S sn, .bool sa] v1) := hide (fun ww n' hx hv hw hn => by
   have hb : Below ww.heap.size ww (ww.alloc (.cells #[S sn, .bool sa] 24)) := (Below.refl _ _).alloc (Nat.le_refl _) _
   have hlw := hx.vt.tab.slt
   refine (pop_k (nW := 1) (hx.below hb) (hv.below hb) hS [⟨sn, sa⟩] (Rd.of_blk (Blk.new ww 24 #[S sn, .bool sa]) (by unfold Fr3; omega) rfl) rfl (by omega) hn).mono (fun e w' hh => ?_)
   obtain ⟨h1, h2, h3, h4⟩ := hh
   rw [hP] at h1 h4
   exact ⟨h1, h2, (keep_fr hb).tr h3, h4 _ rfl⟩)
  clear hP
  go_wp2_with (go_at_call 62; refine (HPA.out _ _ HX.out HV.out HF.out.size (by omega)).mono ?_; rintro e w6 ⟨rfl, hx6, hk6, hv6⟩; replace HX := hide hx6; replace HF := hide (HF.out.tr hk6); clear HV; have HV := hide hv6; clear hx6 hk6 hv6)
  go_ret
  exact ⟨by rw [HM.out ()] <;> rfl, HX.out.mono (by omega), HF.out, fun x hx => by rw [HM.out ()] at hx; injection hx with hx; subst hx; exact HV.out.e⟩
set_option maxRecDepth 100000 in
set_option maxHeartbeats 4000000 in
theorem step27 (w : World) (B q p gi g m s n : Nat) (T : List Fc) (f : Fl) (b : Bd) (sg : Sg) (va vd : Value) (v : Vs) (a : Nat) (h : Sx w B q gi g m s n T f b sg va vd) (hv : WsE w B p v) (hS : VsS v) (hn : n ≤ 6000000000000000) :
  Calls Tryd.prog 42 #[.pointer (some ⟨q, 0, none⟩), .pointer (some ⟨p, 0, none⟩), .agg #[.int .i64 27, .int .i64 (a : Int)]] w (StpEnd w B q p gi g m s n T f b sg va vd 100000 (stepM T f.ppl b.sk sg.r 27 a v)) := by
 obtain ⟨hBp, hpl⟩ := hv.n.hp
 have hlt := h.lt
 have hBw := h.hB
 obtain ⟨w1, hw1⟩ : ∃ w1, w1 = w.alloc (.cells #[.int .i64 27, .int .i64 (a : Int)] 87) := ⟨_, rfl⟩
 have hb1 : Blk w1 w.heap.size 87 #[.int .i64 27, .int .i64 (a : Int)] := by rw [hw1]; exact Blk.new _ _ _
 have hbb : Below w.heap.size w w1 := by rw [hw1]; exact (Below.refl _ w).alloc (Nat.le_refl _) _
 have HX := hide (h.below hbb)
 have HV := hide (hv.n.below hbb)
 have HF : Hid (Keep (Fr3 s B w.heap.size) w w1) := hide (keep_fr hbb)
 have HI : Hid (Blk w1 w.heap.size 87 #[.int .i64 27, .int .i64 (a : Int)]) := hide hb1
 have i0 : w1.cell? ⟨w.heap.size, 0, none⟩ = some (.int .i64 27) := hb1.cell 0
 have i1 : w1.cell? ⟨w.heap.size, 1, none⟩ = some (.int .i64 (a : Int)) := hb1.cell 1
 have hwl : w.heap.size < w1.heap.size := hb1.lt
 clear h hbb hb1
 go_enter Tryd.func42, Tryd.ntmps42
 go_upto_region 1 with fail
 rw [← hw1]
 clear hw1
 have hS2 : v.st.length ≤ 2000 := hS.2.2.2
 go_upto_region 2 with (first | (go_at_call 12; refine (int_any _).mono ?_; rintro e w2 ⟨rfl, hb2⟩; replace HX := hide (HX.out.below hb2); replace HV := hide (HV.out.below hb2); replace HF := hide (HF.out.tr (keep_fr hb2)); replace HI := hide (HI.out.below hb2 HI.out.lt); clear hb2) | (go_at_call 58; refine (bool_any _).mono ?_; rintro e w3 ⟨rfl, hb3⟩; replace HX := hide (HX.out.below hb3); replace HV := hide (HV.out.below hb3); replace HF := hide (HF.out.tr (keep_fr hb3)); replace HI := hide (HI.out.below hb3 HI.out.lt); clear hb3))
 obtain ⟨w4, hw4⟩ : ∃ x, x = w3.alloc (.cells #[S [105, 110, 116], .bool false] 24) := ⟨_, rfl⟩
 obtain ⟨w5, hw5⟩ : ∃ x, x = w4.alloc (.cells #[S [98, 111, 111, 108], .bool false] 24) := ⟨_, rfl⟩
 obtain ⟨r7, hr7⟩ : ∃ x, x = w3.heap.size := ⟨_, rfl⟩
 have hs4 : w4.heap.size = r7 + 1 := by rw [hw4, hr7]; simp
 obtain ⟨r8, hr8⟩ : ∃ x, x = r7 + 1 := ⟨_, rfl⟩
 have HT : Hid (Blk w5 r7 24 #[S [105, 110, 116], .bool false]) := hide (by rw [hw5, hw4, hr7]; exact (Blk.new _ _ _).alloc _)
 have HU : Hid (Blk w5 r8 24 #[S [98, 111, 111, 108], .bool false]) := hide (by rw [hr8, ← hs4, hw5]; exact Blk.new _ _ _)
 have hl_r7 : w.heap.size ≤ r7 := by rw [hr7]; exact HF.out.size
 have hbel : Below w3.heap.size w3 w5 := by rw [hw5, hw4]; exact ((Below.refl _ _).alloc (Nat.le_refl _) _).alloc (by simp) _
 replace HX := hide (HX.out.below hbel)
 replace HV := hide (HV.out.below hbel)
 replace HF := hide (HF.out.tr (keep_fr hbel))
 replace HI := hide (HI.out.below hbel HI.out.lt)
 rw [← hw4, ← hw5, ← hr7, ← hr8]
 have hlr8 : w.heap.size ≤ r8 := by omega
 clear hw4 hw5 hr7 hs4 hr8 hbel i0 i1
 have i0 : w5.cell? ⟨w.heap.size, 0, none⟩ = some (.int .i64 27) := HI.out.cell 0
 have i1 : w5.cell? ⟨w.heap.size, 1, none⟩ = some (.int .i64 (a : Int)) := HI.out.cell 1
 have p0 : w5.cell? ⟨r7, 0, none⟩ = some (S [105, 110, 116]) := HT.out.cell 0
 have p1 : w5.cell? ⟨r7, 1, none⟩ = some (.bool false) := HT.out.cell 1
 have u0 : w5.cell? ⟨r8, 0, none⟩ = some (S [98, 111, 111, 108]) := HU.out.cell 0
 have u1 : w5.cell? ⟨r8, 1, none⟩ = some (.bool false) := HU.out.cell 1
 have HM : Hid (∀ _ : Unit, stepM T f.ppl b.sk sg.r 27 a v = some v) := hide (fun _ => by unfold stepM; (iterate 14 rw [if_neg (by decide)]); rw [if_pos (by decide)])
 go_wp2_with fail
 go_ret
 exact ⟨by rw [HM.out ()] <;> rfl, HX.out.mono (by omega), HF.out, fun x hx => by rw [HM.out ()] at hx; injection hx with hx; subst hx; exact HV.out.e⟩
set_option maxRecDepth 100000 in
set_option maxHeartbeats 4000000 in
theorem step31 (w : World) (B q p gi g m s n : Nat) (T : List Fc) (f : Fl) (b : Bd) (sg : Sg) (va vd : Value) (v : Vs) (a : Nat) (h : Sx w B q gi g m s n T f b sg va vd) (hv : WsE w B p v) (hS : VsS v) (hn : n ≤ 6000000000000000) :
  Calls Tryd.prog 42 #[.pointer (some ⟨q, 0, none⟩), .pointer (some ⟨p, 0, none⟩), .agg #[.int .i64 31, .int .i64 (a : Int)]] w (StpEnd w B q p gi g m s n T f b sg va vd 100000 (stepM T f.ppl b.sk sg.r 31 a v)) := by
 obtain ⟨hBp, hpl⟩ := hv.n.hp
 have hlt := h.lt
 have hBw := h.hB
 obtain ⟨w1, hw1⟩ : ∃ w1, w1 = w.alloc (.cells #[.int .i64 31, .int .i64 (a : Int)] 87) := ⟨_, rfl⟩
 have hb1 : Blk w1 w.heap.size 87 #[.int .i64 31, .int .i64 (a : Int)] := by rw [hw1]; exact Blk.new _ _ _
 have hbb : Below w.heap.size w w1 := by rw [hw1]; exact (Below.refl _ w).alloc (Nat.le_refl _) _
 have HX := hide (h.below hbb)
 have HV := hide (hv.n.below hbb)
 have HF : Hid (Keep (Fr3 s B w.heap.size) w w1) := hide (keep_fr hbb)
 have HI : Hid (Blk w1 w.heap.size 87 #[.int .i64 31, .int .i64 (a : Int)]) := hide hb1
 have i0 : w1.cell? ⟨w.heap.size, 0, none⟩ = some (.int .i64 31) := hb1.cell 0
 have i1 : w1.cell? ⟨w.heap.size, 1, none⟩ = some (.int .i64 (a : Int)) := hb1.cell 1
 have hwl : w.heap.size < w1.heap.size := hb1.lt
 clear h hbb hb1
 go_enter Tryd.func42, Tryd.ntmps42
 go_upto_region 1 with fail
 rw [← hw1]
 clear hw1
 have hS2 : v.st.length ≤ 2000 := hS.2.2.2
 go_upto_region 2 with (first | (go_at_call 12; refine (int_any _).mono ?_; rintro e w2 ⟨rfl, hb2⟩; replace HX := hide (HX.out.below hb2); replace HV := hide (HV.out.below hb2); replace HF := hide (HF.out.tr (keep_fr hb2)); replace HI := hide (HI.out.below hb2 HI.out.lt); clear hb2) | (go_at_call 58; refine (bool_any _).mono ?_; rintro e w3 ⟨rfl, hb3⟩; replace HX := hide (HX.out.below hb3); replace HV := hide (HV.out.below hb3); replace HF := hide (HF.out.tr (keep_fr hb3)); replace HI := hide (HI.out.below hb3 HI.out.lt); clear hb3))
 obtain ⟨w4, hw4⟩ : ∃ x, x = w3.alloc (.cells #[S [105, 110, 116], .bool false] 24) := ⟨_, rfl⟩
 obtain ⟨w5, hw5⟩ : ∃ x, x = w4.alloc (.cells #[S [98, 111, 111, 108], .bool false] 24) := ⟨_, rfl⟩
 obtain ⟨r7, hr7⟩ : ∃ x, x = w3.heap.size := ⟨_, rfl⟩
 have hs4 : w4.heap.size = r7 + 1 := by rw [hw4, hr7]; simp
 obtain ⟨r8, hr8⟩ : ∃ x, x = r7 + 1 := ⟨_, rfl⟩
 have HT : Hid (Blk w5 r7 24 #[S [105, 110, 116], .bool false]) := hide (by rw [hw5, hw4, hr7]; exact (Blk.new _ _ _).alloc _)
 have HU : Hid (Blk w5 r8 24 #[S [98, 111, 111, 108], .bool false]) := hide (by rw [hr8, ← hs4, hw5]; exact Blk.new _ _ _)
 have hl_r7 : w.heap.size ≤ r7 := by rw [hr7]; exact HF.out.size
 have hbel : Below w3.heap.size w3 w5 := by rw [hw5, hw4]; exact ((Below.refl _ _).alloc (Nat.le_refl _) _).alloc (by simp) _
 replace HX := hide (HX.out.below hbel)
 replace HV := hide (HV.out.below hbel)
 replace HF := hide (HF.out.tr (keep_fr hbel))
 replace HI := hide (HI.out.below hbel HI.out.lt)
 rw [← hw4, ← hw5, ← hr7, ← hr8]
 have hlr8 : w.heap.size ≤ r8 := by omega
 clear hw4 hw5 hr7 hs4 hr8 hbel i0 i1
 have i0 : w5.cell? ⟨w.heap.size, 0, none⟩ = some (.int .i64 31) := HI.out.cell 0
 have i1 : w5.cell? ⟨w.heap.size, 1, none⟩ = some (.int .i64 (a : Int)) := HI.out.cell 1
 have p0 : w5.cell? ⟨r7, 0, none⟩ = some (S [105, 110, 116]) := HT.out.cell 0
 have p1 : w5.cell? ⟨r7, 1, none⟩ = some (.bool false) := HT.out.cell 1
 have u0 : w5.cell? ⟨r8, 0, none⟩ = some (S [98, 111, 111, 108]) := HU.out.cell 0
 have u1 : w5.cell? ⟨r8, 1, none⟩ = some (.bool false) := HU.out.cell 1
 rcases hL : v.st.getLast? with _ | ⟨tn, ta⟩
 ·have HM : Hid (∀ _ : Unit, stepM T f.ppl b.sk sg.r 31 a v = none) := hide (fun _ => by unfold stepM; (iterate 12 rw [if_neg (by decide)]); rw [if_pos (by decide)]; rw [hL])
  have HTK : Hid (TkE B q gi g m s T f b sg va vd w.heap.size p (v) (.tuple #[.agg #[S [], .bool false], .bool false]) (dr (v))) := hide (fun ww n' hx hv => by have := take_k hx hv (by have := hS.2.2.2; first | omega | (simp [dr]; omega)); rw [hL] at this; exact this)
  clear hL
  go_wp2_with (go_at_call 61; refine (HTK.out _ _ HX.out HV.out).mono ?_; rintro e w6 ⟨rfl, hx6, hk6, hv6⟩; replace HX := hide hx6; replace HF := hide (HF.out.tr hk6); replace HI := hide (HI.out.keep hk6 (by unfold Fr3; omega)); replace HV := hide hv6; clear hx6 hk6 hv6)
  go_ret
  exact ⟨by rw [HM.out ()] <;> rfl, (HX.out.below ((Below.refl _ _).alloc (Nat.le_refl _) _)).mono (by omega), HF.out.alloc _, fun x hx => by rw [HM.out ()] at hx; cases hx⟩
 ·have HM : Hid (∀ _ : Unit, stepM T f.ppl b.sk sg.r 31 a v = some (dr v)) := hide (fun _ => by unfold stepM; (iterate 12 rw [if_neg (by decide)]); rw [if_pos (by decide)]; rw [hL])
  have HTK : Hid (TkE B q gi g m s T f b sg va vd w.heap.size p (v) (.tuple #[.agg #[S tn, .bool ta], .bool true]) (dr (v))) := hide (fun ww n' hx hv => by have := take_k hx hv (by have := hS.2.2.2; first | omega | (simp [dr]; omega)); rw [hL] at this; exact this)
  clear hL
  go_wp2_with (go_at_call 61; refine (HTK.out _ _ HX.out HV.out).mono ?_; rintro e w6 ⟨rfl, hx6, hk6, hv6⟩; replace HX := hide hx6; replace HF := hide (HF.out.tr hk6); replace HI := hide (HI.out.keep hk6 (by unfold Fr3; omega)); replace HV := hide hv6; clear hx6 hk6 hv6)
  go_ret
  exact ⟨by rw [HM.out ()] <;> rfl, (HX.out.below ((Below.refl _ _).alloc (Nat.le_refl _) _)).mono (by omega), HF.out.alloc _, fun x hx => by rw [HM.out ()] at hx; injection hx with hx; subst hx; exact (HV.out.below ((Below.refl _ _).alloc (Nat.le_refl _) _)).e⟩
end Go.Proofs.YtmbegaobnpoefaaDoor
