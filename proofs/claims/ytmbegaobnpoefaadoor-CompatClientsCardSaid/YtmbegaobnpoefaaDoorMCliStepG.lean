/- A state behind an instruction: walked; no statement of the seat is proved here. (Written by gen/vstep2.py.) -/
import Derived.Test.YtmbegaobnpoefaaDoorMTk2
import Derived.Test.YtmbegaobnpoefaaDoorMCliObj
import Derived.BigRegion
import Derived.Deep.RegionHeld3
namespace Go.Proofs.YtmbegaobnpoefaaDoor
open Go.RowKit Go.Maps
set_option linter.unusedVariables false
set_option linter.unusedSimpArgs false
set_option maxRecDepth 100000 in
set_option maxHeartbeats 4000000 in
theorem step13 (w : World) (B q p gi g m s n : Nat) (T : List Fc) (f : Fl) (b : Bd) (sg : Sg) (va vd : Value) (v : Vs) (a : Nat) (h : Sx w B q gi g m s n T f b sg va vd) (hv : WsE w B p v) (hS : VsS v) (hn : n ≤ 6000000000000000) :
  Calls Tryd.prog 42 #[.pointer (some ⟨q, 0, none⟩), .pointer (some ⟨p, 0, none⟩), .agg #[.int .i64 13, .int .i64 (a : Int)]] w (StpEnd w B q p gi g m s n T f b sg va vd 100000 (stepM T f.ppl b.sk sg.r 13 a v)) := by
 obtain ⟨hBp, hpl⟩ := hv.n.hp
 have hlt := h.lt
 have hBw := h.hB
 obtain ⟨w1, hw1⟩ : ∃ w1, w1 = w.alloc (.cells #[.int .i64 13, .int .i64 (a : Int)] 87) := ⟨_, rfl⟩
 have hb1 : Blk w1 w.heap.size 87 #[.int .i64 13, .int .i64 (a : Int)] := by rw [hw1]; exact Blk.new _ _ _
 have hbb : Below w.heap.size w w1 := by rw [hw1]; exact (Below.refl _ w).alloc (Nat.le_refl _) _
 have HX := hide (h.below hbb)
 have HV := hide (hv.n.below hbb)
 have HF : Hid (Keep (Fr3 s B w.heap.size) w w1) := hide (keep_fr hbb)
 have HI : Hid (Blk w1 w.heap.size 87 #[.int .i64 13, .int .i64 (a : Int)]) := hide hb1
 have i0 : w1.cell? ⟨w.heap.size, 0, none⟩ = some (.int .i64 13) := hb1.cell 0
 have i1 : w1.cell? ⟨w.heap.size, 1, none⟩ = some (.int .i64 (a : Int)) := hb1.cell 1
 have hwl : w.heap.size < w1.heap.size := hb1.lt
 clear h hbb hb1
 go_enter Tryd.func42, Tryd.ntmps42
 go_upto_region 1 with fail
 rw [← hw1]
 clear hw1
 have hS2 : v.st.length ≤ 2000 := hS.2.2.2
 go_upto_region 2 with (first | (go_at_call 12; refine (int_any _).mono ?_; rintro e w2 ⟨rfl, hb2⟩; replace HX := hide (HX.out.below hb2); replace HV := hide (HV.out.below hb2); replace HF := hide (HF.out.tr (keep_fr hb2)); replace HI := hide (HI.out.below hb2 HI.out.lt); clear hb2) | (go_at_call 58; refine (bool_any _).mono ?_; rintro e w3 ⟨rfl, hb3⟩; replace HX := hide (HX.out.below hb3); replace HV := hide (HV.out.below hb3); replace HF := hide (HF.out.tr (keep_fr hb3)); replace HI := hide (HI.out.below hb3 HI.out.lt); clear hb3))
 obtain ⟨w4, hw4⟩ : ∃ x, x = w3.alloc (.cells #[S [105, 110, 116], .bool false] 24) := ⟨_, rfl⟩
 obtain ⟨w5, hw5⟩ : ∃ x, x = w4.alloc (.cells #[S [98, 111, 111, 108], .bool false] 24) := ⟨_, rfl⟩
 obtain ⟨r7, hr7⟩ : ∃ x, x = w3.heap.size := ⟨_, rfl⟩
 have hs4 : w4.heap.size = r7 + 1 := by rw [hw4, hr7]; simp
 obtain ⟨r8, hr8⟩ : ∃ x, x = r7 + 1 := ⟨_, rfl⟩
 have HT : Hid (Blk w5 r7 24 #[S [105, 110, 116], .bool false]) := hide (by rw [hw5, hw4, hr7]; exact (Blk.new _ _ _).alloc _)
 have HU : Hid (Blk w5 r8 24 #[S [98, 111, 111, 108], .bool false]) := hide (by rw [hr8, ← hs4, hw5]; exact Blk.new _ _ _)
 have hl_r7 : w.heap.size ≤ r7 := by rw [hr7]; exact HF.out.size
 have hbel : Below w3.heap.size w3 w5 := by rw [hw5, hw4]; exact ((Below.refl _ _).alloc (Nat.le_refl _) _).alloc (by simp) _
 replace HX := hide (HX.out.below hbel)
 replace HV := hide (HV.out.below hbel)
 replace HF := hide (HF.out.tr (keep_fr hbel))
 replace HI := hide (HI.out.below hbel HI.out.lt)
 rw [← hw4, ← hw5, ← hr7, ← hr8]
 have hlr8 : w.heap.size ≤ r8 := by omega
 clear hw4 hw5 hr7 hs4 hr8 hbel i0 i1
 have i0 : w5.cell? ⟨w.heap.size, 0, none⟩ = some (.int .i64 13) := HI.out.cell 0
 have i1 : w5.cell? ⟨w.heap.size, 1, none⟩ = some (.int .i64 (a : Int)) := HI.out.cell 1
 have p0 : w5.cell? ⟨r7, 0, none⟩ = some (S [105, 110, 116]) := HT.out.cell 0
 have p1 : w5.cell? ⟨r7, 1, none⟩ = some (.bool false) := HT.out.cell 1
 have u0 : w5.cell? ⟨r8, 0, none⟩ = some (S [98, 111, 111, 108]) := HU.out.cell 0
 have u1 : w5.cell? ⟨r8, 1, none⟩ = some (.bool false) := HU.out.cell 1
 have hS3 : (dr v).st.length ≤ 2000 := by simp [dr]; omega
 have hS4 : (dr (dr v)).st.length ≤ 2000 := by simp [dr]; omega
 rcases hL : v.st.getLast? with _ | ⟨un, ua⟩
 ·have hL2 : (dr v).st.getLast? = none := by rw [List.getLast?_eq_none_iff] at hL ⊢; simp [dr, hL]
  have HM : Hid (∀ _ : Unit, stepM T f.ppl b.sk sg.r 13 a v = none) := hide (fun _ => by unfold stepM; (iterate 9 rw [if_neg (by decide)]); rw [if_pos (by decide)]; rw [hL])
  have HTK : Hid (TkE B q gi g m s T f b sg va vd w.heap.size p (v) (.tuple #[.agg #[S [], .bool false], .bool false]) (dr (v))) := hide (fun ww n' hx hv => by have := take_k hx hv (by have := hS.2.2.2; first | omega | (simp [dr]; omega)); rw [hL] at this; exact this)
  have HTK2 : Hid (TkE B q gi g m s T f b sg va vd w.heap.size p (dr v) (.tuple #[.agg #[S [], .bool false], .bool false]) (dr (dr v))) := hide (fun ww n' hx hv => by have := take_k hx hv (by have := hS.2.2.2; first | omega | (simp [dr]; omega)); rw [hL2] at this; exact this)
  go_upto_region 31 with (go_at_call 61; refine (HTK.out _ _ HX.out HV.out).mono ?_; rintro e w6 ⟨rfl, hx6, hk6, hv6⟩; replace HX := hide hx6; replace HF := hide (HF.out.tr hk6); replace HI := hide (HI.out.keep hk6 (by unfold Fr3; omega)); have HFU := hide hk6; replace HV := hide hv6; clear hx6 hk6 hv6)
  obtain ⟨w7, hw7⟩ : ∃ x, x = w6.alloc (.cells #[S [], .bool false] 24) := ⟨_, rfl⟩
  obtain ⟨r9, hr9⟩ : ∃ x, x = w6.heap.size := ⟨_, rfl⟩
  have HD : Hid (Blk w7 r9 24 #[S [], .bool false]) := hide (by rw [hw7, hr9]; exact Blk.new _ _ _)
  have hl_r9 : w.heap.size ≤ r9 := by rw [hr9]; exact HF.out.size
  have hbel : Below w6.heap.size w6 w7 := by rw [hw7]; exact (Below.refl _ _).alloc (Nat.le_refl _) _
  replace HX := hide (HX.out.below hbel)
  replace HV := hide (HV.out.below hbel)
  replace HF := hide (HF.out.tr (keep_fr hbel))
  replace HFU := hide (HFU.out.tr (keep_fr hbel))
  replace HI := hide (HI.out.below hbel HI.out.lt)
  rw [← hw7]
  rw [← hr9]
  clear hw7 hr9 hbel
  clear i0 i1 p0 p1 u0 u1
  go_upto_region 32 with (go_at_call 61; refine (HTK2.out _ _ HX.out HV.out).mono ?_; rintro e w8 ⟨rfl, hx8, hk8, hv8⟩; replace HX := hide hx8; replace HF := hide (HF.out.tr hk8); replace HI := hide (HI.out.keep hk8 (by unfold Fr3; omega)); replace HV := hide hv8; replace HD := hide (HD.out.keep hk8 (by unfold Fr3; omega)); replace HU := hide (HU.out.keep (HFU.out.tr hk8) (by unfold Fr3; omega)); clear hx8 hk8 hv8)
  obtain ⟨w9, hw9⟩ : ∃ x, x = w8.alloc (.cells #[S [], .bool false] 24) := ⟨_, rfl⟩
  obtain ⟨r10, hr10⟩ : ∃ x, x = w8.heap.size := ⟨_, rfl⟩
  have HE : Hid (Blk w9 r10 24 #[S [], .bool false]) := hide (by rw [hw9, hr10]; exact Blk.new _ _ _)
  have hl_r10 : w.heap.size ≤ r10 := by rw [hr10]; exact HF.out.size
  have hbel : Below w8.heap.size w8 w9 := by rw [hw9]; exact (Below.refl _ _).alloc (Nat.le_refl _) _
  replace HX := hide (HX.out.below hbel)
  replace HV := hide (HV.out.below hbel)
  replace HF := hide (HF.out.tr (keep_fr hbel))
  replace HD := hide (HD.out.below hbel HD.out.lt)
  replace HU := hide (HU.out.below hbel HU.out.lt)
  replace HI := hide (HI.out.below hbel HI.out.lt)
  rw [← hw9]
  rw [← hr10]
  clear hw9 hr10 hbel
  clear HTK HTK2 hL hL2
  have i0 : w9.cell? ⟨w.heap.size, 0, none⟩ = some (.int .i64 13) := HI.out.cell 0
  have i1 : w9.cell? ⟨w.heap.size, 1, none⟩ = some (.int .i64 (a : Int)) := HI.out.cell 1
  have x0 : w9.cell? ⟨r9, 0, none⟩ = some (S []) := HD.out.cell 0
  have x1 : w9.cell? ⟨r9, 1, none⟩ = some (.bool false) := HD.out.cell 1
  have y0 : w9.cell? ⟨r10, 0, none⟩ = some (S []) := HE.out.cell 0
  have y1 : w9.cell? ⟨r10, 1, none⟩ = some (.bool false) := HE.out.cell 1
  have u0 : w9.cell? ⟨r8, 0, none⟩ = some (S [98, 111, 111, 108]) := HU.out.cell 0
  have u1 : w9.cell? ⟨r8, 1, none⟩ = some (.bool false) := HU.out.cell 1
  go_wp2_with fail
  go_ret
  exact ⟨by rw [HM.out ()] <;> rfl, HX.out.mono (by omega), HF.out, fun x hx => by rw [HM.out ()] at hx; cases hx⟩
 ·rcases hL2 : (dr v).st.getLast? with _ | ⟨zn, za⟩
  ·have hL3 : v.st.dropLast.getLast? = none := hL2
   have HM : Hid (∀ _ : Unit, stepM T f.ppl b.sk sg.r 13 a v = none) := hide (fun _ => by unfold stepM; (iterate 9 rw [if_neg (by decide)]); rw [if_pos (by decide)]; rw [hL, hL3])
   clear hL3
   have HTK : Hid (TkE B q gi g m s T f b sg va vd w.heap.size p (v) (.tuple #[.agg #[S un, .bool ua], .bool true]) (dr (v))) := hide (fun ww n' hx hv => by have := take_k hx hv (by have := hS.2.2.2; first | omega | (simp [dr]; omega)); rw [hL] at this; exact this)
   have HTK2 : Hid (TkE B q gi g m s T f b sg va vd w.heap.size p (dr v) (.tuple #[.agg #[S [], .bool false], .bool false]) (dr (dr v))) := hide (fun ww n' hx hv => by have := take_k hx hv (by have := hS.2.2.2; first | omega | (simp [dr]; omega)); rw [hL2] at this; exact this)
   go_upto_region 31 with (go_at_call 61; refine (HTK.out _ _ HX.out HV.out).mono ?_; rintro e w6 ⟨rfl, hx6, hk6, hv6⟩; replace HX := hide hx6; replace HF := hide (HF.out.tr hk6); replace HI := hide (HI.out.keep hk6 (by unfold Fr3; omega)); have HFU := hide hk6; replace HV := hide hv6; clear hx6 hk6 hv6)
   obtain ⟨w7, hw7⟩ : ∃ x, x = w6.alloc (.cells #[S un, .bool ua] 24) := ⟨_, rfl⟩
   obtain ⟨r9, hr9⟩ : ∃ x, x = w6.heap.size := ⟨_, rfl⟩
   have HD : Hid (Blk w7 r9 24 #[S un, .bool ua]) := hide (by rw [hw7, hr9]; exact Blk.new _ _ _)
   have hl_r9 : w.heap.size ≤ r9 := by rw [hr9]; exact HF.out.size
   have hbel : Below w6.heap.size w6 w7 := by rw [hw7]; exact (Below.refl _ _).alloc (Nat.le_refl _) _
   replace HX := hide (HX.out.below hbel)
   replace HV := hide (HV.out.below hbel)
   replace HF := hide (HF.out.tr (keep_fr hbel))
   replace HFU := hide (HFU.out.tr (keep_fr hbel))
   replace HI := hide (HI.out.below hbel HI.out.lt)
   rw [← hw7]
   rw [← hr9]
   clear hw7 hr9 hbel
   clear i0 i1 p0 p1 u0 u1
   go_upto_region 32 with (go_at_call 61; refine (HTK2.out _ _ HX.out HV.out).mono ?_; rintro e w8 ⟨rfl, hx8, hk8, hv8⟩; replace HX := hide hx8; replace HF := hide (HF.out.tr hk8); replace HI := hide (HI.out.keep hk8 (by unfold Fr3; omega)); replace HV := hide hv8; replace HD := hide (HD.out.keep hk8 (by unfold Fr3; omega)); replace HU := hide (HU.out.keep (HFU.out.tr hk8) (by unfold Fr3; omega)); clear hx8 hk8 hv8)
   obtain ⟨w9, hw9⟩ : ∃ x, x = w8.alloc (.cells #[S [], .bool false] 24) := ⟨_, rfl⟩
   obtain ⟨r10, hr10⟩ : ∃ x, x = w8.heap.size := ⟨_, rfl⟩
   have HE : Hid (Blk w9 r10 24 #[S [], .bool false]) := hide (by rw [hw9, hr10]; exact Blk.new _ _ _)
   have hl_r10 : w.heap.size ≤ r10 := by rw [hr10]; exact HF.out.size
   have hbel : Below w8.heap.size w8 w9 := by rw [hw9]; exact (Below.refl _ _).alloc (Nat.le_refl _) _
   replace HX := hide (HX.out.below hbel)
   replace HV := hide (HV.out.below hbel)
   replace HF := hide (HF.out.tr (keep_fr hbel))
   replace HD := hide (HD.out.below hbel HD.out.lt)
   replace HU := hide (HU.out.below hbel HU.out.lt)
   replace HI := hide (HI.out.below hbel HI.out.lt)
   rw [← hw9]
   rw [← hr10]
   clear hw9 hr10 hbel
   clear HTK HTK2 hL hL2
   have i0 : w9.cell? ⟨w.heap.size, 0, none⟩ = some (.int .i64 13) := HI.out.cell 0
   have i1 : w9.cell? ⟨w.heap.size, 1, none⟩ = some (.int .i64 (a : Int)) := HI.out.cell 1
   have x0 : w9.cell? ⟨r9, 0, none⟩ = some (S un) := HD.out.cell 0
   have x1 : w9.cell? ⟨r9, 1, none⟩ = some (.bool ua) := HD.out.cell 1
   have y0 : w9.cell? ⟨r10, 0, none⟩ = some (S []) := HE.out.cell 0
   have y1 : w9.cell? ⟨r10, 1, none⟩ = some (.bool false) := HE.out.cell 1
   have u0 : w9.cell? ⟨r8, 0, none⟩ = some (S [98, 111, 111, 108]) := HU.out.cell 0
   have u1 : w9.cell? ⟨r8, 1, none⟩ = some (.bool false) := HU.out.cell 1
   go_wp2_with fail
   go_ret
   exact ⟨by rw [HM.out ()] <;> rfl, HX.out.mono (by omega), HF.out, fun x hx => by rw [HM.out ()] at hx; cases hx⟩
  ·have hL3 : v.st.dropLast.getLast? = some ⟨zn, za⟩ := hL2
   have HL : Hid (∀ _ : Unit, v.st.getLast? = some ⟨un, ua⟩ ∧ v.st.dropLast.getLast? = some ⟨zn, za⟩) := hide (fun _ => ⟨hL, hL3⟩)
   have HTK : Hid (TkE B q gi g m s T f b sg va vd w.heap.size p (v) (.tuple #[.agg #[S un, .bool ua], .bool true]) (dr (v))) := hide (fun ww n' hx hv => by have := take_k hx hv (by have := hS.2.2.2; first | omega | (simp [dr]; omega)); rw [hL] at this; exact this)
   have HTK2 : Hid (TkE B q gi g m s T f b sg va vd w.heap.size p (dr v) (.tuple #[.agg #[S zn, .bool za], .bool true]) (dr (dr v))) := hide (fun ww n' hx hv => by have := take_k hx hv (by have := hS.2.2.2; first | omega | (simp [dr]; omega)); rw [hL2] at this; exact this)
   go_upto_region 31 with (go_at_call 61; refine (HTK.out _ _ HX.out HV.out).mono ?_; rintro e w6 ⟨rfl, hx6, hk6, hv6⟩; replace HX := hide hx6; replace HF := hide (HF.out.tr hk6); replace HI := hide (HI.out.keep hk6 (by unfold Fr3; omega)); have HFU := hide hk6; replace HV := hide hv6; clear hx6 hk6 hv6)
   obtain ⟨w7, hw7⟩ : ∃ x, x = w6.alloc (.cells #[S un, .bool ua] 24) := ⟨_, rfl⟩
   obtain ⟨r9, hr9⟩ : ∃ x, x = w6.heap.size := ⟨_, rfl⟩
   have HD : Hid (Blk w7 r9 24 #[S un, .bool ua]) := hide (by rw [hw7, hr9]; exact Blk.new _ _ _)
   have hl_r9 : w.heap.size ≤ r9 := by rw [hr9]; exact HF.out.size
   have hbel : Below w6.heap.size w6 w7 := by rw [hw7]; exact (Below.refl _ _).alloc (Nat.le_refl _) _
   replace HX := hide (HX.out.below hbel)
   replace HV := hide (HV.out.below hbel)
   replace HF := hide (HF.out.tr (keep_fr hbel))
   replace HFU := hide (HFU.out.tr (keep_fr hbel))
   replace HI := hide (HI.out.below hbel HI.out.lt)
   rw [← hw7]
   rw [← hr9]
   clear hw7 hr9 hbel
   clear i0 i1 p0 p1 u0 u1
   go_upto_region 32 with (go_at_call 61; refine (HTK2.out _ _ HX.out HV.out).mono ?_; rintro e w8 ⟨rfl, hx8, hk8, hv8⟩; replace HX := hide hx8; replace HF := hide (HF.out.tr hk8); replace HI := hide (HI.out.keep hk8 (by unfold Fr3; omega)); replace HV := hide hv8; replace HD := hide (HD.out.keep hk8 (by unfold Fr3; omega)); replace HU := hide (HU.out.keep (HFU.out.tr hk8) (by unfold Fr3; omega)); clear hx8 hk8 hv8)
   obtain ⟨w9, hw9⟩ : ∃ x, x = w8.alloc (.cells #[S zn, .bool za] 24) := ⟨_, rfl⟩
   obtain ⟨r10, hr10⟩ : ∃ x, x = w8.heap.size := ⟨_, rfl⟩
   have HE : Hid (Blk w9 r10 24 #[S zn, .bool za]) := hide (by rw [hw9, hr10]; exact Blk.new _ _ _)
   have hl_r10 : w.heap.size ≤ r10 := by rw [hr10]; exact HF.out.size
   have hbel : Below w8.heap.size w8 w9 := by rw [hw9]; exact (Below.refl _ _).alloc (Nat.le_refl _) _
   replace HX := hide (HX.out.below hbel)
   replace HV := hide (HV.out.below hbel)
   replace HF := hide (HF.out.tr (keep_fr hbel))
   replace HD := hide (HD.out.below hbel HD.out.lt)
   replace HU := hide (HU.out.below hbel HU.out.lt)
   replace HI := hide (HI.out.below hbel HI.out.lt)
   rw [← hw9]
   rw [← hr10]
   clear hw9 hr10 hbel
   clear HTK HTK2 hL hL2
   have i0 : w9.cell? ⟨w.heap.size, 0, none⟩ = some (.int .i64 13) := HI.out.cell 0
   have i1 : w9.cell? ⟨w.heap.size, 1, none⟩ = some (.int .i64 (a : Int)) := HI.out.cell 1
   have x0 : w9.cell? ⟨r9, 0, none⟩ = some (S un) := HD.out.cell 0
   have x1 : w9.cell? ⟨r9, 1, none⟩ = some (.bool ua) := HD.out.cell 1
   have y0 : w9.cell? ⟨r10, 0, none⟩ = some (S zn) := HE.out.cell 0
   have y1 : w9.cell? ⟨r10, 1, none⟩ = some (.bool za) := HE.out.cell 1
   have u0 : w9.cell? ⟨r8, 0, none⟩ = some (S [98, 111, 111, 108]) := HU.out.cell 0
   have u1 : w9.cell? ⟨r8, 1, none⟩ = some (.bool false) := HU.out.cell 1
   clear hL3
   rcases hu : Ty.obj ⟨un, ua⟩ with _ | _
   ·have HM : Hid (∀ _ : Unit, stepM T f.ppl b.sk sg.r 13 a v = none) := hide (fun _ => by unfold stepM; (iterate 9 rw [if_neg (by decide)]); rw [if_pos (by decide)]; rw [(HL.out ()).1, (HL.out ()).2]; exact if_neg (by intro h; rcases h with h | h; exact absurd h.1 (by decide); rw [hu] at h; exact absurd h.2.1 (by decide)))
    have HO1 : Hid (∀ ww, Calls Tryd.prog 63 #[.agg #[S un, .bool ua]] ww (Gives ww (.bool false))) := hide (fun ww => by have h := object_any un ua ww; rwa [hu] at h)
    go_wp2_with (go_at_call_of 63 (Value.agg #[S un, Value.bool ua]); refine (HO1.out _).mono ?_; rintro e w10 ⟨rfl, hb10⟩; replace HX := hide (HX.out.below hb10); replace HV := hide (HV.out.below hb10); replace HF := hide (HF.out.tr (keep_fr hb10)); replace HI := hide (HI.out.below hb10 HI.out.lt); replace HD := hide (HD.out.below hb10 HD.out.lt); replace HE := hide (HE.out.below hb10 HE.out.lt); replace HU := hide (HU.out.below hb10 HU.out.lt); have i0 : w10.cell? ⟨w.heap.size, 0, none⟩ = some (.int .i64 13) := HI.out.cell 0; have y0 : w10.cell? ⟨r10, 0, none⟩ = some (S zn) := HE.out.cell 0; have y1 : w10.cell? ⟨r10, 1, none⟩ = some (.bool za) := HE.out.cell 1; have x0 : w10.cell? ⟨r9, 0, none⟩ = some (S un) := HD.out.cell 0; have x1 : w10.cell? ⟨r9, 1, none⟩ = some (.bool ua) := HD.out.cell 1; have u0 : w10.cell? ⟨r8, 0, none⟩ = some (S [98, 111, 111, 108]) := HU.out.cell 0; have u1 : w10.cell? ⟨r8, 1, none⟩ = some (.bool false) := HU.out.cell 1; clear hb10)
    go_ret
    exact ⟨by rw [HM.out ()] <;> rfl, HX.out.mono (by omega), HF.out, fun x hx => by rw [HM.out ()] at hx; cases hx⟩
   ·rcases hz : Ty.obj ⟨zn, za⟩ with _ | _
    ·have HM : Hid (∀ _ : Unit, stepM T f.ppl b.sk sg.r 13 a v = none) := hide (fun _ => by unfold stepM; (iterate 9 rw [if_neg (by decide)]); rw [if_pos (by decide)]; rw [(HL.out ()).1, (HL.out ()).2]; exact if_neg (by intro h; rcases h with h | h; exact absurd h.1 (by decide); rw [hz] at h; exact absurd h.2.2 (by decide)))
     have HO1 : Hid (∀ ww, Calls Tryd.prog 63 #[.agg #[S un, .bool ua]] ww (Gives ww (.bool true))) := hide (fun ww => by have h := object_any un ua ww; rwa [hu] at h)
     have HO2 : Hid (∀ ww, Calls Tryd.prog 63 #[.agg #[S zn, .bool za]] ww (Gives ww (.bool false))) := hide (fun ww => by have h := object_any zn za ww; rwa [hz] at h)
     clear hu hz
     go_wp2_with (first | (go_at_call_of 63 (Value.agg #[S un, Value.bool ua]); refine (HO1.out _).mono ?_; rintro e w10 ⟨rfl, hb10⟩; replace HX := hide (HX.out.below hb10); replace HV := hide (HV.out.below hb10); replace HF := hide (HF.out.tr (keep_fr hb10)); replace HI := hide (HI.out.below hb10 HI.out.lt); replace HD := hide (HD.out.below hb10 HD.out.lt); replace HE := hide (HE.out.below hb10 HE.out.lt); replace HU := hide (HU.out.below hb10 HU.out.lt); have i0 : w10.cell? ⟨w.heap.size, 0, none⟩ = some (.int .i64 13) := HI.out.cell 0; have y0 : w10.cell? ⟨r10, 0, none⟩ = some (S zn) := HE.out.cell 0; have y1 : w10.cell? ⟨r10, 1, none⟩ = some (.bool za) := HE.out.cell 1; have x0 : w10.cell? ⟨r9, 0, none⟩ = some (S un) := HD.out.cell 0; have x1 : w10.cell? ⟨r9, 1, none⟩ = some (.bool ua) := HD.out.cell 1; have u0 : w10.cell? ⟨r8, 0, none⟩ = some (S [98, 111, 111, 108]) := HU.out.cell 0; have u1 : w10.cell? ⟨r8, 1, none⟩ = some (.bool false) := HU.out.cell 1; clear hb10) | (go_at_call_of 63 (Value.agg #[S zn, Value.bool za]); refine (HO2.out _).mono ?_; rintro e w11 ⟨rfl, hb11⟩; replace HX := hide (HX.out.below hb11); replace HV := hide (HV.out.below hb11); replace HF := hide (HF.out.tr (keep_fr hb11)); replace HI := hide (HI.out.below hb11 HI.out.lt); replace HD := hide (HD.out.below hb11 HD.out.lt); replace HE := hide (HE.out.below hb11 HE.out.lt); replace HU := hide (HU.out.below hb11 HU.out.lt); have i0 : w11.cell? ⟨w.heap.size, 0, none⟩ = some (.int .i64 13) := HI.out.cell 0; have y0 : w11.cell? ⟨r10, 0, none⟩ = some (S zn) := HE.out.cell 0; have y1 : w11.cell? ⟨r10, 1, none⟩ = some (.bool za) := HE.out.cell 1; have x0 : w11.cell? ⟨r9, 0, none⟩ = some (S un) := HD.out.cell 0; have x1 : w11.cell? ⟨r9, 1, none⟩ = some (.bool ua) := HD.out.cell 1; have u0 : w11.cell? ⟨r8, 0, none⟩ = some (S [98, 111, 111, 108]) := HU.out.cell 0; have u1 : w11.cell? ⟨r8, 1, none⟩ = some (.bool false) := HU.out.cell 1; clear hb11))
     go_ret
     exact ⟨by rw [HM.out ()] <;> rfl, HX.out.mono (by omega), HF.out, fun x hx => by rw [HM.out ()] at hx; cases hx⟩
    ·have HM : Hid (∀ _ : Unit, stepM T f.ppl b.sk sg.r 13 a v = puM b.sk ⟨[98, 111, 111, 108], false⟩ (dr (dr v))) := hide (fun _ => by unfold stepM; (iterate 9 rw [if_neg (by decide)]); rw [if_pos (by decide)]; rw [(HL.out ()).1, (HL.out ()).2]; exact if_pos (Or.inr ⟨rfl, hu, hz⟩))
     have HO1 : Hid (∀ ww, Calls Tryd.prog 63 #[.agg #[S un, .bool ua]] ww (Gives ww (.bool true))) := hide (fun ww => by have h := object_any un ua ww; rwa [hu] at h)
     have HO2 : Hid (∀ ww, Calls Tryd.prog 63 #[.agg #[S zn, .bool za]] ww (Gives ww (.bool true))) := hide (fun ww => by have h := object_any zn za ww; rwa [hz] at h)
     clear hu hz
     go_wp2_with (first | (go_at_call_of 63 (Value.agg #[S un, Value.bool ua]); refine (HO1.out _).mono ?_; rintro e w10 ⟨rfl, hb10⟩; replace HX := hide (HX.out.below hb10); replace HV := hide (HV.out.below hb10); replace HF := hide (HF.out.tr (keep_fr hb10)); replace HI := hide (HI.out.below hb10 HI.out.lt); replace HD := hide (HD.out.below hb10 HD.out.lt); replace HE := hide (HE.out.below hb10 HE.out.lt); replace HU := hide (HU.out.below hb10 HU.out.lt); have i0 : w10.cell? ⟨w.heap.size, 0, none⟩ = some (.int .i64 13) := HI.out.cell 0; have y0 : w10.cell? ⟨r10, 0, none⟩ = some (S zn) := HE.out.cell 0; have y1 : w10.cell? ⟨r10, 1, none⟩ = some (.bool za) := HE.out.cell 1; have x0 : w10.cell? ⟨r9, 0, none⟩ = some (S un) := HD.out.cell 0; have x1 : w10.cell? ⟨r9, 1, none⟩ = some (.bool ua) := HD.out.cell 1; have u0 : w10.cell? ⟨r8, 0, none⟩ = some (S [98, 111, 111, 108]) := HU.out.cell 0; have u1 : w10.cell? ⟨r8, 1, none⟩ = some (.bool false) := HU.out.cell 1; clear hb10) | (go_at_call_of 63 (Value.agg #[S zn, Value.bool za]); refine (HO2.out _).mono ?_; rintro e w11 ⟨rfl, hb11⟩; replace HX := hide (HX.out.below hb11); replace HV := hide (HV.out.below hb11); replace HF := hide (HF.out.tr (keep_fr hb11)); replace HI := hide (HI.out.below hb11 HI.out.lt); replace HD := hide (HD.out.below hb11 HD.out.lt); replace HE := hide (HE.out.below hb11 HE.out.lt); replace HU := hide (HU.out.below hb11 HU.out.lt); have i0 : w11.cell? ⟨w.heap.size, 0, none⟩ = some (.int .i64 13) := HI.out.cell 0; have y0 : w11.cell? ⟨r10, 0, none⟩ = some (S zn) := HE.out.cell 0; have y1 : w11.cell? ⟨r10, 1, none⟩ = some (.bool za) := HE.out.cell 1; have x0 : w11.cell? ⟨r9, 0, none⟩ = some (S un) := HD.out.cell 0; have x1 : w11.cell? ⟨r9, 1, none⟩ = some (.bool ua) := HD.out.cell 1; have u0 : w11.cell? ⟨r8, 0, none⟩ = some (S [98, 111, 111, 108]) := HU.out.cell 0; have u1 : w11.cell? ⟨r8, 1, none⟩ = some (.bool false) := HU.out.cell 1; clear hb11) | (go_at_call 59; refine (push_k HX.out HV.out (by first | omega | (have := hS.2.2.2; omega)) ⟨[98, 111, 111, 108], false⟩).mono ?_; rintro e w12 ⟨rfl, hx12, hk12, hv12⟩; replace HX := hide hx12; replace HF := hide (HF.out.tr hk12); have HVE := hide hv12; clear hx12 hk12 hv12))
     go_ret
     exact ⟨by rw [HM.out ()] <;> rfl, HX.out.mono (by omega), HF.out, fun x hx => HVE.out x (by rw [HM.out ()] at hx; exact hx)⟩
end Go.Proofs.YtmbegaobnpoefaaDoor
