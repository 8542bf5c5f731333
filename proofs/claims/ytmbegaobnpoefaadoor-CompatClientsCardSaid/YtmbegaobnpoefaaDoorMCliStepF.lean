/- A state behind an instruction: walked; no statement of the seat is proved here. (Written by gen/vstep2.py.) -/
import Derived.Test.YtmbegaobnpoefaaDoorMCliObj
import Derived.BigRegion
import Derived.Deep.RegionHeld3
namespace Go.Proofs.YtmbegaobnpoefaaDoor
open Go.RowKit Go.Maps
set_option linter.unusedVariables false
set_option linter.unusedSimpArgs false
set_option maxRecDepth 100000 in
set_option maxHeartbeats 4000000 in
theorem step16 (w : World) (B q p gi g m s n : Nat) (T : List Fc) (f : Fl) (b : Bd) (sg : Sg) (va vd : Value) (v : Vs) (a : Nat) (h : Sx w B q gi g m s n T f b sg va vd) (hv : WsE w B p v) (hS : VsS v) (hn : n ≤ 5000000000000000) (hO : ∀ ww n', Sx ww B q gi g m s n' T f b sg va vd → WsE ww B p v → n' ≤ 6000000000000000 → Calls Tryd.prog 64 #[.pointer (some ⟨q, 0, none⟩), .pointer (some ⟨p, 0, none⟩), .agg #[.int .i64 16, .int .i64 (a : Nat)]] ww (StpEnd ww B q p gi g m s n' T f b sg va vd 100000 (objM T f.ppl b.sk 16 a v))) :
  Calls Tryd.prog 42 #[.pointer (some ⟨q, 0, none⟩), .pointer (some ⟨p, 0, none⟩), .agg #[.int .i64 16, .int .i64 (a : Int)]] w (StpEnd w B q p gi g m s n T f b sg va vd 200000 (stepM T f.ppl b.sk sg.r 16 a v)) := by
 obtain ⟨hBp, hpl⟩ := hv.n.hp
 have hlt := h.lt
 have hBw := h.hB
 obtain ⟨w1, hw1⟩ : ∃ w1, w1 = w.alloc (.cells #[.int .i64 16, .int .i64 (a : Int)] 87) := ⟨_, rfl⟩
 have hb1 : Blk w1 w.heap.size 87 #[.int .i64 16, .int .i64 (a : Int)] := by rw [hw1]; exact Blk.new _ _ _
 have hbb : Below w.heap.size w w1 := by rw [hw1]; exact (Below.refl _ w).alloc (Nat.le_refl _) _
 have HX := hide (h.below hbb)
 have HV := hide (hv.n.below hbb)
 have HF : Hid (Keep (Fr3 s B w.heap.size) w w1) := hide (keep_fr hbb)
 have HI : Hid (Blk w1 w.heap.size 87 #[.int .i64 16, .int .i64 (a : Int)]) := hide hb1
 have i0 : w1.cell? ⟨w.heap.size, 0, none⟩ = some (.int .i64 16) := hb1.cell 0
 have i1 : w1.cell? ⟨w.heap.size, 1, none⟩ = some (.int .i64 (a : Int)) := hb1.cell 1
 have hwl : w.heap.size < w1.heap.size := hb1.lt
 clear h hbb hb1
 go_enter Tryd.func42, Tryd.ntmps42
 go_upto_region 1 with fail
 rw [← hw1]
 clear hw1
 have hS2 : v.st.length ≤ 2000 := hS.2.2.2
 go_upto_region 2 with (first | (go_at_call 12; refine (int_any _).mono ?_; rintro e w2 ⟨rfl, hb2⟩; replace HX := hide (HX.out.below hb2); replace HV := hide (HV.out.below hb2); replace HF := hide (HF.out.tr (keep_fr hb2)); replace HI := hide (HI.out.below hb2 HI.out.lt); clear hb2) | (go_at_call 58; refine (bool_any _).mono ?_; rintro e w3 ⟨rfl, hb3⟩; replace HX := hide (HX.out.below hb3); replace HV := hide (HV.out.below hb3); replace HF := hide (HF.out.tr (keep_fr hb3)); replace HI := hide (HI.out.below hb3 HI.out.lt); clear hb3))
 obtain ⟨w4, hw4⟩ : ∃ x, x = w3.alloc (.cells #[S [105, 110, 116], .bool false] 24) := ⟨_, rfl⟩
 obtain ⟨w5, hw5⟩ : ∃ x, x = w4.alloc (.cells #[S [98, 111, 111, 108], .bool false] 24) := ⟨_, rfl⟩
 obtain ⟨r7, hr7⟩ : ∃ x, x = w3.heap.size := ⟨_, rfl⟩
 have hs4 : w4.heap.size = r7 + 1 := by rw [hw4, hr7]; simp
 obtain ⟨r8, hr8⟩ : ∃ x, x = r7 + 1 := ⟨_, rfl⟩
 have HT : Hid (Blk w5 r7 24 #[S [105, 110, 116], .bool false]) := hide (by rw [hw5, hw4, hr7]; exact (Blk.new _ _ _).alloc _)
 have HU : Hid (Blk w5 r8 24 #[S [98, 111, 111, 108], .bool false]) := hide (by rw [hr8, ← hs4, hw5]; exact Blk.new _ _ _)
 have hl_r7 : w.heap.size ≤ r7 := by rw [hr7]; exact HF.out.size
 have hbel : Below w3.heap.size w3 w5 := by rw [hw5, hw4]; exact ((Below.refl _ _).alloc (Nat.le_refl _) _).alloc (by simp) _
 replace HX := hide (HX.out.below hbel)
 replace HV := hide (HV.out.below hbel)
 replace HF := hide (HF.out.tr (keep_fr hbel))
 replace HI := hide (HI.out.below hbel HI.out.lt)
 rw [← hw4, ← hw5, ← hr7, ← hr8]
 have hlr8 : w.heap.size ≤ r8 := by omega
 clear hw4 hw5 hr7 hs4 hr8 hbel i0 i1
 have i0 : w5.cell? ⟨w.heap.size, 0, none⟩ = some (.int .i64 16) := HI.out.cell 0
 have i1 : w5.cell? ⟨w.heap.size, 1, none⟩ = some (.int .i64 (a : Int)) := HI.out.cell 1
 have p0 : w5.cell? ⟨r7, 0, none⟩ = some (S [105, 110, 116]) := HT.out.cell 0
 have p1 : w5.cell? ⟨r7, 1, none⟩ = some (.bool false) := HT.out.cell 1
 have u0 : w5.cell? ⟨r8, 0, none⟩ = some (S [98, 111, 111, 108]) := HU.out.cell 0
 have u1 : w5.cell? ⟨r8, 1, none⟩ = some (.bool false) := HU.out.cell 1
 have HM : Hid (∀ _ : Unit, stepM T f.ppl b.sk sg.r 16 a v = objM T f.ppl b.sk 16 a v) := hide (fun _ => by unfold stepM; (iterate 14 rw [if_neg (by decide)]); rw [if_neg (by decide)])
 clear p0 p1 u0 u1
 go_wp2_with (go_at_call 64; refine (hO _ _ HX.out HV.out.e (by omega)).mono ?_; rintro e w7 ⟨rfl, hx7, hk7, hv7⟩)
 go_ret
 exact ⟨by rw [HM.out ()] <;> rfl, hx7.mono (by omega), HF.out.trans' hk7 (fun k hk e => fr_up hk e HF.out.size), fun x hx => hv7 x (by rw [HM.out ()] at hx; exact hx)⟩
set_option maxRecDepth 100000 in
set_option maxHeartbeats 4000000 in
theorem step17 (w : World) (B q p gi g m s n : Nat) (T : List Fc) (f : Fl) (b : Bd) (sg : Sg) (va vd : Value) (v : Vs) (a : Nat) (h : Sx w B q gi g m s n T f b sg va vd) (hv : WsE w B p v) (hS : VsS v) (hn : n ≤ 5000000000000000) (hO : ∀ ww n', Sx ww B q gi g m s n' T f b sg va vd → WsE ww B p v → n' ≤ 6000000000000000 → Calls Tryd.prog 64 #[.pointer (some ⟨q, 0, none⟩), .pointer (some ⟨p, 0, none⟩), .agg #[.int .i64 17, .int .i64 (a : Nat)]] ww (StpEnd ww B q p gi g m s n' T f b sg va vd 100000 (objM T f.ppl b.sk 17 a v))) :
  Calls Tryd.prog 42 #[.pointer (some ⟨q, 0, none⟩), .pointer (some ⟨p, 0, none⟩), .agg #[.int .i64 17, .int .i64 (a : Int)]] w (StpEnd w B q p gi g m s n T f b sg va vd 200000 (stepM T f.ppl b.sk sg.r 17 a v)) := by
 obtain ⟨hBp, hpl⟩ := hv.n.hp
 have hlt := h.lt
 have hBw := h.hB
 obtain ⟨w1, hw1⟩ : ∃ w1, w1 = w.alloc (.cells #[.int .i64 17, .int .i64 (a : Int)] 87) := ⟨_, rfl⟩
 have hb1 : Blk w1 w.heap.size 87 #[.int .i64 17, .int .i64 (a : Int)] := by rw [hw1]; exact Blk.new _ _ _
 have hbb : Below w.heap.size w w1 := by rw [hw1]; exact (Below.refl _ w).alloc (Nat.le_refl _) _
 have HX := hide (h.below hbb)
 have HV := hide (hv.n.below hbb)
 have HF : Hid (Keep (Fr3 s B w.heap.size) w w1) := hide (keep_fr hbb)
 have HI : Hid (Blk w1 w.heap.size 87 #[.int .i64 17, .int .i64 (a : Int)]) := hide hb1
 have i0 : w1.cell? ⟨w.heap.size, 0, none⟩ = some (.int .i64 17) := hb1.cell 0
 have i1 : w1.cell? ⟨w.heap.size, 1, none⟩ = some (.int .i64 (a : Int)) := hb1.cell 1
 have hwl : w.heap.size < w1.heap.size := hb1.lt
 clear h hbb hb1
 go_enter Tryd.func42, Tryd.ntmps42
 go_upto_region 1 with fail
 rw [← hw1]
 clear hw1
 have hS2 : v.st.length ≤ 2000 := hS.2.2.2
 go_upto_region 2 with (first | (go_at_call 12; refine (int_any _).mono ?_; rintro e w2 ⟨rfl, hb2⟩; replace HX := hide (HX.out.below hb2); replace HV := hide (HV.out.below hb2); replace HF := hide (HF.out.tr (keep_fr hb2)); replace HI := hide (HI.out.below hb2 HI.out.lt); clear hb2) | (go_at_call 58; refine (bool_any _).mono ?_; rintro e w3 ⟨rfl, hb3⟩; replace HX := hide (HX.out.below hb3); replace HV := hide (HV.out.below hb3); replace HF := hide (HF.out.tr (keep_fr hb3)); replace HI := hide (HI.out.below hb3 HI.out.lt); clear hb3))
 obtain ⟨w4, hw4⟩ : ∃ x, x = w3.alloc (.cells #[S [105, 110, 116], .bool false] 24) := ⟨_, rfl⟩
 obtain ⟨w5, hw5⟩ : ∃ x, x = w4.alloc (.cells #[S [98, 111, 111, 108], .bool false] 24) := ⟨_, rfl⟩
 obtain ⟨r7, hr7⟩ : ∃ x, x = w3.heap.size := ⟨_, rfl⟩
 have hs4 : w4.heap.size = r7 + 1 := by rw [hw4, hr7]; simp
 obtain ⟨r8, hr8⟩ : ∃ x, x = r7 + 1 := ⟨_, rfl⟩
 have HT : Hid (Blk w5 r7 24 #[S [105, 110, 116], .bool false]) := hide (by rw [hw5, hw4, hr7]; exact (Blk.new _ _ _).alloc _)
 have HU : Hid (Blk w5 r8 24 #[S [98, 111, 111, 108], .bool false]) := hide (by rw [hr8, ← hs4, hw5]; exact Blk.new _ _ _)
 have hl_r7 : w.heap.size ≤ r7 := by rw [hr7]; exact HF.out.size
 have hbel : Below w3.heap.size w3 w5 := by rw [hw5, hw4]; exact ((Below.refl _ _).alloc (Nat.le_refl _) _).alloc (by simp) _
 replace HX := hide (HX.out.below hbel)
 replace HV := hide (HV.out.below hbel)
 replace HF := hide (HF.out.tr (keep_fr hbel))
 replace HI := hide (HI.out.below hbel HI.out.lt)
 rw [← hw4, ← hw5, ← hr7, ← hr8]
 have hlr8 : w.heap.size ≤ r8 := by omega
 clear hw4 hw5 hr7 hs4 hr8 hbel i0 i1
 have i0 : w5.cell? ⟨w.heap.size, 0, none⟩ = some (.int .i64 17) := HI.out.cell 0
 have i1 : w5.cell? ⟨w.heap.size, 1, none⟩ = some (.int .i64 (a : Int)) := HI.out.cell 1
 have p0 : w5.cell? ⟨r7, 0, none⟩ = some (S [105, 110, 116]) := HT.out.cell 0
 have p1 : w5.cell? ⟨r7, 1, none⟩ = some (.bool false) := HT.out.cell 1
 have u0 : w5.cell? ⟨r8, 0, none⟩ = some (S [98, 111, 111, 108]) := HU.out.cell 0
 have u1 : w5.cell? ⟨r8, 1, none⟩ = some (.bool false) := HU.out.cell 1
 have HM : Hid (∀ _ : Unit, stepM T f.ppl b.sk sg.r 17 a v = objM T f.ppl b.sk 17 a v) := hide (fun _ => by unfold stepM; (iterate 14 rw [if_neg (by decide)]); rw [if_neg (by decide)])
 clear p0 p1 u0 u1
 go_wp2_with (go_at_call 64; refine (hO _ _ HX.out HV.out.e (by omega)).mono ?_; rintro e w7 ⟨rfl, hx7, hk7, hv7⟩)
 go_ret
 exact ⟨by rw [HM.out ()] <;> rfl, hx7.mono (by omega), HF.out.trans' hk7 (fun k hk e => fr_up hk e HF.out.size), fun x hx => hv7 x (by rw [HM.out ()] at hx; exact hx)⟩
set_option maxRecDepth 100000 in
set_option maxHeartbeats 4000000 in
theorem step18 (w : World) (B q p gi g m s n : Nat) (T : List Fc) (f : Fl) (b : Bd) (sg : Sg) (va vd : Value) (v : Vs) (a : Nat) (h : Sx w B q gi g m s n T f b sg va vd) (hv : WsE w B p v) (hS : VsS v) (hn : n ≤ 5000000000000000) (hO : ∀ ww n', Sx ww B q gi g m s n' T f b sg va vd → WsE ww B p v → n' ≤ 6000000000000000 → Calls Tryd.prog 64 #[.pointer (some ⟨q, 0, none⟩), .pointer (some ⟨p, 0, none⟩), .agg #[.int .i64 18, .int .i64 (a : Nat)]] ww (StpEnd ww B q p gi g m s n' T f b sg va vd 100000 (objM T f.ppl b.sk 18 a v))) :
  Calls Tryd.prog 42 #[.pointer (some ⟨q, 0, none⟩), .pointer (some ⟨p, 0, none⟩), .agg #[.int .i64 18, .int .i64 (a : Int)]] w (StpEnd w B q p gi g m s n T f b sg va vd 200000 (stepM T f.ppl b.sk sg.r 18 a v)) := by
 obtain ⟨hBp, hpl⟩ := hv.n.hp
 have hlt := h.lt
 have hBw := h.hB
 obtain ⟨w1, hw1⟩ : ∃ w1, w1 = w.alloc (.cells #[.int .i64 18, .int .i64 (a : Int)] 87) := ⟨_, rfl⟩
 have hb1 : Blk w1 w.heap.size 87 #[.int .i64 18, .int .i64 (a : Int)] := by rw [hw1]; exact Blk.new _ _ _
 have hbb : Below w.heap.size w w1 := by rw [hw1]; exact (Below.refl _ w).alloc (Nat.le_refl _) _
 have HX := hide (h.below hbb)
 have HV := hide (hv.n.below hbb)
 have HF : Hid (Keep (Fr3 s B w.heap.size) w w1) := hide (keep_fr hbb)
 have HI : Hid (Blk w1 w.heap.size 87 #[.int .i64 18, .int .i64 (a : Int)]) := hide hb1
 have i0 : w1.cell? ⟨w.heap.size, 0, none⟩ = some (.int .i64 18) := hb1.cell 0
 have i1 : w1.cell? ⟨w.heap.size, 1, none⟩ = some (.int .i64 (a : Int)) := hb1.cell 1
 have hwl : w.heap.size < w1.heap.size := hb1.lt
 clear h hbb hb1
 go_enter Tryd.func42, Tryd.ntmps42
 go_upto_region 1 with fail
 rw [← hw1]
 clear hw1
 have hS2 : v.st.length ≤ 2000 := hS.2.2.2
 go_upto_region 2 with (first | (go_at_call 12; refine (int_any _).mono ?_; rintro e w2 ⟨rfl, hb2⟩; replace HX := hide (HX.out.below hb2); replace HV := hide (HV.out.below hb2); replace HF := hide (HF.out.tr (keep_fr hb2)); replace HI := hide (HI.out.below hb2 HI.out.lt); clear hb2) | (go_at_call 58; refine (bool_any _).mono ?_; rintro e w3 ⟨rfl, hb3⟩; replace HX := hide (HX.out.below hb3); replace HV := hide (HV.out.below hb3); replace HF := hide (HF.out.tr (keep_fr hb3)); replace HI := hide (HI.out.below hb3 HI.out.lt); clear hb3))
 obtain ⟨w4, hw4⟩ : ∃ x, x = w3.alloc (.cells #[S [105, 110, 116], .bool false] 24) := ⟨_, rfl⟩
 obtain ⟨w5, hw5⟩ : ∃ x, x = w4.alloc (.cells #[S [98, 111, 111, 108], .bool false] 24) := ⟨_, rfl⟩
 obtain ⟨r7, hr7⟩ : ∃ x, x = w3.heap.size := ⟨_, rfl⟩
 have hs4 : w4.heap.size = r7 + 1 := by rw [hw4, hr7]; simp
 obtain ⟨r8, hr8⟩ : ∃ x, x = r7 + 1 := ⟨_, rfl⟩
 have HT : Hid (Blk w5 r7 24 #[S [105, 110, 116], .bool false]) := hide (by rw [hw5, hw4, hr7]; exact (Blk.new _ _ _).alloc _)
 have HU : Hid (Blk w5 r8 24 #[S [98, 111, 111, 108], .bool false]) := hide (by rw [hr8, ← hs4, hw5]; exact Blk.new _ _ _)
 have hl_r7 : w.heap.size ≤ r7 := by rw [hr7]; exact HF.out.size
 have hbel : Below w3.heap.size w3 w5 := by rw [hw5, hw4]; exact ((Below.refl _ _).alloc (Nat.le_refl _) _).alloc (by simp) _
 replace HX := hide (HX.out.below hbel)
 replace HV := hide (HV.out.below hbel)
 replace HF := hide (HF.out.tr (keep_fr hbel))
 replace HI := hide (HI.out.below hbel HI.out.lt)
 rw [← hw4, ← hw5, ← hr7, ← hr8]
 have hlr8 : w.heap.size ≤ r8 := by omega
 clear hw4 hw5 hr7 hs4 hr8 hbel i0 i1
 have i0 : w5.cell? ⟨w.heap.size, 0, none⟩ = some (.int .i64 18) := HI.out.cell 0
 have i1 : w5.cell? ⟨w.heap.size, 1, none⟩ = some (.int .i64 (a : Int)) := HI.out.cell 1
 have p0 : w5.cell? ⟨r7, 0, none⟩ = some (S [105, 110, 116]) := HT.out.cell 0
 have p1 : w5.cell? ⟨r7, 1, none⟩ = some (.bool false) := HT.out.cell 1
 have u0 : w5.cell? ⟨r8, 0, none⟩ = some (S [98, 111, 111, 108]) := HU.out.cell 0
 have u1 : w5.cell? ⟨r8, 1, none⟩ = some (.bool false) := HU.out.cell 1
 have HM : Hid (∀ _ : Unit, stepM T f.ppl b.sk sg.r 18 a v = objM T f.ppl b.sk 18 a v) := hide (fun _ => by unfold stepM; (iterate 14 rw [if_neg (by decide)]); rw [if_neg (by decide)])
 clear p0 p1 u0 u1
 go_wp2_with (go_at_call 64; refine (hO _ _ HX.out HV.out.e (by omega)).mono ?_; rintro e w7 ⟨rfl, hx7, hk7, hv7⟩)
 go_ret
 exact ⟨by rw [HM.out ()] <;> rfl, hx7.mono (by omega), HF.out.trans' hk7 (fun k hk e => fr_up hk e HF.out.size), fun x hx => hv7 x (by rw [HM.out ()] at hx; exact hx)⟩
set_option maxRecDepth 100000 in
set_option maxHeartbeats 4000000 in
theorem step19 (w : World) (B q p gi g m s n : Nat) (T : List Fc) (f : Fl) (b : Bd) (sg : Sg) (va vd : Value) (v : Vs) (a : Nat) (h : Sx w B q gi g m s n T f b sg va vd) (hv : WsE w B p v) (hS : VsS v) (hn : n ≤ 5000000000000000) (hO : ∀ ww n', Sx ww B q gi g m s n' T f b sg va vd → WsE ww B p v → n' ≤ 6000000000000000 → Calls Tryd.prog 64 #[.pointer (some ⟨q, 0, none⟩), .pointer (some ⟨p, 0, none⟩), .agg #[.int .i64 19, .int .i64 (a : Nat)]] ww (StpEnd ww B q p gi g m s n' T f b sg va vd 100000 (objM T f.ppl b.sk 19 a v))) :
  Calls Tryd.prog 42 #[.pointer (some ⟨q, 0, none⟩), .pointer (some ⟨p, 0, none⟩), .agg #[.int .i64 19, .int .i64 (a : Int)]] w (StpEnd w B q p gi g m s n T f b sg va vd 200000 (stepM T f.ppl b.sk sg.r 19 a v)) := by
 obtain ⟨hBp, hpl⟩ := hv.n.hp
 have hlt := h.lt
 have hBw := h.hB
 obtain ⟨w1, hw1⟩ : ∃ w1, w1 = w.alloc (.cells #[.int .i64 19, .int .i64 (a : Int)] 87) := ⟨_, rfl⟩
 have hb1 : Blk w1 w.heap.size 87 #[.int .i64 19, .int .i64 (a : Int)] := by rw [hw1]; exact Blk.new _ _ _
 have hbb : Below w.heap.size w w1 := by rw [hw1]; exact (Below.refl _ w).alloc (Nat.le_refl _) _
 have HX := hide (h.below hbb)
 have HV := hide (hv.n.below hbb)
 have HF : Hid (Keep (Fr3 s B w.heap.size) w w1) := hide (keep_fr hbb)
 have HI : Hid (Blk w1 w.heap.size 87 #[.int .i64 19, .int .i64 (a : Int)]) := hide hb1
 have i0 : w1.cell? ⟨w.heap.size, 0, none⟩ = some (.int .i64 19) := hb1.cell 0
 have i1 : w1.cell? ⟨w.heap.size, 1, none⟩ = some (.int .i64 (a : Int)) := hb1.cell 1
 have hwl : w.heap.size < w1.heap.size := hb1.lt
 clear h hbb hb1
 go_enter Tryd.func42, Tryd.ntmps42
 go_upto_region 1 with fail
 rw [← hw1]
 clear hw1
 have hS2 : v.st.length ≤ 2000 := hS.2.2.2
 go_upto_region 2 with (first | (go_at_call 12; refine (int_any _).mono ?_; rintro e w2 ⟨rfl, hb2⟩; replace HX := hide (HX.out.below hb2); replace HV := hide (HV.out.below hb2); replace HF := hide (HF.out.tr (keep_fr hb2)); replace HI := hide (HI.out.below hb2 HI.out.lt); clear hb2) | (go_at_call 58; refine (bool_any _).mono ?_; rintro e w3 ⟨rfl, hb3⟩; replace HX := hide (HX.out.below hb3); replace HV := hide (HV.out.below hb3); replace HF := hide (HF.out.tr (keep_fr hb3)); replace HI := hide (HI.out.below hb3 HI.out.lt); clear hb3))
 obtain ⟨w4, hw4⟩ : ∃ x, x = w3.alloc (.cells #[S [105, 110, 116], .bool false] 24) := ⟨_, rfl⟩
 obtain ⟨w5, hw5⟩ : ∃ x, x = w4.alloc (.cells #[S [98, 111, 111, 108], .bool false] 24) := ⟨_, rfl⟩
 obtain ⟨r7, hr7⟩ : ∃ x, x = w3.heap.size := ⟨_, rfl⟩
 have hs4 : w4.heap.size = r7 + 1 := by rw [hw4, hr7]; simp
 obtain ⟨r8, hr8⟩ : ∃ x, x = r7 + 1 := ⟨_, rfl⟩
 have HT : Hid (Blk w5 r7 24 #[S [105, 110, 116], .bool false]) := hide (by rw [hw5, hw4, hr7]; exact (Blk.new _ _ _).alloc _)
 have HU : Hid (Blk w5 r8 24 #[S [98, 111, 111, 108], .bool false]) := hide (by rw [hr8, ← hs4, hw5]; exact Blk.new _ _ _)
 have hl_r7 : w.heap.size ≤ r7 := by rw [hr7]; exact HF.out.size
 have hbel : Below w3.heap.size w3 w5 := by rw [hw5, hw4]; exact ((Below.refl _ _).alloc (Nat.le_refl _) _).alloc (by simp) _
 replace HX := hide (HX.out.below hbel)
 replace HV := hide (HV.out.below hbel)
 replace HF := hide (HF.out.tr (keep_fr hbel))
 replace HI := hide (HI.out.below hbel HI.out.lt)
 rw [← hw4, ← hw5, ← hr7, ← hr8]
 have hlr8 : w.heap.size ≤ r8 := by omega
 clear hw4 hw5 hr7 hs4 hr8 hbel i0 i1
 have i0 : w5.cell? ⟨w.heap.size, 0, none⟩ = some (.int .i64 19) := HI.out.cell 0
 have i1 : w5.cell? ⟨w.heap.size, 1, none⟩ = some (.int .i64 (a : Int)) := HI.out.cell 1
 have p0 : w5.cell? ⟨r7, 0, none⟩ = some (S [105, 110, 116]) := HT.out.cell 0
 have p1 : w5.cell? ⟨r7, 1, none⟩ = some (.bool false) := HT.out.cell 1
 have u0 : w5.cell? ⟨r8, 0, none⟩ = some (S [98, 111, 111, 108]) := HU.out.cell 0
 have u1 : w5.cell? ⟨r8, 1, none⟩ = some (.bool false) := HU.out.cell 1
 have HM : Hid (∀ _ : Unit, stepM T f.ppl b.sk sg.r 19 a v = objM T f.ppl b.sk 19 a v) := hide (fun _ => by unfold stepM; (iterate 14 rw [if_neg (by decide)]); rw [if_neg (by decide)])
 clear p0 p1 u0 u1
 go_wp2_with (go_at_call 64; refine (hO _ _ HX.out HV.out.e (by omega)).mono ?_; rintro e w7 ⟨rfl, hx7, hk7, hv7⟩)
 go_ret
 exact ⟨by rw [HM.out ()] <;> rfl, hx7.mono (by omega), HF.out.trans' hk7 (fun k hk e => fr_up hk e HF.out.size), fun x hx => hv7 x (by rw [HM.out ()] at hx; exact hx)⟩
set_option maxRecDepth 100000 in
set_option maxHeartbeats 4000000 in
theorem step20 (w : World) (B q p gi g m s n : Nat) (T : List Fc) (f : Fl) (b : Bd) (sg : Sg) (va vd : Value) (v : Vs) (a : Nat) (h : Sx w B q gi g m s n T f b sg va vd) (hv : WsE w B p v) (hS : VsS v) (hn : n ≤ 5000000000000000) (hO : ∀ ww n', Sx ww B q gi g m s n' T f b sg va vd → WsE ww B p v → n' ≤ 6000000000000000 → Calls Tryd.prog 64 #[.pointer (some ⟨q, 0, none⟩), .pointer (some ⟨p, 0, none⟩), .agg #[.int .i64 20, .int .i64 (a : Nat)]] ww (StpEnd ww B q p gi g m s n' T f b sg va vd 100000 (objM T f.ppl b.sk 20 a v))) :
  Calls Tryd.prog 42 #[.pointer (some ⟨q, 0, none⟩), .pointer (some ⟨p, 0, none⟩), .agg #[.int .i64 20, .int .i64 (a : Int)]] w (StpEnd w B q p gi g m s n T f b sg va vd 200000 (stepM T f.ppl b.sk sg.r 20 a v)) := by
 obtain ⟨hBp, hpl⟩ := hv.n.hp
 have hlt := h.lt
 have hBw := h.hB
 obtain ⟨w1, hw1⟩ : ∃ w1, w1 = w.alloc (.cells #[.int .i64 20, .int .i64 (a : Int)] 87) := ⟨_, rfl⟩
 have hb1 : Blk w1 w.heap.size 87 #[.int .i64 20, .int .i64 (a : Int)] := by rw [hw1]; exact Blk.new _ _ _
 have hbb : Below w.heap.size w w1 := by rw [hw1]; exact (Below.refl _ w).alloc (Nat.le_refl _) _
 have HX := hide (h.below hbb)
 have HV := hide (hv.n.below hbb)
 have HF : Hid (Keep (Fr3 s B w.heap.size) w w1) := hide (keep_fr hbb)
 have HI : Hid (Blk w1 w.heap.size 87 #[.int .i64 20, .int .i64 (a : Int)]) := hide hb1
 have i0 : w1.cell? ⟨w.heap.size, 0, none⟩ = some (.int .i64 20) := hb1.cell 0
 have i1 : w1.cell? ⟨w.heap.size, 1, none⟩ = some (.int .i64 (a : Int)) := hb1.cell 1
 have hwl : w.heap.size < w1.heap.size := hb1.lt
 clear h hbb hb1
 go_enter Tryd.func42, Tryd.ntmps42
 go_upto_region 1 with fail
 rw [← hw1]
 clear hw1
 have hS2 : v.st.length ≤ 2000 := hS.2.2.2
 go_upto_region 2 with (first | (go_at_call 12; refine (int_any _).mono ?_; rintro e w2 ⟨rfl, hb2⟩; replace HX := hide (HX.out.below hb2); replace HV := hide (HV.out.below hb2); replace HF := hide (HF.out.tr (keep_fr hb2)); replace HI := hide (HI.out.below hb2 HI.out.lt); clear hb2) | (go_at_call 58; refine (bool_any _).mono ?_; rintro e w3 ⟨rfl, hb3⟩; replace HX := hide (HX.out.below hb3); replace HV := hide (HV.out.below hb3); replace HF := hide (HF.out.tr (keep_fr hb3)); replace HI := hide (HI.out.below hb3 HI.out.lt); clear hb3))
 obtain ⟨w4, hw4⟩ : ∃ x, x = w3.alloc (.cells #[S [105, 110, 116], .bool false] 24) := ⟨_, rfl⟩
 obtain ⟨w5, hw5⟩ : ∃ x, x = w4.alloc (.cells #[S [98, 111, 111, 108], .bool false] 24) := ⟨_, rfl⟩
 obtain ⟨r7, hr7⟩ : ∃ x, x = w3.heap.size := ⟨_, rfl⟩
 have hs4 : w4.heap.size = r7 + 1 := by rw [hw4, hr7]; simp
 obtain ⟨r8, hr8⟩ : ∃ x, x = r7 + 1 := ⟨_, rfl⟩
 have HT : Hid (Blk w5 r7 24 #[S [105, 110, 116], .bool false]) := hide (by rw [hw5, hw4, hr7]; exact (Blk.new _ _ _).alloc _)
 have HU : Hid (Blk w5 r8 24 #[S [98, 111, 111, 108], .bool false]) := hide (by rw [hr8, ← hs4, hw5]; exact Blk.new _ _ _)
 have hl_r7 : w.heap.size ≤ r7 := by rw [hr7]; exact HF.out.size
 have hbel : Below w3.heap.size w3 w5 := by rw [hw5, hw4]; exact ((Below.refl _ _).alloc (Nat.le_refl _) _).alloc (by simp) _
 replace HX := hide (HX.out.below hbel)
 replace HV := hide (HV.out.below hbel)
 replace HF := hide (HF.out.tr (keep_fr hbel))
 replace HI := hide (HI.out.below hbel HI.out.lt)
 rw [← hw4, ← hw5, ← hr7, ← hr8]
 have hlr8 : w.heap.size ≤ r8 := by omega
 clear hw4 hw5 hr7 hs4 hr8 hbel i0 i1
 have i0 : w5.cell? ⟨w.heap.size, 0, none⟩ = some (.int .i64 20) := HI.out.cell 0
 have i1 : w5.cell? ⟨w.heap.size, 1, none⟩ = some (.int .i64 (a : Int)) := HI.out.cell 1
 have p0 : w5.cell? ⟨r7, 0, none⟩ = some (S [105, 110, 116]) := HT.out.cell 0
 have p1 : w5.cell? ⟨r7, 1, none⟩ = some (.bool false) := HT.out.cell 1
 have u0 : w5.cell? ⟨r8, 0, none⟩ = some (S [98, 111, 111, 108]) := HU.out.cell 0
 have u1 : w5.cell? ⟨r8, 1, none⟩ = some (.bool false) := HU.out.cell 1
 have HM : Hid (∀ _ : Unit, stepM T f.ppl b.sk sg.r 20 a v = objM T f.ppl b.sk 20 a v) := hide (fun _ => by unfold stepM; (iterate 14 rw [if_neg (by decide)]); rw [if_neg (by decide)])
 clear p0 p1 u0 u1
 go_wp2_with (go_at_call 64; refine (hO _ _ HX.out HV.out.e (by omega)).mono ?_; rintro e w7 ⟨rfl, hx7, hk7, hv7⟩)
 go_ret
 exact ⟨by rw [HM.out ()] <;> rfl, hx7.mono (by omega), HF.out.trans' hk7 (fun k hk e => fr_up hk e HF.out.size), fun x hx => hv7 x (by rw [HM.out ()] at hx; exact hx)⟩
set_option maxRecDepth 100000 in
set_option maxHeartbeats 4000000 in
theorem step21 (w : World) (B q p gi g m s n : Nat) (T : List Fc) (f : Fl) (b : Bd) (sg : Sg) (va vd : Value) (v : Vs) (a : Nat) (h : Sx w B q gi g m s n T f b sg va vd) (hv : WsE w B p v) (hS : VsS v) (hn : n ≤ 5000000000000000) (hO : ∀ ww n', Sx ww B q gi g m s n' T f b sg va vd → WsE ww B p v → n' ≤ 6000000000000000 → Calls Tryd.prog 64 #[.pointer (some ⟨q, 0, none⟩), .pointer (some ⟨p, 0, none⟩), .agg #[.int .i64 21, .int .i64 (a : Nat)]] ww (StpEnd ww B q p gi g m s n' T f b sg va vd 100000 (objM T f.ppl b.sk 21 a v))) :
  Calls Tryd.prog 42 #[.pointer (some ⟨q, 0, none⟩), .pointer (some ⟨p, 0, none⟩), .agg #[.int .i64 21, .int .i64 (a : Int)]] w (StpEnd w B q p gi g m s n T f b sg va vd 200000 (stepM T f.ppl b.sk sg.r 21 a v)) := by
 obtain ⟨hBp, hpl⟩ := hv.n.hp
 have hlt := h.lt
 have hBw := h.hB
 obtain ⟨w1, hw1⟩ : ∃ w1, w1 = w.alloc (.cells #[.int .i64 21, .int .i64 (a : Int)] 87) := ⟨_, rfl⟩
 have hb1 : Blk w1 w.heap.size 87 #[.int .i64 21, .int .i64 (a : Int)] := by rw [hw1]; exact Blk.new _ _ _
 have hbb : Below w.heap.size w w1 := by rw [hw1]; exact (Below.refl _ w).alloc (Nat.le_refl _) _
 have HX := hide (h.below hbb)
 have HV := hide (hv.n.below hbb)
 have HF : Hid (Keep (Fr3 s B w.heap.size) w w1) := hide (keep_fr hbb)
 have HI : Hid (Blk w1 w.heap.size 87 #[.int .i64 21, .int .i64 (a : Int)]) := hide hb1
 have i0 : w1.cell? ⟨w.heap.size, 0, none⟩ = some (.int .i64 21) := hb1.cell 0
 have i1 : w1.cell? ⟨w.heap.size, 1, none⟩ = some (.int .i64 (a : Int)) := hb1.cell 1
 have hwl : w.heap.size < w1.heap.size := hb1.lt
 clear h hbb hb1
 go_enter Tryd.func42, Tryd.ntmps42
 go_upto_region 1 with fail
 rw [← hw1]
 clear hw1
 have hS2 : v.st.length ≤ 2000 := hS.2.2.2
 go_upto_region 2 with (first | (go_at_call 12; refine (int_any _).mono ?_; rintro e w2 ⟨rfl, hb2⟩; replace HX := hide (HX.out.below hb2); replace HV := hide (HV.out.below hb2); replace HF := hide (HF.out.tr (keep_fr hb2)); replace HI := hide (HI.out.below hb2 HI.out.lt); clear hb2) | (go_at_call 58; refine (bool_any _).mono ?_; rintro e w3 ⟨rfl, hb3⟩; replace HX := hide (HX.out.below hb3); replace HV := hide (HV.out.below hb3); replace HF := hide (HF.out.tr (keep_fr hb3)); replace HI := hide (HI.out.below hb3 HI.out.lt); clear hb3))
 obtain ⟨w4, hw4⟩ : ∃ x, x = w3.alloc (.cells #[S [105, 110, 116], .bool false] 24) := ⟨_, rfl⟩
 obtain ⟨w5, hw5⟩ : ∃ x, x = w4.alloc (.cells #[S [98, 111, 111, 108], .bool false] 24) := ⟨_, rfl⟩
 obtain ⟨r7, hr7⟩ : ∃ x, x = w3.heap.size := ⟨_, rfl⟩
 have hs4 : w4.heap.size = r7 + 1 := by rw [hw4, hr7]; simp
 obtain ⟨r8, hr8⟩ : ∃ x, x = r7 + 1 := ⟨_, rfl⟩
 have HT : Hid (Blk w5 r7 24 #[S [105, 110, 116], .bool false]) := hide (by rw [hw5, hw4, hr7]; exact (Blk.new _ _ _).alloc _)
 have HU : Hid (Blk w5 r8 24 #[S [98, 111, 111, 108], .bool false]) := hide (by rw [hr8, ← hs4, hw5]; exact Blk.new _ _ _)
 have hl_r7 : w.heap.size ≤ r7 := by rw [hr7]; exact HF.out.size
 have hbel : Below w3.heap.size w3 w5 := by rw [hw5, hw4]; exact ((Below.refl _ _).alloc (Nat.le_refl _) _).alloc (by simp) _
 replace HX := hide (HX.out.below hbel)
 replace HV := hide (HV.out.below hbel)
 replace HF := hide (HF.out.tr (keep_fr hbel))
 replace HI := hide (HI.out.below hbel HI.out.lt)
 rw [← hw4, ← hw5, ← hr7, ← hr8]
 have hlr8 : w.heap.size ≤ r8 := by omega
 clear hw4 hw5 hr7 hs4 hr8 hbel i0 i1
 have i0 : w5.cell? ⟨w.heap.size, 0, none⟩ = some (.int .i64 21) := HI.out.cell 0
 have i1 : w5.cell? ⟨w.heap.size, 1, none⟩ = some (.int .i64 (a : Int)) := HI.out.cell 1
 have p0 : w5.cell? ⟨r7, 0, none⟩ = some (S [105, 110, 116]) := HT.out.cell 0
 have p1 : w5.cell? ⟨r7, 1, none⟩ = some (.bool false) := HT.out.cell 1
 have u0 : w5.cell? ⟨r8, 0, none⟩ = some (S [98, 111, 111, 108]) := HU.out.cell 0
 have u1 : w5.cell? ⟨r8, 1, none⟩ = some (.bool false) := HU.out.cell 1
 have HM : Hid (∀ _ : Unit, stepM T f.ppl b.sk sg.r 21 a v = objM T f.ppl b.sk 21 a v) := hide (fun _ => by unfold stepM; (iterate 14 rw [if_neg (by decide)]); rw [if_neg (by decide)])
 clear p0 p1 u0 u1
 go_wp2_with (go_at_call 64; refine (hO _ _ HX.out HV.out.e (by omega)).mono ?_; rintro e w7 ⟨rfl, hx7, hk7, hv7⟩)
 go_ret
 exact ⟨by rw [HM.out ()] <;> rfl, hx7.mono (by omega), HF.out.trans' hk7 (fun k hk e => fr_up hk e HF.out.size), fun x hx => hv7 x (by rw [HM.out ()] at hx; exact hx)⟩
set_option maxRecDepth 100000 in
set_option maxHeartbeats 4000000 in
theorem step22 (w : World) (B q p gi g m s n : Nat) (T : List Fc) (f : Fl) (b : Bd) (sg : Sg) (va vd : Value) (v : Vs) (a : Nat) (h : Sx w B q gi g m s n T f b sg va vd) (hv : WsE w B p v) (hS : VsS v) (hn : n ≤ 5000000000000000) (hO : ∀ ww n', Sx ww B q gi g m s n' T f b sg va vd → WsE ww B p v → n' ≤ 6000000000000000 → Calls Tryd.prog 64 #[.pointer (some ⟨q, 0, none⟩), .pointer (some ⟨p, 0, none⟩), .agg #[.int .i64 22, .int .i64 (a : Nat)]] ww (StpEnd ww B q p gi g m s n' T f b sg va vd 100000 (objM T f.ppl b.sk 22 a v))) :
  Calls Tryd.prog 42 #[.pointer (some ⟨q, 0, none⟩), .pointer (some ⟨p, 0, none⟩), .agg #[.int .i64 22, .int .i64 (a : Int)]] w (StpEnd w B q p gi g m s n T f b sg va vd 200000 (stepM T f.ppl b.sk sg.r 22 a v)) := by
 obtain ⟨hBp, hpl⟩ := hv.n.hp
 have hlt := h.lt
 have hBw := h.hB
 obtain ⟨w1, hw1⟩ : ∃ w1, w1 = w.alloc (.cells #[.int .i64 22, .int .i64 (a : Int)] 87) := ⟨_, rfl⟩
 have hb1 : Blk w1 w.heap.size 87 #[.int .i64 22, .int .i64 (a : Int)] := by rw [hw1]; exact Blk.new _ _ _
 have hbb : Below w.heap.size w w1 := by rw [hw1]; exact (Below.refl _ w).alloc (Nat.le_refl _) _
 have HX := hide (h.below hbb)
 have HV := hide (hv.n.below hbb)
 have HF : Hid (Keep (Fr3 s B w.heap.size) w w1) := hide (keep_fr hbb)
 have HI : Hid (Blk w1 w.heap.size 87 #[.int .i64 22, .int .i64 (a : Int)]) := hide hb1
 have i0 : w1.cell? ⟨w.heap.size, 0, none⟩ = some (.int .i64 22) := hb1.cell 0
 have i1 : w1.cell? ⟨w.heap.size, 1, none⟩ = some (.int .i64 (a : Int)) := hb1.cell 1
 have hwl : w.heap.size < w1.heap.size := hb1.lt
 clear h hbb hb1
 go_enter Tryd.func42, Tryd.ntmps42
 go_upto_region 1 with fail
 rw [← hw1]
 clear hw1
 have hS2 : v.st.length ≤ 2000 := hS.2.2.2
 go_upto_region 2 with (first | (go_at_call 12; refine (int_any _).mono ?_; rintro e w2 ⟨rfl, hb2⟩; replace HX := hide (HX.out.below hb2); replace HV := hide (HV.out.below hb2); replace HF := hide (HF.out.tr (keep_fr hb2)); replace HI := hide (HI.out.below hb2 HI.out.lt); clear hb2) | (go_at_call 58; refine (bool_any _).mono ?_; rintro e w3 ⟨rfl, hb3⟩; replace HX := hide (HX.out.below hb3); replace HV := hide (HV.out.below hb3); replace HF := hide (HF.out.tr (keep_fr hb3)); replace HI := hide (HI.out.below hb3 HI.out.lt); clear hb3))
 obtain ⟨w4, hw4⟩ : ∃ x, x = w3.alloc (.cells #[S [105, 110, 116], .bool false] 24) := ⟨_, rfl⟩
 obtain ⟨w5, hw5⟩ : ∃ x, x = w4.alloc (.cells #[S [98, 111, 111, 108], .bool false] 24) := ⟨_, rfl⟩
 obtain ⟨r7, hr7⟩ : ∃ x, x = w3.heap.size := ⟨_, rfl⟩
 have hs4 : w4.heap.size = r7 + 1 := by rw [hw4, hr7]; simp
 obtain ⟨r8, hr8⟩ : ∃ x, x = r7 + 1 := ⟨_, rfl⟩
 have HT : Hid (Blk w5 r7 24 #[S [105, 110, 116], .bool false]) := hide (by rw [hw5, hw4, hr7]; exact (Blk.new _ _ _).alloc _)
 have HU : Hid (Blk w5 r8 24 #[S [98, 111, 111, 108], .bool false]) := hide (by rw [hr8, ← hs4, hw5]; exact Blk.new _ _ _)
 have hl_r7 : w.heap.size ≤ r7 := by rw [hr7]; exact HF.out.size
 have hbel : Below w3.heap.size w3 w5 := by rw [hw5, hw4]; exact ((Below.refl _ _).alloc (Nat.le_refl _) _).alloc (by simp) _
 replace HX := hide (HX.out.below hbel)
 replace HV := hide (HV.out.below hbel)
 replace HF := hide (HF.out.tr (keep_fr hbel))
 replace HI := hide (HI.out.below hbel HI.out.lt)
 rw [← hw4, ← hw5, ← hr7, ← hr8]
 have hlr8 : w.heap.size ≤ r8 := by omega
 clear hw4 hw5 hr7 hs4 hr8 hbel i0 i1
 have i0 : w5.cell? ⟨w.heap.size, 0, none⟩ = some (.int .i64 22) := HI.out.cell 0
 have i1 : w5.cell? ⟨w.heap.size, 1, none⟩ = some (.int .i64 (a : Int)) := HI.out.cell 1
 have p0 : w5.cell? ⟨r7, 0, none⟩ = some (S [105, 110, 116]) := HT.out.cell 0
 have p1 : w5.cell? ⟨r7, 1, none⟩ = some (.bool false) := HT.out.cell 1
 have u0 : w5.cell? ⟨r8, 0, none⟩ = some (S [98, 111, 111, 108]) := HU.out.cell 0
 have u1 : w5.cell? ⟨r8, 1, none⟩ = some (.bool false) := HU.out.cell 1
 have HM : Hid (∀ _ : Unit, stepM T f.ppl b.sk sg.r 22 a v = objM T f.ppl b.sk 22 a v) := hide (fun _ => by unfold stepM; (iterate 14 rw [if_neg (by decide)]); rw [if_neg (by decide)])
 clear p0 p1 u0 u1
 go_wp2_with (go_at_call 64; refine (hO _ _ HX.out HV.out.e (by omega)).mono ?_; rintro e w7 ⟨rfl, hx7, hk7, hv7⟩)
 go_ret
 exact ⟨by rw [HM.out ()] <;> rfl, hx7.mono (by omega), HF.out.trans' hk7 (fun k hk e => fr_up hk e HF.out.size), fun x hx => hv7 x (by rw [HM.out ()] at hx; exact hx)⟩
set_option maxRecDepth 100000 in
set_option maxHeartbeats 4000000 in
theorem step23 (w : World) (B q p gi g m s n : Nat) (T : List Fc) (f : Fl) (b : Bd) (sg : Sg) (va vd : Value) (v : Vs) (a : Nat) (h : Sx w B q gi g m s n T f b sg va vd) (hv : WsE w B p v) (hS : VsS v) (hn : n ≤ 5000000000000000) (hO : ∀ ww n', Sx ww B q gi g m s n' T f b sg va vd → WsE ww B p v → n' ≤ 6000000000000000 → Calls Tryd.prog 64 #[.pointer (some ⟨q, 0, none⟩), .pointer (some ⟨p, 0, none⟩), .agg #[.int .i64 23, .int .i64 (a : Nat)]] ww (StpEnd ww B q p gi g m s n' T f b sg va vd 100000 (objM T f.ppl b.sk 23 a v))) :
  Calls Tryd.prog 42 #[.pointer (some ⟨q, 0, none⟩), .pointer (some ⟨p, 0, none⟩), .agg #[.int .i64 23, .int .i64 (a : Int)]] w (StpEnd w B q p gi g m s n T f b sg va vd 200000 (stepM T f.ppl b.sk sg.r 23 a v)) := by
 obtain ⟨hBp, hpl⟩ := hv.n.hp
 have hlt := h.lt
 have hBw := h.hB
 obtain ⟨w1, hw1⟩ : ∃ w1, w1 = w.alloc (.cells #[.int .i64 23, .int .i64 (a : Int)] 87) := ⟨_, rfl⟩
 have hb1 : Blk w1 w.heap.size 87 #[.int .i64 23, .int .i64 (a : Int)] := by rw [hw1]; exact Blk.new _ _ _
 have hbb : Below w.heap.size w w1 := by rw [hw1]; exact (Below.refl _ w).alloc (Nat.le_refl _) _
 have HX := hide (h.below hbb)
 have HV := hide (hv.n.below hbb)
 have HF : Hid (Keep (Fr3 s B w.heap.size) w w1) := hide (keep_fr hbb)
 have HI : Hid (Blk w1 w.heap.size 87 #[.int .i64 23, .int .i64 (a : Int)]) := hide hb1
 have i0 : w1.cell? ⟨w.heap.size, 0, none⟩ = some (.int .i64 23) := hb1.cell 0
 have i1 : w1.cell? ⟨w.heap.size, 1, none⟩ = some (.int .i64 (a : Int)) := hb1.cell 1
 have hwl : w.heap.size < w1.heap.size := hb1.lt
 clear h hbb hb1
 go_enter Tryd.func42, Tryd.ntmps42
 go_upto_region 1 with fail
 rw [← hw1]
 clear hw1
 have hS2 : v.st.length ≤ 2000 := hS.2.2.2
 go_upto_region 2 with (first | (go_at_call 12; refine (int_any _).mono ?_; rintro e w2 ⟨rfl, hb2⟩; replace HX := hide (HX.out.below hb2); replace HV := hide (HV.out.below hb2); replace HF := hide (HF.out.tr (keep_fr hb2)); replace HI := hide (HI.out.below hb2 HI.out.lt); clear hb2) | (go_at_call 58; refine (bool_any _).mono ?_; rintro e w3 ⟨rfl, hb3⟩; replace HX := hide (HX.out.below hb3); replace HV := hide (HV.out.below hb3); replace HF := hide (HF.out.tr (keep_fr hb3)); replace HI := hide (HI.out.below hb3 HI.out.lt); clear hb3))
 obtain ⟨w4, hw4⟩ : ∃ x, x = w3.alloc (.cells #[S [105, 110, 116], .bool false] 24) := ⟨_, rfl⟩
 obtain ⟨w5, hw5⟩ : ∃ x, x = w4.alloc (.cells #[S [98, 111, 111, 108], .bool false] 24) := ⟨_, rfl⟩
 obtain ⟨r7, hr7⟩ : ∃ x, x = w3.heap.size := ⟨_, rfl⟩
 have hs4 : w4.heap.size = r7 + 1 := by rw [hw4, hr7]; simp
 obtain ⟨r8, hr8⟩ : ∃ x, x = r7 + 1 := ⟨_, rfl⟩
 have HT : Hid (Blk w5 r7 24 #[S [105, 110, 116], .bool false]) := hide (by rw [hw5, hw4, hr7]; exact (Blk.new _ _ _).alloc _)
 have HU : Hid (Blk w5 r8 24 #[S [98, 111, 111, 108], .bool false]) := hide (by rw [hr8, ← hs4, hw5]; exact Blk.new _ _ _)
 have hl_r7 : w.heap.size ≤ r7 := by rw [hr7]; exact HF.out.size
 have hbel : Below w3.heap.size w3 w5 := by rw [hw5, hw4]; exact ((Below.refl _ _).alloc (Nat.le_refl _) _).alloc (by simp) _
 replace HX := hide (HX.out.below hbel)
 replace HV := hide (HV.out.below hbel)
 replace HF := hide (HF.out.tr (keep_fr hbel))
 replace HI := hide (HI.out.below hbel HI.out.lt)
 rw [← hw4, ← hw5, ← hr7, ← hr8]
 have hlr8 : w.heap.size ≤ r8 := by omega
 clear hw4 hw5 hr7 hs4 hr8 hbel i0 i1
 have i0 : w5.cell? ⟨w.heap.size, 0, none⟩ = some (.int .i64 23) := HI.out.cell 0
 have i1 : w5.cell? ⟨w.heap.size, 1, none⟩ = some (.int .i64 (a : Int)) := HI.out.cell 1
 have p0 : w5.cell? ⟨r7, 0, none⟩ = some (S [105, 110, 116]) := HT.out.cell 0
 have p1 : w5.cell? ⟨r7, 1, none⟩ = some (.bool false) := HT.out.cell 1
 have u0 : w5.cell? ⟨r8, 0, none⟩ = some (S [98, 111, 111, 108]) := HU.out.cell 0
 have u1 : w5.cell? ⟨r8, 1, none⟩ = some (.bool false) := HU.out.cell 1
 have HM : Hid (∀ _ : Unit, stepM T f.ppl b.sk sg.r 23 a v = objM T f.ppl b.sk 23 a v) := hide (fun _ => by unfold stepM; (iterate 14 rw [if_neg (by decide)]); rw [if_neg (by decide)])
 clear p0 p1 u0 u1
 go_wp2_with (go_at_call 64; refine (hO _ _ HX.out HV.out.e (by omega)).mono ?_; rintro e w7 ⟨rfl, hx7, hk7, hv7⟩)
 go_ret
 exact ⟨by rw [HM.out ()] <;> rfl, hx7.mono (by omega), HF.out.trans' hk7 (fun k hk e => fr_up hk e HF.out.size), fun x hx => hv7 x (by rw [HM.out ()] at hx; exact hx)⟩
set_option maxRecDepth 100000 in
set_option maxHeartbeats 4000000 in
theorem step24 (w : World) (B q p gi g m s n : Nat) (T : List Fc) (f : Fl) (b : Bd) (sg : Sg) (va vd : Value) (v : Vs) (a : Nat) (h : Sx w B q gi g m s n T f b sg va vd) (hv : WsE w B p v) (hS : VsS v) (hn : n ≤ 5000000000000000) (hO : ∀ ww n', Sx ww B q gi g m s n' T f b sg va vd → WsE ww B p v → n' ≤ 6000000000000000 → Calls Tryd.prog 64 #[.pointer (some ⟨q, 0, none⟩), .pointer (some ⟨p, 0, none⟩), .agg #[.int .i64 24, .int .i64 (a : Nat)]] ww (StpEnd ww B q p gi g m s n' T f b sg va vd 100000 (objM T f.ppl b.sk 24 a v))) :
  Calls Tryd.prog 42 #[.pointer (some ⟨q, 0, none⟩), .pointer (some ⟨p, 0, none⟩), .agg #[.int .i64 24, .int .i64 (a : Int)]] w (StpEnd w B q p gi g m s n T f b sg va vd 200000 (stepM T f.ppl b.sk sg.r 24 a v)) := by
 obtain ⟨hBp, hpl⟩ := hv.n.hp
 have hlt := h.lt
 have hBw := h.hB
 obtain ⟨w1, hw1⟩ : ∃ w1, w1 = w.alloc (.cells #[.int .i64 24, .int .i64 (a : Int)] 87) := ⟨_, rfl⟩
 have hb1 : Blk w1 w.heap.size 87 #[.int .i64 24, .int .i64 (a : Int)] := by rw [hw1]; exact Blk.new _ _ _
 have hbb : Below w.heap.size w w1 := by rw [hw1]; exact (Below.refl _ w).alloc (Nat.le_refl _) _
 have HX := hide (h.below hbb)
 have HV := hide (hv.n.below hbb)
 have HF : Hid (Keep (Fr3 s B w.heap.size) w w1) := hide (keep_fr hbb)
 have HI : Hid (Blk w1 w.heap.size 87 #[.int .i64 24, .int .i64 (a : Int)]) := hide hb1
 have i0 : w1.cell? ⟨w.heap.size, 0, none⟩ = some (.int .i64 24) := hb1.cell 0
 have i1 : w1.cell? ⟨w.heap.size, 1, none⟩ = some (.int .i64 (a : Int)) := hb1.cell 1
 have hwl : w.heap.size < w1.heap.size := hb1.lt
 clear h hbb hb1
 go_enter Tryd.func42, Tryd.ntmps42
 go_upto_region 1 with fail
 rw [← hw1]
 clear hw1
 have hS2 : v.st.length ≤ 2000 := hS.2.2.2
 go_upto_region 2 with (first | (go_at_call 12; refine (int_any _).mono ?_; rintro e w2 ⟨rfl, hb2⟩; replace HX := hide (HX.out.below hb2); replace HV := hide (HV.out.below hb2); replace HF := hide (HF.out.tr (keep_fr hb2)); replace HI := hide (HI.out.below hb2 HI.out.lt); clear hb2) | (go_at_call 58; refine (bool_any _).mono ?_; rintro e w3 ⟨rfl, hb3⟩; replace HX := hide (HX.out.below hb3); replace HV := hide (HV.out.below hb3); replace HF := hide (HF.out.tr (keep_fr hb3)); replace HI := hide (HI.out.below hb3 HI.out.lt); clear hb3))
 obtain ⟨w4, hw4⟩ : ∃ x, x = w3.alloc (.cells #[S [105, 110, 116], .bool false] 24) := ⟨_, rfl⟩
 obtain ⟨w5, hw5⟩ : ∃ x, x = w4.alloc (.cells #[S [98, 111, 111, 108], .bool false] 24) := ⟨_, rfl⟩
 obtain ⟨r7, hr7⟩ : ∃ x, x = w3.heap.size := ⟨_, rfl⟩
 have hs4 : w4.heap.size = r7 + 1 := by rw [hw4, hr7]; simp
 obtain ⟨r8, hr8⟩ : ∃ x, x = r7 + 1 := ⟨_, rfl⟩
 have HT : Hid (Blk w5 r7 24 #[S [105, 110, 116], .bool false]) := hide (by rw [hw5, hw4, hr7]; exact (Blk.new _ _ _).alloc _)
 have HU : Hid (Blk w5 r8 24 #[S [98, 111, 111, 108], .bool false]) := hide (by rw [hr8, ← hs4, hw5]; exact Blk.new _ _ _)
 have hl_r7 : w.heap.size ≤ r7 := by rw [hr7]; exact HF.out.size
 have hbel : Below w3.heap.size w3 w5 := by rw [hw5, hw4]; exact ((Below.refl _ _).alloc (Nat.le_refl _) _).alloc (by simp) _
 replace HX := hide (HX.out.below hbel)
 replace HV := hide (HV.out.below hbel)
 replace HF := hide (HF.out.tr (keep_fr hbel))
 replace HI := hide (HI.out.below hbel HI.out.lt)
 rw [← hw4, ← hw5, ← hr7, ← hr8]
 have hlr8 : w.heap.size ≤ r8 := by omega
 clear hw4 hw5 hr7 hs4 hr8 hbel i0 i1
 have i0 : w5.cell? ⟨w.heap.size, 0, none⟩ = some (.int .i64 24) := HI.out.cell 0
 have i1 : w5.cell? ⟨w.heap.size, 1, none⟩ = some (.int .i64 (a : Int)) := HI.out.cell 1
 have p0 : w5.cell? ⟨r7, 0, none⟩ = some (S [105, 110, 116]) := HT.out.cell 0
 have p1 : w5.cell? ⟨r7, 1, none⟩ = some (.bool false) := HT.out.cell 1
 have u0 : w5.cell? ⟨r8, 0, none⟩ = some (S [98, 111, 111, 108]) := HU.out.cell 0
 have u1 : w5.cell? ⟨r8, 1, none⟩ = some (.bool false) := HU.out.cell 1
 have HM : Hid (∀ _ : Unit, stepM T f.ppl b.sk sg.r 24 a v = objM T f.ppl b.sk 24 a v) := hide (fun _ => by unfold stepM; (iterate 14 rw [if_neg (by decide)]); rw [if_neg (by decide)])
 clear p0 p1 u0 u1
 go_wp2_with (go_at_call 64; refine (hO _ _ HX.out HV.out.e (by omega)).mono ?_; rintro e w7 ⟨rfl, hx7, hk7, hv7⟩)
 go_ret
 exact ⟨by rw [HM.out ()] <;> rfl, hx7.mono (by omega), HF.out.trans' hk7 (fun k hk e => fr_up hk e HF.out.size), fun x hx => hv7 x (by rw [HM.out ()] at hx; exact hx)⟩
set_option maxRecDepth 100000 in
set_option maxHeartbeats 4000000 in
theorem step25 (w : World) (B q p gi g m s n : Nat) (T : List Fc) (f : Fl) (b : Bd) (sg : Sg) (va vd : Value) (v : Vs) (a : Nat) (h : Sx w B q gi g m s n T f b sg va vd) (hv : WsE w B p v) (hS : VsS v) (hn : n ≤ 5000000000000000) (hO : ∀ ww n', Sx ww B q gi g m s n' T f b sg va vd → WsE ww B p v → n' ≤ 6000000000000000 → Calls Tryd.prog 64 #[.pointer (some ⟨q, 0, none⟩), .pointer (some ⟨p, 0, none⟩), .agg #[.int .i64 25, .int .i64 (a : Nat)]] ww (StpEnd ww B q p gi g m s n' T f b sg va vd 100000 (objM T f.ppl b.sk 25 a v))) :
  Calls Tryd.prog 42 #[.pointer (some ⟨q, 0, none⟩), .pointer (some ⟨p, 0, none⟩), .agg #[.int .i64 25, .int .i64 (a : Int)]] w (StpEnd w B q p gi g m s n T f b sg va vd 200000 (stepM T f.ppl b.sk sg.r 25 a v)) := by
 obtain ⟨hBp, hpl⟩ := hv.n.hp
 have hlt := h.lt
 have hBw := h.hB
 obtain ⟨w1, hw1⟩ : ∃ w1, w1 = w.alloc (.cells #[.int .i64 25, .int .i64 (a : Int)] 87) := ⟨_, rfl⟩
 have hb1 : Blk w1 w.heap.size 87 #[.int .i64 25, .int .i64 (a : Int)] := by rw [hw1]; exact Blk.new _ _ _
 have hbb : Below w.heap.size w w1 := by rw [hw1]; exact (Below.refl _ w).alloc (Nat.le_refl _) _
 have HX := hide (h.below hbb)
 have HV := hide (hv.n.below hbb)
 have HF : Hid (Keep (Fr3 s B w.heap.size) w w1) := hide (keep_fr hbb)
 have HI : Hid (Blk w1 w.heap.size 87 #[.int .i64 25, .int .i64 (a : Int)]) := hide hb1
 have i0 : w1.cell? ⟨w.heap.size, 0, none⟩ = some (.int .i64 25) := hb1.cell 0
 have i1 : w1.cell? ⟨w.heap.size, 1, none⟩ = some (.int .i64 (a : Int)) := hb1.cell 1
 have hwl : w.heap.size < w1.heap.size := hb1.lt
 clear h hbb hb1
 go_enter Tryd.func42, Tryd.ntmps42
 go_upto_region 1 with fail
 rw [← hw1]
 clear hw1
 have hS2 : v.st.length ≤ 2000 := hS.2.2.2
 go_upto_region 2 with (first | (go_at_call 12; refine (int_any _).mono ?_; rintro e w2 ⟨rfl, hb2⟩; replace HX := hide (HX.out.below hb2); replace HV := hide (HV.out.below hb2); replace HF := hide (HF.out.tr (keep_fr hb2)); replace HI := hide (HI.out.below hb2 HI.out.lt); clear hb2) | (go_at_call 58; refine (bool_any _).mono ?_; rintro e w3 ⟨rfl, hb3⟩; replace HX := hide (HX.out.below hb3); replace HV := hide (HV.out.below hb3); replace HF := hide (HF.out.tr (keep_fr hb3)); replace HI := hide (HI.out.below hb3 HI.out.lt); clear hb3))
 obtain ⟨w4, hw4⟩ : ∃ x, x = w3.alloc (.cells #[S [105, 110, 116], .bool false] 24) := ⟨_, rfl⟩
 obtain ⟨w5, hw5⟩ : ∃ x, x = w4.alloc (.cells #[S [98, 111, 111, 108], .bool false] 24) := ⟨_, rfl⟩
 obtain ⟨r7, hr7⟩ : ∃ x, x = w3.heap.size := ⟨_, rfl⟩
 have hs4 : w4.heap.size = r7 + 1 := by rw [hw4, hr7]; simp
 obtain ⟨r8, hr8⟩ : ∃ x, x = r7 + 1 := ⟨_, rfl⟩
 have HT : Hid (Blk w5 r7 24 #[S [105, 110, 116], .bool false]) := hide (by rw [hw5, hw4, hr7]; exact (Blk.new _ _ _).alloc _)
 have HU : Hid (Blk w5 r8 24 #[S [98, 111, 111, 108], .bool false]) := hide (by rw [hr8, ← hs4, hw5]; exact Blk.new _ _ _)
 have hl_r7 : w.heap.size ≤ r7 := by rw [hr7]; exact HF.out.size
 have hbel : Below w3.heap.size w3 w5 := by rw [hw5, hw4]; exact ((Below.refl _ _).alloc (Nat.le_refl _) _).alloc (by simp) _
 replace HX := hide (HX.out.below hbel)
 replace HV := hide (HV.out.below hbel)
 replace HF := hide (HF.out.tr (keep_fr hbel))
 replace HI := hide (HI.out.below hbel HI.out.lt)
 rw [← hw4, ← hw5, ← hr7, ← hr8]
 have hlr8 : w.heap.size ≤ r8 := by omega
 clear hw4 hw5 hr7 hs4 hr8 hbel i0 i1
 have i0 : w5.cell? ⟨w.heap.size, 0, none⟩ = some (.int .i64 25) := HI.out.cell 0
 have i1 : w5.cell? ⟨w.heap.size, 1, none⟩ = some (.int .i64 (a : Int)) := HI.out.cell 1
 have p0 : w5.cell? ⟨r7, 0, none⟩ = some (S [105, 110, 116]) := HT.out.cell 0
 have p1 : w5.cell? ⟨r7, 1, none⟩ = some (.bool false) := HT.out.cell 1
 have u0 : w5.cell? ⟨r8, 0, none⟩ = some (S [98, 111, 111, 108]) := HU.out.cell 0
 have u1 : w5.cell? ⟨r8, 1, none⟩ = some (.bool false) := HU.out.cell 1
 have HM : Hid (∀ _ : Unit, stepM T f.ppl b.sk sg.r 25 a v = objM T f.ppl b.sk 25 a v) := hide (fun _ => by unfold stepM; (iterate 14 rw [if_neg (by decide)]); rw [if_neg (by decide)])
 clear p0 p1 u0 u1
 go_wp2_with (go_at_call 64; refine (hO _ _ HX.out HV.out.e (by omega)).mono ?_; rintro e w7 ⟨rfl, hx7, hk7, hv7⟩)
 go_ret
 exact ⟨by rw [HM.out ()] <;> rfl, hx7.mono (by omega), HF.out.trans' hk7 (fun k hk e => fr_up hk e HF.out.size), fun x hx => hv7 x (by rw [HM.out ()] at hx; exact hx)⟩
set_option maxRecDepth 100000 in
set_option maxHeartbeats 4000000 in
theorem step26 (w : World) (B q p gi g m s n : Nat) (T : List Fc) (f : Fl) (b : Bd) (sg : Sg) (va vd : Value) (v : Vs) (a : Nat) (h : Sx w B q gi g m s n T f b sg va vd) (hv : WsE w B p v) (hS : VsS v) (hn : n ≤ 5000000000000000) (hO : ∀ ww n', Sx ww B q gi g m s n' T f b sg va vd → WsE ww B p v → n' ≤ 6000000000000000 → Calls Tryd.prog 64 #[.pointer (some ⟨q, 0, none⟩), .pointer (some ⟨p, 0, none⟩), .agg #[.int .i64 26, .int .i64 (a : Nat)]] ww (StpEnd ww B q p gi g m s n' T f b sg va vd 100000 (objM T f.ppl b.sk 26 a v))) :
  Calls Tryd.prog 42 #[.pointer (some ⟨q, 0, none⟩), .pointer (some ⟨p, 0, none⟩), .agg #[.int .i64 26, .int .i64 (a : Int)]] w (StpEnd w B q p gi g m s n T f b sg va vd 200000 (stepM T f.ppl b.sk sg.r 26 a v)) := by
 obtain ⟨hBp, hpl⟩ := hv.n.hp
 have hlt := h.lt
 have hBw := h.hB
 obtain ⟨w1, hw1⟩ : ∃ w1, w1 = w.alloc (.cells #[.int .i64 26, .int .i64 (a : Int)] 87) := ⟨_, rfl⟩
 have hb1 : Blk w1 w.heap.size 87 #[.int .i64 26, .int .i64 (a : Int)] := by rw [hw1]; exact Blk.new _ _ _
 have hbb : Below w.heap.size w w1 := by rw [hw1]; exact (Below.refl _ w).alloc (Nat.le_refl _) _
 have HX := hide (h.below hbb)
 have HV := hide (hv.n.below hbb)
 have HF : Hid (Keep (Fr3 s B w.heap.size) w w1) := hide (keep_fr hbb)
 have HI : Hid (Blk w1 w.heap.size 87 #[.int .i64 26, .int .i64 (a : Int)]) := hide hb1
 have i0 : w1.cell? ⟨w.heap.size, 0, none⟩ = some (.int .i64 26) := hb1.cell 0
 have i1 : w1.cell? ⟨w.heap.size, 1, none⟩ = some (.int .i64 (a : Int)) := hb1.cell 1
 have hwl : w.heap.size < w1.heap.size := hb1.lt
 clear h hbb hb1
 go_enter Tryd.func42, Tryd.ntmps42
 go_upto_region 1 with fail
 rw [← hw1]
 clear hw1
 have hS2 : v.st.length ≤ 2000 := hS.2.2.2
 go_upto_region 2 with (first | (go_at_call 12; refine (int_any _).mono ?_; rintro e w2 ⟨rfl, hb2⟩; replace HX := hide (HX.out.below hb2); replace HV := hide (HV.out.below hb2); replace HF := hide (HF.out.tr (keep_fr hb2)); replace HI := hide (HI.out.below hb2 HI.out.lt); clear hb2) | (go_at_call 58; refine (bool_any _).mono ?_; rintro e w3 ⟨rfl, hb3⟩; replace HX := hide (HX.out.below hb3); replace HV := hide (HV.out.below hb3); replace HF := hide (HF.out.tr (keep_fr hb3)); replace HI := hide (HI.out.below hb3 HI.out.lt); clear hb3))
 obtain ⟨w4, hw4⟩ : ∃ x, x = w3.alloc (.cells #[S [105, 110, 116], .bool false] 24) := ⟨_, rfl⟩
 obtain ⟨w5, hw5⟩ : ∃ x, x = w4.alloc (.cells #[S [98, 111, 111, 108], .bool false] 24) := ⟨_, rfl⟩
 obtain ⟨r7, hr7⟩ : ∃ x, x = w3.heap.size := ⟨_, rfl⟩
 have hs4 : w4.heap.size = r7 + 1 := by rw [hw4, hr7]; simp
 obtain ⟨r8, hr8⟩ : ∃ x, x = r7 + 1 := ⟨_, rfl⟩
 have HT : Hid (Blk w5 r7 24 #[S [105, 110, 116], .bool false]) := hide (by rw [hw5, hw4, hr7]; exact (Blk.new _ _ _).alloc _)
 have HU : Hid (Blk w5 r8 24 #[S [98, 111, 111, 108], .bool false]) := hide (by rw [hr8, ← hs4, hw5]; exact Blk.new _ _ _)
 have hl_r7 : w.heap.size ≤ r7 := by rw [hr7]; exact HF.out.size
 have hbel : Below w3.heap.size w3 w5 := by rw [hw5, hw4]; exact ((Below.refl _ _).alloc (Nat.le_refl _) _).alloc (by simp) _
 replace HX := hide (HX.out.below hbel)
 replace HV := hide (HV.out.below hbel)
 replace HF := hide (HF.out.tr (keep_fr hbel))
 replace HI := hide (HI.out.below hbel HI.out.lt)
 rw [← hw4, ← hw5, ← hr7, ← hr8]
 have hlr8 : w.heap.size ≤ r8 := by omega
 clear hw4 hw5 hr7 hs4 hr8 hbel i0 i1
 have i0 : w5.cell? ⟨w.heap.size, 0, none⟩ = some (.int .i64 26) := HI.out.cell 0
 have i1 : w5.cell? ⟨w.heap.size, 1, none⟩ = some (.int .i64 (a : Int)) := HI.out.cell 1
 have p0 : w5.cell? ⟨r7, 0, none⟩ = some (S [105, 110, 116]) := HT.out.cell 0
 have p1 : w5.cell? ⟨r7, 1, none⟩ = some (.bool false) := HT.out.cell 1
 have u0 : w5.cell? ⟨r8, 0, none⟩ = some (S [98, 111, 111, 108]) := HU.out.cell 0
 have u1 : w5.cell? ⟨r8, 1, none⟩ = some (.bool false) := HU.out.cell 1
 have HM : Hid (∀ _ : Unit, stepM T f.ppl b.sk sg.r 26 a v = objM T f.ppl b.sk 26 a v) := hide (fun _ => by unfold stepM; (iterate 14 rw [if_neg (by decide)]); rw [if_neg (by decide)])
 clear p0 p1 u0 u1
 go_wp2_with (go_at_call 64; refine (hO _ _ HX.out HV.out.e (by omega)).mono ?_; rintro e w7 ⟨rfl, hx7, hk7, hv7⟩)
 go_ret
 exact ⟨by rw [HM.out ()] <;> rfl, hx7.mono (by omega), HF.out.trans' hk7 (fun k hk e => fr_up hk e HF.out.size), fun x hx => hv7 x (by rw [HM.out ()] at hx; exact hx)⟩
end Go.Proofs.YtmbegaobnpoefaaDoor
