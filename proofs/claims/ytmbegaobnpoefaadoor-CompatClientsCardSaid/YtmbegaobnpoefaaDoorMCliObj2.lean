/- A state behind an instruction about objects: walked; no statement of the seat is proved here. (Written by gen/vobj2.py.) -/
import Derived.Test.YtmbegaobnpoefaaDoorMTk2
import Derived.Test.YtmbegaobnpoefaaDoorMTk
import Derived.Test.YtmbegaobnpoefaaDoorMCliObj
import Derived.BigRegion
import Derived.Deep.RegionHeld3
namespace Go.Proofs.YtmbegaobnpoefaaDoor
open Go.RowKit Go.Maps
set_option linter.unusedVariables false
set_option linter.unusedSimpArgs false
set_option maxRecDepth 100000 in
set_option maxHeartbeats 4000000 in
theorem obj16 (w : World) (B q p gi g m s n : Nat) (T : List Fc) (f : Fl) (b : Bd) (sg : Sg) (va vd : Value) (v : Vs) (a : Nat) (h : Sx w B q gi g m s n T f b sg va vd) (hv : WsE w B p v) (hS : VsS v) (hn : n ≤ 6000000000000000) (ha : a < f.dl) :
  Calls Tryd.prog 64 #[.pointer (some ⟨q, 0, none⟩), .pointer (some ⟨p, 0, none⟩), .agg #[.int .i64 16, .int .i64 (a : Int)]] w (StpEnd w B q p gi g m s n T f b sg va vd 100000 (objM T f.ppl b.sk 16 a v)) := by
 obtain ⟨hBp, hpl⟩ := hv.n.hp
 have hlt := h.lt
 have hBw := h.hB
 obtain ⟨w1, hw1⟩ : ∃ w1, w1 = w.alloc (.cells #[.int .i64 16, .int .i64 (a : Int)] 87) := ⟨_, rfl⟩
 have hb1 : Blk w1 w.heap.size 87 #[.int .i64 16, .int .i64 (a : Int)] := by rw [hw1]; exact Blk.new _ _ _
 have hbb : Below w.heap.size w w1 := by rw [hw1]; exact (Below.refl _ w).alloc (Nat.le_refl _) _
 have HX := hide (h.below hbb)
 have HV := hide (hv.n.below hbb)
 have HF : Hid (Keep (Fr3 s B w.heap.size) w w1) := hide (keep_fr hbb)
 have HI : Hid (Blk w1 w.heap.size 87 #[.int .i64 16, .int .i64 (a : Int)]) := hide hb1
 have i0 : w1.cell? ⟨w.heap.size, 0, none⟩ = some (.int .i64 16) := hb1.cell 0
 have i1 : w1.cell? ⟨w.heap.size, 1, none⟩ = some (.int .i64 (a : Int)) := hb1.cell 1
 have hwl : w.heap.size < w1.heap.size := hb1.lt
 clear h hbb hb1
 go_enter Tryd.func64, Tryd.ntmps64
 go_upto_region 1 with fail
 rw [← hw1]
 clear hw1
 have hS2 : v.st.length ≤ 2000 := hS.2.2.2
 have hel : a < f.fds.length := by rw [HX.out.fl.po.dL]; exact ha
 obtain ⟨bt, ot, htA, hbF, hbt, hct⟩ := Rd.rec_ (f := FdP.cells) (fun _ => rfl) HX.out.fl.po.dr HX.out.fl.po.dL a ha
 have hXe : f.ppl.fds.getD a fdZ = f.fds[a] := (List.getElem_eq_getD _).symm
 generalize f.fds[a] = X at hct hXe
 obtain ⟨⟨dn, ⟨dt, da⟩⟩, dc⟩ := X
 have hbF' : ¬ bt = s ∧ bt < B := by omega
 have HE0 : Hid (w1.cell? ⟨bt, ot + a * 4, none⟩ = some (S dn)) := hide (by have h := hct 0 _ rfl; simpa using h)
 have HE1 : Hid (w1.cell? ⟨bt, ot + a * 4 + 1, none⟩ = some (S dt)) := hide (by have h := hct 1 _ rfl; simpa using h)
 have HE2 : Hid (w1.cell? ⟨bt, ot + a * 4 + 2, none⟩ = some (.bool da)) := hide (by have h := hct 2 _ rfl; simpa using h)
 have HE3 : Hid (w1.cell? ⟨bt, ot + a * 4 + 3, none⟩ = some (S dc)) := hide (by have h := hct 3 _ rfl; simpa using h)
 clear hct hbF
 have hqs := HX.out.qs
 go_upto_region 14 with fail
 clear i0 i1
 have HS : Hid (∀ w', Keep (Fr3 s B w.heap.size) w1 w' → w'.cell? ⟨w.heap.size, 0, none⟩ = some (.int .i64 16) ∧ w'.cell? ⟨w.heap.size, 1, none⟩ = some (.int .i64 (a : Int)) ∧ w'.cell? ⟨q, 8, none⟩ = some (.slice (some ⟨bt, ot, none⟩) f.dl f.dc) ∧ w'.cell? ⟨bt, ot + a * 4, none⟩ = some (S dn) ∧ w'.cell? ⟨bt, ot + a * 4 + 1, none⟩ = some (S dt) ∧ w'.cell? ⟨bt, ot + a * 4 + 2, none⟩ = some (.bool da) ∧ w'.cell? ⟨bt, ot + a * 4 + 3, none⟩ = some (S dc)) := hide (fun w' hk => by
  have t0 := HI.out.keep hk (by unfold Fr3; omega)
  have t1 := HX.out.kq.keep hk (by unfold Fr3; omega)
  have t2 := t1.cell 8
  have t3 : ∀ i, w'.cell? ⟨bt, i, none⟩ = w1.cell? ⟨bt, i, none⟩ := fun i => hk.cell (p := ⟨bt, i, none⟩) hbt (by show ¬ _; unfold Fr3; simp only []; omega)
  exact ⟨t0.cell 0, t0.cell 1, by rw [t2]; simp [htA], (t3 _).trans HE0.out, (t3 _).trans HE1.out, (t3 _).trans HE2.out, (t3 _).trans HE3.out⟩
  )
 have HR : Hid (Keep (Fr3 s B w.heap.size) w1 w1.drew) := hide (Keep.refl _ _).drew
 replace HX := hide HX.out.drew
 replace HV := hide HV.out.drew
 replace HF := hide HF.out.drew
 refine wp_region_noPanic ?_
 refine tkB HS HR.out (fun hHeld => ?_)
 obtain ⟨w2, hw2⟩ : ∃ x, x = w1.drew := ⟨_, rfl⟩
 rw [← hw2] at hHeld HX HV HF HR ⊢
 clear hw2
 refine tkL 0 ?_ ?_ ?_
 rotate_left
 ·(rintro wS ⟨e0, e1, e2, e3, e4, e5, e6⟩; go_simp; try with_reducible rfl)
 try simp only [sP]
 refine tkL 1 ?_ ?_ ?_
 rotate_left
 ·(rintro wS ⟨e0, e1, e2, e3, e4, e5, e6⟩; go_simp; try with_reducible rfl)
 try simp only [sP]
 refine tkL 2 ?_ ?_ ?_
 rotate_left
 ·(rintro wS ⟨e0, e1, e2, e3, e4, e5, e6⟩; go_simp; try with_reducible rfl)
 try simp only [sP]
 refine tkL 3 ?_ ?_ ?_
 rotate_left
 ·(rintro wS ⟨e0, e1, e2, e3, e4, e5, e6⟩; go_simp; try with_reducible rfl)
 try simp only [sP]
 refine tkL 4 ?_ ?_ ?_
 rotate_left
 ·(rintro wS ⟨e0, e1, e2, e3, e4, e5, e6⟩; go_simp; try with_reducible rfl)
 try simp only [sP]
 refine tkL 5 ?_ ?_ ?_
 rotate_left
 ·(rintro wS ⟨e0, e1, e2, e3, e4, e5, e6⟩; go_simp; try with_reducible rfl)
 try simp only [sP]
 refine tkL 6 ?_ ?_ ?_
 rotate_left
 ·(rintro wS ⟨e0, e1, e2, e3, e4, e5, e6⟩; go_simp; try with_reducible rfl)
 try simp only [sP]
 refine tkL 7 ?_ ?_ ?_
 rotate_left
 ·(rintro wS ⟨e0, e1, e2, e3, e4, e5, e6⟩; go_simp; try with_reducible rfl)
 try simp only [sP]
 refine tkL 8 ?_ ?_ ?_
 rotate_left
 ·(rintro wS ⟨e0, e1, e2, e3, e4, e5, e6⟩; go_simp; try with_reducible rfl)
 try simp only [sP]
 refine tkL 9 ?_ ?_ ?_
 rotate_left
 ·(rintro wS ⟨e0, e1, e2, e3, e4, e5, e6⟩; go_simp; try with_reducible rfl)
 try simp only [sP]
 refine tkC 10 (fun K hK => ?_)
 try rw [if_pos (by rfl)]
 go_simp
 try go_wp2_with fail
 refine hK.out _ _ (HS.out _ (HR.out.tr (keep_fr ((Below.refl _ _).alloc (Nat.le_refl _) _)))) (fun hHeld => ?_)
 clear hK K
 try simp only [sP]
 refine tkC 11 (fun K hK => ?_)
 try rw [if_pos (by rfl)]
 go_simp
 try go_wp2_with fail
 refine hK.out _ _ (HS.out _ (HR.out.tr (keep_fr ((Below.refl _ _).alloc (Nat.le_refl _) _)))) (fun hHeld => ?_)
 clear hK K
 try simp only [sP]
 refine wpAnyH_done (by kernel_rfl) ?_ _
 refine NoPanic.normal ?_
 replace HI := hide (HI.out.keep HR.out (by unfold Fr3; omega))
 clear HR hHeld
 obtain ⟨w3, hw3⟩ : ∃ x, x = w2.alloc (.cells #[S dn, S dt, .bool da, S dc] 93) := ⟨_, rfl⟩
 obtain ⟨r9, hr9⟩ : ∃ x, x = w2.heap.size := ⟨_, rfl⟩
 have HD : Hid (Blk w3 r9 93 #[S dn, S dt, .bool da, S dc]) := hide (by rw [hw3, hr9]; exact Blk.new _ _ _)
 have hl_r9 : w.heap.size ≤ r9 := by rw [hr9]; exact HF.out.size
 have hbel : Below w2.heap.size w2 w3 := by rw [hw3]; exact (Below.refl _ _).alloc (Nat.le_refl _) _
 replace HX := hide (HX.out.below hbel)
 replace HV := hide (HV.out.below hbel)
 replace HF := hide (HF.out.tr (keep_fr hbel))
 replace HI := hide (HI.out.below hbel HI.out.lt)
 rw [show w2.alloc (.cells #[.string { data := dn.toArray }, .string { data := dt.toArray }, .bool da, .string { data := dc.toArray }] 93) = w3 from hw3.symm]
 rw [← hr9]
 clear hw3 hr9 hbel HS HE0 HE1 HE2 HE3
 go_upto_region 15 with fail
 have d3 : w3.cell? ⟨r9, 3, none⟩ = some (S dc) := HD.out.cell 3
 rcases hP : poM T [⟨dc, false⟩] v with _ | v1
 ·have HM : Hid (∀ _ : Unit, objM T f.ppl b.sk 16 a v = none) := hide (fun _ => by unfold objM; (iterate 3 rw [if_neg (by decide)]); rw [if_pos (by decide)]; rw [hXe]; show ppM T b.sk [⟨dc, false⟩] ⟨dt, da⟩ v = _; unfold ppM; rw [hP]; rfl)
  have HPA : Hid (PuF B q gi g m s T f b sg va vd w.heap.size p (v) 1 #[S dc, .bool false]) := hide (fun ww n' hx hv hw hn => by
   have hb : Below ww.heap.size ww (ww.alloc (.cells #[S dc, .bool false] 24)) := (Below.refl _ _).alloc (Nat.le_refl _) _
   have hlw := hx.vt.tab.slt
   refine (pop_k (nW := 1) (hx.below hb) (hv.below hb) hS [⟨dc, false⟩] (Rd.of_blk (Blk.new ww 24 #[S dc, .bool false]) (by unfold Fr3; omega) rfl) rfl (by omega) hn).mono (fun e w' hh => ?_)
   obtain ⟨h1, h2, h3, h4⟩ := hh
   rw [hP] at h1 h4
   exact ⟨h1, h2, (keep_fr hb).tr h3⟩)
  clear hP
  go_wp2_with (first | (go_at_call 22; refine (of_any _ _).mono ?_; rintro e w4 ⟨rfl, hb4⟩; replace HX := hide (HX.out.below hb4); replace HV := hide (HV.out.below hb4); replace HF := hide (HF.out.tr (keep_fr hb4)); replace HD := hide (HD.out.below hb4 HD.out.lt); clear hb4) | (go_at_call 62; refine (HPA.out _ _ HX.out HV.out HF.out.size (by omega)).mono ?_; rintro e w5 ⟨rfl, hx5, hk5⟩; replace HX := hide hx5; replace HF := hide (HF.out.tr hk5); clear HV; clear hx5 hk5))
  go_ret
  exact ⟨by rw [HM.out ()] <;> rfl, HX.out.mono (by omega), HF.out, fun x hx => by rw [HM.out ()] at hx; cases hx⟩
 ·have HM : Hid (∀ _ : Unit, objM T f.ppl b.sk 16 a v = puM b.sk ⟨dt, da⟩ v1) := hide (fun _ => by unfold objM; (iterate 3 rw [if_neg (by decide)]); rw [if_pos (by decide)]; rw [hXe]; show ppM T b.sk [⟨dc, false⟩] ⟨dt, da⟩ v = _; unfold ppM; rw [hP]; rfl)
  have hS3 : v1.st.length ≤ 2000 := Nat.le_trans (po_len hP) hS2
  have HPA : Hid (PuT B q gi g m s T f b sg va vd w.heap.size p (v) 1 #[S dc, .bool false] v1) := hide (fun ww n' hx hv hw hn => by
   have hb : Below ww.heap.size ww (ww.alloc (.cells #[S dc, .bool false] 24)) := (Below.refl _ _).alloc (Nat.le_refl _) _
   have hlw := hx.vt.tab.slt
   refine (pop_k (nW := 1) (hx.below hb) (hv.below hb) hS [⟨dc, false⟩] (Rd.of_blk (Blk.new ww 24 #[S dc, .bool false]) (by unfold Fr3; omega) rfl) rfl (by omega) hn).mono (fun e w' hh => ?_)
   obtain ⟨h1, h2, h3, h4⟩ := hh
   rw [hP] at h1 h4
   exact ⟨h1, h2, (keep_fr hb).tr h3, h4 _ rfl⟩)
  clear hP
  go_wp2_with (first | (go_at_call 22; refine (of_any _ _).mono ?_; rintro e w4 ⟨rfl, hb4⟩; replace HX := hide (HX.out.below hb4); replace HV := hide (HV.out.below hb4); replace HF := hide (HF.out.tr (keep_fr hb4)); replace HD := hide (HD.out.below hb4 HD.out.lt); clear hb4) | (go_at_call 62; refine (HPA.out _ _ HX.out HV.out HF.out.size (by omega)).mono ?_; rintro e w5 ⟨rfl, hx5, hk5, hv5⟩; replace HX := hide hx5; replace HF := hide (HF.out.tr hk5); replace HD := hide (HD.out.keep hk5 (by unfold Fr3; omega)); clear HV; have HV := hide hv5; have d1 : w5.cell? ⟨r9, 1, none⟩ = some (S dt) := HD.out.cell 1; have d2 : w5.cell? ⟨r9, 2, none⟩ = some (.bool da) := HD.out.cell 2; clear hx5 hk5 hv5) | (go_at_call 59; refine (push_k HX.out HV.out (by first | omega | (have := hS.2.2.2; omega)) ⟨dt, da⟩).mono ?_; rintro e w6 ⟨rfl, hx6, hk6, hv6⟩; replace HX := hide hx6; replace HF := hide (HF.out.tr hk6); have HVE := hide hv6; clear hx6 hk6 hv6))
  go_ret
  exact ⟨by rw [HM.out ()] <;> rfl, HX.out.mono (by omega), HF.out, fun x hx => HVE.out x (by rw [HM.out ()] at hx; exact hx)⟩
set_option maxRecDepth 100000 in
set_option maxHeartbeats 4000000 in
theorem obj17 (w : World) (B q p gi g m s n : Nat) (T : List Fc) (f : Fl) (b : Bd) (sg : Sg) (va vd : Value) (v : Vs) (a : Nat) (h : Sx w B q gi g m s n T f b sg va vd) (hv : WsE w B p v) (hS : VsS v) (hn : n ≤ 6000000000000000) (ha : a < f.dl) :
  Calls Tryd.prog 64 #[.pointer (some ⟨q, 0, none⟩), .pointer (some ⟨p, 0, none⟩), .agg #[.int .i64 17, .int .i64 (a : Int)]] w (StpEnd w B q p gi g m s n T f b sg va vd 100000 (objM T f.ppl b.sk 17 a v)) := by
 obtain ⟨hBp, hpl⟩ := hv.n.hp
 have hlt := h.lt
 have hBw := h.hB
 obtain ⟨w1, hw1⟩ : ∃ w1, w1 = w.alloc (.cells #[.int .i64 17, .int .i64 (a : Int)] 87) := ⟨_, rfl⟩
 have hb1 : Blk w1 w.heap.size 87 #[.int .i64 17, .int .i64 (a : Int)] := by rw [hw1]; exact Blk.new _ _ _
 have hbb : Below w.heap.size w w1 := by rw [hw1]; exact (Below.refl _ w).alloc (Nat.le_refl _) _
 have HX := hide (h.below hbb)
 have HV := hide (hv.n.below hbb)
 have HF : Hid (Keep (Fr3 s B w.heap.size) w w1) := hide (keep_fr hbb)
 have HI : Hid (Blk w1 w.heap.size 87 #[.int .i64 17, .int .i64 (a : Int)]) := hide hb1
 have i0 : w1.cell? ⟨w.heap.size, 0, none⟩ = some (.int .i64 17) := hb1.cell 0
 have i1 : w1.cell? ⟨w.heap.size, 1, none⟩ = some (.int .i64 (a : Int)) := hb1.cell 1
 have hwl : w.heap.size < w1.heap.size := hb1.lt
 clear h hbb hb1
 go_enter Tryd.func64, Tryd.ntmps64
 go_upto_region 1 with fail
 rw [← hw1]
 clear hw1
 have hS2 : v.st.length ≤ 2000 := hS.2.2.2
 have hel : a < f.fds.length := by rw [HX.out.fl.po.dL]; exact ha
 obtain ⟨bt, ot, htA, hbF, hbt, hct⟩ := Rd.rec_ (f := FdP.cells) (fun _ => rfl) HX.out.fl.po.dr HX.out.fl.po.dL a ha
 have hXe : f.ppl.fds.getD a fdZ = f.fds[a] := (List.getElem_eq_getD _).symm
 generalize f.fds[a] = X at hct hXe
 obtain ⟨⟨dn, ⟨dt, da⟩⟩, dc⟩ := X
 have hbF' : ¬ bt = s ∧ bt < B := by omega
 have HE0 : Hid (w1.cell? ⟨bt, ot + a * 4, none⟩ = some (S dn)) := hide (by have h := hct 0 _ rfl; simpa using h)
 have HE1 : Hid (w1.cell? ⟨bt, ot + a * 4 + 1, none⟩ = some (S dt)) := hide (by have h := hct 1 _ rfl; simpa using h)
 have HE2 : Hid (w1.cell? ⟨bt, ot + a * 4 + 2, none⟩ = some (.bool da)) := hide (by have h := hct 2 _ rfl; simpa using h)
 have HE3 : Hid (w1.cell? ⟨bt, ot + a * 4 + 3, none⟩ = some (S dc)) := hide (by have h := hct 3 _ rfl; simpa using h)
 clear hct hbF
 have hqs := HX.out.qs
 go_upto_region 17 with fail
 clear i0 i1
 have HS : Hid (∀ w', Keep (Fr3 s B w.heap.size) w1 w' → w'.cell? ⟨w.heap.size, 0, none⟩ = some (.int .i64 17) ∧ w'.cell? ⟨w.heap.size, 1, none⟩ = some (.int .i64 (a : Int)) ∧ w'.cell? ⟨q, 8, none⟩ = some (.slice (some ⟨bt, ot, none⟩) f.dl f.dc) ∧ w'.cell? ⟨bt, ot + a * 4, none⟩ = some (S dn) ∧ w'.cell? ⟨bt, ot + a * 4 + 1, none⟩ = some (S dt) ∧ w'.cell? ⟨bt, ot + a * 4 + 2, none⟩ = some (.bool da) ∧ w'.cell? ⟨bt, ot + a * 4 + 3, none⟩ = some (S dc)) := hide (fun w' hk => by
  have t0 := HI.out.keep hk (by unfold Fr3; omega)
  have t1 := HX.out.kq.keep hk (by unfold Fr3; omega)
  have t2 := t1.cell 8
  have t3 : ∀ i, w'.cell? ⟨bt, i, none⟩ = w1.cell? ⟨bt, i, none⟩ := fun i => hk.cell (p := ⟨bt, i, none⟩) hbt (by show ¬ _; unfold Fr3; simp only []; omega)
  exact ⟨t0.cell 0, t0.cell 1, by rw [t2]; simp [htA], (t3 _).trans HE0.out, (t3 _).trans HE1.out, (t3 _).trans HE2.out, (t3 _).trans HE3.out⟩
  )
 have HR : Hid (Keep (Fr3 s B w.heap.size) w1 w1.drew) := hide (Keep.refl _ _).drew
 replace HX := hide HX.out.drew
 replace HV := hide HV.out.drew
 replace HF := hide HF.out.drew
 refine wp_region_noPanic ?_
 refine tkB HS HR.out (fun hHeld => ?_)
 obtain ⟨w2, hw2⟩ : ∃ x, x = w1.drew := ⟨_, rfl⟩
 rw [← hw2] at hHeld HX HV HF HR ⊢
 clear hw2
 refine tkL 0 ?_ ?_ ?_
 rotate_left
 ·(rintro wS ⟨e0, e1, e2, e3, e4, e5, e6⟩; go_simp; try with_reducible rfl)
 try simp only [sP]
 refine tkL 1 ?_ ?_ ?_
 rotate_left
 ·(rintro wS ⟨e0, e1, e2, e3, e4, e5, e6⟩; go_simp; try with_reducible rfl)
 try simp only [sP]
 refine tkL 2 ?_ ?_ ?_
 rotate_left
 ·(rintro wS ⟨e0, e1, e2, e3, e4, e5, e6⟩; go_simp; try with_reducible rfl)
 try simp only [sP]
 refine tkL 3 ?_ ?_ ?_
 rotate_left
 ·(rintro wS ⟨e0, e1, e2, e3, e4, e5, e6⟩; go_simp; try with_reducible rfl)
 try simp only [sP]
 refine tkL 4 ?_ ?_ ?_
 rotate_left
 ·(rintro wS ⟨e0, e1, e2, e3, e4, e5, e6⟩; go_simp; try with_reducible rfl)
 try simp only [sP]
 refine tkL 5 ?_ ?_ ?_
 rotate_left
 ·(rintro wS ⟨e0, e1, e2, e3, e4, e5, e6⟩; go_simp; try with_reducible rfl)
 try simp only [sP]
 refine tkL 6 ?_ ?_ ?_
 rotate_left
 ·(rintro wS ⟨e0, e1, e2, e3, e4, e5, e6⟩; go_simp; try with_reducible rfl)
 try simp only [sP]
 refine tkL 7 ?_ ?_ ?_
 rotate_left
 ·(rintro wS ⟨e0, e1, e2, e3, e4, e5, e6⟩; go_simp; try with_reducible rfl)
 try simp only [sP]
 refine tkL 8 ?_ ?_ ?_
 rotate_left
 ·(rintro wS ⟨e0, e1, e2, e3, e4, e5, e6⟩; go_simp; try with_reducible rfl)
 try simp only [sP]
 refine tkL 9 ?_ ?_ ?_
 rotate_left
 ·(rintro wS ⟨e0, e1, e2, e3, e4, e5, e6⟩; go_simp; try with_reducible rfl)
 try simp only [sP]
 refine tkC 10 (fun K hK => ?_)
 try rw [if_pos (by rfl)]
 go_simp
 try go_wp2_with fail
 refine hK.out _ _ (HS.out _ (HR.out.tr (keep_fr ((Below.refl _ _).alloc (Nat.le_refl _) _)))) (fun hHeld => ?_)
 clear hK K
 try simp only [sP]
 refine tkC 11 (fun K hK => ?_)
 try rw [if_pos (by rfl)]
 go_simp
 try go_wp2_with fail
 refine hK.out _ _ (HS.out _ (HR.out.tr (keep_fr ((Below.refl _ _).alloc (Nat.le_refl _) _)))) (fun hHeld => ?_)
 clear hK K
 try simp only [sP]
 refine wpAnyH_done (by kernel_rfl) ?_ _
 refine NoPanic.normal ?_
 replace HI := hide (HI.out.keep HR.out (by unfold Fr3; omega))
 clear HR hHeld
 obtain ⟨w3, hw3⟩ : ∃ x, x = w2.alloc (.cells #[S dn, S dt, .bool da, S dc] 93) := ⟨_, rfl⟩
 obtain ⟨r9, hr9⟩ : ∃ x, x = w2.heap.size := ⟨_, rfl⟩
 have HD : Hid (Blk w3 r9 93 #[S dn, S dt, .bool da, S dc]) := hide (by rw [hw3, hr9]; exact Blk.new _ _ _)
 have hl_r9 : w.heap.size ≤ r9 := by rw [hr9]; exact HF.out.size
 have hbel : Below w2.heap.size w2 w3 := by rw [hw3]; exact (Below.refl _ _).alloc (Nat.le_refl _) _
 replace HX := hide (HX.out.below hbel)
 replace HV := hide (HV.out.below hbel)
 replace HF := hide (HF.out.tr (keep_fr hbel))
 replace HI := hide (HI.out.below hbel HI.out.lt)
 rw [show w2.alloc (.cells #[.string { data := dn.toArray }, .string { data := dt.toArray }, .bool da, .string { data := dc.toArray }] 93) = w3 from hw3.symm]
 rw [← hr9]
 clear hw3 hr9 hbel HS HE0 HE1 HE2 HE3
 go_upto_region 18 with fail
 rcases hP : poM T [⟨dc, false⟩, ⟨dt, da⟩] v with _ | v1
 ·have HM : Hid (∀ _ : Unit, objM T f.ppl b.sk 17 a v = none) := hide (fun _ => by unfold objM; (iterate 4 rw [if_neg (by decide)]); rw [if_pos (by decide)]; rw [hXe]; exact hP)
  have HPK : Hid (PkF B q gi g m s T f b sg va vd w.heap.size p (v) 2 ([⟨dc, false⟩, ⟨dt, da⟩] : List Ty)) := hide (fun ww n' AW cW hx hv hr hn => (pop_k hx hv hS [⟨dc, false⟩, ⟨dt, da⟩] hr (by first | rfl | assumption) (by omega) hn).mono (fun e w' hh => by obtain ⟨h1, h2, h3, h4⟩ := hh; rw [hP] at h1 h4; exact ⟨h1, h2, h3⟩))
  clear hP
  have HS : Hid (∀ w', Keep (Fr3 s B w.heap.size) w3 w' → w'.cell? ⟨r9, 1, none⟩ = some (S dt) ∧ w'.cell? ⟨r9, 2, none⟩ = some (.bool da) ∧ w'.cell? ⟨r9, 3, none⟩ = some (S dc)) := hide (fun w' hk => by
   have t0 := HD.out.keep hk (by unfold Fr3; omega)
   exact ⟨t0.cell 1, t0.cell 2, t0.cell 3⟩
   )
  have HR : Hid (Keep (Fr3 s B w.heap.size) w3 w3.drew) := hide (Keep.refl _ _).drew
  replace HX := hide HX.out.drew
  replace HV := hide HV.out.drew
  replace HF := hide HF.out.drew
  refine wp_region_noPanic ?_
  refine tkB HS HR.out (fun hHeld => ?_)
  obtain ⟨w4, hw4⟩ : ∃ x, x = w3.drew := ⟨_, rfl⟩
  rw [← hw4] at hHeld HX HV HF HR ⊢
  clear hw4
  refine tkL 0 ?_ ?_ ?_
  rotate_left
  ·(rintro wS ⟨e0, e1, e2⟩; go_simp; try with_reducible rfl)
  try simp only [sP]
  refine tkL 1 ?_ ?_ ?_
  rotate_left
  ·(rintro wS ⟨e0, e1, e2⟩; go_simp; try with_reducible rfl)
  try simp only [sP]
  refine tkL 2 ?_ ?_ ?_
  rotate_left
  ·(rintro wS ⟨e0, e1, e2⟩; go_simp; try with_reducible rfl)
  try simp only [sP]
  refine tkL 3 ?_ ?_ ?_
  rotate_left
  ·(rintro wS ⟨e0, e1, e2⟩; go_simp; try with_reducible rfl)
  try simp only [sP]
  refine tkL 5 ?_ ?_ ?_
  rotate_left
  ·(rintro wS ⟨e0, e1, e2⟩; go_simp; try with_reducible rfl)
  try simp only [sP]
  refine tkL 6 ?_ ?_ ?_
  rotate_left
  ·(rintro wS ⟨e0, e1, e2⟩; go_simp; try with_reducible rfl)
  try simp only [sP]
  refine tkL 7 ?_ ?_ ?_
  rotate_left
  ·(rintro wS ⟨e0, e1, e2⟩; go_simp; try with_reducible rfl)
  try simp only [sP]
  refine tkC 4 (fun K hK => ?_)
  try rw [if_pos (by rfl)]
  go_simp
  go_at_call 22
  refine (of_any _ _).mono ?_
  rintro e w5 ⟨rfl, hb5⟩
  replace HX := hide (HX.out.below hb5)
  replace HV := hide (HV.out.below hb5)
  replace HF := hide (HF.out.tr (keep_fr hb5))
  replace HR := hide (HR.out.tr (keep_fr hb5))
  clear hb5
  try go_wp2_with fail
  refine hK.out _ _ (HS.out _ HR.out) (fun hHeld => ?_)
  clear hK K
  try simp only [sP]
  refine tkC 8 (fun K hK => ?_)
  try rw [if_pos (by rfl)]
  go_simp
  try go_wp2_with fail
  refine hK.out _ _ (HS.out _ (HR.out.tr (keep_fr ((Below.refl _ _).alloc (Nat.le_refl _) _)))) (fun hHeld => ?_)
  clear hK K
  try simp only [sP]
  obtain ⟨w6, hw6⟩ : ∃ x, x = w5.alloc (.cells #[S dc, .bool false, S dt, .bool da] 24) := ⟨_, rfl⟩
  obtain ⟨r10, hr10⟩ : ∃ x, x = w5.heap.size := ⟨_, rfl⟩
  have HB : Hid (Blk w6 r10 24 #[S dc, .bool false, S dt, .bool da]) := hide (by rw [hw6, hr10]; exact Blk.new _ _ _)
  have hl_r10 : w.heap.size ≤ r10 := by rw [hr10]; exact HF.out.size
  have hbel : Below w5.heap.size w5 w6 := by rw [hw6]; exact (Below.refl _ _).alloc (Nat.le_refl _) _
  replace HX := hide (HX.out.below hbel)
  replace HV := hide (HV.out.below hbel)
  replace HF := hide (HF.out.tr (keep_fr hbel))
  replace HR := hide (HR.out.tr (keep_fr hbel))
  rw [← hw6] at hHeld ⊢
  rw [← hr10]
  clear hw6 hr10 hbel
  refine tkC 9 (fun K hK => ?_)
  try rw [if_pos (by rfl)]
  go_simp
  go_at_call 62
  refine (HPK.out _ _ _ _ HX.out HV.out (Rd.of_blk HB.out (by unfold Fr3; omega) rfl) (by omega)).mono ?_
  rintro e w7 ⟨rfl, hx7, hk7⟩
  replace HX := hide hx7
  replace HF := hide (HF.out.tr hk7)
  replace HR := hide (HR.out.tr hk7)
  clear HV
  clear hx7 hk7
  try go_wp2_with fail
  refine hK.out _ _ (HS.out _ HR.out) (fun hHeld => ?_)
  clear hK K
  try simp only [sP]
  refine tkL 10 ?_ ?_ ?_
  rotate_left
  ·(rintro wS ⟨e0, e1, e2⟩; go_simp; try with_reducible rfl)
  try simp only [sP]
  refine wpAnyH_done (by kernel_rfl) ?_ _
  refine NoPanic.normal ?_
  go_wp2_with fail
  go_ret
  exact ⟨by rw [HM.out ()] <;> rfl, HX.out.mono (by omega), HF.out, fun x hx => by rw [HM.out ()] at hx; cases hx⟩
 ·have HM : Hid (∀ _ : Unit, objM T f.ppl b.sk 17 a v = some v1) := hide (fun _ => by unfold objM; (iterate 4 rw [if_neg (by decide)]); rw [if_pos (by decide)]; rw [hXe]; exact hP)
  have HPK : Hid (PkT B q gi g m s T f b sg va vd w.heap.size p (v) 2 ([⟨dc, false⟩, ⟨dt, da⟩] : List Ty) v1) := hide (fun ww n' AW cW hx hv hr hn => (pop_k hx hv hS [⟨dc, false⟩, ⟨dt, da⟩] hr (by first | rfl | assumption) (by omega) hn).mono (fun e w' hh => by obtain ⟨h1, h2, h3, h4⟩ := hh; rw [hP] at h1 h4; exact ⟨h1, h2, h3, h4 _ rfl⟩))
  clear hP
  have HS : Hid (∀ w', Keep (Fr3 s B w.heap.size) w3 w' → w'.cell? ⟨r9, 1, none⟩ = some (S dt) ∧ w'.cell? ⟨r9, 2, none⟩ = some (.bool da) ∧ w'.cell? ⟨r9, 3, none⟩ = some (S dc)) := hide (fun w' hk => by
   have t0 := HD.out.keep hk (by unfold Fr3; omega)
   exact ⟨t0.cell 1, t0.cell 2, t0.cell 3⟩
   )
  have HR : Hid (Keep (Fr3 s B w.heap.size) w3 w3.drew) := hide (Keep.refl _ _).drew
  replace HX := hide HX.out.drew
  replace HV := hide HV.out.drew
  replace HF := hide HF.out.drew
  refine wp_region_noPanic ?_
  refine tkB HS HR.out (fun hHeld => ?_)
  obtain ⟨w4, hw4⟩ : ∃ x, x = w3.drew := ⟨_, rfl⟩
  rw [← hw4] at hHeld HX HV HF HR ⊢
  clear hw4
  refine tkL 0 ?_ ?_ ?_
  rotate_left
  ·(rintro wS ⟨e0, e1, e2⟩; go_simp; try with_reducible rfl)
  try simp only [sP]
  refine tkL 1 ?_ ?_ ?_
  rotate_left
  ·(rintro wS ⟨e0, e1, e2⟩; go_simp; try with_reducible rfl)
  try simp only [sP]
  refine tkL 2 ?_ ?_ ?_
  rotate_left
  ·(rintro wS ⟨e0, e1, e2⟩; go_simp; try with_reducible rfl)
  try simp only [sP]
  refine tkL 3 ?_ ?_ ?_
  rotate_left
  ·(rintro wS ⟨e0, e1, e2⟩; go_simp; try with_reducible rfl)
  try simp only [sP]
  refine tkL 5 ?_ ?_ ?_
  rotate_left
  ·(rintro wS ⟨e0, e1, e2⟩; go_simp; try with_reducible rfl)
  try simp only [sP]
  refine tkL 6 ?_ ?_ ?_
  rotate_left
  ·(rintro wS ⟨e0, e1, e2⟩; go_simp; try with_reducible rfl)
  try simp only [sP]
  refine tkL 7 ?_ ?_ ?_
  rotate_left
  ·(rintro wS ⟨e0, e1, e2⟩; go_simp; try with_reducible rfl)
  try simp only [sP]
  refine tkC 4 (fun K hK => ?_)
  try rw [if_pos (by rfl)]
  go_simp
  go_at_call 22
  refine (of_any _ _).mono ?_
  rintro e w5 ⟨rfl, hb5⟩
  replace HX := hide (HX.out.below hb5)
  replace HV := hide (HV.out.below hb5)
  replace HF := hide (HF.out.tr (keep_fr hb5))
  replace HR := hide (HR.out.tr (keep_fr hb5))
  clear hb5
  try go_wp2_with fail
  refine hK.out _ _ (HS.out _ HR.out) (fun hHeld => ?_)
  clear hK K
  try simp only [sP]
  refine tkC 8 (fun K hK => ?_)
  try rw [if_pos (by rfl)]
  go_simp
  try go_wp2_with fail
  refine hK.out _ _ (HS.out _ (HR.out.tr (keep_fr ((Below.refl _ _).alloc (Nat.le_refl _) _)))) (fun hHeld => ?_)
  clear hK K
  try simp only [sP]
  obtain ⟨w6, hw6⟩ : ∃ x, x = w5.alloc (.cells #[S dc, .bool false, S dt, .bool da] 24) := ⟨_, rfl⟩
  obtain ⟨r10, hr10⟩ : ∃ x, x = w5.heap.size := ⟨_, rfl⟩
  have HB : Hid (Blk w6 r10 24 #[S dc, .bool false, S dt, .bool da]) := hide (by rw [hw6, hr10]; exact Blk.new _ _ _)
  have hl_r10 : w.heap.size ≤ r10 := by rw [hr10]; exact HF.out.size
  have hbel : Below w5.heap.size w5 w6 := by rw [hw6]; exact (Below.refl _ _).alloc (Nat.le_refl _) _
  replace HX := hide (HX.out.below hbel)
  replace HV := hide (HV.out.below hbel)
  replace HF := hide (HF.out.tr (keep_fr hbel))
  replace HR := hide (HR.out.tr (keep_fr hbel))
  rw [← hw6] at hHeld ⊢
  rw [← hr10]
  clear hw6 hr10 hbel
  refine tkC 9 (fun K hK => ?_)
  try rw [if_pos (by rfl)]
  go_simp
  go_at_call 62
  refine (HPK.out _ _ _ _ HX.out HV.out (Rd.of_blk HB.out (by unfold Fr3; omega) rfl) (by omega)).mono ?_
  rintro e w7 ⟨rfl, hx7, hk7, hv7⟩
  replace HX := hide hx7
  replace HF := hide (HF.out.tr hk7)
  replace HR := hide (HR.out.tr hk7)
  clear HV
  have HV := hide hv7
  clear hx7 hk7 hv7
  try go_wp2_with fail
  refine hK.out _ _ (HS.out _ HR.out) (fun hHeld => ?_)
  clear hK K
  try simp only [sP]
  refine tkL 10 ?_ ?_ ?_
  rotate_left
  ·(rintro wS ⟨e0, e1, e2⟩; go_simp; try with_reducible rfl)
  try simp only [sP]
  refine wpAnyH_done (by kernel_rfl) ?_ _
  refine NoPanic.normal ?_
  go_wp2_with fail
  go_ret
  exact ⟨by rw [HM.out ()] <;> rfl, HX.out.mono (by omega), HF.out, fun x hx => by rw [HM.out ()] at hx; injection hx with hx; subst hx; exact HV.out.e⟩
end Go.Proofs.YtmbegaobnpoefaaDoor
