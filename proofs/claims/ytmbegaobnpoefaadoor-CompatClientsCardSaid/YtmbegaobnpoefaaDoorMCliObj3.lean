/- A state behind an instruction about objects: walked; no statement of the seat is proved here. (Written by gen/vobj2.py.) -/
import Derived.Test.YtmbegaobnpoefaaDoorMTk2
import Derived.Test.YtmbegaobnpoefaaDoorMTk
import Derived.Test.YtmbegaobnpoefaaDoorMCliObj
import Derived.BigRegion
import Derived.Deep.RegionHeld3
namespace Go.Proofs.YtmbegaobnpoefaaDoor
open Go.RowKit Go.Maps
set_option linter.unusedVariables false
set_option linter.unusedSimpArgs false
theorem po_vs {T : List Fc} {want : List Ty} {v v1 : Vs} (hS : VsS v) (h : poM T want v = some v1) : VsS v1 := by
 have hl := po_len h
 unfold poM at h
 rw [Option.map_eq_some_iff] at h
 obtain ⟨r, hr, rfl⟩ := h
 exact ⟨hS.1, fun t ht => hS.2.1 t (popR_short _ _ _ hr t ht), hS.2.2.1, Nat.le_trans hl hS.2.2.2⟩
set_option maxRecDepth 100000 in
set_option maxHeartbeats 4000000 in
theorem obj26 (w : World) (B q p gi g m s n : Nat) (T : List Fc) (f : Fl) (b : Bd) (sg : Sg) (va vd : Value) (v : Vs) (a : Nat) (h : Sx w B q gi g m s n T f b sg va vd) (hv : WsE w B p v) (hS : VsS v) (hn : n ≤ 6000000000000000) (ha : a < f.ml) (hps : ∀ x ∈ f.mts, x.m.k ≤ 200) :
  Calls Tryd.prog 64 #[.pointer (some ⟨q, 0, none⟩), .pointer (some ⟨p, 0, none⟩), .agg #[.int .i64 26, .int .i64 (a : Int)]] w (StpEnd w B q p gi g m s n T f b sg va vd 100000 (objM T f.ppl b.sk 26 a v)) := by
 obtain ⟨hBp, hpl⟩ := hv.n.hp
 have hlt := h.lt
 have hBw := h.hB
 obtain ⟨w1, hw1⟩ : ∃ w1, w1 = w.alloc (.cells #[.int .i64 26, .int .i64 (a : Int)] 87) := ⟨_, rfl⟩
 have hb1 : Blk w1 w.heap.size 87 #[.int .i64 26, .int .i64 (a : Int)] := by rw [hw1]; exact Blk.new _ _ _
 have hbb : Below w.heap.size w w1 := by rw [hw1]; exact (Below.refl _ w).alloc (Nat.le_refl _) _
 have HX := hide (h.below hbb)
 have HV := hide (hv.n.below hbb)
 have HF : Hid (Keep (Fr3 s B w.heap.size) w w1) := hide (keep_fr hbb)
 have HI : Hid (Blk w1 w.heap.size 87 #[.int .i64 26, .int .i64 (a : Int)]) := hide hb1
 have i0 : w1.cell? ⟨w.heap.size, 0, none⟩ = some (.int .i64 26) := hb1.cell 0
 have i1 : w1.cell? ⟨w.heap.size, 1, none⟩ = some (.int .i64 (a : Int)) := hb1.cell 1
 have hwl : w.heap.size < w1.heap.size := hb1.lt
 clear h hbb hb1
 go_enter Tryd.func64, Tryd.ntmps64
 go_upto_region 1 with fail
 rw [← hw1]
 clear hw1
 have hS2 : v.st.length ≤ 2000 := hS.2.2.2
 have hel : a < f.mts.length := by rw [HX.out.fl.po.mL]; exact ha
 obtain ⟨bt, ot, htA, hbF, hbt, hct⟩ := Rd.rec_ (f := Mt.cells) (fun _ => rfl) HX.out.fl.po.mr HX.out.fl.po.mL a ha
 have hXe : f.ppl.mts.getD a mtZ = (f.mts[a]).pl := by show (f.mts.map Mt.pl).getD a mtZ = _; rw [← List.getElem_eq_getD (h := by simpa using hel)]; simp
 have hXm := HX.out.fl.po.mW _ (List.getElem_mem hel)
 have hXk := hps _ (List.getElem_mem hel)
 generalize f.mts[a] = X at hct hXe hXm hXk
 obtain ⟨⟨mn, mst, mA, mk, mc, mps, ⟨mr, mra⟩⟩, cn⟩ := X
 have hbF' : ¬ bt = s ∧ bt < B := by omega
 have HE0 : Hid (w1.cell? ⟨bt, ot + a * 6, none⟩ = some (S mn)) := hide (by have h := hct 0 _ rfl; simpa using h)
 have HE1 : Hid (w1.cell? ⟨bt, ot + a * 6 + 1, none⟩ = some (.bool mst)) := hide (by have h := hct 1 _ rfl; simpa using h)
 have HE2 : Hid (w1.cell? ⟨bt, ot + a * 6 + 2, none⟩ = some (.slice mA mk mc)) := hide (by have h := hct 2 _ rfl; simpa using h)
 have HE3 : Hid (w1.cell? ⟨bt, ot + a * 6 + 3, none⟩ = some (S mr)) := hide (by have h := hct 3 _ rfl; simpa using h)
 have HE4 : Hid (w1.cell? ⟨bt, ot + a * 6 + 4, none⟩ = some (.bool mra)) := hide (by have h := hct 4 _ rfl; simpa using h)
 have HE5 : Hid (w1.cell? ⟨bt, ot + a * 6 + 5, none⟩ = some (S cn)) := hide (by have h := hct 5 _ rfl; simpa using h)
 clear hct hbF
 have hqs := HX.out.qs
 go_upto_region 21 with fail
 clear i0 i1
 have HS : Hid (∀ w', Keep (Fr3 s B w.heap.size) w1 w' → w'.cell? ⟨w.heap.size, 0, none⟩ = some (.int .i64 26) ∧ w'.cell? ⟨w.heap.size, 1, none⟩ = some (.int .i64 (a : Int)) ∧ w'.cell? ⟨q, 9, none⟩ = some (.slice (some ⟨bt, ot, none⟩) f.ml f.mc) ∧ w'.cell? ⟨bt, ot + a * 6, none⟩ = some (S mn) ∧ w'.cell? ⟨bt, ot + a * 6 + 1, none⟩ = some (.bool mst) ∧ w'.cell? ⟨bt, ot + a * 6 + 2, none⟩ = some (.slice mA mk mc) ∧ w'.cell? ⟨bt, ot + a * 6 + 3, none⟩ = some (S mr) ∧ w'.cell? ⟨bt, ot + a * 6 + 4, none⟩ = some (.bool mra) ∧ w'.cell? ⟨bt, ot + a * 6 + 5, none⟩ = some (S cn)) := hide (fun w' hk => by
  have t0 := HI.out.keep hk (by unfold Fr3; omega)
  have t1 := HX.out.kq.keep hk (by unfold Fr3; omega)
  have t2 := t1.cell 9
  have t3 : ∀ i, w'.cell? ⟨bt, i, none⟩ = w1.cell? ⟨bt, i, none⟩ := fun i => hk.cell (p := ⟨bt, i, none⟩) hbt (by show ¬ _; unfold Fr3; simp only []; omega)
  exact ⟨t0.cell 0, t0.cell 1, by rw [t2]; simp [htA], (t3 _).trans HE0.out, (t3 _).trans HE1.out, (t3 _).trans HE2.out, (t3 _).trans HE3.out, (t3 _).trans HE4.out, (t3 _).trans HE5.out⟩
  )
 have HR : Hid (Keep (Fr3 s B w.heap.size) w1 w1.drew) := hide (Keep.refl _ _).drew
 replace HX := hide HX.out.drew
 replace HV := hide HV.out.drew
 replace HF := hide HF.out.drew
 refine wp_region_noPanic ?_
 refine tkB HS HR.out (fun hHeld => ?_)
 obtain ⟨w2, hw2⟩ : ∃ x, x = w1.drew := ⟨_, rfl⟩
 rw [← hw2] at hHeld HX HV HF HR ⊢
 clear hw2
 refine tkL 0 ?_ ?_ ?_
 rotate_left
 ·(rintro wS ⟨e0, e1, e2, e3, e4, e5, e6, e7, e8⟩; go_simp; try with_reducible rfl)
 try simp only [sP]
 refine tkL 1 ?_ ?_ ?_
 rotate_left
 ·(rintro wS ⟨e0, e1, e2, e3, e4, e5, e6, e7, e8⟩; go_simp; try with_reducible rfl)
 try simp only [sP]
 refine tkL 2 ?_ ?_ ?_
 rotate_left
 ·(rintro wS ⟨e0, e1, e2, e3, e4, e5, e6, e7, e8⟩; go_simp; try with_reducible rfl)
 try simp only [sP]
 refine tkL 3 ?_ ?_ ?_
 rotate_left
 ·(rintro wS ⟨e0, e1, e2, e3, e4, e5, e6, e7, e8⟩; go_simp; try with_reducible rfl)
 try simp only [sP]
 refine tkL 4 ?_ ?_ ?_
 rotate_left
 ·(rintro wS ⟨e0, e1, e2, e3, e4, e5, e6, e7, e8⟩; go_simp; try with_reducible rfl)
 try simp only [sP]
 refine tkL 5 ?_ ?_ ?_
 rotate_left
 ·(rintro wS ⟨e0, e1, e2, e3, e4, e5, e6, e7, e8⟩; go_simp; try with_reducible rfl)
 try simp only [sP]
 refine tkL 6 ?_ ?_ ?_
 rotate_left
 ·(rintro wS ⟨e0, e1, e2, e3, e4, e5, e6, e7, e8⟩; go_simp; try with_reducible rfl)
 try simp only [sP]
 refine tkL 7 ?_ ?_ ?_
 rotate_left
 ·(rintro wS ⟨e0, e1, e2, e3, e4, e5, e6, e7, e8⟩; go_simp; try with_reducible rfl)
 try simp only [sP]
 refine tkL 8 ?_ ?_ ?_
 rotate_left
 ·(rintro wS ⟨e0, e1, e2, e3, e4, e5, e6, e7, e8⟩; go_simp; try with_reducible rfl)
 try simp only [sP]
 refine tkL 9 ?_ ?_ ?_
 rotate_left
 ·(rintro wS ⟨e0, e1, e2, e3, e4, e5, e6, e7, e8⟩; go_simp; try with_reducible rfl)
 try simp only [sP]
 refine tkC 10 (fun K hK => ?_)
 try rw [if_pos (by rfl)]
 go_simp
 try go_wp2_with fail
 refine hK.out _ _ (HS.out _ (HR.out.tr (keep_fr ((Below.refl _ _).alloc (Nat.le_refl _) _)))) (fun hHeld => ?_)
 clear hK K
 try simp only [sP]
 refine tkC 11 (fun K hK => ?_)
 try rw [if_pos (by rfl)]
 go_simp
 try go_wp2_with fail
 refine hK.out _ _ (HS.out _ (HR.out.tr (keep_fr ((Below.refl _ _).alloc (Nat.le_refl _) _)))) (fun hHeld => ?_)
 clear hK K
 try simp only [sP]
 refine wpAnyH_done (by kernel_rfl) ?_ _
 refine NoPanic.normal ?_
 replace HI := hide (HI.out.keep HR.out (by unfold Fr3; omega))
 have HW12 := HR
 clear HR hHeld
 obtain ⟨w3, hw3⟩ : ∃ x, x = w2.alloc (.cells #[S mn, .bool mst, .slice mA mk mc, S mr, .bool mra, S cn] 95) := ⟨_, rfl⟩
 obtain ⟨r9, hr9⟩ : ∃ x, x = w2.heap.size := ⟨_, rfl⟩
 have HD : Hid (Blk w3 r9 95 #[S mn, .bool mst, .slice mA mk mc, S mr, .bool mra, S cn]) := hide (by rw [hw3, hr9]; exact Blk.new _ _ _)
 have hl_r9 : w.heap.size ≤ r9 := by rw [hr9]; exact HF.out.size
 have hbel : Below w2.heap.size w2 w3 := by rw [hw3]; exact (Below.refl _ _).alloc (Nat.le_refl _) _
 replace HX := hide (HX.out.below hbel)
 replace HV := hide (HV.out.below hbel)
 replace HF := hide (HF.out.tr (keep_fr hbel))
 replace HI := hide (HI.out.below hbel HI.out.lt)
 rw [show w2.alloc (.cells #[.string { data := mn.toArray }, .bool mst, .slice mA mk mc, .string { data := mr.toArray }, .bool mra, .string { data := cn.toArray }] 95) = w3 from hw3.symm]
 have HW13 : Hid (Keep (Fr3 s B w.heap.size) w1 w3) := hide (HW12.out.tr (keep_fr hbel))
 rw [← hr9]
 clear hw3 hr9 hbel HS HE0 HE1 HE2 HE3 HE4 HE5
 have hXk' : mk ≤ 200 := hXk
 have hXl : mps.length = mk := hXm.1.2.1
 have HRM : Hid (Rd w3 (Fr3 s B w.heap.size) 2 mA mk (mps.flatMap Ty.cells)) := hide (((hXm.1.1.weak (fun k _ e => by unfold Fr3 at e; omega)).keep HW13.out))
 clear hXm hXk
 have i0 : w3.cell? ⟨w.heap.size, 0, none⟩ = some (.int .i64 26) := HI.out.cell 0
 have i1 : w3.cell? ⟨w.heap.size, 1, none⟩ = some (.int .i64 (a : Int)) := HI.out.cell 1
 have d1 : w3.cell? ⟨r9, 1, none⟩ = some (.bool mst) := HD.out.cell 1
 cases mst
 case false =>
  have HM : Hid (∀ _ : Unit, objM T f.ppl b.sk 26 a v = none) := hide (fun _ => by unfold objM; (iterate 5 rw [if_neg (by decide)]); rw [if_pos (by decide)]; rw [hXe]; exact if_pos (by simp [Mt.pl, Sg.pl]))
  go_wp2_with fail
  go_ret
  exact ⟨by rw [HM.out ()] <;> rfl, HX.out.mono (by omega), HF.out, fun x hx => by rw [HM.out ()] at hx; cases hx⟩
 case true =>
  have d2 : w3.cell? ⟨r9, 2, none⟩ = some (.slice mA mk mc) := HD.out.cell 2
  rcases hP : poM T mps v with _ | v1
  ·have HM : Hid (∀ _ : Unit, objM T f.ppl b.sk 26 a v = none) := hide (fun _ => by unfold objM; (iterate 5 rw [if_neg (by decide)]); rw [if_pos (by decide)]; rw [hXe]; rw [if_neg (by simp [Mt.pl, Sg.pl])]; show (match poM T mps v with | none => none | some s1 => _) = _; rw [hP])
   have HPK : Hid (PkF B q gi g m s T f b sg va vd w.heap.size p (v) mk (mps : List Ty)) := hide (fun ww n' AW cW hx hv hr hn => (pop_k hx hv hS mps hr (by first | rfl | assumption) (by omega) hn).mono (fun e w' hh => by obtain ⟨h1, h2, h3, h4⟩ := hh; rw [hP] at h1 h4; exact ⟨h1, h2, h3⟩))
   clear hP
   go_wp2_with (go_at_call 62; refine (HPK.out _ _ _ _ HX.out HV.out HRM.out (by omega)).mono ?_; rintro e w4 ⟨rfl, hx4, hk4⟩; replace HX := hide hx4; replace HF := hide (HF.out.tr hk4); replace HD := hide (HD.out.keep hk4 (by unfold Fr3; omega)); replace HI := hide (HI.out.keep hk4 (by unfold Fr3; omega)); clear HV; clear hx4 hk4)
   go_ret
   exact ⟨by rw [HM.out ()] <;> rfl, HX.out.mono (by omega), HF.out, fun x hx => by rw [HM.out ()] at hx; cases hx⟩
  ·have HM : Hid (∀ _ : Unit, objM T f.ppl b.sk 26 a v = puM b.sk ⟨mr, mra⟩ v1) := hide (fun _ => by unfold objM; (iterate 5 rw [if_neg (by decide)]); rw [if_pos (by decide)]; rw [hXe]; rw [if_neg (by simp [Mt.pl, Sg.pl])]; show (match poM T mps v with | none => none | some s1 => _) = _; rw [hP]; rfl)
   have hS3 : v1.st.length ≤ 2000 := Nat.le_trans (po_len hP) hS2
   have hS1 : VsS v1 := po_vs hS hP
   have HPK : Hid (PkT B q gi g m s T f b sg va vd w.heap.size p (v) mk (mps : List Ty) v1) := hide (fun ww n' AW cW hx hv hr hn => (pop_k hx hv hS mps hr (by first | rfl | assumption) (by omega) hn).mono (fun e w' hh => by obtain ⟨h1, h2, h3, h4⟩ := hh; rw [hP] at h1 h4; exact ⟨h1, h2, h3, h4 _ rfl⟩))
   clear hP
   go_wp2_with (first | (go_at_call 62; refine (HPK.out _ _ _ _ HX.out HV.out HRM.out (by omega)).mono ?_; rintro e w4 ⟨rfl, hx4, hk4, hv4⟩; replace HX := hide hx4; replace HF := hide (HF.out.tr hk4); replace HD := hide (HD.out.keep hk4 (by unfold Fr3; omega)); replace HI := hide (HI.out.keep hk4 (by unfold Fr3; omega)); clear HV; have HV := hide hv4; have i0 : w4.cell? ⟨w.heap.size, 0, none⟩ = some (.int .i64 26) := HI.out.cell 0; have d3 : w4.cell? ⟨r9, 3, none⟩ = some (S mr) := HD.out.cell 3; have d4 : w4.cell? ⟨r9, 4, none⟩ = some (.bool mra) := HD.out.cell 4; clear hx4 hk4 hv4) | (go_at_call 59; refine (push_k HX.out HV.out (by first | omega | (have := hS.2.2.2; omega)) ⟨mr, mra⟩).mono ?_; rintro e w5 ⟨rfl, hx5, hk5, hv5⟩; replace HX := hide hx5; replace HF := hide (HF.out.tr hk5); have HVE := hide hv5; clear hx5 hk5 hv5))
   go_ret
   exact ⟨by rw [HM.out ()] <;> rfl, HX.out.mono (by omega), HF.out, fun x hx => HVE.out x (by rw [HM.out ()] at hx; exact hx)⟩
set_option maxRecDepth 100000 in
set_option maxHeartbeats 4000000 in
theorem obj25 (w : World) (B q p gi g m s n : Nat) (T : List Fc) (f : Fl) (b : Bd) (sg : Sg) (va vd : Value) (v : Vs) (a : Nat) (h : Sx w B q gi g m s n T f b sg va vd) (hv : WsE w B p v) (hS : VsS v) (hn : n ≤ 6000000000000000) (ha : a < f.ml) (hps : ∀ x ∈ f.mts, x.m.k ≤ 200) :
  Calls Tryd.prog 64 #[.pointer (some ⟨q, 0, none⟩), .pointer (some ⟨p, 0, none⟩), .agg #[.int .i64 25, .int .i64 (a : Int)]] w (StpEnd w B q p gi g m s n T f b sg va vd 100000 (objM T f.ppl b.sk 25 a v)) := by
 obtain ⟨hBp, hpl⟩ := hv.n.hp
 have hlt := h.lt
 have hBw := h.hB
 obtain ⟨w1, hw1⟩ : ∃ w1, w1 = w.alloc (.cells #[.int .i64 25, .int .i64 (a : Int)] 87) := ⟨_, rfl⟩
 have hb1 : Blk w1 w.heap.size 87 #[.int .i64 25, .int .i64 (a : Int)] := by rw [hw1]; exact Blk.new _ _ _
 have hbb : Below w.heap.size w w1 := by rw [hw1]; exact (Below.refl _ w).alloc (Nat.le_refl _) _
 have HX := hide (h.below hbb)
 have HV := hide (hv.n.below hbb)
 have HF : Hid (Keep (Fr3 s B w.heap.size) w w1) := hide (keep_fr hbb)
 have HI : Hid (Blk w1 w.heap.size 87 #[.int .i64 25, .int .i64 (a : Int)]) := hide hb1
 have i0 : w1.cell? ⟨w.heap.size, 0, none⟩ = some (.int .i64 25) := hb1.cell 0
 have i1 : w1.cell? ⟨w.heap.size, 1, none⟩ = some (.int .i64 (a : Int)) := hb1.cell 1
 have hwl : w.heap.size < w1.heap.size := hb1.lt
 clear h hbb hb1
 go_enter Tryd.func64, Tryd.ntmps64
 go_upto_region 1 with fail
 rw [← hw1]
 clear hw1
 have hS2 : v.st.length ≤ 2000 := hS.2.2.2
 have hel : a < f.mts.length := by rw [HX.out.fl.po.mL]; exact ha
 obtain ⟨bt, ot, htA, hbF, hbt, hct⟩ := Rd.rec_ (f := Mt.cells) (fun _ => rfl) HX.out.fl.po.mr HX.out.fl.po.mL a ha
 have hXe : f.ppl.mts.getD a mtZ = (f.mts[a]).pl := by show (f.mts.map Mt.pl).getD a mtZ = _; rw [← List.getElem_eq_getD (h := by simpa using hel)]; simp
 have hXm := HX.out.fl.po.mW _ (List.getElem_mem hel)
 have hXk := hps _ (List.getElem_mem hel)
 generalize f.mts[a] = X at hct hXe hXm hXk
 obtain ⟨⟨mn, mst, mA, mk, mc, mps, ⟨mr, mra⟩⟩, cn⟩ := X
 have hbF' : ¬ bt = s ∧ bt < B := by omega
 have HE0 : Hid (w1.cell? ⟨bt, ot + a * 6, none⟩ = some (S mn)) := hide (by have h := hct 0 _ rfl; simpa using h)
 have HE1 : Hid (w1.cell? ⟨bt, ot + a * 6 + 1, none⟩ = some (.bool mst)) := hide (by have h := hct 1 _ rfl; simpa using h)
 have HE2 : Hid (w1.cell? ⟨bt, ot + a * 6 + 2, none⟩ = some (.slice mA mk mc)) := hide (by have h := hct 2 _ rfl; simpa using h)
 have HE3 : Hid (w1.cell? ⟨bt, ot + a * 6 + 3, none⟩ = some (S mr)) := hide (by have h := hct 3 _ rfl; simpa using h)
 have HE4 : Hid (w1.cell? ⟨bt, ot + a * 6 + 4, none⟩ = some (.bool mra)) := hide (by have h := hct 4 _ rfl; simpa using h)
 have HE5 : Hid (w1.cell? ⟨bt, ot + a * 6 + 5, none⟩ = some (S cn)) := hide (by have h := hct 5 _ rfl; simpa using h)
 clear hct hbF
 have hqs := HX.out.qs
 go_upto_region 21 with fail
 clear i0 i1
 have HS : Hid (∀ w', Keep (Fr3 s B w.heap.size) w1 w' → w'.cell? ⟨w.heap.size, 0, none⟩ = some (.int .i64 25) ∧ w'.cell? ⟨w.heap.size, 1, none⟩ = some (.int .i64 (a : Int)) ∧ w'.cell? ⟨q, 9, none⟩ = some (.slice (some ⟨bt, ot, none⟩) f.ml f.mc) ∧ w'.cell? ⟨bt, ot + a * 6, none⟩ = some (S mn) ∧ w'.cell? ⟨bt, ot + a * 6 + 1, none⟩ = some (.bool mst) ∧ w'.cell? ⟨bt, ot + a * 6 + 2, none⟩ = some (.slice mA mk mc) ∧ w'.cell? ⟨bt, ot + a * 6 + 3, none⟩ = some (S mr) ∧ w'.cell? ⟨bt, ot + a * 6 + 4, none⟩ = some (.bool mra) ∧ w'.cell? ⟨bt, ot + a * 6 + 5, none⟩ = some (S cn)) := hide (fun w' hk => by
  have t0 := HI.out.keep hk (by unfold Fr3; omega)
  have t1 := HX.out.kq.keep hk (by unfold Fr3; omega)
  have t2 := t1.cell 9
  have t3 : ∀ i, w'.cell? ⟨bt, i, none⟩ = w1.cell? ⟨bt, i, none⟩ := fun i => hk.cell (p := ⟨bt, i, none⟩) hbt (by show ¬ _; unfold Fr3; simp only []; omega)
  exact ⟨t0.cell 0, t0.cell 1, by rw [t2]; simp [htA], (t3 _).trans HE0.out, (t3 _).trans HE1.out, (t3 _).trans HE2.out, (t3 _).trans HE3.out, (t3 _).trans HE4.out, (t3 _).trans HE5.out⟩
  )
 have HR : Hid (Keep (Fr3 s B w.heap.size) w1 w1.drew) := hide (Keep.refl _ _).drew
 replace HX := hide HX.out.drew
 replace HV := hide HV.out.drew
 replace HF := hide HF.out.drew
 refine wp_region_noPanic ?_
 refine tkB HS HR.out (fun hHeld => ?_)
 obtain ⟨w2, hw2⟩ : ∃ x, x = w1.drew := ⟨_, rfl⟩
 rw [← hw2] at hHeld HX HV HF HR ⊢
 clear hw2
 refine tkL 0 ?_ ?_ ?_
 rotate_left
 ·(rintro wS ⟨e0, e1, e2, e3, e4, e5, e6, e7, e8⟩; go_simp; try with_reducible rfl)
 try simp only [sP]
 refine tkL 1 ?_ ?_ ?_
 rotate_left
 ·(rintro wS ⟨e0, e1, e2, e3, e4, e5, e6, e7, e8⟩; go_simp; try with_reducible rfl)
 try simp only [sP]
 refine tkL 2 ?_ ?_ ?_
 rotate_left
 ·(rintro wS ⟨e0, e1, e2, e3, e4, e5, e6, e7, e8⟩; go_simp; try with_reducible rfl)
 try simp only [sP]
 refine tkL 3 ?_ ?_ ?_
 rotate_left
 ·(rintro wS ⟨e0, e1, e2, e3, e4, e5, e6, e7, e8⟩; go_simp; try with_reducible rfl)
 try simp only [sP]
 refine tkL 4 ?_ ?_ ?_
 rotate_left
 ·(rintro wS ⟨e0, e1, e2, e3, e4, e5, e6, e7, e8⟩; go_simp; try with_reducible rfl)
 try simp only [sP]
 refine tkL 5 ?_ ?_ ?_
 rotate_left
 ·(rintro wS ⟨e0, e1, e2, e3, e4, e5, e6, e7, e8⟩; go_simp; try with_reducible rfl)
 try simp only [sP]
 refine tkL 6 ?_ ?_ ?_
 rotate_left
 ·(rintro wS ⟨e0, e1, e2, e3, e4, e5, e6, e7, e8⟩; go_simp; try with_reducible rfl)
 try simp only [sP]
 refine tkL 7 ?_ ?_ ?_
 rotate_left
 ·(rintro wS ⟨e0, e1, e2, e3, e4, e5, e6, e7, e8⟩; go_simp; try with_reducible rfl)
 try simp only [sP]
 refine tkL 8 ?_ ?_ ?_
 rotate_left
 ·(rintro wS ⟨e0, e1, e2, e3, e4, e5, e6, e7, e8⟩; go_simp; try with_reducible rfl)
 try simp only [sP]
 refine tkL 9 ?_ ?_ ?_
 rotate_left
 ·(rintro wS ⟨e0, e1, e2, e3, e4, e5, e6, e7, e8⟩; go_simp; try with_reducible rfl)
 try simp only [sP]
 refine tkC 10 (fun K hK => ?_)
 try rw [if_pos (by rfl)]
 go_simp
 try go_wp2_with fail
 refine hK.out _ _ (HS.out _ (HR.out.tr (keep_fr ((Below.refl _ _).alloc (Nat.le_refl _) _)))) (fun hHeld => ?_)
 clear hK K
 try simp only [sP]
 refine tkC 11 (fun K hK => ?_)
 try rw [if_pos (by rfl)]
 go_simp
 try go_wp2_with fail
 refine hK.out _ _ (HS.out _ (HR.out.tr (keep_fr ((Below.refl _ _).alloc (Nat.le_refl _) _)))) (fun hHeld => ?_)
 clear hK K
 try simp only [sP]
 refine wpAnyH_done (by kernel_rfl) ?_ _
 refine NoPanic.normal ?_
 replace HI := hide (HI.out.keep HR.out (by unfold Fr3; omega))
 have HW12 := HR
 clear HR hHeld
 obtain ⟨w3, hw3⟩ : ∃ x, x = w2.alloc (.cells #[S mn, .bool mst, .slice mA mk mc, S mr, .bool mra, S cn] 95) := ⟨_, rfl⟩
 obtain ⟨r9, hr9⟩ : ∃ x, x = w2.heap.size := ⟨_, rfl⟩
 have HD : Hid (Blk w3 r9 95 #[S mn, .bool mst, .slice mA mk mc, S mr, .bool mra, S cn]) := hide (by rw [hw3, hr9]; exact Blk.new _ _ _)
 have hl_r9 : w.heap.size ≤ r9 := by rw [hr9]; exact HF.out.size
 have hbel : Below w2.heap.size w2 w3 := by rw [hw3]; exact (Below.refl _ _).alloc (Nat.le_refl _) _
 replace HX := hide (HX.out.below hbel)
 replace HV := hide (HV.out.below hbel)
 replace HF := hide (HF.out.tr (keep_fr hbel))
 replace HI := hide (HI.out.below hbel HI.out.lt)
 rw [show w2.alloc (.cells #[.string { data := mn.toArray }, .bool mst, .slice mA mk mc, .string { data := mr.toArray }, .bool mra, .string { data := cn.toArray }] 95) = w3 from hw3.symm]
 have HW13 : Hid (Keep (Fr3 s B w.heap.size) w1 w3) := hide (HW12.out.tr (keep_fr hbel))
 rw [← hr9]
 clear hw3 hr9 hbel HS HE0 HE1 HE2 HE3 HE4 HE5
 have hXk' : mk ≤ 200 := hXk
 have hXl : mps.length = mk := hXm.1.2.1
 have HRM : Hid (Rd w3 (Fr3 s B w.heap.size) 2 mA mk (mps.flatMap Ty.cells)) := hide (((hXm.1.1.weak (fun k _ e => by unfold Fr3 at e; omega)).keep HW13.out))
 clear hXm hXk
 have i0 : w3.cell? ⟨w.heap.size, 0, none⟩ = some (.int .i64 25) := HI.out.cell 0
 have i1 : w3.cell? ⟨w.heap.size, 1, none⟩ = some (.int .i64 (a : Int)) := HI.out.cell 1
 have d1 : w3.cell? ⟨r9, 1, none⟩ = some (.bool mst) := HD.out.cell 1
 cases mst
 case true =>
  have HM : Hid (∀ _ : Unit, objM T f.ppl b.sk 25 a v = none) := hide (fun _ => by unfold objM; (iterate 5 rw [if_neg (by decide)]); rw [if_pos (by decide)]; rw [hXe]; exact if_pos (by simp [Mt.pl, Sg.pl]))
  go_wp2_with fail
  go_ret
  exact ⟨by rw [HM.out ()] <;> rfl, HX.out.mono (by omega), HF.out, fun x hx => by rw [HM.out ()] at hx; cases hx⟩
 case false =>
  have d2 : w3.cell? ⟨r9, 2, none⟩ = some (.slice mA mk mc) := HD.out.cell 2
  rcases hP : poM T mps v with _ | v1
  ·have HM : Hid (∀ _ : Unit, objM T f.ppl b.sk 25 a v = none) := hide (fun _ => by unfold objM; (iterate 5 rw [if_neg (by decide)]); rw [if_pos (by decide)]; rw [hXe]; rw [if_neg (by simp [Mt.pl, Sg.pl])]; show (match poM T mps v with | none => none | some s1 => _) = _; rw [hP])
   have HPK : Hid (PkF B q gi g m s T f b sg va vd w.heap.size p (v) mk (mps : List Ty)) := hide (fun ww n' AW cW hx hv hr hn => (pop_k hx hv hS mps hr (by first | rfl | assumption) (by omega) hn).mono (fun e w' hh => by obtain ⟨h1, h2, h3, h4⟩ := hh; rw [hP] at h1 h4; exact ⟨h1, h2, h3⟩))
   clear hP
   go_wp2_with (go_at_call 62; refine (HPK.out _ _ _ _ HX.out HV.out HRM.out (by omega)).mono ?_; rintro e w4 ⟨rfl, hx4, hk4⟩; replace HX := hide hx4; replace HF := hide (HF.out.tr hk4); replace HD := hide (HD.out.keep hk4 (by unfold Fr3; omega)); replace HI := hide (HI.out.keep hk4 (by unfold Fr3; omega)); clear HV; clear hx4 hk4)
   go_ret
   exact ⟨by rw [HM.out ()] <;> rfl, HX.out.mono (by omega), HF.out, fun x hx => by rw [HM.out ()] at hx; cases hx⟩
  ·have hS3 : v1.st.length ≤ 2000 := Nat.le_trans (po_len hP) hS2
   have hS1 : VsS v1 := po_vs hS hP
   have HPK : Hid (PkT B q gi g m s T f b sg va vd w.heap.size p (v) mk (mps : List Ty) v1) := hide (fun ww n' AW cW hx hv hr hn => (pop_k hx hv hS mps hr (by first | rfl | assumption) (by omega) hn).mono (fun e w' hh => by obtain ⟨h1, h2, h3, h4⟩ := hh; rw [hP] at h1 h4; exact ⟨h1, h2, h3, h4 _ rfl⟩))
   rcases hP2 : poM T [⟨cn, false⟩] v1 with _ | v2
   ·have HM : Hid (∀ _ : Unit, objM T f.ppl b.sk 25 a v = none) := hide (fun _ => by unfold objM; (iterate 5 rw [if_neg (by decide)]); rw [if_pos (by decide)]; rw [hXe]; rw [if_neg (by simp [Mt.pl, Sg.pl])]; show (match poM T mps v with | none => none | some s1 => _) = _; rw [hP]; show ppM T b.sk [⟨cn, false⟩] ⟨mr, mra⟩ v1 = _; unfold ppM; rw [hP2]; rfl)
    have HPA : Hid (PuF B q gi g m s T f b sg va vd w.heap.size p (v1) 1 #[S cn, .bool false]) := hide (fun ww n' hx hv hw hn => by
     have hb : Below ww.heap.size ww (ww.alloc (.cells #[S cn, .bool false] 24)) := (Below.refl _ _).alloc (Nat.le_refl _) _
     have hlw := hx.vt.tab.slt
     refine (pop_k (nW := 1) (hx.below hb) (hv.below hb) hS1 [⟨cn, false⟩] (Rd.of_blk (Blk.new ww 24 #[S cn, .bool false]) (by unfold Fr3; omega) rfl) rfl (by omega) hn).mono (fun e w' hh => ?_)
     obtain ⟨h1, h2, h3, h4⟩ := hh
     rw [hP2] at h1 h4
     exact ⟨h1, h2, (keep_fr hb).tr h3⟩)
    clear hP hP2
    go_wp2_with (first | (go_at_call 62; refine (HPK.out _ _ _ _ HX.out HV.out HRM.out (by omega)).mono ?_; rintro e w4 ⟨rfl, hx4, hk4, hv4⟩; replace HX := hide hx4; replace HF := hide (HF.out.tr hk4); replace HD := hide (HD.out.keep hk4 (by unfold Fr3; omega)); replace HI := hide (HI.out.keep hk4 (by unfold Fr3; omega)); clear HV; have HV := hide hv4; have i0 : w4.cell? ⟨w.heap.size, 0, none⟩ = some (.int .i64 25) := HI.out.cell 0; have d5 : w4.cell? ⟨r9, 5, none⟩ = some (S cn) := HD.out.cell 5; clear hx4 hk4 hv4) | (go_at_call 22; refine (of_any _ _).mono ?_; rintro e w5 ⟨rfl, hb5⟩; replace HX := hide (HX.out.below hb5); replace HV := hide (HV.out.below hb5); replace HF := hide (HF.out.tr (keep_fr hb5)); replace HD := hide (HD.out.below hb5 HD.out.lt); clear hb5) | (go_at_call 62; refine (HPA.out _ _ HX.out HV.out HF.out.size (by omega)).mono ?_; rintro e w6 ⟨rfl, hx6, hk6⟩; replace HX := hide hx6; replace HF := hide (HF.out.tr hk6); clear HV; clear hx6 hk6))
    go_ret
    exact ⟨by rw [HM.out ()] <;> rfl, HX.out.mono (by omega), HF.out, fun x hx => by rw [HM.out ()] at hx; cases hx⟩
   ·have HM : Hid (∀ _ : Unit, objM T f.ppl b.sk 25 a v = puM b.sk ⟨mr, mra⟩ v2) := hide (fun _ => by unfold objM; (iterate 5 rw [if_neg (by decide)]); rw [if_pos (by decide)]; rw [hXe]; rw [if_neg (by simp [Mt.pl, Sg.pl])]; show (match poM T mps v with | none => none | some s1 => _) = _; rw [hP]; show ppM T b.sk [⟨cn, false⟩] ⟨mr, mra⟩ v1 = _; unfold ppM; rw [hP2]; rfl)
    have hS4 : v2.st.length ≤ 2000 := Nat.le_trans (po_len hP2) hS3
    have HPA : Hid (PuT B q gi g m s T f b sg va vd w.heap.size p (v1) 1 #[S cn, .bool false] v2) := hide (fun ww n' hx hv hw hn => by
     have hb : Below ww.heap.size ww (ww.alloc (.cells #[S cn, .bool false] 24)) := (Below.refl _ _).alloc (Nat.le_refl _) _
     have hlw := hx.vt.tab.slt
     refine (pop_k (nW := 1) (hx.below hb) (hv.below hb) hS1 [⟨cn, false⟩] (Rd.of_blk (Blk.new ww 24 #[S cn, .bool false]) (by unfold Fr3; omega) rfl) rfl (by omega) hn).mono (fun e w' hh => ?_)
     obtain ⟨h1, h2, h3, h4⟩ := hh
     rw [hP2] at h1 h4
     exact ⟨h1, h2, (keep_fr hb).tr h3, h4 _ rfl⟩)
    clear hP hP2
    go_wp2_with (first | (go_at_call 62; refine (HPK.out _ _ _ _ HX.out HV.out HRM.out (by omega)).mono ?_; rintro e w4 ⟨rfl, hx4, hk4, hv4⟩; replace HX := hide hx4; replace HF := hide (HF.out.tr hk4); replace HD := hide (HD.out.keep hk4 (by unfold Fr3; omega)); replace HI := hide (HI.out.keep hk4 (by unfold Fr3; omega)); clear HV; have HV := hide hv4; have i0 : w4.cell? ⟨w.heap.size, 0, none⟩ = some (.int .i64 25) := HI.out.cell 0; have d5 : w4.cell? ⟨r9, 5, none⟩ = some (S cn) := HD.out.cell 5; clear hx4 hk4 hv4) | (go_at_call 22; refine (of_any _ _).mono ?_; rintro e w5 ⟨rfl, hb5⟩; replace HX := hide (HX.out.below hb5); replace HV := hide (HV.out.below hb5); replace HF := hide (HF.out.tr (keep_fr hb5)); replace HD := hide (HD.out.below hb5 HD.out.lt); clear hb5) | (go_at_call 62; refine (HPA.out _ _ HX.out HV.out HF.out.size (by omega)).mono ?_; rintro e w6 ⟨rfl, hx6, hk6, hv6⟩; replace HX := hide hx6; replace HF := hide (HF.out.tr hk6); replace HD := hide (HD.out.keep hk6 (by unfold Fr3; omega)); clear HV; have HV := hide hv6; have d3 : w6.cell? ⟨r9, 3, none⟩ = some (S mr) := HD.out.cell 3; have d4 : w6.cell? ⟨r9, 4, none⟩ = some (.bool mra) := HD.out.cell 4; clear hx6 hk6 hv6) | (go_at_call 59; refine (push_k HX.out HV.out (by first | omega | (have := hS.2.2.2; omega)) ⟨mr, mra⟩).mono ?_; rintro e w7 ⟨rfl, hx7, hk7, hv7⟩; replace HX := hide hx7; replace HF := hide (HF.out.tr hk7); have HVE := hide hv7; clear hx7 hk7 hv7))
    go_ret
    exact ⟨by rw [HM.out ()] <;> rfl, HX.out.mono (by omega), HF.out, fun x hx => HVE.out x (by rw [HM.out ()] at hx; exact hx)⟩
end Go.Proofs.YtmbegaobnpoefaaDoor
