/- A state behind an instruction about objects: walked; no statement of the seat is proved here. (Written by gen/vobj.py.) -/
import Derived.Test.YtmbegaobnpoefaaDoorMTk2
import Derived.Test.YtmbegaobnpoefaaDoorMTk
import Derived.Test.YtmbegaobnpoefaaDoorMCliArr
import Derived.BigRegion
import Derived.Deep.RegionHeld3
namespace Go.Proofs.YtmbegaobnpoefaaDoor
open Go.RowKit Go.Maps
set_option linter.unusedVariables false
set_option linter.unusedSimpArgs false
theorem fr_up {s B N N' k : Nat} (hk : k < N) (e : Fr3 s B N' k) (h : N ≤ N') : Fr3 s B N k := by unfold Fr3 at e ⊢; omega
theorem WsN.keepR {w w' : World} {B N p r : Nat} {v : Vs} (h : WsN w B N p v) (hk : Keep (fun k => k = r) w w') (hr : N ≤ r) : WsN w' B N p v := by
 obtain ⟨a, b, c, d, h, h1, h2, h3⟩ := h
 exact ⟨a, b, c, d, ⟨h.blk.keep hk (by show ¬ p = r; omega), h.hp, own_keep h.lown hk (fun k hk e => by have := h2 k hk; omega), own_keep h.sown hk (fun k hk e => by have := h3 k hk; omega), h.ne⟩, h1, h2, h3⟩
set_option maxRecDepth 100000 in
set_option maxHeartbeats 4000000 in
theorem obj18 (w : World) (B q p gi g m s n : Nat) (T : List Fc) (f : Fl) (b : Bd) (sg : Sg) (va vd : Value) (v : Vs) (a : Nat) (h : Sx w B q gi g m s n T f b sg va vd) (hv : WsE w B p v) (hS : VsS v) (hn : n ≤ 6000000000000000) (ha : a < f.cl) :
  Calls Tryd.prog 64 #[.pointer (some ⟨q, 0, none⟩), .pointer (some ⟨p, 0, none⟩), .agg #[.int .i64 18, .int .i64 (a : Int)]] w (StpEnd w B q p gi g m s n T f b sg va vd 100000 (objM T f.ppl b.sk 18 a v)) := by
 obtain ⟨hBp, hpl⟩ := hv.n.hp
 have hlt := h.lt
 have hBw := h.hB
 obtain ⟨w1, hw1⟩ : ∃ w1, w1 = w.alloc (.cells #[.int .i64 18, .int .i64 (a : Int)] 87) := ⟨_, rfl⟩
 have hb1 : Blk w1 w.heap.size 87 #[.int .i64 18, .int .i64 (a : Int)] := by rw [hw1]; exact Blk.new _ _ _
 have hbb : Below w.heap.size w w1 := by rw [hw1]; exact (Below.refl _ w).alloc (Nat.le_refl _) _
 have HX := hide (h.below hbb)
 have HV := hide (hv.n.below hbb)
 have HF : Hid (Keep (Fr3 s B w.heap.size) w w1) := hide (keep_fr hbb)
 have HI : Hid (Blk w1 w.heap.size 87 #[.int .i64 18, .int .i64 (a : Int)]) := hide hb1
 have i0 : w1.cell? ⟨w.heap.size, 0, none⟩ = some (.int .i64 18) := hb1.cell 0
 have i1 : w1.cell? ⟨w.heap.size, 1, none⟩ = some (.int .i64 (a : Int)) := hb1.cell 1
 have hwl : w.heap.size < w1.heap.size := hb1.lt
 clear h hbb hb1
 go_enter Tryd.func64, Tryd.ntmps64
 go_upto_region 1 with fail
 rw [← hw1]
 clear hw1
 have hS2 : v.st.length ≤ 2000 := hS.2.2.2
 have hel : a < f.cls.length := by rw [HX.out.fl.po.cL]; exact ha
 obtain ⟨bt, ot, htA, hbF, hbt, hct⟩ := Rd.rec_ (f := (fun x : List UInt8 => [S x])) (fun _ => rfl) (by have h := HX.out.fl.po.cr; rwa [List.map_eq_flatMap] at h) HX.out.fl.po.cL a ha
 have hXe : f.ppl.cls.getD a [] = f.cls[a] := (List.getElem_eq_getD _).symm
 generalize f.cls[a] = X at hct hXe
 obtain ⟨cn, hcn⟩ : ∃ c, c = X := ⟨_, rfl⟩
 rw [← hcn] at hct hXe
 clear hcn
 have hbF' : ¬ bt = s ∧ bt < B := by omega
 have HE0 : Hid (w1.cell? ⟨bt, ot + a, none⟩ = some (S cn)) := hide (by have h := hct 0 _ rfl; simpa using h)
 clear hct hbF
 have hqs := HX.out.qs
 have HM : Hid (∀ _ : Unit, objM T f.ppl b.sk 18 a v = puM b.sk ⟨cn, false⟩ v) := hide (fun _ => by unfold objM; rw [if_pos (by decide)]; rw [hXe]; rfl)
 go_upto_region 3 with fail
 clear i0 i1
 have HS : Hid (∀ w', Keep (Fr3 s B w.heap.size) w1 w' → w'.cell? ⟨w.heap.size, 0, none⟩ = some (.int .i64 18) ∧ w'.cell? ⟨w.heap.size, 1, none⟩ = some (.int .i64 (a : Int)) ∧ w'.cell? ⟨q, 6, none⟩ = some (.slice (some ⟨bt, ot, none⟩) f.cl f.cc) ∧ w'.cell? ⟨bt, ot + a, none⟩ = some (S cn)) := hide (fun w' hk => by
  have t0 := HI.out.keep hk (by unfold Fr3; omega)
  have t1 := HX.out.kq.keep hk (by unfold Fr3; omega)
  have t2 := t1.cell 6
  have t3 : ∀ i, w'.cell? ⟨bt, i, none⟩ = w1.cell? ⟨bt, i, none⟩ := fun i => hk.cell (p := ⟨bt, i, none⟩) hbt (by show ¬ _; unfold Fr3; simp only []; omega)
  exact ⟨t0.cell 0, t0.cell 1, by rw [t2]; simp [htA], (t3 _).trans HE0.out⟩
  )
 have HR : Hid (Keep (Fr3 s B w.heap.size) w1 w1.drew) := hide (Keep.refl _ _).drew
 replace HX := hide HX.out.drew
 replace HV := hide HV.out.drew
 replace HF := hide HF.out.drew
 refine wp_region_noPanic ?_
 refine tkB HS HR.out (fun hHeld => ?_)
 obtain ⟨w2, hw2⟩ : ∃ x, x = w1.drew := ⟨_, rfl⟩
 rw [← hw2] at hHeld HX HV HF HR ⊢
 clear hw2
 refine tkL 0 ?_ ?_ ?_
 rotate_left
 ·(rintro wS ⟨e0, e1, e2, e3⟩; go_simp; try with_reducible rfl)
 try simp only [sP]
 refine tkL 1 ?_ ?_ ?_
 rotate_left
 ·(rintro wS ⟨e0, e1, e2, e3⟩; go_simp; try with_reducible rfl)
 try simp only [sP]
 refine tkL 2 ?_ ?_ ?_
 rotate_left
 ·(rintro wS ⟨e0, e1, e2, e3⟩; go_simp; try with_reducible rfl)
 try simp only [sP]
 refine tkL 3 ?_ ?_ ?_
 rotate_left
 ·(rintro wS ⟨e0, e1, e2, e3⟩; go_simp; try with_reducible rfl)
 try simp only [sP]
 refine tkL 4 ?_ ?_ ?_
 rotate_left
 ·(rintro wS ⟨e0, e1, e2, e3⟩; go_simp; try with_reducible rfl)
 try simp only [sP]
 refine tkL 5 ?_ ?_ ?_
 rotate_left
 ·(rintro wS ⟨e0, e1, e2, e3⟩; go_simp; try with_reducible rfl)
 try simp only [sP]
 refine tkL 6 ?_ ?_ ?_
 rotate_left
 ·(rintro wS ⟨e0, e1, e2, e3⟩; go_simp; try with_reducible rfl)
 try simp only [sP]
 refine tkL 7 ?_ ?_ ?_
 rotate_left
 ·(rintro wS ⟨e0, e1, e2, e3⟩; go_simp; try with_reducible rfl)
 try simp only [sP]
 refine tkL 8 ?_ ?_ ?_
 rotate_left
 ·(rintro wS ⟨e0, e1, e2, e3⟩; go_simp; try with_reducible rfl)
 try simp only [sP]
 refine tkL 9 ?_ ?_ ?_
 rotate_left
 ·(rintro wS ⟨e0, e1, e2, e3⟩; go_simp; try with_reducible rfl)
 try simp only [sP]
 refine tkL 10 ?_ ?_ ?_
 rotate_left
 ·(rintro wS ⟨e0, e1, e2, e3⟩; go_simp; try with_reducible rfl)
 try simp only [sP]
 refine tkL 11 ?_ ?_ ?_
 rotate_left
 ·(rintro wS ⟨e0, e1, e2, e3⟩; go_simp; try with_reducible rfl)
 try simp only [sP]
 refine tkC 12 (fun K hK => ?_)
 try rw [if_pos (by rfl)]
 go_simp
 go_at_call 22
 refine (of_any _ _).mono ?_
 rintro e w3 ⟨rfl, hb3⟩
 replace HX := hide (HX.out.below hb3)
 replace HV := hide (HV.out.below hb3)
 replace HF := hide (HF.out.tr (keep_fr hb3))
 replace HR := hide (HR.out.tr (keep_fr hb3))
 clear hb3
 try go_wp2_with fail
 refine hK.out _ _ (HS.out _ HR.out) (fun hHeld => ?_)
 clear hK K
 try simp only [sP]
 refine tkC 13 (fun K hK => ?_)
 try rw [if_pos (by rfl)]
 go_simp
 go_at_call 59
 refine (push_k HX.out HV.out (by first | omega | (have := hS.2.2.2; omega)) ⟨cn, false⟩).mono ?_
 rintro e w4 ⟨rfl, hx4, hk4, hv4⟩
 replace HX := hide hx4
 replace HF := hide (HF.out.tr hk4)
 replace HR := hide (HR.out.tr hk4)
 have HVE := hide hv4
 clear hx4 hk4 hv4
 try go_wp2_with fail
 refine hK.out _ _ (HS.out _ HR.out) (fun hHeld => ?_)
 clear hK K
 try simp only [sP]
 refine tkL 14 ?_ ?_ ?_
 rotate_left
 ·(rintro wS ⟨e0, e1, e2, e3⟩; go_simp; try with_reducible rfl)
 try simp only [sP]
 refine wpAnyH_done (by kernel_rfl) ?_ _
 refine NoPanic.normal ?_
 go_wp2_with fail
 go_ret
 exact ⟨by rw [HM.out ()] <;> rfl, HX.out.mono (by omega), HF.out, fun x hx => HVE.out x (by rw [HM.out ()] at hx; exact hx)⟩
set_option maxRecDepth 100000 in
set_option maxHeartbeats 4000000 in
theorem obj19 (w : World) (B q p gi g m s n : Nat) (T : List Fc) (f : Fl) (b : Bd) (sg : Sg) (va vd : Value) (v : Vs) (a : Nat) (h : Sx w B q gi g m s n T f b sg va vd) (hv : WsE w B p v) (hS : VsS v) (hn : n ≤ 6000000000000000) (ha : a < f.tl) :
  Calls Tryd.prog 64 #[.pointer (some ⟨q, 0, none⟩), .pointer (some ⟨p, 0, none⟩), .agg #[.int .i64 19, .int .i64 (a : Int)]] w (StpEnd w B q p gi g m s n T f b sg va vd 100000 (objM T f.ppl b.sk 19 a v)) := by
 obtain ⟨hBp, hpl⟩ := hv.n.hp
 have hlt := h.lt
 have hBw := h.hB
 obtain ⟨w1, hw1⟩ : ∃ w1, w1 = w.alloc (.cells #[.int .i64 19, .int .i64 (a : Int)] 87) := ⟨_, rfl⟩
 have hb1 : Blk w1 w.heap.size 87 #[.int .i64 19, .int .i64 (a : Int)] := by rw [hw1]; exact Blk.new _ _ _
 have hbb : Below w.heap.size w w1 := by rw [hw1]; exact (Below.refl _ w).alloc (Nat.le_refl _) _
 have HX := hide (h.below hbb)
 have HV := hide (hv.n.below hbb)
 have HF : Hid (Keep (Fr3 s B w.heap.size) w w1) := hide (keep_fr hbb)
 have HI : Hid (Blk w1 w.heap.size 87 #[.int .i64 19, .int .i64 (a : Int)]) := hide hb1
 have i0 : w1.cell? ⟨w.heap.size, 0, none⟩ = some (.int .i64 19) := hb1.cell 0
 have i1 : w1.cell? ⟨w.heap.size, 1, none⟩ = some (.int .i64 (a : Int)) := hb1.cell 1
 have hwl : w.heap.size < w1.heap.size := hb1.lt
 clear h hbb hb1
 go_enter Tryd.func64, Tryd.ntmps64
 go_upto_region 1 with fail
 rw [← hw1]
 clear hw1
 have hS2 : v.st.length ≤ 2000 := hS.2.2.2
 have hel : a < f.tys.length := by rw [HX.out.fl.po.tL]; exact ha
 obtain ⟨bt, ot, htA, hbF, hbt, hct⟩ := Rd.rec_ (f := Ty.cells) (fun _ => rfl) HX.out.fl.po.tr HX.out.fl.po.tL a ha
 have hXe : tyAt f.ppl.tys a = f.tys[a] := by unfold tyAt; exact (List.getElem_eq_getD _).symm
 generalize f.tys[a] = X at hct hXe
 obtain ⟨xn, xa⟩ := X
 have hbF' : ¬ bt = s ∧ bt < B := by omega
 have HE0 : Hid (w1.cell? ⟨bt, ot + a * 2, none⟩ = some (S xn)) := hide (by have h := hct 0 _ rfl; simpa using h)
 have HE1 : Hid (w1.cell? ⟨bt, ot + a * 2 + 1, none⟩ = some (.bool xa)) := hide (by have h := hct 1 _ rfl; simpa using h)
 clear hct hbF
 have hqs := HX.out.qs
 go_upto_region 5 with fail
 clear i0 i1
 cases xa
 case false =>
  have HM : Hid (∀ _ : Unit, objM T f.ppl b.sk 19 a v = none) := hide (fun _ => by unfold objM; rw [if_neg (by decide)]; rw [if_pos (by decide)]; rw [hXe]; exact if_pos rfl)
  have HS : Hid (∀ w', Keep (Fr3 s B w.heap.size) w1 w' → w'.cell? ⟨w.heap.size, 0, none⟩ = some (.int .i64 19) ∧ w'.cell? ⟨w.heap.size, 1, none⟩ = some (.int .i64 (a : Int)) ∧ w'.cell? ⟨q, 7, none⟩ = some (.slice (some ⟨bt, ot, none⟩) f.tl f.tc) ∧ w'.cell? ⟨bt, ot + a * 2, none⟩ = some (S xn) ∧ w'.cell? ⟨bt, ot + a * 2 + 1, none⟩ = some (.bool false)) := hide (fun w' hk => by
   have t0 := HI.out.keep hk (by unfold Fr3; omega)
   have t1 := HX.out.kq.keep hk (by unfold Fr3; omega)
   have t2 := t1.cell 7
   have t3 : ∀ i, w'.cell? ⟨bt, i, none⟩ = w1.cell? ⟨bt, i, none⟩ := fun i => hk.cell (p := ⟨bt, i, none⟩) hbt (by show ¬ _; unfold Fr3; simp only []; omega)
   exact ⟨t0.cell 0, t0.cell 1, by rw [t2]; simp [htA], (t3 _).trans HE0.out, (t3 _).trans HE1.out⟩
   )
  have HR : Hid (Keep (Fr3 s B w.heap.size) w1 w1.drew) := hide (Keep.refl _ _).drew
  replace HX := hide HX.out.drew
  replace HV := hide HV.out.drew
  replace HF := hide HF.out.drew
  refine wp_region_noPanic ?_
  refine tkB HS HR.out (fun hHeld => ?_)
  obtain ⟨w2, hw2⟩ : ∃ x, x = w1.drew := ⟨_, rfl⟩
  rw [← hw2] at hHeld HX HV HF HR ⊢
  clear hw2
  refine tkL 0 ?_ ?_ ?_
  rotate_left
  ·(rintro wS ⟨e0, e1, e2, e3, e4⟩; go_simp; try with_reducible rfl)
  try simp only [sP]
  refine tkL 1 ?_ ?_ ?_
  rotate_left
  ·(rintro wS ⟨e0, e1, e2, e3, e4⟩; go_simp; try with_reducible rfl)
  try simp only [sP]
  refine tkL 2 ?_ ?_ ?_
  rotate_left
  ·(rintro wS ⟨e0, e1, e2, e3, e4⟩; go_simp; try with_reducible rfl)
  try simp only [sP]
  refine tkL 3 ?_ ?_ ?_
  rotate_left
  ·(rintro wS ⟨e0, e1, e2, e3, e4⟩; go_simp; try with_reducible rfl)
  try simp only [sP]
  refine tkL 4 ?_ ?_ ?_
  rotate_left
  ·(rintro wS ⟨e0, e1, e2, e3, e4⟩; go_simp; try with_reducible rfl)
  try simp only [sP]
  refine tkL 5 ?_ ?_ ?_
  rotate_left
  ·(rintro wS ⟨e0, e1, e2, e3, e4⟩; go_simp; try with_reducible rfl)
  try simp only [sP]
  refine tkL 6 ?_ ?_ ?_
  rotate_left
  ·(rintro wS ⟨e0, e1, e2, e3, e4⟩; go_simp; try with_reducible rfl)
  try simp only [sP]
  refine tkL 7 ?_ ?_ ?_
  rotate_left
  ·(rintro wS ⟨e0, e1, e2, e3, e4⟩; go_simp; try with_reducible rfl)
  try simp only [sP]
  refine tkL 8 ?_ ?_ ?_
  rotate_left
  ·(rintro wS ⟨e0, e1, e2, e3, e4⟩; go_simp; try with_reducible rfl)
  try simp only [sP]
  refine tkL 9 ?_ ?_ ?_
  rotate_left
  ·(rintro wS ⟨e0, e1, e2, e3, e4⟩; go_simp; try with_reducible rfl)
  try simp only [sP]
  refine tkL 10 ?_ ?_ ?_
  rotate_left
  ·(rintro wS ⟨e0, e1, e2, e3, e4⟩; go_simp; try with_reducible rfl)
  try simp only [sP]
  refine tkL 11 ?_ ?_ ?_
  rotate_left
  ·(rintro wS ⟨e0, e1, e2, e3, e4⟩; go_simp; try with_reducible rfl)
  try simp only [sP]
  refine tkR 12 ?_
  try simp only [sP]
  refine tkR 13 ?_
  try simp only [sP]
  refine tkR 14 ?_
  try simp only [sP]
  refine tkR 15 ?_
  try simp only [sP]
  refine tkR 16 ?_
  try simp only [sP]
  refine tkL 17 ?_ ?_ ?_
  rotate_left
  ·(rintro wS ⟨e0, e1, e2, e3, e4⟩; go_simp; try with_reducible rfl)
  try simp only [sP]
  refine tkL 18 ?_ ?_ ?_
  rotate_left
  ·(rintro wS ⟨e0, e1, e2, e3, e4⟩; go_simp; try with_reducible rfl)
  try simp only [sP]
  refine tkR 19 ?_
  try simp only [sP]
  refine tkR 20 ?_
  try simp only [sP]
  refine tkR 21 ?_
  try simp only [sP]
  refine tkR 22 ?_
  try simp only [sP]
  refine tkR 23 ?_
  try simp only [sP]
  refine tkR 24 ?_
  try simp only [sP]
  refine tkR 25 ?_
  try simp only [sP]
  refine tkR 26 ?_
  try simp only [sP]
  refine tkR 27 ?_
  try simp only [sP]
  refine tkR 28 ?_
  try simp only [sP]
  refine tkR 29 ?_
  try simp only [sP]
  refine tkR 30 ?_
  try simp only [sP]
  refine tkR 31 ?_
  try simp only [sP]
  refine tkL 32 ?_ ?_ ?_
  rotate_left
  ·(rintro wS ⟨e0, e1, e2, e3, e4⟩; go_simp; try with_reducible rfl)
  try simp only [sP]
  refine tkL 33 ?_ ?_ ?_
  rotate_left
  ·(rintro wS ⟨e0, e1, e2, e3, e4⟩; go_simp; try with_reducible rfl)
  try simp only [sP]
  refine wpAnyH_done (by kernel_rfl) ?_ _
  refine NoPanic.normal ?_
  go_wp2_with fail
  go_ret
  exact ⟨by rw [HM.out ()] <;> rfl, HX.out.mono (by omega), HF.out, fun x hx => by rw [HM.out ()] at hx; cases hx⟩
 case true =>
  rcases hP : poM T [⟨[105, 110, 116], false⟩] v with _ | v1
  ·have HM : Hid (∀ _ : Unit, objM T f.ppl b.sk 19 a v = none) := hide (fun _ => by unfold objM; rw [if_neg (by decide)]; rw [if_pos (by decide)]; rw [hXe]; rw [if_neg (by simp)]; show ppM T b.sk [⟨[105, 110, 116], false⟩] ⟨xn, true⟩ v = _; unfold ppM; rw [hP]; rfl)
   have HPK : Hid (PkF B q gi g m s T f b sg va vd w.heap.size p (v) 1 ([⟨[105, 110, 116], false⟩] : List Ty)) := hide (fun ww n' AW cW hx hv hr hn => (pop_k hx hv hS [⟨[105, 110, 116], false⟩] hr (by first | rfl | assumption) (by omega) hn).mono (fun e w' hh => by obtain ⟨h1, h2, h3, h4⟩ := hh; rw [hP] at h1 h4; exact ⟨h1, h2, h3⟩))
   clear hP
   have HS : Hid (∀ w', Keep (Fr3 s B w.heap.size) w1 w' → w'.cell? ⟨w.heap.size, 0, none⟩ = some (.int .i64 19) ∧ w'.cell? ⟨w.heap.size, 1, none⟩ = some (.int .i64 (a : Int)) ∧ w'.cell? ⟨q, 7, none⟩ = some (.slice (some ⟨bt, ot, none⟩) f.tl f.tc) ∧ w'.cell? ⟨bt, ot + a * 2, none⟩ = some (S xn) ∧ w'.cell? ⟨bt, ot + a * 2 + 1, none⟩ = some (.bool true)) := hide (fun w' hk => by
    have t0 := HI.out.keep hk (by unfold Fr3; omega)
    have t1 := HX.out.kq.keep hk (by unfold Fr3; omega)
    have t2 := t1.cell 7
    have t3 : ∀ i, w'.cell? ⟨bt, i, none⟩ = w1.cell? ⟨bt, i, none⟩ := fun i => hk.cell (p := ⟨bt, i, none⟩) hbt (by show ¬ _; unfold Fr3; simp only []; omega)
    exact ⟨t0.cell 0, t0.cell 1, by rw [t2]; simp [htA], (t3 _).trans HE0.out, (t3 _).trans HE1.out⟩
    )
   have HR : Hid (Keep (Fr3 s B w.heap.size) w1 w1.drew) := hide (Keep.refl _ _).drew
   replace HX := hide HX.out.drew
   replace HV := hide HV.out.drew
   replace HF := hide HF.out.drew
   refine wp_region_noPanic ?_
   refine tkB HS HR.out (fun hHeld => ?_)
   obtain ⟨w2, hw2⟩ : ∃ x, x = w1.drew := ⟨_, rfl⟩
   rw [← hw2] at hHeld HX HV HF HR ⊢
   clear hw2
   refine tkL 0 ?_ ?_ ?_
   rotate_left
   ·(rintro wS ⟨e0, e1, e2, e3, e4⟩; go_simp; try with_reducible rfl)
   try simp only [sP]
   refine tkL 1 ?_ ?_ ?_
   rotate_left
   ·(rintro wS ⟨e0, e1, e2, e3, e4⟩; go_simp; try with_reducible rfl)
   try simp only [sP]
   refine tkL 2 ?_ ?_ ?_
   rotate_left
   ·(rintro wS ⟨e0, e1, e2, e3, e4⟩; go_simp; try with_reducible rfl)
   try simp only [sP]
   refine tkL 3 ?_ ?_ ?_
   rotate_left
   ·(rintro wS ⟨e0, e1, e2, e3, e4⟩; go_simp; try with_reducible rfl)
   try simp only [sP]
   refine tkL 4 ?_ ?_ ?_
   rotate_left
   ·(rintro wS ⟨e0, e1, e2, e3, e4⟩; go_simp; try with_reducible rfl)
   try simp only [sP]
   refine tkL 5 ?_ ?_ ?_
   rotate_left
   ·(rintro wS ⟨e0, e1, e2, e3, e4⟩; go_simp; try with_reducible rfl)
   try simp only [sP]
   refine tkL 6 ?_ ?_ ?_
   rotate_left
   ·(rintro wS ⟨e0, e1, e2, e3, e4⟩; go_simp; try with_reducible rfl)
   try simp only [sP]
   refine tkL 7 ?_ ?_ ?_
   rotate_left
   ·(rintro wS ⟨e0, e1, e2, e3, e4⟩; go_simp; try with_reducible rfl)
   try simp only [sP]
   refine tkL 8 ?_ ?_ ?_
   rotate_left
   ·(rintro wS ⟨e0, e1, e2, e3, e4⟩; go_simp; try with_reducible rfl)
   try simp only [sP]
   refine tkL 9 ?_ ?_ ?_
   rotate_left
   ·(rintro wS ⟨e0, e1, e2, e3, e4⟩; go_simp; try with_reducible rfl)
   try simp only [sP]
   refine tkL 10 ?_ ?_ ?_
   rotate_left
   ·(rintro wS ⟨e0, e1, e2, e3, e4⟩; go_simp; try with_reducible rfl)
   try simp only [sP]
   refine tkL 11 ?_ ?_ ?_
   rotate_left
   ·(rintro wS ⟨e0, e1, e2, e3, e4⟩; go_simp; try with_reducible rfl)
   try simp only [sP]
   refine tkL 12 ?_ ?_ ?_
   rotate_left
   ·(rintro wS ⟨e0, e1, e2, e3, e4⟩; go_simp; try with_reducible rfl)
   try simp only [sP]
   refine tkL 13 ?_ ?_ ?_
   rotate_left
   ·(rintro wS ⟨e0, e1, e2, e3, e4⟩; go_simp; try with_reducible rfl)
   try simp only [sP]
   refine tkC 14 (fun K hK => ?_)
   try rw [if_pos (by rfl)]
   go_simp
   go_at_call 12
   refine (int_any _).mono ?_
   rintro e w3 ⟨rfl, hb3⟩
   replace HX := hide (HX.out.below hb3)
   replace HV := hide (HV.out.below hb3)
   replace HF := hide (HF.out.tr (keep_fr hb3))
   replace HR := hide (HR.out.tr (keep_fr hb3))
   clear hb3
   try go_wp2_with fail
   refine hK.out _ _ (HS.out _ HR.out) (fun hHeld => ?_)
   clear hK K
   try simp only [sP]
   refine tkC 15 (fun K hK => ?_)
   try rw [if_pos (by rfl)]
   go_simp
   try go_wp2_with fail
   refine hK.out _ _ (HS.out _ (HR.out.tr (keep_fr ((Below.refl _ _).alloc (Nat.le_refl _) _)))) (fun hHeld => ?_)
   clear hK K
   try simp only [sP]
   obtain ⟨w4, hw4⟩ : ∃ x, x = w3.alloc (.cells #[S [105, 110, 116], .bool false] 24) := ⟨_, rfl⟩
   obtain ⟨r4, hr4⟩ : ∃ x, x = w3.heap.size := ⟨_, rfl⟩
   have HB : Hid (Blk w4 r4 24 #[S [105, 110, 116], .bool false]) := hide (by rw [hw4, hr4]; exact Blk.new _ _ _)
   have hl_r4 : w.heap.size ≤ r4 := by rw [hr4]; exact HF.out.size
   have hbel : Below w3.heap.size w3 w4 := by rw [hw4]; exact (Below.refl _ _).alloc (Nat.le_refl _) _
   replace HX := hide (HX.out.below hbel)
   replace HV := hide (HV.out.below hbel)
   replace HF := hide (HF.out.tr (keep_fr hbel))
   replace HR := hide (HR.out.tr (keep_fr hbel))
   rw [← hw4] at hHeld ⊢
   rw [← hr4]
   clear hw4 hr4 hbel
   refine tkC 16 (fun K hK => ?_)
   try rw [if_pos (by rfl)]
   go_simp
   go_at_call 62
   refine (HPK.out _ _ _ _ HX.out HV.out (Rd.of_blk HB.out (by unfold Fr3; omega) rfl) (by omega)).mono ?_
   rintro e w5 ⟨rfl, hx5, hk5⟩
   replace HX := hide hx5
   replace HF := hide (HF.out.tr hk5)
   replace HR := hide (HR.out.tr hk5)
   clear HV
   clear hx5 hk5
   try go_wp2_with fail
   refine hK.out _ _ (HS.out _ HR.out) (fun hHeld => ?_)
   clear hK K
   try simp only [sP]
   refine tkL 17 ?_ ?_ ?_
   rotate_left
   ·(rintro wS ⟨e0, e1, e2, e3, e4⟩; go_simp; try with_reducible rfl)
   try simp only [sP]
   refine tkL 18 ?_ ?_ ?_
   rotate_left
   ·(rintro wS ⟨e0, e1, e2, e3, e4⟩; go_simp; try with_reducible rfl)
   try simp only [sP]
   refine tkR 19 ?_
   try simp only [sP]
   refine tkR 20 ?_
   try simp only [sP]
   refine tkR 21 ?_
   try simp only [sP]
   refine tkR 22 ?_
   try simp only [sP]
   refine tkR 23 ?_
   try simp only [sP]
   refine tkR 24 ?_
   try simp only [sP]
   refine tkR 25 ?_
   try simp only [sP]
   refine tkR 26 ?_
   try simp only [sP]
   refine tkR 27 ?_
   try simp only [sP]
   refine tkR 28 ?_
   try simp only [sP]
   refine tkR 29 ?_
   try simp only [sP]
   refine tkR 30 ?_
   try simp only [sP]
   refine tkR 31 ?_
   try simp only [sP]
   refine tkL 32 ?_ ?_ ?_
   rotate_left
   ·(rintro wS ⟨e0, e1, e2, e3, e4⟩; go_simp; try with_reducible rfl)
   try simp only [sP]
   refine tkL 33 ?_ ?_ ?_
   rotate_left
   ·(rintro wS ⟨e0, e1, e2, e3, e4⟩; go_simp; try with_reducible rfl)
   try simp only [sP]
   refine wpAnyH_done (by kernel_rfl) ?_ _
   refine NoPanic.normal ?_
   go_wp2_with fail
   go_ret
   exact ⟨by rw [HM.out ()] <;> rfl, HX.out.mono (by omega), HF.out, fun x hx => by rw [HM.out ()] at hx; cases hx⟩
  ·have HM : Hid (∀ _ : Unit, objM T f.ppl b.sk 19 a v = puM b.sk ⟨xn, true⟩ v1) := hide (fun _ => by unfold objM; rw [if_neg (by decide)]; rw [if_pos (by decide)]; rw [hXe]; rw [if_neg (by simp)]; show ppM T b.sk [⟨[105, 110, 116], false⟩] ⟨xn, true⟩ v = _; unfold ppM; rw [hP]; rfl)
   have hS3 : v1.st.length ≤ 2000 := Nat.le_trans (po_len hP) hS2
   have HPK : Hid (PkT B q gi g m s T f b sg va vd w.heap.size p (v) 1 ([⟨[105, 110, 116], false⟩] : List Ty) v1) := hide (fun ww n' AW cW hx hv hr hn => (pop_k hx hv hS [⟨[105, 110, 116], false⟩] hr (by first | rfl | assumption) (by omega) hn).mono (fun e w' hh => by obtain ⟨h1, h2, h3, h4⟩ := hh; rw [hP] at h1 h4; exact ⟨h1, h2, h3, h4 _ rfl⟩))
   clear hP
   have HS : Hid (∀ w', Keep (Fr3 s B w.heap.size) w1 w' → w'.cell? ⟨w.heap.size, 0, none⟩ = some (.int .i64 19) ∧ w'.cell? ⟨w.heap.size, 1, none⟩ = some (.int .i64 (a : Int)) ∧ w'.cell? ⟨q, 7, none⟩ = some (.slice (some ⟨bt, ot, none⟩) f.tl f.tc) ∧ w'.cell? ⟨bt, ot + a * 2, none⟩ = some (S xn) ∧ w'.cell? ⟨bt, ot + a * 2 + 1, none⟩ = some (.bool true)) := hide (fun w' hk => by
    have t0 := HI.out.keep hk (by unfold Fr3; omega)
    have t1 := HX.out.kq.keep hk (by unfold Fr3; omega)
    have t2 := t1.cell 7
    have t3 : ∀ i, w'.cell? ⟨bt, i, none⟩ = w1.cell? ⟨bt, i, none⟩ := fun i => hk.cell (p := ⟨bt, i, none⟩) hbt (by show ¬ _; unfold Fr3; simp only []; omega)
    exact ⟨t0.cell 0, t0.cell 1, by rw [t2]; simp [htA], (t3 _).trans HE0.out, (t3 _).trans HE1.out⟩
    )
   have HR : Hid (Keep (Fr3 s B w.heap.size) w1 w1.drew) := hide (Keep.refl _ _).drew
   replace HX := hide HX.out.drew
   replace HV := hide HV.out.drew
   replace HF := hide HF.out.drew
   refine wp_region_noPanic ?_
   refine tkB HS HR.out (fun hHeld => ?_)
   obtain ⟨w2, hw2⟩ : ∃ x, x = w1.drew := ⟨_, rfl⟩
   rw [← hw2] at hHeld HX HV HF HR ⊢
   clear hw2
   refine tkL 0 ?_ ?_ ?_
   rotate_left
   ·(rintro wS ⟨e0, e1, e2, e3, e4⟩; go_simp; try with_reducible rfl)
   try simp only [sP]
   refine tkL 1 ?_ ?_ ?_
   rotate_left
   ·(rintro wS ⟨e0, e1, e2, e3, e4⟩; go_simp; try with_reducible rfl)
   try simp only [sP]
   refine tkL 2 ?_ ?_ ?_
   rotate_left
   ·(rintro wS ⟨e0, e1, e2, e3, e4⟩; go_simp; try with_reducible rfl)
   try simp only [sP]
   refine tkL 3 ?_ ?_ ?_
   rotate_left
   ·(rintro wS ⟨e0, e1, e2, e3, e4⟩; go_simp; try with_reducible rfl)
   try simp only [sP]
   refine tkL 4 ?_ ?_ ?_
   rotate_left
   ·(rintro wS ⟨e0, e1, e2, e3, e4⟩; go_simp; try with_reducible rfl)
   try simp only [sP]
   refine tkL 5 ?_ ?_ ?_
   rotate_left
   ·(rintro wS ⟨e0, e1, e2, e3, e4⟩; go_simp; try with_reducible rfl)
   try simp only [sP]
   refine tkL 6 ?_ ?_ ?_
   rotate_left
   ·(rintro wS ⟨e0, e1, e2, e3, e4⟩; go_simp; try with_reducible rfl)
   try simp only [sP]
   refine tkL 7 ?_ ?_ ?_
   rotate_left
   ·(rintro wS ⟨e0, e1, e2, e3, e4⟩; go_simp; try with_reducible rfl)
   try simp only [sP]
   refine tkL 8 ?_ ?_ ?_
   rotate_left
   ·(rintro wS ⟨e0, e1, e2, e3, e4⟩; go_simp; try with_reducible rfl)
   try simp only [sP]
   refine tkL 9 ?_ ?_ ?_
   rotate_left
   ·(rintro wS ⟨e0, e1, e2, e3, e4⟩; go_simp; try with_reducible rfl)
   try simp only [sP]
   refine tkL 10 ?_ ?_ ?_
   rotate_left
   ·(rintro wS ⟨e0, e1, e2, e3, e4⟩; go_simp; try with_reducible rfl)
   try simp only [sP]
   refine tkL 11 ?_ ?_ ?_
   rotate_left
   ·(rintro wS ⟨e0, e1, e2, e3, e4⟩; go_simp; try with_reducible rfl)
   try simp only [sP]
   refine tkL 12 ?_ ?_ ?_
   rotate_left
   ·(rintro wS ⟨e0, e1, e2, e3, e4⟩; go_simp; try with_reducible rfl)
   try simp only [sP]
   refine tkL 13 ?_ ?_ ?_
   rotate_left
   ·(rintro wS ⟨e0, e1, e2, e3, e4⟩; go_simp; try with_reducible rfl)
   try simp only [sP]
   refine tkC 14 (fun K hK => ?_)
   try rw [if_pos (by rfl)]
   go_simp
   go_at_call 12
   refine (int_any _).mono ?_
   rintro e w3 ⟨rfl, hb3⟩
   replace HX := hide (HX.out.below hb3)
   replace HV := hide (HV.out.below hb3)
   replace HF := hide (HF.out.tr (keep_fr hb3))
   replace HR := hide (HR.out.tr (keep_fr hb3))
   clear hb3
   try go_wp2_with fail
   refine hK.out _ _ (HS.out _ HR.out) (fun hHeld => ?_)
   clear hK K
   try simp only [sP]
   refine tkC 15 (fun K hK => ?_)
   try rw [if_pos (by rfl)]
   go_simp
   try go_wp2_with fail
   refine hK.out _ _ (HS.out _ (HR.out.tr (keep_fr ((Below.refl _ _).alloc (Nat.le_refl _) _)))) (fun hHeld => ?_)
   clear hK K
   try simp only [sP]
   obtain ⟨w4, hw4⟩ : ∃ x, x = w3.alloc (.cells #[S [105, 110, 116], .bool false] 24) := ⟨_, rfl⟩
   obtain ⟨r4, hr4⟩ : ∃ x, x = w3.heap.size := ⟨_, rfl⟩
   have HB : Hid (Blk w4 r4 24 #[S [105, 110, 116], .bool false]) := hide (by rw [hw4, hr4]; exact Blk.new _ _ _)
   have hl_r4 : w.heap.size ≤ r4 := by rw [hr4]; exact HF.out.size
   have hbel : Below w3.heap.size w3 w4 := by rw [hw4]; exact (Below.refl _ _).alloc (Nat.le_refl _) _
   replace HX := hide (HX.out.below hbel)
   replace HV := hide (HV.out.below hbel)
   replace HF := hide (HF.out.tr (keep_fr hbel))
   replace HR := hide (HR.out.tr (keep_fr hbel))
   rw [← hw4] at hHeld ⊢
   rw [← hr4]
   clear hw4 hr4 hbel
   refine tkC 16 (fun K hK => ?_)
   try rw [if_pos (by rfl)]
   go_simp
   go_at_call 62
   refine (HPK.out _ _ _ _ HX.out HV.out (Rd.of_blk HB.out (by unfold Fr3; omega) rfl) (by omega)).mono ?_
   rintro e w5 ⟨rfl, hx5, hk5, hv5⟩
   replace HX := hide hx5
   replace HF := hide (HF.out.tr hk5)
   replace HR := hide (HR.out.tr hk5)
   clear HV
   have HV := hide hv5
   clear hx5 hk5 hv5
   try go_wp2_with fail
   refine hK.out _ _ (HS.out _ HR.out) (fun hHeld => ?_)
   clear hK K
   try simp only [sP]
   refine tkL 17 ?_ ?_ ?_
   rotate_left
   ·(rintro wS ⟨e0, e1, e2, e3, e4⟩; go_simp; try with_reducible rfl)
   try simp only [sP]
   refine tkL 18 ?_ ?_ ?_
   rotate_left
   ·(rintro wS ⟨e0, e1, e2, e3, e4⟩; go_simp; try with_reducible rfl)
   try simp only [sP]
   refine tkL 19 ?_ ?_ ?_
   rotate_left
   ·(rintro wS ⟨e0, e1, e2, e3, e4⟩; go_simp; try with_reducible rfl)
   try simp only [sP]
   refine tkL 20 ?_ ?_ ?_
   rotate_left
   ·(rintro wS ⟨e0, e1, e2, e3, e4⟩; go_simp; try with_reducible rfl)
   try simp only [sP]
   refine tkL 21 ?_ ?_ ?_
   rotate_left
   ·(rintro wS ⟨e0, e1, e2, e3, e4⟩; go_simp; try with_reducible rfl)
   try simp only [sP]
   refine tkL 22 ?_ ?_ ?_
   rotate_left
   ·(rintro wS ⟨e0, e1, e2, e3, e4⟩; go_simp; try with_reducible rfl)
   try simp only [sP]
   refine tkL 23 ?_ ?_ ?_
   rotate_left
   ·(rintro wS ⟨e0, e1, e2, e3, e4⟩; go_simp; try with_reducible rfl)
   try simp only [sP]
   refine tkL 24 ?_ ?_ ?_
   rotate_left
   ·(rintro wS ⟨e0, e1, e2, e3, e4⟩; go_simp; try with_reducible rfl)
   try simp only [sP]
   refine tkL 25 ?_ ?_ ?_
   rotate_left
   ·(rintro wS ⟨e0, e1, e2, e3, e4⟩; go_simp; try with_reducible rfl)
   try simp only [sP]
   refine tkL 26 ?_ ?_ ?_
   rotate_left
   ·(rintro wS ⟨e0, e1, e2, e3, e4⟩; go_simp; try with_reducible rfl)
   try simp only [sP]
   refine tkL 27 ?_ ?_ ?_
   rotate_left
   ·(rintro wS ⟨e0, e1, e2, e3, e4⟩; go_simp; try with_reducible rfl)
   try simp only [sP]
   refine tkL 28 ?_ ?_ ?_
   rotate_left
   ·(rintro wS ⟨e0, e1, e2, e3, e4⟩; go_simp; try with_reducible rfl)
   try simp only [sP]
   refine tkL 29 ?_ ?_ ?_
   rotate_left
   ·(rintro wS ⟨e0, e1, e2, e3, e4⟩; go_simp; try with_reducible rfl)
   try simp only [sP]
   refine tkL 30 ?_ ?_ ?_
   rotate_left
   ·(rintro wS ⟨e0, e1, e2, e3, e4⟩; go_simp; try with_reducible rfl)
   try simp only [sP]
   refine tkC 31 (fun K hK => ?_)
   try rw [if_pos (by rfl)]
   go_simp
   go_at_call 59
   refine (push_k HX.out HV.out (by first | omega | (have := hS.2.2.2; omega)) ⟨xn, true⟩).mono ?_
   rintro e w6 ⟨rfl, hx6, hk6, hv6⟩
   replace HX := hide hx6
   replace HF := hide (HF.out.tr hk6)
   replace HR := hide (HR.out.tr hk6)
   have HVE := hide hv6
   clear hx6 hk6 hv6
   try go_wp2_with fail
   refine hK.out _ _ (HS.out _ HR.out) (fun hHeld => ?_)
   clear hK K
   try simp only [sP]
   refine tkL 32 ?_ ?_ ?_
   rotate_left
   ·(rintro wS ⟨e0, e1, e2, e3, e4⟩; go_simp; try with_reducible rfl)
   try simp only [sP]
   refine tkL 33 ?_ ?_ ?_
   rotate_left
   ·(rintro wS ⟨e0, e1, e2, e3, e4⟩; go_simp; try with_reducible rfl)
   try simp only [sP]
   refine wpAnyH_done (by kernel_rfl) ?_ _
   refine NoPanic.normal ?_
   go_wp2_with fail
   go_ret
   exact ⟨by rw [HM.out ()] <;> rfl, HX.out.mono (by omega), HF.out, fun x hx => HVE.out x (by rw [HM.out ()] at hx; exact hx)⟩
set_option maxRecDepth 100000 in
set_option maxHeartbeats 4000000 in
theorem obj20 (w : World) (B q p gi g m s n : Nat) (T : List Fc) (f : Fl) (b : Bd) (sg : Sg) (va vd : Value) (v : Vs) (a : Nat) (h : Sx w B q gi g m s n T f b sg va vd) (hv : WsE w B p v) (hS : VsS v) (hn : n ≤ 6000000000000000) (hA : ∀ ww n', Sx ww B q gi g m s n' T f b sg va vd → WsE ww B p v → n' ≤ 6000000000000000 → Calls Tryd.prog 68 #[.pointer (some ⟨q, 0, none⟩), .pointer (some ⟨p, 0, none⟩), .agg #[.int .i64 20, .int .i64 (a : Nat)]] ww (StpEnd ww B q p gi g m s n' T f b sg va vd 100000 (arrM T f.ppl b.sk 20 a v))) :
  Calls Tryd.prog 64 #[.pointer (some ⟨q, 0, none⟩), .pointer (some ⟨p, 0, none⟩), .agg #[.int .i64 20, .int .i64 (a : Int)]] w (StpEnd w B q p gi g m s n T f b sg va vd 100000 (objM T f.ppl b.sk 20 a v)) := by
 obtain ⟨hBp, hpl⟩ := hv.n.hp
 have hlt := h.lt
 have hBw := h.hB
 obtain ⟨w1, hw1⟩ : ∃ w1, w1 = w.alloc (.cells #[.int .i64 20, .int .i64 (a : Int)] 87) := ⟨_, rfl⟩
 have hb1 : Blk w1 w.heap.size 87 #[.int .i64 20, .int .i64 (a : Int)] := by rw [hw1]; exact Blk.new _ _ _
 have hbb : Below w.heap.size w w1 := by rw [hw1]; exact (Below.refl _ w).alloc (Nat.le_refl _) _
 have HX := hide (h.below hbb)
 have HV := hide (hv.n.below hbb)
 have HF : Hid (Keep (Fr3 s B w.heap.size) w w1) := hide (keep_fr hbb)
 have HI : Hid (Blk w1 w.heap.size 87 #[.int .i64 20, .int .i64 (a : Int)]) := hide hb1
 have i0 : w1.cell? ⟨w.heap.size, 0, none⟩ = some (.int .i64 20) := hb1.cell 0
 have i1 : w1.cell? ⟨w.heap.size, 1, none⟩ = some (.int .i64 (a : Int)) := hb1.cell 1
 have hwl : w.heap.size < w1.heap.size := hb1.lt
 clear h hbb hb1
 go_enter Tryd.func64, Tryd.ntmps64
 go_upto_region 1 with fail
 rw [← hw1]
 clear hw1
 have HM : Hid (∀ _ : Unit, objM T f.ppl b.sk 20 a v = arrM T f.ppl b.sk 20 a v) := hide (fun _ => by unfold objM; (iterate 5 rw [if_neg (by decide)]); rw [if_neg (by decide)])
 go_wp2_with (go_at_call 68; refine (hA _ _ HX.out HV.out.e (by omega)).mono ?_; rintro e w3 ⟨rfl, hx3, hk3, hv3⟩)
 go_ret
 exact ⟨by rw [HM.out ()] <;> rfl, hx3, HF.out.trans' (hk3.mono (fun k _ e => e)) (fun k hk e => fr_up hk e HF.out.size), fun x hx => hv3 x (by rw [HM.out ()] at hx; exact hx)⟩
set_option maxRecDepth 100000 in
set_option maxHeartbeats 4000000 in
theorem obj21 (w : World) (B q p gi g m s n : Nat) (T : List Fc) (f : Fl) (b : Bd) (sg : Sg) (va vd : Value) (v : Vs) (a : Nat) (h : Sx w B q gi g m s n T f b sg va vd) (hv : WsE w B p v) (hS : VsS v) (hn : n ≤ 6000000000000000) (hA : ∀ ww n', Sx ww B q gi g m s n' T f b sg va vd → WsE ww B p v → n' ≤ 6000000000000000 → Calls Tryd.prog 68 #[.pointer (some ⟨q, 0, none⟩), .pointer (some ⟨p, 0, none⟩), .agg #[.int .i64 21, .int .i64 (a : Nat)]] ww (StpEnd ww B q p gi g m s n' T f b sg va vd 100000 (arrM T f.ppl b.sk 21 a v))) :
  Calls Tryd.prog 64 #[.pointer (some ⟨q, 0, none⟩), .pointer (some ⟨p, 0, none⟩), .agg #[.int .i64 21, .int .i64 (a : Int)]] w (StpEnd w B q p gi g m s n T f b sg va vd 100000 (objM T f.ppl b.sk 21 a v)) := by
 obtain ⟨hBp, hpl⟩ := hv.n.hp
 have hlt := h.lt
 have hBw := h.hB
 obtain ⟨w1, hw1⟩ : ∃ w1, w1 = w.alloc (.cells #[.int .i64 21, .int .i64 (a : Int)] 87) := ⟨_, rfl⟩
 have hb1 : Blk w1 w.heap.size 87 #[.int .i64 21, .int .i64 (a : Int)] := by rw [hw1]; exact Blk.new _ _ _
 have hbb : Below w.heap.size w w1 := by rw [hw1]; exact (Below.refl _ w).alloc (Nat.le_refl _) _
 have HX := hide (h.below hbb)
 have HV := hide (hv.n.below hbb)
 have HF : Hid (Keep (Fr3 s B w.heap.size) w w1) := hide (keep_fr hbb)
 have HI : Hid (Blk w1 w.heap.size 87 #[.int .i64 21, .int .i64 (a : Int)]) := hide hb1
 have i0 : w1.cell? ⟨w.heap.size, 0, none⟩ = some (.int .i64 21) := hb1.cell 0
 have i1 : w1.cell? ⟨w.heap.size, 1, none⟩ = some (.int .i64 (a : Int)) := hb1.cell 1
 have hwl : w.heap.size < w1.heap.size := hb1.lt
 clear h hbb hb1
 go_enter Tryd.func64, Tryd.ntmps64
 go_upto_region 1 with fail
 rw [← hw1]
 clear hw1
 have HM : Hid (∀ _ : Unit, objM T f.ppl b.sk 21 a v = arrM T f.ppl b.sk 21 a v) := hide (fun _ => by unfold objM; (iterate 5 rw [if_neg (by decide)]); rw [if_neg (by decide)])
 go_wp2_with (go_at_call 68; refine (hA _ _ HX.out HV.out.e (by omega)).mono ?_; rintro e w3 ⟨rfl, hx3, hk3, hv3⟩)
 go_ret
 exact ⟨by rw [HM.out ()] <;> rfl, hx3, HF.out.trans' (hk3.mono (fun k _ e => e)) (fun k hk e => fr_up hk e HF.out.size), fun x hx => hv3 x (by rw [HM.out ()] at hx; exact hx)⟩
set_option maxRecDepth 100000 in
set_option maxHeartbeats 4000000 in
theorem obj22 (w : World) (B q p gi g m s n : Nat) (T : List Fc) (f : Fl) (b : Bd) (sg : Sg) (va vd : Value) (v : Vs) (a : Nat) (h : Sx w B q gi g m s n T f b sg va vd) (hv : WsE w B p v) (hS : VsS v) (hn : n ≤ 6000000000000000) (hA : ∀ ww n', Sx ww B q gi g m s n' T f b sg va vd → WsE ww B p v → n' ≤ 6000000000000000 → Calls Tryd.prog 68 #[.pointer (some ⟨q, 0, none⟩), .pointer (some ⟨p, 0, none⟩), .agg #[.int .i64 22, .int .i64 (a : Nat)]] ww (StpEnd ww B q p gi g m s n' T f b sg va vd 100000 (arrM T f.ppl b.sk 22 a v))) :
  Calls Tryd.prog 64 #[.pointer (some ⟨q, 0, none⟩), .pointer (some ⟨p, 0, none⟩), .agg #[.int .i64 22, .int .i64 (a : Int)]] w (StpEnd w B q p gi g m s n T f b sg va vd 100000 (objM T f.ppl b.sk 22 a v)) := by
 obtain ⟨hBp, hpl⟩ := hv.n.hp
 have hlt := h.lt
 have hBw := h.hB
 obtain ⟨w1, hw1⟩ : ∃ w1, w1 = w.alloc (.cells #[.int .i64 22, .int .i64 (a : Int)] 87) := ⟨_, rfl⟩
 have hb1 : Blk w1 w.heap.size 87 #[.int .i64 22, .int .i64 (a : Int)] := by rw [hw1]; exact Blk.new _ _ _
 have hbb : Below w.heap.size w w1 := by rw [hw1]; exact (Below.refl _ w).alloc (Nat.le_refl _) _
 have HX := hide (h.below hbb)
 have HV := hide (hv.n.below hbb)
 have HF : Hid (Keep (Fr3 s B w.heap.size) w w1) := hide (keep_fr hbb)
 have HI : Hid (Blk w1 w.heap.size 87 #[.int .i64 22, .int .i64 (a : Int)]) := hide hb1
 have i0 : w1.cell? ⟨w.heap.size, 0, none⟩ = some (.int .i64 22) := hb1.cell 0
 have i1 : w1.cell? ⟨w.heap.size, 1, none⟩ = some (.int .i64 (a : Int)) := hb1.cell 1
 have hwl : w.heap.size < w1.heap.size := hb1.lt
 clear h hbb hb1
 go_enter Tryd.func64, Tryd.ntmps64
 go_upto_region 1 with fail
 rw [← hw1]
 clear hw1
 have HM : Hid (∀ _ : Unit, objM T f.ppl b.sk 22 a v = arrM T f.ppl b.sk 22 a v) := hide (fun _ => by unfold objM; (iterate 5 rw [if_neg (by decide)]); rw [if_neg (by decide)])
 go_wp2_with (go_at_call 68; refine (hA _ _ HX.out HV.out.e (by omega)).mono ?_; rintro e w3 ⟨rfl, hx3, hk3, hv3⟩)
 go_ret
 exact ⟨by rw [HM.out ()] <;> rfl, hx3, HF.out.trans' (hk3.mono (fun k _ e => e)) (fun k hk e => fr_up hk e HF.out.size), fun x hx => hv3 x (by rw [HM.out ()] at hx; exact hx)⟩
end Go.Proofs.YtmbegaobnpoefaaDoor
