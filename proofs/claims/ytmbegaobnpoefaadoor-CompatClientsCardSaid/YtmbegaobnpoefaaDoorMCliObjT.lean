/- A state behind an instruction about objects: walked; no statement of the seat is proved here. (Written by gen/vobj.py.) -/
import Derived.Test.YtmbegaobnpoefaaDoorMTk2
import Derived.Test.YtmbegaobnpoefaaDoorMTk
import Derived.Test.YtmbegaobnpoefaaDoorMCliObj
import Derived.BigRegion
import Derived.Deep.RegionHeld3
namespace Go.Proofs.YtmbegaobnpoefaaDoor
open Go.RowKit Go.Maps
set_option linter.unusedVariables false
set_option linter.unusedSimpArgs false
set_option maxRecDepth 100000 in
set_option maxHeartbeats 4000000 in
theorem obj24 (w : World) (B q p gi g m s n : Nat) (T : List Fc) (f : Fl) (b : Bd) (sg : Sg) (va vd : Value) (v : Vs) (a : Nat) (h : Sx w B q gi g m s n T f b sg va vd) (hv : WsE w B p v) (hS : VsS v) (hn : n ≤ 6000000000000000) :
  Calls Tryd.prog 64 #[.pointer (some ⟨q, 0, none⟩), .pointer (some ⟨p, 0, none⟩), .agg #[.int .i64 24, .int .i64 (a : Int)]] w (StpEnd w B q p gi g m s n T f b sg va vd 100000 (objM T f.ppl b.sk 24 a v)) := by
 obtain ⟨hBp, hpl⟩ := hv.n.hp
 have hlt := h.lt
 have hBw := h.hB
 obtain ⟨w1, hw1⟩ : ∃ w1, w1 = w.alloc (.cells #[.int .i64 24, .int .i64 (a : Int)] 87) := ⟨_, rfl⟩
 have hb1 : Blk w1 w.heap.size 87 #[.int .i64 24, .int .i64 (a : Int)] := by rw [hw1]; exact Blk.new _ _ _
 have hbb : Below w.heap.size w w1 := by rw [hw1]; exact (Below.refl _ w).alloc (Nat.le_refl _) _
 have HX := hide (h.below hbb)
 have HV := hide (hv.n.below hbb)
 have HF : Hid (Keep (Fr3 s B w.heap.size) w w1) := hide (keep_fr hbb)
 have HI : Hid (Blk w1 w.heap.size 87 #[.int .i64 24, .int .i64 (a : Int)]) := hide hb1
 have i0 : w1.cell? ⟨w.heap.size, 0, none⟩ = some (.int .i64 24) := hb1.cell 0
 have i1 : w1.cell? ⟨w.heap.size, 1, none⟩ = some (.int .i64 (a : Int)) := hb1.cell 1
 have hwl : w.heap.size < w1.heap.size := hb1.lt
 clear h hbb hb1
 go_enter Tryd.func64, Tryd.ntmps64
 go_upto_region 1 with fail
 rw [← hw1]
 clear hw1
 have hS2 : v.st.length ≤ 2000 := hS.2.2.2
 have hS3 : (dr v).st.length ≤ 2000 := by simp [dr]; omega
 rcases hL : v.st.getLast? with _ | ⟨tn, ta⟩
 ·have HM : Hid (∀ _ : Unit, objM T f.ppl b.sk 24 a v = none) := hide (fun _ => by unfold objM; (iterate 2 rw [if_neg (by decide)]); rw [if_pos (by decide)]; rw [hL])
  have HCL : Hid (∀ ww, Calls Tryd.prog 23 #[.agg #[S [], .bool false]] ww (Gives ww (.bool false))) := hide (fun ww => class_any [] false ww)
  have HTK : Hid (TkE B q gi g m s T f b sg va vd w.heap.size p (v) (.tuple #[.agg #[S [], .bool false], .bool false]) (dr (v))) := hide (fun ww n' hx hv => by have := take_k hx hv (by have := hS.2.2.2; first | omega | (simp [dr]; omega)); rw [hL] at this; exact this)
  go_upto_region 9 with (go_at_call 61; refine (HTK.out _ _ HX.out HV.out).mono ?_; rintro e w3 ⟨rfl, hx3, hk3, hv3⟩; replace HX := hide hx3; replace HF := hide (HF.out.tr hk3); replace HI := hide (HI.out.keep hk3 (by unfold Fr3; omega)); replace HV := hide hv3; clear hx3 hk3 hv3)
  obtain ⟨w4, hw4⟩ : ∃ x, x = w3.alloc (.cells #[S [], .bool false] 24) := ⟨_, rfl⟩
  obtain ⟨r7, hr7⟩ : ∃ x, x = w3.heap.size := ⟨_, rfl⟩
  have HT : Hid (Blk w4 r7 24 #[S [], .bool false]) := hide (by rw [hw4, hr7]; exact Blk.new _ _ _)
  have hl_r7 : w.heap.size ≤ r7 := by rw [hr7]; exact HF.out.size
  have hbel : Below w3.heap.size w3 w4 := by rw [hw4]; exact (Below.refl _ _).alloc (Nat.le_refl _) _
  replace HX := hide (HX.out.below hbel)
  replace HV := hide (HV.out.below hbel)
  replace HF := hide (HF.out.tr (keep_fr hbel))
  replace HI := hide (HI.out.below hbel HI.out.lt)
  rw [← hw4]
  rw [← hr7]
  clear hw4 hr7 hbel
  clear i0 i1 HTK
  go_upto_region 10 with (go_at_call 58; refine (bool_any _).mono ?_; rintro e w5 ⟨rfl, hb5⟩; replace HX := hide (HX.out.below hb5); replace HV := hide (HV.out.below hb5); replace HF := hide (HF.out.tr (keep_fr hb5)); replace HI := hide (HI.out.below hb5 HI.out.lt); replace HT := hide (HT.out.below hb5 HT.out.lt); have hr75 : r7 < w5.heap.size := HT.out.lt; clear hb5)
  obtain ⟨w6, hw6⟩ : ∃ x, x = w5.alloc (.cells #[S [98, 111, 111, 108], .bool false] 24) := ⟨_, rfl⟩
  obtain ⟨r9, hr9⟩ : ∃ x, x = w5.heap.size := ⟨_, rfl⟩
  have HU : Hid (Blk w6 r9 24 #[S [98, 111, 111, 108], .bool false]) := hide (by rw [hw6, hr9]; exact Blk.new _ _ _)
  have hl_r9 : w.heap.size ≤ r9 := by rw [hr9]; exact HF.out.size
  have hbel : Below w5.heap.size w5 w6 := by rw [hw6]; exact (Below.refl _ _).alloc (Nat.le_refl _) _
  replace HX := hide (HX.out.below hbel)
  replace HV := hide (HV.out.below hbel)
  replace HF := hide (HF.out.tr (keep_fr hbel))
  replace HT := hide (HT.out.below hbel HT.out.lt)
  replace HI := hide (HI.out.below hbel HI.out.lt)
  rw [← hw6]
  rw [← hr9]
  have hrr0 : r7 < r9 := by rw [hr9]; exact hr75
  clear hw6 hr9 hbel
  have i0 : w6.cell? ⟨w.heap.size, 0, none⟩ = some (.int .i64 24) := HI.out.cell 0
  have i1 : w6.cell? ⟨w.heap.size, 1, none⟩ = some (.int .i64 (a : Int)) := HI.out.cell 1
  clear hL
  go_upto_region 12 with fail
  clear i0 i1
  have HS : Hid (∀ w', Keep (Fr3 s B w.heap.size) w6 w' → w'.cell? ⟨r7, 0, none⟩ = some (S []) ∧ w'.cell? ⟨r7, 1, none⟩ = some (.bool false) ∧ w'.cell? ⟨r9, 0, none⟩ = some (S [98, 111, 111, 108]) ∧ w'.cell? ⟨r9, 1, none⟩ = some (.bool false)) := hide (fun w' hk => by
   have t0 := HT.out.keep hk (by unfold Fr3; omega)
   have t1 := HU.out.keep hk (by unfold Fr3; omega)
   exact ⟨t0.cell 0, t0.cell 1, t1.cell 0, t1.cell 1⟩
   )
  have HR : Hid (Keep (Fr3 s B w.heap.size) w6 w6.drew) := hide (Keep.refl _ _).drew
  replace HX := hide HX.out.drew
  replace HV := hide HV.out.drew
  replace HF := hide HF.out.drew
  refine wp_region_noPanic ?_
  refine tkB HS HR.out (fun hHeld => ?_)
  obtain ⟨wA, hwA⟩ : ∃ x, x = w6.drew := ⟨_, rfl⟩
  rw [← hwA] at hHeld HX HV HF HR ⊢
  clear hwA
  refine tkL 0 ?_ ?_ ?_
  rotate_left
  ·(rintro wS ⟨e0, e1, e2, e3⟩; go_simp; try with_reducible rfl)
  try simp only [sP]
  refine tkL 1 ?_ ?_ ?_
  rotate_left
  ·(rintro wS ⟨e0, e1, e2, e3⟩; go_simp; try with_reducible rfl)
  try simp only [sP]
  refine tkR 2 ?_
  try simp only [sP]
  refine tkR 3 ?_
  try simp only [sP]
  refine tkR 4 ?_
  try simp only [sP]
  refine tkR 5 ?_
  try simp only [sP]
  refine tkR 6 ?_
  try simp only [sP]
  refine tkR 7 ?_
  try simp only [sP]
  refine tkR 8 ?_
  try simp only [sP]
  refine tkL 9 ?_ ?_ ?_
  rotate_left
  ·(rintro wS ⟨e0, e1, e2, e3⟩; go_simp; try with_reducible rfl)
  try simp only [sP]
  refine tkL 10 ?_ ?_ ?_
  rotate_left
  ·(rintro wS ⟨e0, e1, e2, e3⟩; go_simp; try with_reducible rfl)
  try simp only [sP]
  refine tkR 11 ?_
  try simp only [sP]
  refine tkR 12 ?_
  try simp only [sP]
  refine tkR 13 ?_
  try simp only [sP]
  refine tkR 14 ?_
  try simp only [sP]
  refine tkL 15 ?_ ?_ ?_
  rotate_left
  ·(rintro wS ⟨e0, e1, e2, e3⟩; go_simp; try with_reducible rfl)
  try simp only [sP]
  refine tkL 16 ?_ ?_ ?_
  rotate_left
  ·(rintro wS ⟨e0, e1, e2, e3⟩; go_simp; try with_reducible rfl)
  try simp only [sP]
  refine wpAnyH_done (by kernel_rfl) ?_ _
  refine NoPanic.normal ?_
  go_wp2_with fail
  go_ret
  exact ⟨by rw [HM.out ()] <;> rfl, HX.out.mono (by omega), HF.out, fun x hx => by rw [HM.out ()] at hx; cases hx⟩
 ·rcases hc : Ty.cls ⟨tn, ta⟩ with _ | _
  ·by_cases en : ta = true ∨ ¬ tn = [110, 117, 108, 108]
   ·have HM : Hid (∀ _ : Unit, objM T f.ppl b.sk 24 a v = none) := hide (fun _ => by unfold objM; (iterate 2 rw [if_neg (by decide)]); rw [if_pos (by decide)]; rw [hL]; exact if_neg (by simp only [hc, kN, nNull]; intro h; rcases h with h | h; exact absurd h (by decide); injection h with h1 h2; rcases en with e | e; rw [h2] at e; cases e; exact e h1))
    have HCL : Hid (∀ ww, Calls Tryd.prog 23 #[.agg #[S tn, .bool ta]] ww (Gives ww (.bool false))) := hide (fun ww => by have h := class_any tn ta ww; rwa [hc] at h)
    have hen := en
    clear en
    have HTK : Hid (TkE B q gi g m s T f b sg va vd w.heap.size p (v) (.tuple #[.agg #[S tn, .bool ta], .bool true]) (dr (v))) := hide (fun ww n' hx hv => by have := take_k hx hv (by have := hS.2.2.2; first | omega | (simp [dr]; omega)); rw [hL] at this; exact this)
    go_upto_region 9 with (go_at_call 61; refine (HTK.out _ _ HX.out HV.out).mono ?_; rintro e w3 ⟨rfl, hx3, hk3, hv3⟩; replace HX := hide hx3; replace HF := hide (HF.out.tr hk3); replace HI := hide (HI.out.keep hk3 (by unfold Fr3; omega)); replace HV := hide hv3; clear hx3 hk3 hv3)
    obtain ⟨w4, hw4⟩ : ∃ x, x = w3.alloc (.cells #[S tn, .bool ta] 24) := ⟨_, rfl⟩
    obtain ⟨r7, hr7⟩ : ∃ x, x = w3.heap.size := ⟨_, rfl⟩
    have HT : Hid (Blk w4 r7 24 #[S tn, .bool ta]) := hide (by rw [hw4, hr7]; exact Blk.new _ _ _)
    have hl_r7 : w.heap.size ≤ r7 := by rw [hr7]; exact HF.out.size
    have hbel : Below w3.heap.size w3 w4 := by rw [hw4]; exact (Below.refl _ _).alloc (Nat.le_refl _) _
    replace HX := hide (HX.out.below hbel)
    replace HV := hide (HV.out.below hbel)
    replace HF := hide (HF.out.tr (keep_fr hbel))
    replace HI := hide (HI.out.below hbel HI.out.lt)
    rw [← hw4]
    rw [← hr7]
    clear hw4 hr7 hbel
    clear i0 i1 HTK
    go_upto_region 10 with (go_at_call 58; refine (bool_any _).mono ?_; rintro e w5 ⟨rfl, hb5⟩; replace HX := hide (HX.out.below hb5); replace HV := hide (HV.out.below hb5); replace HF := hide (HF.out.tr (keep_fr hb5)); replace HI := hide (HI.out.below hb5 HI.out.lt); replace HT := hide (HT.out.below hb5 HT.out.lt); have hr75 : r7 < w5.heap.size := HT.out.lt; clear hb5)
    obtain ⟨w6, hw6⟩ : ∃ x, x = w5.alloc (.cells #[S [98, 111, 111, 108], .bool false] 24) := ⟨_, rfl⟩
    obtain ⟨r9, hr9⟩ : ∃ x, x = w5.heap.size := ⟨_, rfl⟩
    have HU : Hid (Blk w6 r9 24 #[S [98, 111, 111, 108], .bool false]) := hide (by rw [hw6, hr9]; exact Blk.new _ _ _)
    have hl_r9 : w.heap.size ≤ r9 := by rw [hr9]; exact HF.out.size
    have hbel : Below w5.heap.size w5 w6 := by rw [hw6]; exact (Below.refl _ _).alloc (Nat.le_refl _) _
    replace HX := hide (HX.out.below hbel)
    replace HV := hide (HV.out.below hbel)
    replace HF := hide (HF.out.tr (keep_fr hbel))
    replace HT := hide (HT.out.below hbel HT.out.lt)
    replace HI := hide (HI.out.below hbel HI.out.lt)
    rw [← hw6]
    rw [← hr9]
    have hrr0 : r7 < r9 := by rw [hr9]; exact hr75
    clear hw6 hr9 hbel
    have i0 : w6.cell? ⟨w.heap.size, 0, none⟩ = some (.int .i64 24) := HI.out.cell 0
    have i1 : w6.cell? ⟨w.heap.size, 1, none⟩ = some (.int .i64 (a : Int)) := HI.out.cell 1
    clear hL
    cases ta
    case false =>
     have e1 : ¬ tn = [110, 117, 108, 108] := hen.resolve_left (by decide)
     have e2 : ¬ ([110, 117, 108, 108] : List UInt8) = tn := fun h => e1 h.symm
     go_upto_region 12 with fail
     clear i0 i1
     have HS : Hid (∀ w', Keep (Fr3 s B w.heap.size) w6 w' → w'.cell? ⟨r7, 0, none⟩ = some (S tn) ∧ w'.cell? ⟨r7, 1, none⟩ = some (.bool false) ∧ w'.cell? ⟨r9, 0, none⟩ = some (S [98, 111, 111, 108]) ∧ w'.cell? ⟨r9, 1, none⟩ = some (.bool false)) := hide (fun w' hk => by
      have t0 := HT.out.keep hk (by unfold Fr3; omega)
      have t1 := HU.out.keep hk (by unfold Fr3; omega)
      exact ⟨t0.cell 0, t0.cell 1, t1.cell 0, t1.cell 1⟩
      )
     have HR : Hid (Keep (Fr3 s B w.heap.size) w6 w6.drew) := hide (Keep.refl _ _).drew
     replace HX := hide HX.out.drew
     replace HV := hide HV.out.drew
     replace HF := hide HF.out.drew
     refine wp_region_noPanic ?_
     refine tkB HS HR.out (fun hHeld => ?_)
     obtain ⟨wA, hwA⟩ : ∃ x, x = w6.drew := ⟨_, rfl⟩
     rw [← hwA] at hHeld HX HV HF HR ⊢
     clear hwA
     refine tkL 0 ?_ ?_ ?_
     rotate_left
     ·(rintro wS ⟨e0, e1, e2, e3⟩; go_simp; try with_reducible rfl)
     try simp only [sP]
     refine tkL 1 ?_ ?_ ?_
     rotate_left
     ·(rintro wS ⟨e0, e1, e2, e3⟩; go_simp; try with_reducible rfl)
     try simp only [sP]
     refine tkL 2 ?_ ?_ ?_
     rotate_left
     ·(rintro wS ⟨e0, e1, e2, e3⟩; go_simp; try with_reducible rfl)
     try simp only [sP]
     refine tkC 3 (fun K hK => ?_)
     try rw [if_pos (by rfl)]
     go_simp
     go_at_call 23
     refine (HCL.out _).mono ?_
     rintro e wB ⟨rfl, hbB⟩
     replace HX := hide (HX.out.below hbB)
     replace HV := hide (HV.out.below hbB)
     replace HF := hide (HF.out.tr (keep_fr hbB))
     replace HR := hide (HR.out.tr (keep_fr hbB))
     clear hbB
     try go_wp2_with fail
     refine hK.out _ _ (HS.out _ HR.out) (fun hHeld => ?_)
     clear hK K
     try simp only [sP]
     refine tkL 4 ?_ ?_ ?_
     rotate_left
     ·(rintro wS ⟨e0, e1, e2, e3⟩; go_simp; try with_reducible rfl)
     try simp only [sP]
     refine tkL 5 ?_ ?_ ?_
     rotate_left
     ·(rintro wS ⟨e0, e1, e2, e3⟩; go_simp; try with_reducible rfl)
     try simp only [sP]
     refine tkC 6 (fun K hK => ?_)
     try rw [if_pos (by rfl)]
     go_simp
     go_at_call 60
     refine (null_any _).mono ?_
     rintro e wC ⟨rfl, hbC⟩
     replace HX := hide (HX.out.below hbC)
     replace HV := hide (HV.out.below hbC)
     replace HF := hide (HF.out.tr (keep_fr hbC))
     replace HR := hide (HR.out.tr (keep_fr hbC))
     clear hbC
     try go_wp2_with fail
     refine hK.out _ _ (HS.out _ HR.out) (fun hHeld => ?_)
     clear hK K
     try simp only [sP]
     refine tkL 7 ?_ ?_ ?_
     rotate_left
     ·(rintro wS ⟨e0, e1, e2, e3⟩; go_simp; try with_reducible rfl)
     try simp only [sP]
     refine tkL 8 ?_ ?_ ?_
     rotate_left
     ·(rintro wS ⟨e0, e1, e2, e3⟩; go_simp; try with_reducible rfl)
     try simp only [sP]
     refine tkL 9 ?_ ?_ ?_
     rotate_left
     ·(rintro wS ⟨e0, e1, e2, e3⟩; go_simp; try with_reducible rfl)
     try simp only [sP]
     refine tkL 10 ?_ ?_ ?_
     rotate_left
     ·(rintro wS ⟨e0, e1, e2, e3⟩; go_simp; try with_reducible rfl)
     try simp only [sP]
     refine tkR 11 ?_
     try simp only [sP]
     refine tkR 12 ?_
     try simp only [sP]
     refine tkR 13 ?_
     try simp only [sP]
     refine tkR 14 ?_
     try simp only [sP]
     refine tkL 15 ?_ ?_ ?_
     rotate_left
     ·(rintro wS ⟨e0, e1, e2, e3⟩; go_simp; try with_reducible rfl)
     try simp only [sP]
     refine tkL 16 ?_ ?_ ?_
     rotate_left
     ·(rintro wS ⟨e0, e1, e2, e3⟩; go_simp; try with_reducible rfl)
     try simp only [sP]
     refine wpAnyH_done (by kernel_rfl) ?_ _
     refine NoPanic.normal ?_
     go_wp2_with fail
     go_ret
     exact ⟨by rw [HM.out ()] <;> rfl, HX.out.mono (by omega), HF.out, fun x hx => by rw [HM.out ()] at hx; cases hx⟩
    case true =>
     go_upto_region 12 with fail
     clear i0 i1
     have HS : Hid (∀ w', Keep (Fr3 s B w.heap.size) w6 w' → w'.cell? ⟨r7, 0, none⟩ = some (S tn) ∧ w'.cell? ⟨r7, 1, none⟩ = some (.bool true) ∧ w'.cell? ⟨r9, 0, none⟩ = some (S [98, 111, 111, 108]) ∧ w'.cell? ⟨r9, 1, none⟩ = some (.bool false)) := hide (fun w' hk => by
      have t0 := HT.out.keep hk (by unfold Fr3; omega)
      have t1 := HU.out.keep hk (by unfold Fr3; omega)
      exact ⟨t0.cell 0, t0.cell 1, t1.cell 0, t1.cell 1⟩
      )
     have HR : Hid (Keep (Fr3 s B w.heap.size) w6 w6.drew) := hide (Keep.refl _ _).drew
     replace HX := hide HX.out.drew
     replace HV := hide HV.out.drew
     replace HF := hide HF.out.drew
     refine wp_region_noPanic ?_
     refine tkB HS HR.out (fun hHeld => ?_)
     obtain ⟨wA, hwA⟩ : ∃ x, x = w6.drew := ⟨_, rfl⟩
     rw [← hwA] at hHeld HX HV HF HR ⊢
     clear hwA
     refine tkL 0 ?_ ?_ ?_
     rotate_left
     ·(rintro wS ⟨e0, e1, e2, e3⟩; go_simp; try with_reducible rfl)
     try simp only [sP]
     refine tkL 1 ?_ ?_ ?_
     rotate_left
     ·(rintro wS ⟨e0, e1, e2, e3⟩; go_simp; try with_reducible rfl)
     try simp only [sP]
     refine tkL 2 ?_ ?_ ?_
     rotate_left
     ·(rintro wS ⟨e0, e1, e2, e3⟩; go_simp; try with_reducible rfl)
     try simp only [sP]
     refine tkC 3 (fun K hK => ?_)
     try rw [if_pos (by rfl)]
     go_simp
     go_at_call 23
     refine (HCL.out _).mono ?_
     rintro e wB ⟨rfl, hbB⟩
     replace HX := hide (HX.out.below hbB)
     replace HV := hide (HV.out.below hbB)
     replace HF := hide (HF.out.tr (keep_fr hbB))
     replace HR := hide (HR.out.tr (keep_fr hbB))
     clear hbB
     try go_wp2_with fail
     refine hK.out _ _ (HS.out _ HR.out) (fun hHeld => ?_)
     clear hK K
     try simp only [sP]
     refine tkL 4 ?_ ?_ ?_
     rotate_left
     ·(rintro wS ⟨e0, e1, e2, e3⟩; go_simp; try with_reducible rfl)
     try simp only [sP]
     refine tkL 5 ?_ ?_ ?_
     rotate_left
     ·(rintro wS ⟨e0, e1, e2, e3⟩; go_simp; try with_reducible rfl)
     try simp only [sP]
     refine tkC 6 (fun K hK => ?_)
     try rw [if_pos (by rfl)]
     go_simp
     go_at_call 60
     refine (null_any _).mono ?_
     rintro e wC ⟨rfl, hbC⟩
     replace HX := hide (HX.out.below hbC)
     replace HV := hide (HV.out.below hbC)
     replace HF := hide (HF.out.tr (keep_fr hbC))
     replace HR := hide (HR.out.tr (keep_fr hbC))
     clear hbC
     try go_wp2_with fail
     refine hK.out _ _ (HS.out _ HR.out) (fun hHeld => ?_)
     clear hK K
     try simp only [sP]
     refine tkL 7 ?_ ?_ ?_
     rotate_left
     ·(rintro wS ⟨e0, e1, e2, e3⟩; go_simp; try with_reducible rfl)
     try simp only [sP]
     refine tkL 8 ?_ ?_ ?_
     rotate_left
     ·(rintro wS ⟨e0, e1, e2, e3⟩; go_simp; try with_reducible rfl)
     try simp only [sP]
     refine tkL 9 ?_ ?_ ?_
     rotate_left
     ·(rintro wS ⟨e0, e1, e2, e3⟩; go_simp; try with_reducible rfl)
     try simp only [sP]
     refine tkL 10 ?_ ?_ ?_
     rotate_left
     ·(rintro wS ⟨e0, e1, e2, e3⟩; go_simp; try with_reducible rfl)
     try simp only [sP]
     refine tkR 11 ?_
     try simp only [sP]
     refine tkR 12 ?_
     try simp only [sP]
     refine tkR 13 ?_
     try simp only [sP]
     refine tkR 14 ?_
     try simp only [sP]
     refine tkL 15 ?_ ?_ ?_
     rotate_left
     ·(rintro wS ⟨e0, e1, e2, e3⟩; go_simp; try with_reducible rfl)
     try simp only [sP]
     refine tkL 16 ?_ ?_ ?_
     rotate_left
     ·(rintro wS ⟨e0, e1, e2, e3⟩; go_simp; try with_reducible rfl)
     try simp only [sP]
     refine wpAnyH_done (by kernel_rfl) ?_ _
     refine NoPanic.normal ?_
     go_wp2_with fail
     go_ret
     exact ⟨by rw [HM.out ()] <;> rfl, HX.out.mono (by omega), HF.out, fun x hx => by rw [HM.out ()] at hx; cases hx⟩
   ·have ef : ta = false := by cases ta with | false => rfl | true => exact absurd (.inl rfl) en
    have et : tn = [110, 117, 108, 108] := Classical.byContradiction (fun h => en (.inr h))
    subst ef et
    have HM : Hid (∀ _ : Unit, objM T f.ppl b.sk 24 a v = puM b.sk ⟨[98, 111, 111, 108], false⟩ (dr v)) := hide (fun _ => by unfold objM; (iterate 2 rw [if_neg (by decide)]); rw [if_pos (by decide)]; rw [hL]; exact if_pos (.inr rfl))
    have HCL : Hid (∀ ww, Calls Tryd.prog 23 #[.agg #[S [110, 117, 108, 108], .bool false]] ww (Gives ww (.bool false))) := hide (fun ww => by have h := class_any [110, 117, 108, 108] false ww; rwa [hc] at h)
    clear en
    have HTK : Hid (TkE B q gi g m s T f b sg va vd w.heap.size p (v) (.tuple #[.agg #[S [110, 117, 108, 108], .bool false], .bool true]) (dr (v))) := hide (fun ww n' hx hv => by have := take_k hx hv (by have := hS.2.2.2; first | omega | (simp [dr]; omega)); rw [hL] at this; exact this)
    go_upto_region 9 with (go_at_call 61; refine (HTK.out _ _ HX.out HV.out).mono ?_; rintro e w3 ⟨rfl, hx3, hk3, hv3⟩; replace HX := hide hx3; replace HF := hide (HF.out.tr hk3); replace HI := hide (HI.out.keep hk3 (by unfold Fr3; omega)); replace HV := hide hv3; clear hx3 hk3 hv3)
    obtain ⟨w4, hw4⟩ : ∃ x, x = w3.alloc (.cells #[S [110, 117, 108, 108], .bool false] 24) := ⟨_, rfl⟩
    obtain ⟨r7, hr7⟩ : ∃ x, x = w3.heap.size := ⟨_, rfl⟩
    have HT : Hid (Blk w4 r7 24 #[S [110, 117, 108, 108], .bool false]) := hide (by rw [hw4, hr7]; exact Blk.new _ _ _)
    have hl_r7 : w.heap.size ≤ r7 := by rw [hr7]; exact HF.out.size
    have hbel : Below w3.heap.size w3 w4 := by rw [hw4]; exact (Below.refl _ _).alloc (Nat.le_refl _) _
    replace HX := hide (HX.out.below hbel)
    replace HV := hide (HV.out.below hbel)
    replace HF := hide (HF.out.tr (keep_fr hbel))
    replace HI := hide (HI.out.below hbel HI.out.lt)
    rw [← hw4]
    rw [← hr7]
    clear hw4 hr7 hbel
    clear i0 i1 HTK
    go_upto_region 10 with (go_at_call 58; refine (bool_any _).mono ?_; rintro e w5 ⟨rfl, hb5⟩; replace HX := hide (HX.out.below hb5); replace HV := hide (HV.out.below hb5); replace HF := hide (HF.out.tr (keep_fr hb5)); replace HI := hide (HI.out.below hb5 HI.out.lt); replace HT := hide (HT.out.below hb5 HT.out.lt); have hr75 : r7 < w5.heap.size := HT.out.lt; clear hb5)
    obtain ⟨w6, hw6⟩ : ∃ x, x = w5.alloc (.cells #[S [98, 111, 111, 108], .bool false] 24) := ⟨_, rfl⟩
    obtain ⟨r9, hr9⟩ : ∃ x, x = w5.heap.size := ⟨_, rfl⟩
    have HU : Hid (Blk w6 r9 24 #[S [98, 111, 111, 108], .bool false]) := hide (by rw [hw6, hr9]; exact Blk.new _ _ _)
    have hl_r9 : w.heap.size ≤ r9 := by rw [hr9]; exact HF.out.size
    have hbel : Below w5.heap.size w5 w6 := by rw [hw6]; exact (Below.refl _ _).alloc (Nat.le_refl _) _
    replace HX := hide (HX.out.below hbel)
    replace HV := hide (HV.out.below hbel)
    replace HF := hide (HF.out.tr (keep_fr hbel))
    replace HT := hide (HT.out.below hbel HT.out.lt)
    replace HI := hide (HI.out.below hbel HI.out.lt)
    rw [← hw6]
    rw [← hr9]
    have hrr0 : r7 < r9 := by rw [hr9]; exact hr75
    clear hw6 hr9 hbel
    have i0 : w6.cell? ⟨w.heap.size, 0, none⟩ = some (.int .i64 24) := HI.out.cell 0
    have i1 : w6.cell? ⟨w.heap.size, 1, none⟩ = some (.int .i64 (a : Int)) := HI.out.cell 1
    clear hL
    go_upto_region 12 with fail
    clear i0 i1
    have HS : Hid (∀ w', Keep (Fr3 s B w.heap.size) w6 w' → w'.cell? ⟨r7, 0, none⟩ = some (S [110, 117, 108, 108]) ∧ w'.cell? ⟨r7, 1, none⟩ = some (.bool false) ∧ w'.cell? ⟨r9, 0, none⟩ = some (S [98, 111, 111, 108]) ∧ w'.cell? ⟨r9, 1, none⟩ = some (.bool false)) := hide (fun w' hk => by
     have t0 := HT.out.keep hk (by unfold Fr3; omega)
     have t1 := HU.out.keep hk (by unfold Fr3; omega)
     exact ⟨t0.cell 0, t0.cell 1, t1.cell 0, t1.cell 1⟩
     )
    have HR : Hid (Keep (Fr3 s B w.heap.size) w6 w6.drew) := hide (Keep.refl _ _).drew
    replace HX := hide HX.out.drew
    replace HV := hide HV.out.drew
    replace HF := hide HF.out.drew
    refine wp_region_noPanic ?_
    refine tkB HS HR.out (fun hHeld => ?_)
    obtain ⟨wA, hwA⟩ : ∃ x, x = w6.drew := ⟨_, rfl⟩
    rw [← hwA] at hHeld HX HV HF HR ⊢
    clear hwA
    refine tkL 0 ?_ ?_ ?_
    rotate_left
    ·(rintro wS ⟨e0, e1, e2, e3⟩; go_simp; try with_reducible rfl)
    try simp only [sP]
    refine tkL 1 ?_ ?_ ?_
    rotate_left
    ·(rintro wS ⟨e0, e1, e2, e3⟩; go_simp; try with_reducible rfl)
    try simp only [sP]
    refine tkL 2 ?_ ?_ ?_
    rotate_left
    ·(rintro wS ⟨e0, e1, e2, e3⟩; go_simp; try with_reducible rfl)
    try simp only [sP]
    refine tkC 3 (fun K hK => ?_)
    try rw [if_pos (by rfl)]
    go_simp
    go_at_call 23
    refine (HCL.out _).mono ?_
    rintro e wB ⟨rfl, hbB⟩
    replace HX := hide (HX.out.below hbB)
    replace HV := hide (HV.out.below hbB)
    replace HF := hide (HF.out.tr (keep_fr hbB))
    replace HR := hide (HR.out.tr (keep_fr hbB))
    clear hbB
    try go_wp2_with fail
    refine hK.out _ _ (HS.out _ HR.out) (fun hHeld => ?_)
    clear hK K
    try simp only [sP]
    refine tkL 4 ?_ ?_ ?_
    rotate_left
    ·(rintro wS ⟨e0, e1, e2, e3⟩; go_simp; try with_reducible rfl)
    try simp only [sP]
    refine tkL 5 ?_ ?_ ?_
    rotate_left
    ·(rintro wS ⟨e0, e1, e2, e3⟩; go_simp; try with_reducible rfl)
    try simp only [sP]
    refine tkC 6 (fun K hK => ?_)
    try rw [if_pos (by rfl)]
    go_simp
    go_at_call 60
    refine (null_any _).mono ?_
    rintro e wC ⟨rfl, hbC⟩
    replace HX := hide (HX.out.below hbC)
    replace HV := hide (HV.out.below hbC)
    replace HF := hide (HF.out.tr (keep_fr hbC))
    replace HR := hide (HR.out.tr (keep_fr hbC))
    clear hbC
    try go_wp2_with fail
    refine hK.out _ _ (HS.out _ HR.out) (fun hHeld => ?_)
    clear hK K
    try simp only [sP]
    refine tkL 7 ?_ ?_ ?_
    rotate_left
    ·(rintro wS ⟨e0, e1, e2, e3⟩; go_simp; try with_reducible rfl)
    try simp only [sP]
    refine tkL 8 ?_ ?_ ?_
    rotate_left
    ·(rintro wS ⟨e0, e1, e2, e3⟩; go_simp; try with_reducible rfl)
    try simp only [sP]
    refine tkL 9 ?_ ?_ ?_
    rotate_left
    ·(rintro wS ⟨e0, e1, e2, e3⟩; go_simp; try with_reducible rfl)
    try simp only [sP]
    refine tkL 10 ?_ ?_ ?_
    rotate_left
    ·(rintro wS ⟨e0, e1, e2, e3⟩; go_simp; try with_reducible rfl)
    try simp only [sP]
    refine tkL 11 ?_ ?_ ?_
    rotate_left
    ·(rintro wS ⟨e0, e1, e2, e3⟩; go_simp; try with_reducible rfl)
    try simp only [sP]
    refine tkL 12 ?_ ?_ ?_
    rotate_left
    ·(rintro wS ⟨e0, e1, e2, e3⟩; go_simp; try with_reducible rfl)
    try simp only [sP]
    refine tkL 13 ?_ ?_ ?_
    rotate_left
    ·(rintro wS ⟨e0, e1, e2, e3⟩; go_simp; try with_reducible rfl)
    try simp only [sP]
    refine tkC 14 (fun K hK => ?_)
    try rw [if_pos (by rfl)]
    go_simp
    go_at_call 59
    refine (push_k HX.out HV.out (by first | omega | (have := hS.2.2.2; omega)) ⟨[98, 111, 111, 108], false⟩).mono ?_
    rintro e wD ⟨rfl, hxD, hkD, hvD⟩
    replace HX := hide hxD
    replace HF := hide (HF.out.tr hkD)
    replace HR := hide (HR.out.tr hkD)
    have HVE := hide hvD
    clear hxD hkD hvD
    try go_wp2_with fail
    refine hK.out _ _ (HS.out _ HR.out) (fun hHeld => ?_)
    clear hK K
    try simp only [sP]
    refine tkL 15 ?_ ?_ ?_
    rotate_left
    ·(rintro wS ⟨e0, e1, e2, e3⟩; go_simp; try with_reducible rfl)
    try simp only [sP]
    refine tkL 16 ?_ ?_ ?_
    rotate_left
    ·(rintro wS ⟨e0, e1, e2, e3⟩; go_simp; try with_reducible rfl)
    try simp only [sP]
    refine wpAnyH_done (by kernel_rfl) ?_ _
    refine NoPanic.normal ?_
    go_wp2_with fail
    go_ret
    exact ⟨by rw [HM.out ()] <;> rfl, HX.out.mono (by omega), HF.out, fun x hx => HVE.out x (by rw [HM.out ()] at hx; exact hx)⟩
  ·have HM : Hid (∀ _ : Unit, objM T f.ppl b.sk 24 a v = puM b.sk ⟨[98, 111, 111, 108], false⟩ (dr v)) := hide (fun _ => by unfold objM; (iterate 2 rw [if_neg (by decide)]); rw [if_pos (by decide)]; rw [hL]; exact if_pos (.inl hc))
   have HCL : Hid (∀ ww, Calls Tryd.prog 23 #[.agg #[S tn, .bool ta]] ww (Gives ww (.bool true))) := hide (fun ww => by have h := class_any tn ta ww; rwa [hc] at h)
   have HTK : Hid (TkE B q gi g m s T f b sg va vd w.heap.size p (v) (.tuple #[.agg #[S tn, .bool ta], .bool true]) (dr (v))) := hide (fun ww n' hx hv => by have := take_k hx hv (by have := hS.2.2.2; first | omega | (simp [dr]; omega)); rw [hL] at this; exact this)
   go_upto_region 9 with (go_at_call 61; refine (HTK.out _ _ HX.out HV.out).mono ?_; rintro e w3 ⟨rfl, hx3, hk3, hv3⟩; replace HX := hide hx3; replace HF := hide (HF.out.tr hk3); replace HI := hide (HI.out.keep hk3 (by unfold Fr3; omega)); replace HV := hide hv3; clear hx3 hk3 hv3)
   obtain ⟨w4, hw4⟩ : ∃ x, x = w3.alloc (.cells #[S tn, .bool ta] 24) := ⟨_, rfl⟩
   obtain ⟨r7, hr7⟩ : ∃ x, x = w3.heap.size := ⟨_, rfl⟩
   have HT : Hid (Blk w4 r7 24 #[S tn, .bool ta]) := hide (by rw [hw4, hr7]; exact Blk.new _ _ _)
   have hl_r7 : w.heap.size ≤ r7 := by rw [hr7]; exact HF.out.size
   have hbel : Below w3.heap.size w3 w4 := by rw [hw4]; exact (Below.refl _ _).alloc (Nat.le_refl _) _
   replace HX := hide (HX.out.below hbel)
   replace HV := hide (HV.out.below hbel)
   replace HF := hide (HF.out.tr (keep_fr hbel))
   replace HI := hide (HI.out.below hbel HI.out.lt)
   rw [← hw4]
   rw [← hr7]
   clear hw4 hr7 hbel
   clear i0 i1 HTK
   go_upto_region 10 with (go_at_call 58; refine (bool_any _).mono ?_; rintro e w5 ⟨rfl, hb5⟩; replace HX := hide (HX.out.below hb5); replace HV := hide (HV.out.below hb5); replace HF := hide (HF.out.tr (keep_fr hb5)); replace HI := hide (HI.out.below hb5 HI.out.lt); replace HT := hide (HT.out.below hb5 HT.out.lt); have hr75 : r7 < w5.heap.size := HT.out.lt; clear hb5)
   obtain ⟨w6, hw6⟩ : ∃ x, x = w5.alloc (.cells #[S [98, 111, 111, 108], .bool false] 24) := ⟨_, rfl⟩
   obtain ⟨r9, hr9⟩ : ∃ x, x = w5.heap.size := ⟨_, rfl⟩
   have HU : Hid (Blk w6 r9 24 #[S [98, 111, 111, 108], .bool false]) := hide (by rw [hw6, hr9]; exact Blk.new _ _ _)
   have hl_r9 : w.heap.size ≤ r9 := by rw [hr9]; exact HF.out.size
   have hbel : Below w5.heap.size w5 w6 := by rw [hw6]; exact (Below.refl _ _).alloc (Nat.le_refl _) _
   replace HX := hide (HX.out.below hbel)
   replace HV := hide (HV.out.below hbel)
   replace HF := hide (HF.out.tr (keep_fr hbel))
   replace HT := hide (HT.out.below hbel HT.out.lt)
   replace HI := hide (HI.out.below hbel HI.out.lt)
   rw [← hw6]
   rw [← hr9]
   have hrr0 : r7 < r9 := by rw [hr9]; exact hr75
   clear hw6 hr9 hbel
   have i0 : w6.cell? ⟨w.heap.size, 0, none⟩ = some (.int .i64 24) := HI.out.cell 0
   have i1 : w6.cell? ⟨w.heap.size, 1, none⟩ = some (.int .i64 (a : Int)) := HI.out.cell 1
   clear hL
   go_upto_region 12 with fail
   clear i0 i1
   have HS : Hid (∀ w', Keep (Fr3 s B w.heap.size) w6 w' → w'.cell? ⟨r7, 0, none⟩ = some (S tn) ∧ w'.cell? ⟨r7, 1, none⟩ = some (.bool ta) ∧ w'.cell? ⟨r9, 0, none⟩ = some (S [98, 111, 111, 108]) ∧ w'.cell? ⟨r9, 1, none⟩ = some (.bool false)) := hide (fun w' hk => by
    have t0 := HT.out.keep hk (by unfold Fr3; omega)
    have t1 := HU.out.keep hk (by unfold Fr3; omega)
    exact ⟨t0.cell 0, t0.cell 1, t1.cell 0, t1.cell 1⟩
    )
   have HR : Hid (Keep (Fr3 s B w.heap.size) w6 w6.drew) := hide (Keep.refl _ _).drew
   replace HX := hide HX.out.drew
   replace HV := hide HV.out.drew
   replace HF := hide HF.out.drew
   refine wp_region_noPanic ?_
   refine tkB HS HR.out (fun hHeld => ?_)
   obtain ⟨wA, hwA⟩ : ∃ x, x = w6.drew := ⟨_, rfl⟩
   rw [← hwA] at hHeld HX HV HF HR ⊢
   clear hwA
   refine tkL 0 ?_ ?_ ?_
   rotate_left
   ·(rintro wS ⟨e0, e1, e2, e3⟩; go_simp; try with_reducible rfl)
   try simp only [sP]
   refine tkL 1 ?_ ?_ ?_
   rotate_left
   ·(rintro wS ⟨e0, e1, e2, e3⟩; go_simp; try with_reducible rfl)
   try simp only [sP]
   refine tkL 2 ?_ ?_ ?_
   rotate_left
   ·(rintro wS ⟨e0, e1, e2, e3⟩; go_simp; try with_reducible rfl)
   try simp only [sP]
   refine tkC 3 (fun K hK => ?_)
   try rw [if_pos (by rfl)]
   go_simp
   go_at_call 23
   refine (HCL.out _).mono ?_
   rintro e wB ⟨rfl, hbB⟩
   replace HX := hide (HX.out.below hbB)
   replace HV := hide (HV.out.below hbB)
   replace HF := hide (HF.out.tr (keep_fr hbB))
   replace HR := hide (HR.out.tr (keep_fr hbB))
   clear hbB
   try go_wp2_with fail
   refine hK.out _ _ (HS.out _ HR.out) (fun hHeld => ?_)
   clear hK K
   try simp only [sP]
   refine tkL 4 ?_ ?_ ?_
   rotate_left
   ·(rintro wS ⟨e0, e1, e2, e3⟩; go_simp; try with_reducible rfl)
   try simp only [sP]
   refine tkR 5 ?_
   try simp only [sP]
   refine tkR 6 ?_
   try simp only [sP]
   refine tkR 7 ?_
   try simp only [sP]
   refine tkL 8 ?_ ?_ ?_
   rotate_left
   ·(rintro wS ⟨e0, e1, e2, e3⟩; go_simp; try with_reducible rfl)
   try simp only [sP]
   refine tkL 9 ?_ ?_ ?_
   rotate_left
   ·(rintro wS ⟨e0, e1, e2, e3⟩; go_simp; try with_reducible rfl)
   try simp only [sP]
   refine tkL 10 ?_ ?_ ?_
   rotate_left
   ·(rintro wS ⟨e0, e1, e2, e3⟩; go_simp; try with_reducible rfl)
   try simp only [sP]
   refine tkL 11 ?_ ?_ ?_
   rotate_left
   ·(rintro wS ⟨e0, e1, e2, e3⟩; go_simp; try with_reducible rfl)
   try simp only [sP]
   refine tkL 12 ?_ ?_ ?_
   rotate_left
   ·(rintro wS ⟨e0, e1, e2, e3⟩; go_simp; try with_reducible rfl)
   try simp only [sP]
   refine tkL 13 ?_ ?_ ?_
   rotate_left
   ·(rintro wS ⟨e0, e1, e2, e3⟩; go_simp; try with_reducible rfl)
   try simp only [sP]
   refine tkC 14 (fun K hK => ?_)
   try rw [if_pos (by rfl)]
   go_simp
   go_at_call 59
   refine (push_k HX.out HV.out (by first | omega | (have := hS.2.2.2; omega)) ⟨[98, 111, 111, 108], false⟩).mono ?_
   rintro e wD ⟨rfl, hxD, hkD, hvD⟩
   replace HX := hide hxD
   replace HF := hide (HF.out.tr hkD)
   replace HR := hide (HR.out.tr hkD)
   have HVE := hide hvD
   clear hxD hkD hvD
   try go_wp2_with fail
   refine hK.out _ _ (HS.out _ HR.out) (fun hHeld => ?_)
   clear hK K
   try simp only [sP]
   refine tkL 15 ?_ ?_ ?_
   rotate_left
   ·(rintro wS ⟨e0, e1, e2, e3⟩; go_simp; try with_reducible rfl)
   try simp only [sP]
   refine tkL 16 ?_ ?_ ?_
   rotate_left
   ·(rintro wS ⟨e0, e1, e2, e3⟩; go_simp; try with_reducible rfl)
   try simp only [sP]
   refine wpAnyH_done (by kernel_rfl) ?_ _
   refine NoPanic.normal ?_
   go_wp2_with fail
   go_ret
   exact ⟨by rw [HM.out ()] <;> rfl, HX.out.mono (by omega), HF.out, fun x hx => HVE.out x (by rw [HM.out ()] at hx; exact hx)⟩
set_option maxRecDepth 100000 in
set_option maxHeartbeats 4000000 in
theorem obj23 (w : World) (B q p gi g m s n : Nat) (T : List Fc) (f : Fl) (b : Bd) (sg : Sg) (va vd : Value) (v : Vs) (a : Nat) (h : Sx w B q gi g m s n T f b sg va vd) (hv : WsE w B p v) (hS : VsS v) (hn : n ≤ 6000000000000000) (ha : a < f.cl) :
  Calls Tryd.prog 64 #[.pointer (some ⟨q, 0, none⟩), .pointer (some ⟨p, 0, none⟩), .agg #[.int .i64 23, .int .i64 (a : Int)]] w (StpEnd w B q p gi g m s n T f b sg va vd 100000 (objM T f.ppl b.sk 23 a v)) := by
 obtain ⟨hBp, hpl⟩ := hv.n.hp
 have hlt := h.lt
 have hBw := h.hB
 obtain ⟨w1, hw1⟩ : ∃ w1, w1 = w.alloc (.cells #[.int .i64 23, .int .i64 (a : Int)] 87) := ⟨_, rfl⟩
 have hb1 : Blk w1 w.heap.size 87 #[.int .i64 23, .int .i64 (a : Int)] := by rw [hw1]; exact Blk.new _ _ _
 have hbb : Below w.heap.size w w1 := by rw [hw1]; exact (Below.refl _ w).alloc (Nat.le_refl _) _
 have HX := hide (h.below hbb)
 have HV := hide (hv.n.below hbb)
 have HF : Hid (Keep (Fr3 s B w.heap.size) w w1) := hide (keep_fr hbb)
 have HI : Hid (Blk w1 w.heap.size 87 #[.int .i64 23, .int .i64 (a : Int)]) := hide hb1
 have i0 : w1.cell? ⟨w.heap.size, 0, none⟩ = some (.int .i64 23) := hb1.cell 0
 have i1 : w1.cell? ⟨w.heap.size, 1, none⟩ = some (.int .i64 (a : Int)) := hb1.cell 1
 have hwl : w.heap.size < w1.heap.size := hb1.lt
 clear h hbb hb1
 go_enter Tryd.func64, Tryd.ntmps64
 go_upto_region 1 with fail
 rw [← hw1]
 clear hw1
 have hS2 : v.st.length ≤ 2000 := hS.2.2.2
 have hS3 : (dr v).st.length ≤ 2000 := by simp [dr]; omega
 have hel : a < f.cls.length := by rw [HX.out.fl.po.cL]; exact ha
 obtain ⟨bt, ot, htA, hbF, hbt, hct⟩ := Rd.rec_ (f := (fun x : List UInt8 => [S x])) (fun _ => rfl) (by have h := HX.out.fl.po.cr; rwa [List.map_eq_flatMap] at h) HX.out.fl.po.cL a ha
 have hXe : f.ppl.cls.getD a [] = f.cls[a] := (List.getElem_eq_getD _).symm
 generalize f.cls[a] = X at hct hXe
 obtain ⟨cn, hcn⟩ : ∃ c, c = X := ⟨_, rfl⟩
 rw [← hcn] at hct hXe
 clear hcn
 have hbF' : ¬ bt = s ∧ bt < B := by omega
 have HE0 : Hid (w1.cell? ⟨bt, ot + a, none⟩ = some (S cn)) := hide (by have h := hct 0 _ rfl; simpa using h)
 clear hct hbF
 have hqs := HX.out.qs
 rcases hL : v.st.getLast? with _ | ⟨tn, ta⟩
 ·have HM : Hid (∀ _ : Unit, objM T f.ppl b.sk 23 a v = none) := hide (fun _ => by unfold objM; (iterate 2 rw [if_neg (by decide)]); rw [if_pos (by decide)]; rw [hL])
  have HCL : Hid (∀ ww, Calls Tryd.prog 23 #[.agg #[S [], .bool false]] ww (Gives ww (.bool false))) := hide (fun ww => class_any [] false ww)
  have HG1 : Hid (Keep (Fr3 s B w.heap.size) w1 w1) := hide (Keep.refl _ _)
  have HTK : Hid (TkE B q gi g m s T f b sg va vd w.heap.size p (v) (.tuple #[.agg #[S [], .bool false], .bool false]) (dr (v))) := hide (fun ww n' hx hv => by have := take_k hx hv (by have := hS.2.2.2; first | omega | (simp [dr]; omega)); rw [hL] at this; exact this)
  go_upto_region 9 with (go_at_call 61; refine (HTK.out _ _ HX.out HV.out).mono ?_; rintro e w3 ⟨rfl, hx3, hk3, hv3⟩; replace HX := hide hx3; replace HF := hide (HF.out.tr hk3); replace HG1 := hide (HG1.out.tr hk3); replace HI := hide (HI.out.keep hk3 (by unfold Fr3; omega)); replace HV := hide hv3; clear hx3 hk3 hv3)
  obtain ⟨w4, hw4⟩ : ∃ x, x = w3.alloc (.cells #[S [], .bool false] 24) := ⟨_, rfl⟩
  obtain ⟨r7, hr7⟩ : ∃ x, x = w3.heap.size := ⟨_, rfl⟩
  have HT : Hid (Blk w4 r7 24 #[S [], .bool false]) := hide (by rw [hw4, hr7]; exact Blk.new _ _ _)
  have hl_r7 : w.heap.size ≤ r7 := by rw [hr7]; exact HF.out.size
  have hbel : Below w3.heap.size w3 w4 := by rw [hw4]; exact (Below.refl _ _).alloc (Nat.le_refl _) _
  replace HX := hide (HX.out.below hbel)
  replace HV := hide (HV.out.below hbel)
  replace HF := hide (HF.out.tr (keep_fr hbel))
  replace HG1 := hide (HG1.out.tr (keep_fr hbel))
  replace HI := hide (HI.out.below hbel HI.out.lt)
  rw [← hw4]
  rw [← hr7]
  clear hw4 hr7 hbel
  clear i0 i1 HTK
  go_upto_region 10 with (go_at_call 58; refine (bool_any _).mono ?_; rintro e w5 ⟨rfl, hb5⟩; replace HX := hide (HX.out.below hb5); replace HV := hide (HV.out.below hb5); replace HF := hide (HF.out.tr (keep_fr hb5)); replace HG1 := hide (HG1.out.tr (keep_fr hb5)); replace HI := hide (HI.out.below hb5 HI.out.lt); replace HT := hide (HT.out.below hb5 HT.out.lt); have hr75 : r7 < w5.heap.size := HT.out.lt; clear hb5)
  obtain ⟨w6, hw6⟩ : ∃ x, x = w5.alloc (.cells #[S [98, 111, 111, 108], .bool false] 24) := ⟨_, rfl⟩
  obtain ⟨r9, hr9⟩ : ∃ x, x = w5.heap.size := ⟨_, rfl⟩
  have HU : Hid (Blk w6 r9 24 #[S [98, 111, 111, 108], .bool false]) := hide (by rw [hw6, hr9]; exact Blk.new _ _ _)
  have hl_r9 : w.heap.size ≤ r9 := by rw [hr9]; exact HF.out.size
  have hbel : Below w5.heap.size w5 w6 := by rw [hw6]; exact (Below.refl _ _).alloc (Nat.le_refl _) _
  replace HX := hide (HX.out.below hbel)
  replace HV := hide (HV.out.below hbel)
  replace HF := hide (HF.out.tr (keep_fr hbel))
  replace HG1 := hide (HG1.out.tr (keep_fr hbel))
  replace HT := hide (HT.out.below hbel HT.out.lt)
  replace HI := hide (HI.out.below hbel HI.out.lt)
  rw [← hw6]
  rw [← hr9]
  have hrr0 : r7 < r9 := by rw [hr9]; exact hr75
  clear hw6 hr9 hbel
  have i0 : w6.cell? ⟨w.heap.size, 0, none⟩ = some (.int .i64 23) := HI.out.cell 0
  have i1 : w6.cell? ⟨w.heap.size, 1, none⟩ = some (.int .i64 (a : Int)) := HI.out.cell 1
  have HG6 := HG1
  clear hL
  go_upto_region 11 with fail
  clear i0 i1
  have HE6 : Hid (∀ i, w6.cell? ⟨bt, i, none⟩ = w1.cell? ⟨bt, i, none⟩) := hide (fun i => HG6.out.cell (p := ⟨bt, i, none⟩) hbt (by show ¬ _; unfold Fr3; simp only []; omega))
  have HS : Hid (∀ w', Keep (fun k => Fr3 s B w.heap.size k ∨ k = r9) w6 w' → w'.cell? ⟨w.heap.size, 1, none⟩ = some (.int .i64 (a : Int)) ∧ w'.cell? ⟨q, 6, none⟩ = some (.slice (some ⟨bt, ot, none⟩) f.cl f.cc) ∧ w'.cell? ⟨bt, ot + a, none⟩ = some (S cn)) := hide (fun w' hk => by
   have t0 := HI.out.keep hk (by unfold Fr3; have := HI.out.ne_ HU.out (by decide); omega)
   have t1 := HX.out.kq.keep hk (by unfold Fr3; have := HX.out.kq.lt; omega)
   have t2 := t1.cell 6
   have t3 : ∀ i, w'.cell? ⟨bt, i, none⟩ = w1.cell? ⟨bt, i, none⟩ := fun i => (hk.cell (p := ⟨bt, i, none⟩) (by show bt < w6.heap.size; have := HX.out.hB; omega) (by show ¬ _; unfold Fr3; simp only []; omega)).trans (HE6.out i)
   exact ⟨t0.cell 1, by rw [t2]; simp [htA], (t3 _).trans HE0.out⟩
   )
  have HR : Hid (Keep (fun k => Fr3 s B w.heap.size k ∨ k = r9) w6 w6.drew) := hide (Keep.refl _ _).drew
  replace HX := hide HX.out.drew
  replace HV := hide HV.out.drew
  replace HF := hide HF.out.drew
  replace HT := hide HT.out.drew
  replace HI := hide HI.out.drew
  refine wp_region_noPanic ?_
  replace HU := hide (HU.out.drew)
  refine tkB HS HR.out (fun hHeld => ?_)
  obtain ⟨w7, hw7⟩ : ∃ x, x = w6.drew := ⟨_, rfl⟩
  rw [← hw7] at hHeld HX HV HF HR HU HT HI ⊢
  clear hw7
  refine tkL 0 ?_ ?_ ?_
  rotate_left
  ·(rintro wS ⟨e0, e1, e2⟩; go_simp; try with_reducible rfl)
  try simp only [sP]
  refine tkL 1 ?_ ?_ ?_
  rotate_left
  ·(rintro wS ⟨e0, e1, e2⟩; go_simp; try with_reducible rfl)
  try simp only [sP]
  refine tkL 2 ?_ ?_ ?_
  rotate_left
  ·(rintro wS ⟨e0, e1, e2⟩; go_simp; try with_reducible rfl)
  try simp only [sP]
  refine tkL 3 ?_ ?_ ?_
  rotate_left
  ·(rintro wS ⟨e0, e1, e2⟩; go_simp; try with_reducible rfl)
  try simp only [sP]
  refine tkL 4 ?_ ?_ ?_
  rotate_left
  ·(rintro wS ⟨e0, e1, e2⟩; go_simp; try with_reducible rfl)
  try simp only [sP]
  refine tkL 5 ?_ ?_ ?_
  rotate_left
  ·(rintro wS ⟨e0, e1, e2⟩; go_simp; try with_reducible rfl)
  try simp only [sP]
  refine tkL 6 ?_ ?_ ?_
  rotate_left
  ·(rintro wS ⟨e0, e1, e2⟩; go_simp; try with_reducible rfl)
  try simp only [sP]
  refine tkL 7 ?_ ?_ ?_
  rotate_left
  ·(rintro wS ⟨e0, e1, e2⟩; go_simp; try with_reducible rfl)
  try simp only [sP]
  refine tkL 8 ?_ ?_ ?_
  rotate_left
  ·(rintro wS ⟨e0, e1, e2⟩; go_simp; try with_reducible rfl)
  try simp only [sP]
  refine tkL 9 ?_ ?_ ?_
  rotate_left
  ·(rintro wS ⟨e0, e1, e2⟩; go_simp; try with_reducible rfl)
  try simp only [sP]
  refine tkC 10 (fun K hK => ?_)
  try rw [if_pos (by rfl)]
  go_simp
  go_at_call 22
  refine (of_any _ _).mono ?_
  rintro e w8 ⟨rfl, hb8⟩
  replace HX := hide (HX.out.below hb8)
  replace HV := hide (HV.out.below hb8)
  replace HF := hide (HF.out.tr (keep_fr hb8))
  replace HR := hide (HR.out.trans' (keep_fr (s := s) (B := B) (N := w.heap.size) hb8) (fun _ _ h => .inl h))
  replace HU := hide (HU.out.below hb8 HU.out.lt)
  replace HT := hide (HT.out.below hb8 HT.out.lt)
  replace HI := hide (HI.out.below hb8 HI.out.lt)
  clear hb8
  try go_wp2_with fail
  refine hK.out _ _ (HS.out _ HR.out) (fun hHeld => ?_)
  clear hK K
  try simp only [sP]
  refine tkC 11 (fun K hK => ?_)
  try rw [if_pos (by rfl)]
  have f9 := HU.out.frozen
  have c90 := HU.out.cell 0
  have c91 := HU.out.cell 1
  go_simp
  try go_wp2_with fail
  have hU2 := (HU.out.set_ 0 (S cn)).set_ 1 (.bool false)
  have hks : Keep (fun k => k = r9) w8 ((w8.setCell ⟨r9, 0, none⟩ (S cn)).setCell ⟨r9, 1, none⟩ (.bool false)) := ((Keep.refl (fun k => k = r9) w8).setCell (p := ⟨r9, 0, none⟩) (fun _ => rfl) _).setCell (p := ⟨r9, 1, none⟩) (fun _ => rfl) _
  obtain ⟨w9, hw9⟩ : ∃ x, x = (w8.setCell ⟨r9, 0, none⟩ (S cn)).setCell ⟨r9, 1, none⟩ (.bool false) := ⟨_, rfl⟩
  rw [← hw9] at hU2 hks
  rw [show ((w8.setCell ⟨r9, 0, none⟩ (.string { data := cn.toArray })).setCell ⟨r9, 1, none⟩ (.bool false)) = w9 from hw9.symm]
  clear hw9 f9 c90 c91
  have hrr : r7 ≠ r9 := by omega
  have hne : ∀ k, k < w.heap.size → k ≠ r9 := fun k hk => by omega
  replace HX := hide (HX.out.high (hks.mono (fun k _ e => by omega)))
  replace HV := hide (HV.out.keepR hks (by omega))
  replace HF := hide (HF.out.trans' hks (fun k hk e => absurd e (hne k hk)))
  replace HT := hide (HT.out.keep hks hrr)
  have HU9 : Hid (Blk w9 r9 24 #[S cn, .bool false]) := hide (by simpa using hU2)
  replace HR := hide (HR.out.trans' hks (fun _ _ h => .inr h))
  clear hks hU2 HU
  refine hK.out _ _ (HS.out _ HR.out) (fun hHeld => ?_)
  clear hK K
  try simp only [sP]
  refine wpAnyH_done (by kernel_rfl) ?_ _
  refine NoPanic.normal ?_
  clear HS HR hHeld
  go_upto_region 12 with fail
  have HS : Hid (∀ w', Keep (Fr3 s B w.heap.size) w9 w' → w'.cell? ⟨r7, 0, none⟩ = some (S []) ∧ w'.cell? ⟨r7, 1, none⟩ = some (.bool false) ∧ w'.cell? ⟨r9, 0, none⟩ = some (S cn) ∧ w'.cell? ⟨r9, 1, none⟩ = some (.bool false)) := hide (fun w' hk => by
   have t0 := HT.out.keep hk (by unfold Fr3; omega)
   have t1 := HU9.out.keep hk (by unfold Fr3; omega)
   exact ⟨t0.cell 0, t0.cell 1, t1.cell 0, t1.cell 1⟩
   )
  have HR : Hid (Keep (Fr3 s B w.heap.size) w9 w9.drew) := hide (Keep.refl _ _).drew
  replace HX := hide HX.out.drew
  replace HV := hide HV.out.drew
  replace HF := hide HF.out.drew
  refine wp_region_noPanic ?_
  refine tkB HS HR.out (fun hHeld => ?_)
  obtain ⟨wA, hwA⟩ : ∃ x, x = w9.drew := ⟨_, rfl⟩
  rw [← hwA] at hHeld HX HV HF HR ⊢
  clear hwA
  refine tkL 0 ?_ ?_ ?_
  rotate_left
  ·(rintro wS ⟨e0, e1, e2, e3⟩; go_simp; try with_reducible rfl)
  try simp only [sP]
  refine tkL 1 ?_ ?_ ?_
  rotate_left
  ·(rintro wS ⟨e0, e1, e2, e3⟩; go_simp; try with_reducible rfl)
  try simp only [sP]
  refine tkR 2 ?_
  try simp only [sP]
  refine tkR 3 ?_
  try simp only [sP]
  refine tkR 4 ?_
  try simp only [sP]
  refine tkR 5 ?_
  try simp only [sP]
  refine tkR 6 ?_
  try simp only [sP]
  refine tkR 7 ?_
  try simp only [sP]
  refine tkR 8 ?_
  try simp only [sP]
  refine tkL 9 ?_ ?_ ?_
  rotate_left
  ·(rintro wS ⟨e0, e1, e2, e3⟩; go_simp; try with_reducible rfl)
  try simp only [sP]
  refine tkL 10 ?_ ?_ ?_
  rotate_left
  ·(rintro wS ⟨e0, e1, e2, e3⟩; go_simp; try with_reducible rfl)
  try simp only [sP]
  refine tkR 11 ?_
  try simp only [sP]
  refine tkR 12 ?_
  try simp only [sP]
  refine tkR 13 ?_
  try simp only [sP]
  refine tkR 14 ?_
  try simp only [sP]
  refine tkL 15 ?_ ?_ ?_
  rotate_left
  ·(rintro wS ⟨e0, e1, e2, e3⟩; go_simp; try with_reducible rfl)
  try simp only [sP]
  refine tkL 16 ?_ ?_ ?_
  rotate_left
  ·(rintro wS ⟨e0, e1, e2, e3⟩; go_simp; try with_reducible rfl)
  try simp only [sP]
  refine wpAnyH_done (by kernel_rfl) ?_ _
  refine NoPanic.normal ?_
  go_wp2_with fail
  go_ret
  exact ⟨by rw [HM.out ()] <;> rfl, HX.out.mono (by omega), HF.out, fun x hx => by rw [HM.out ()] at hx; cases hx⟩
 ·rcases hc : Ty.cls ⟨tn, ta⟩ with _ | _
  ·by_cases en : ta = true ∨ ¬ tn = [110, 117, 108, 108]
   ·have HM : Hid (∀ _ : Unit, objM T f.ppl b.sk 23 a v = none) := hide (fun _ => by unfold objM; (iterate 2 rw [if_neg (by decide)]); rw [if_pos (by decide)]; rw [hL]; exact if_neg (by simp only [hc, kN, nNull]; intro h; rcases h with h | h; exact absurd h (by decide); injection h with h1 h2; rcases en with e | e; rw [h2] at e; cases e; exact e h1))
    have HCL : Hid (∀ ww, Calls Tryd.prog 23 #[.agg #[S tn, .bool ta]] ww (Gives ww (.bool false))) := hide (fun ww => by have h := class_any tn ta ww; rwa [hc] at h)
    have hen := en
    clear en
    have HG1 : Hid (Keep (Fr3 s B w.heap.size) w1 w1) := hide (Keep.refl _ _)
    have HTK : Hid (TkE B q gi g m s T f b sg va vd w.heap.size p (v) (.tuple #[.agg #[S tn, .bool ta], .bool true]) (dr (v))) := hide (fun ww n' hx hv => by have := take_k hx hv (by have := hS.2.2.2; first | omega | (simp [dr]; omega)); rw [hL] at this; exact this)
    go_upto_region 9 with (go_at_call 61; refine (HTK.out _ _ HX.out HV.out).mono ?_; rintro e w3 ⟨rfl, hx3, hk3, hv3⟩; replace HX := hide hx3; replace HF := hide (HF.out.tr hk3); replace HG1 := hide (HG1.out.tr hk3); replace HI := hide (HI.out.keep hk3 (by unfold Fr3; omega)); replace HV := hide hv3; clear hx3 hk3 hv3)
    obtain ⟨w4, hw4⟩ : ∃ x, x = w3.alloc (.cells #[S tn, .bool ta] 24) := ⟨_, rfl⟩
    obtain ⟨r7, hr7⟩ : ∃ x, x = w3.heap.size := ⟨_, rfl⟩
    have HT : Hid (Blk w4 r7 24 #[S tn, .bool ta]) := hide (by rw [hw4, hr7]; exact Blk.new _ _ _)
    have hl_r7 : w.heap.size ≤ r7 := by rw [hr7]; exact HF.out.size
    have hbel : Below w3.heap.size w3 w4 := by rw [hw4]; exact (Below.refl _ _).alloc (Nat.le_refl _) _
    replace HX := hide (HX.out.below hbel)
    replace HV := hide (HV.out.below hbel)
    replace HF := hide (HF.out.tr (keep_fr hbel))
    replace HG1 := hide (HG1.out.tr (keep_fr hbel))
    replace HI := hide (HI.out.below hbel HI.out.lt)
    rw [← hw4]
    rw [← hr7]
    clear hw4 hr7 hbel
    clear i0 i1 HTK
    go_upto_region 10 with (go_at_call 58; refine (bool_any _).mono ?_; rintro e w5 ⟨rfl, hb5⟩; replace HX := hide (HX.out.below hb5); replace HV := hide (HV.out.below hb5); replace HF := hide (HF.out.tr (keep_fr hb5)); replace HG1 := hide (HG1.out.tr (keep_fr hb5)); replace HI := hide (HI.out.below hb5 HI.out.lt); replace HT := hide (HT.out.below hb5 HT.out.lt); have hr75 : r7 < w5.heap.size := HT.out.lt; clear hb5)
    obtain ⟨w6, hw6⟩ : ∃ x, x = w5.alloc (.cells #[S [98, 111, 111, 108], .bool false] 24) := ⟨_, rfl⟩
    obtain ⟨r9, hr9⟩ : ∃ x, x = w5.heap.size := ⟨_, rfl⟩
    have HU : Hid (Blk w6 r9 24 #[S [98, 111, 111, 108], .bool false]) := hide (by rw [hw6, hr9]; exact Blk.new _ _ _)
    have hl_r9 : w.heap.size ≤ r9 := by rw [hr9]; exact HF.out.size
    have hbel : Below w5.heap.size w5 w6 := by rw [hw6]; exact (Below.refl _ _).alloc (Nat.le_refl _) _
    replace HX := hide (HX.out.below hbel)
    replace HV := hide (HV.out.below hbel)
    replace HF := hide (HF.out.tr (keep_fr hbel))
    replace HG1 := hide (HG1.out.tr (keep_fr hbel))
    replace HT := hide (HT.out.below hbel HT.out.lt)
    replace HI := hide (HI.out.below hbel HI.out.lt)
    rw [← hw6]
    rw [← hr9]
    have hrr0 : r7 < r9 := by rw [hr9]; exact hr75
    clear hw6 hr9 hbel
    have i0 : w6.cell? ⟨w.heap.size, 0, none⟩ = some (.int .i64 23) := HI.out.cell 0
    have i1 : w6.cell? ⟨w.heap.size, 1, none⟩ = some (.int .i64 (a : Int)) := HI.out.cell 1
    have HG6 := HG1
    clear hL
    cases ta
    case false =>
     have e1 : ¬ tn = [110, 117, 108, 108] := hen.resolve_left (by decide)
     have e2 : ¬ ([110, 117, 108, 108] : List UInt8) = tn := fun h => e1 h.symm
     go_upto_region 11 with fail
     clear i0 i1
     have HE6 : Hid (∀ i, w6.cell? ⟨bt, i, none⟩ = w1.cell? ⟨bt, i, none⟩) := hide (fun i => HG6.out.cell (p := ⟨bt, i, none⟩) hbt (by show ¬ _; unfold Fr3; simp only []; omega))
     have HS : Hid (∀ w', Keep (fun k => Fr3 s B w.heap.size k ∨ k = r9) w6 w' → w'.cell? ⟨w.heap.size, 1, none⟩ = some (.int .i64 (a : Int)) ∧ w'.cell? ⟨q, 6, none⟩ = some (.slice (some ⟨bt, ot, none⟩) f.cl f.cc) ∧ w'.cell? ⟨bt, ot + a, none⟩ = some (S cn)) := hide (fun w' hk => by
      have t0 := HI.out.keep hk (by unfold Fr3; have := HI.out.ne_ HU.out (by decide); omega)
      have t1 := HX.out.kq.keep hk (by unfold Fr3; have := HX.out.kq.lt; omega)
      have t2 := t1.cell 6
      have t3 : ∀ i, w'.cell? ⟨bt, i, none⟩ = w1.cell? ⟨bt, i, none⟩ := fun i => (hk.cell (p := ⟨bt, i, none⟩) (by show bt < w6.heap.size; have := HX.out.hB; omega) (by show ¬ _; unfold Fr3; simp only []; omega)).trans (HE6.out i)
      exact ⟨t0.cell 1, by rw [t2]; simp [htA], (t3 _).trans HE0.out⟩
      )
     have HR : Hid (Keep (fun k => Fr3 s B w.heap.size k ∨ k = r9) w6 w6.drew) := hide (Keep.refl _ _).drew
     replace HX := hide HX.out.drew
     replace HV := hide HV.out.drew
     replace HF := hide HF.out.drew
     replace HT := hide HT.out.drew
     replace HI := hide HI.out.drew
     refine wp_region_noPanic ?_
     replace HU := hide (HU.out.drew)
     refine tkB HS HR.out (fun hHeld => ?_)
     obtain ⟨w7, hw7⟩ : ∃ x, x = w6.drew := ⟨_, rfl⟩
     rw [← hw7] at hHeld HX HV HF HR HU HT HI ⊢
     clear hw7
     refine tkL 0 ?_ ?_ ?_
     rotate_left
     ·(rintro wS ⟨e0, e1, e2⟩; go_simp; try with_reducible rfl)
     try simp only [sP]
     refine tkL 1 ?_ ?_ ?_
     rotate_left
     ·(rintro wS ⟨e0, e1, e2⟩; go_simp; try with_reducible rfl)
     try simp only [sP]
     refine tkL 2 ?_ ?_ ?_
     rotate_left
     ·(rintro wS ⟨e0, e1, e2⟩; go_simp; try with_reducible rfl)
     try simp only [sP]
     refine tkL 3 ?_ ?_ ?_
     rotate_left
     ·(rintro wS ⟨e0, e1, e2⟩; go_simp; try with_reducible rfl)
     try simp only [sP]
     refine tkL 4 ?_ ?_ ?_
     rotate_left
     ·(rintro wS ⟨e0, e1, e2⟩; go_simp; try with_reducible rfl)
     try simp only [sP]
     refine tkL 5 ?_ ?_ ?_
     rotate_left
     ·(rintro wS ⟨e0, e1, e2⟩; go_simp; try with_reducible rfl)
     try simp only [sP]
     refine tkL 6 ?_ ?_ ?_
     rotate_left
     ·(rintro wS ⟨e0, e1, e2⟩; go_simp; try with_reducible rfl)
     try simp only [sP]
     refine tkL 7 ?_ ?_ ?_
     rotate_left
     ·(rintro wS ⟨e0, e1, e2⟩; go_simp; try with_reducible rfl)
     try simp only [sP]
     refine tkL 8 ?_ ?_ ?_
     rotate_left
     ·(rintro wS ⟨e0, e1, e2⟩; go_simp; try with_reducible rfl)
     try simp only [sP]
     refine tkL 9 ?_ ?_ ?_
     rotate_left
     ·(rintro wS ⟨e0, e1, e2⟩; go_simp; try with_reducible rfl)
     try simp only [sP]
     refine tkC 10 (fun K hK => ?_)
     try rw [if_pos (by rfl)]
     go_simp
     go_at_call 22
     refine (of_any _ _).mono ?_
     rintro e w8 ⟨rfl, hb8⟩
     replace HX := hide (HX.out.below hb8)
     replace HV := hide (HV.out.below hb8)
     replace HF := hide (HF.out.tr (keep_fr hb8))
     replace HR := hide (HR.out.trans' (keep_fr (s := s) (B := B) (N := w.heap.size) hb8) (fun _ _ h => .inl h))
     replace HU := hide (HU.out.below hb8 HU.out.lt)
     replace HT := hide (HT.out.below hb8 HT.out.lt)
     replace HI := hide (HI.out.below hb8 HI.out.lt)
     clear hb8
     try go_wp2_with fail
     refine hK.out _ _ (HS.out _ HR.out) (fun hHeld => ?_)
     clear hK K
     try simp only [sP]
     refine tkC 11 (fun K hK => ?_)
     try rw [if_pos (by rfl)]
     have f9 := HU.out.frozen
     have c90 := HU.out.cell 0
     have c91 := HU.out.cell 1
     go_simp
     try go_wp2_with fail
     have hU2 := (HU.out.set_ 0 (S cn)).set_ 1 (.bool false)
     have hks : Keep (fun k => k = r9) w8 ((w8.setCell ⟨r9, 0, none⟩ (S cn)).setCell ⟨r9, 1, none⟩ (.bool false)) := ((Keep.refl (fun k => k = r9) w8).setCell (p := ⟨r9, 0, none⟩) (fun _ => rfl) _).setCell (p := ⟨r9, 1, none⟩) (fun _ => rfl) _
     obtain ⟨w9, hw9⟩ : ∃ x, x = (w8.setCell ⟨r9, 0, none⟩ (S cn)).setCell ⟨r9, 1, none⟩ (.bool false) := ⟨_, rfl⟩
     rw [← hw9] at hU2 hks
     rw [show ((w8.setCell ⟨r9, 0, none⟩ (.string { data := cn.toArray })).setCell ⟨r9, 1, none⟩ (.bool false)) = w9 from hw9.symm]
     clear hw9 f9 c90 c91
     have hrr : r7 ≠ r9 := by omega
     have hne : ∀ k, k < w.heap.size → k ≠ r9 := fun k hk => by omega
     replace HX := hide (HX.out.high (hks.mono (fun k _ e => by omega)))
     replace HV := hide (HV.out.keepR hks (by omega))
     replace HF := hide (HF.out.trans' hks (fun k hk e => absurd e (hne k hk)))
     replace HT := hide (HT.out.keep hks hrr)
     have HU9 : Hid (Blk w9 r9 24 #[S cn, .bool false]) := hide (by simpa using hU2)
     replace HR := hide (HR.out.trans' hks (fun _ _ h => .inr h))
     clear hks hU2 HU
     refine hK.out _ _ (HS.out _ HR.out) (fun hHeld => ?_)
     clear hK K
     try simp only [sP]
     refine wpAnyH_done (by kernel_rfl) ?_ _
     refine NoPanic.normal ?_
     clear HS HR hHeld
     go_upto_region 12 with fail
     have HS : Hid (∀ w', Keep (Fr3 s B w.heap.size) w9 w' → w'.cell? ⟨r7, 0, none⟩ = some (S tn) ∧ w'.cell? ⟨r7, 1, none⟩ = some (.bool false) ∧ w'.cell? ⟨r9, 0, none⟩ = some (S cn) ∧ w'.cell? ⟨r9, 1, none⟩ = some (.bool false)) := hide (fun w' hk => by
      have t0 := HT.out.keep hk (by unfold Fr3; omega)
      have t1 := HU9.out.keep hk (by unfold Fr3; omega)
      exact ⟨t0.cell 0, t0.cell 1, t1.cell 0, t1.cell 1⟩
      )
     have HR : Hid (Keep (Fr3 s B w.heap.size) w9 w9.drew) := hide (Keep.refl _ _).drew
     replace HX := hide HX.out.drew
     replace HV := hide HV.out.drew
     replace HF := hide HF.out.drew
     refine wp_region_noPanic ?_
     refine tkB HS HR.out (fun hHeld => ?_)
     obtain ⟨wA, hwA⟩ : ∃ x, x = w9.drew := ⟨_, rfl⟩
     rw [← hwA] at hHeld HX HV HF HR ⊢
     clear hwA
     refine tkL 0 ?_ ?_ ?_
     rotate_left
     ·(rintro wS ⟨e0, e1, e2, e3⟩; go_simp; try with_reducible rfl)
     try simp only [sP]
     refine tkL 1 ?_ ?_ ?_
     rotate_left
     ·(rintro wS ⟨e0, e1, e2, e3⟩; go_simp; try with_reducible rfl)
     try simp only [sP]
     refine tkL 2 ?_ ?_ ?_
     rotate_left
     ·(rintro wS ⟨e0, e1, e2, e3⟩; go_simp; try with_reducible rfl)
     try simp only [sP]
     refine tkC 3 (fun K hK => ?_)
     try rw [if_pos (by rfl)]
     go_simp
     go_at_call 23
     refine (HCL.out _).mono ?_
     rintro e wB ⟨rfl, hbB⟩
     replace HX := hide (HX.out.below hbB)
     replace HV := hide (HV.out.below hbB)
     replace HF := hide (HF.out.tr (keep_fr hbB))
     replace HR := hide (HR.out.tr (keep_fr hbB))
     clear hbB
     try go_wp2_with fail
     refine hK.out _ _ (HS.out _ HR.out) (fun hHeld => ?_)
     clear hK K
     try simp only [sP]
     refine tkL 4 ?_ ?_ ?_
     rotate_left
     ·(rintro wS ⟨e0, e1, e2, e3⟩; go_simp; try with_reducible rfl)
     try simp only [sP]
     refine tkL 5 ?_ ?_ ?_
     rotate_left
     ·(rintro wS ⟨e0, e1, e2, e3⟩; go_simp; try with_reducible rfl)
     try simp only [sP]
     refine tkC 6 (fun K hK => ?_)
     try rw [if_pos (by rfl)]
     go_simp
     go_at_call 60
     refine (null_any _).mono ?_
     rintro e wC ⟨rfl, hbC⟩
     replace HX := hide (HX.out.below hbC)
     replace HV := hide (HV.out.below hbC)
     replace HF := hide (HF.out.tr (keep_fr hbC))
     replace HR := hide (HR.out.tr (keep_fr hbC))
     clear hbC
     try go_wp2_with fail
     refine hK.out _ _ (HS.out _ HR.out) (fun hHeld => ?_)
     clear hK K
     try simp only [sP]
     refine tkL 7 ?_ ?_ ?_
     rotate_left
     ·(rintro wS ⟨e0, e1, e2, e3⟩; go_simp; try with_reducible rfl)
     try simp only [sP]
     refine tkL 8 ?_ ?_ ?_
     rotate_left
     ·(rintro wS ⟨e0, e1, e2, e3⟩; go_simp; try with_reducible rfl)
     try simp only [sP]
     refine tkL 9 ?_ ?_ ?_
     rotate_left
     ·(rintro wS ⟨e0, e1, e2, e3⟩; go_simp; try with_reducible rfl)
     try simp only [sP]
     refine tkL 10 ?_ ?_ ?_
     rotate_left
     ·(rintro wS ⟨e0, e1, e2, e3⟩; go_simp; try with_reducible rfl)
     try simp only [sP]
     refine tkR 11 ?_
     try simp only [sP]
     refine tkR 12 ?_
     try simp only [sP]
     refine tkR 13 ?_
     try simp only [sP]
     refine tkR 14 ?_
     try simp only [sP]
     refine tkL 15 ?_ ?_ ?_
     rotate_left
     ·(rintro wS ⟨e0, e1, e2, e3⟩; go_simp; try with_reducible rfl)
     try simp only [sP]
     refine tkL 16 ?_ ?_ ?_
     rotate_left
     ·(rintro wS ⟨e0, e1, e2, e3⟩; go_simp; try with_reducible rfl)
     try simp only [sP]
     refine wpAnyH_done (by kernel_rfl) ?_ _
     refine NoPanic.normal ?_
     go_wp2_with fail
     go_ret
     exact ⟨by rw [HM.out ()] <;> rfl, HX.out.mono (by omega), HF.out, fun x hx => by rw [HM.out ()] at hx; cases hx⟩
    case true =>
     go_upto_region 11 with fail
     clear i0 i1
     have HE6 : Hid (∀ i, w6.cell? ⟨bt, i, none⟩ = w1.cell? ⟨bt, i, none⟩) := hide (fun i => HG6.out.cell (p := ⟨bt, i, none⟩) hbt (by show ¬ _; unfold Fr3; simp only []; omega))
     have HS : Hid (∀ w', Keep (fun k => Fr3 s B w.heap.size k ∨ k = r9) w6 w' → w'.cell? ⟨w.heap.size, 1, none⟩ = some (.int .i64 (a : Int)) ∧ w'.cell? ⟨q, 6, none⟩ = some (.slice (some ⟨bt, ot, none⟩) f.cl f.cc) ∧ w'.cell? ⟨bt, ot + a, none⟩ = some (S cn)) := hide (fun w' hk => by
      have t0 := HI.out.keep hk (by unfold Fr3; have := HI.out.ne_ HU.out (by decide); omega)
      have t1 := HX.out.kq.keep hk (by unfold Fr3; have := HX.out.kq.lt; omega)
      have t2 := t1.cell 6
      have t3 : ∀ i, w'.cell? ⟨bt, i, none⟩ = w1.cell? ⟨bt, i, none⟩ := fun i => (hk.cell (p := ⟨bt, i, none⟩) (by show bt < w6.heap.size; have := HX.out.hB; omega) (by show ¬ _; unfold Fr3; simp only []; omega)).trans (HE6.out i)
      exact ⟨t0.cell 1, by rw [t2]; simp [htA], (t3 _).trans HE0.out⟩
      )
     have HR : Hid (Keep (fun k => Fr3 s B w.heap.size k ∨ k = r9) w6 w6.drew) := hide (Keep.refl _ _).drew
     replace HX := hide HX.out.drew
     replace HV := hide HV.out.drew
     replace HF := hide HF.out.drew
     replace HT := hide HT.out.drew
     replace HI := hide HI.out.drew
     refine wp_region_noPanic ?_
     replace HU := hide (HU.out.drew)
     refine tkB HS HR.out (fun hHeld => ?_)
     obtain ⟨w7, hw7⟩ : ∃ x, x = w6.drew := ⟨_, rfl⟩
     rw [← hw7] at hHeld HX HV HF HR HU HT HI ⊢
     clear hw7
     refine tkL 0 ?_ ?_ ?_
     rotate_left
     ·(rintro wS ⟨e0, e1, e2⟩; go_simp; try with_reducible rfl)
     try simp only [sP]
     refine tkL 1 ?_ ?_ ?_
     rotate_left
     ·(rintro wS ⟨e0, e1, e2⟩; go_simp; try with_reducible rfl)
     try simp only [sP]
     refine tkL 2 ?_ ?_ ?_
     rotate_left
     ·(rintro wS ⟨e0, e1, e2⟩; go_simp; try with_reducible rfl)
     try simp only [sP]
     refine tkL 3 ?_ ?_ ?_
     rotate_left
     ·(rintro wS ⟨e0, e1, e2⟩; go_simp; try with_reducible rfl)
     try simp only [sP]
     refine tkL 4 ?_ ?_ ?_
     rotate_left
     ·(rintro wS ⟨e0, e1, e2⟩; go_simp; try with_reducible rfl)
     try simp only [sP]
     refine tkL 5 ?_ ?_ ?_
     rotate_left
     ·(rintro wS ⟨e0, e1, e2⟩; go_simp; try with_reducible rfl)
     try simp only [sP]
     refine tkL 6 ?_ ?_ ?_
     rotate_left
     ·(rintro wS ⟨e0, e1, e2⟩; go_simp; try with_reducible rfl)
     try simp only [sP]
     refine tkL 7 ?_ ?_ ?_
     rotate_left
     ·(rintro wS ⟨e0, e1, e2⟩; go_simp; try with_reducible rfl)
     try simp only [sP]
     refine tkL 8 ?_ ?_ ?_
     rotate_left
     ·(rintro wS ⟨e0, e1, e2⟩; go_simp; try with_reducible rfl)
     try simp only [sP]
     refine tkL 9 ?_ ?_ ?_
     rotate_left
     ·(rintro wS ⟨e0, e1, e2⟩; go_simp; try with_reducible rfl)
     try simp only [sP]
     refine tkC 10 (fun K hK => ?_)
     try rw [if_pos (by rfl)]
     go_simp
     go_at_call 22
     refine (of_any _ _).mono ?_
     rintro e w8 ⟨rfl, hb8⟩
     replace HX := hide (HX.out.below hb8)
     replace HV := hide (HV.out.below hb8)
     replace HF := hide (HF.out.tr (keep_fr hb8))
     replace HR := hide (HR.out.trans' (keep_fr (s := s) (B := B) (N := w.heap.size) hb8) (fun _ _ h => .inl h))
     replace HU := hide (HU.out.below hb8 HU.out.lt)
     replace HT := hide (HT.out.below hb8 HT.out.lt)
     replace HI := hide (HI.out.below hb8 HI.out.lt)
     clear hb8
     try go_wp2_with fail
     refine hK.out _ _ (HS.out _ HR.out) (fun hHeld => ?_)
     clear hK K
     try simp only [sP]
     refine tkC 11 (fun K hK => ?_)
     try rw [if_pos (by rfl)]
     have f9 := HU.out.frozen
     have c90 := HU.out.cell 0
     have c91 := HU.out.cell 1
     go_simp
     try go_wp2_with fail
     have hU2 := (HU.out.set_ 0 (S cn)).set_ 1 (.bool false)
     have hks : Keep (fun k => k = r9) w8 ((w8.setCell ⟨r9, 0, none⟩ (S cn)).setCell ⟨r9, 1, none⟩ (.bool false)) := ((Keep.refl (fun k => k = r9) w8).setCell (p := ⟨r9, 0, none⟩) (fun _ => rfl) _).setCell (p := ⟨r9, 1, none⟩) (fun _ => rfl) _
     obtain ⟨w9, hw9⟩ : ∃ x, x = (w8.setCell ⟨r9, 0, none⟩ (S cn)).setCell ⟨r9, 1, none⟩ (.bool false) := ⟨_, rfl⟩
     rw [← hw9] at hU2 hks
     rw [show ((w8.setCell ⟨r9, 0, none⟩ (.string { data := cn.toArray })).setCell ⟨r9, 1, none⟩ (.bool false)) = w9 from hw9.symm]
     clear hw9 f9 c90 c91
     have hrr : r7 ≠ r9 := by omega
     have hne : ∀ k, k < w.heap.size → k ≠ r9 := fun k hk => by omega
     replace HX := hide (HX.out.high (hks.mono (fun k _ e => by omega)))
     replace HV := hide (HV.out.keepR hks (by omega))
     replace HF := hide (HF.out.trans' hks (fun k hk e => absurd e (hne k hk)))
     replace HT := hide (HT.out.keep hks hrr)
     have HU9 : Hid (Blk w9 r9 24 #[S cn, .bool false]) := hide (by simpa using hU2)
     replace HR := hide (HR.out.trans' hks (fun _ _ h => .inr h))
     clear hks hU2 HU
     refine hK.out _ _ (HS.out _ HR.out) (fun hHeld => ?_)
     clear hK K
     try simp only [sP]
     refine wpAnyH_done (by kernel_rfl) ?_ _
     refine NoPanic.normal ?_
     clear HS HR hHeld
     go_upto_region 12 with fail
     have HS : Hid (∀ w', Keep (Fr3 s B w.heap.size) w9 w' → w'.cell? ⟨r7, 0, none⟩ = some (S tn) ∧ w'.cell? ⟨r7, 1, none⟩ = some (.bool true) ∧ w'.cell? ⟨r9, 0, none⟩ = some (S cn) ∧ w'.cell? ⟨r9, 1, none⟩ = some (.bool false)) := hide (fun w' hk => by
      have t0 := HT.out.keep hk (by unfold Fr3; omega)
      have t1 := HU9.out.keep hk (by unfold Fr3; omega)
      exact ⟨t0.cell 0, t0.cell 1, t1.cell 0, t1.cell 1⟩
      )
     have HR : Hid (Keep (Fr3 s B w.heap.size) w9 w9.drew) := hide (Keep.refl _ _).drew
     replace HX := hide HX.out.drew
     replace HV := hide HV.out.drew
     replace HF := hide HF.out.drew
     refine wp_region_noPanic ?_
     refine tkB HS HR.out (fun hHeld => ?_)
     obtain ⟨wA, hwA⟩ : ∃ x, x = w9.drew := ⟨_, rfl⟩
     rw [← hwA] at hHeld HX HV HF HR ⊢
     clear hwA
     refine tkL 0 ?_ ?_ ?_
     rotate_left
     ·(rintro wS ⟨e0, e1, e2, e3⟩; go_simp; try with_reducible rfl)
     try simp only [sP]
     refine tkL 1 ?_ ?_ ?_
     rotate_left
     ·(rintro wS ⟨e0, e1, e2, e3⟩; go_simp; try with_reducible rfl)
     try simp only [sP]
     refine tkL 2 ?_ ?_ ?_
     rotate_left
     ·(rintro wS ⟨e0, e1, e2, e3⟩; go_simp; try with_reducible rfl)
     try simp only [sP]
     refine tkC 3 (fun K hK => ?_)
     try rw [if_pos (by rfl)]
     go_simp
     go_at_call 23
     refine (HCL.out _).mono ?_
     rintro e wB ⟨rfl, hbB⟩
     replace HX := hide (HX.out.below hbB)
     replace HV := hide (HV.out.below hbB)
     replace HF := hide (HF.out.tr (keep_fr hbB))
     replace HR := hide (HR.out.tr (keep_fr hbB))
     clear hbB
     try go_wp2_with fail
     refine hK.out _ _ (HS.out _ HR.out) (fun hHeld => ?_)
     clear hK K
     try simp only [sP]
     refine tkL 4 ?_ ?_ ?_
     rotate_left
     ·(rintro wS ⟨e0, e1, e2, e3⟩; go_simp; try with_reducible rfl)
     try simp only [sP]
     refine tkL 5 ?_ ?_ ?_
     rotate_left
     ·(rintro wS ⟨e0, e1, e2, e3⟩; go_simp; try with_reducible rfl)
     try simp only [sP]
     refine tkC 6 (fun K hK => ?_)
     try rw [if_pos (by rfl)]
     go_simp
     go_at_call 60
     refine (null_any _).mono ?_
     rintro e wC ⟨rfl, hbC⟩
     replace HX := hide (HX.out.below hbC)
     replace HV := hide (HV.out.below hbC)
     replace HF := hide (HF.out.tr (keep_fr hbC))
     replace HR := hide (HR.out.tr (keep_fr hbC))
     clear hbC
     try go_wp2_with fail
     refine hK.out _ _ (HS.out _ HR.out) (fun hHeld => ?_)
     clear hK K
     try simp only [sP]
     refine tkL 7 ?_ ?_ ?_
     rotate_left
     ·(rintro wS ⟨e0, e1, e2, e3⟩; go_simp; try with_reducible rfl)
     try simp only [sP]
     refine tkL 8 ?_ ?_ ?_
     rotate_left
     ·(rintro wS ⟨e0, e1, e2, e3⟩; go_simp; try with_reducible rfl)
     try simp only [sP]
     refine tkL 9 ?_ ?_ ?_
     rotate_left
     ·(rintro wS ⟨e0, e1, e2, e3⟩; go_simp; try with_reducible rfl)
     try simp only [sP]
     refine tkL 10 ?_ ?_ ?_
     rotate_left
     ·(rintro wS ⟨e0, e1, e2, e3⟩; go_simp; try with_reducible rfl)
     try simp only [sP]
     refine tkR 11 ?_
     try simp only [sP]
     refine tkR 12 ?_
     try simp only [sP]
     refine tkR 13 ?_
     try simp only [sP]
     refine tkR 14 ?_
     try simp only [sP]
     refine tkL 15 ?_ ?_ ?_
     rotate_left
     ·(rintro wS ⟨e0, e1, e2, e3⟩; go_simp; try with_reducible rfl)
     try simp only [sP]
     refine tkL 16 ?_ ?_ ?_
     rotate_left
     ·(rintro wS ⟨e0, e1, e2, e3⟩; go_simp; try with_reducible rfl)
     try simp only [sP]
     refine wpAnyH_done (by kernel_rfl) ?_ _
     refine NoPanic.normal ?_
     go_wp2_with fail
     go_ret
     exact ⟨by rw [HM.out ()] <;> rfl, HX.out.mono (by omega), HF.out, fun x hx => by rw [HM.out ()] at hx; cases hx⟩
   ·have ef : ta = false := by cases ta with | false => rfl | true => exact absurd (.inl rfl) en
    have et : tn = [110, 117, 108, 108] := Classical.byContradiction (fun h => en (.inr h))
    subst ef et
    have HM : Hid (∀ _ : Unit, objM T f.ppl b.sk 23 a v = puM b.sk ⟨cn, false⟩ (dr v)) := hide (fun _ => by unfold objM; (iterate 2 rw [if_neg (by decide)]); rw [if_pos (by decide)]; rw [hL]; rw [hXe]; exact if_pos (.inr rfl))
    have HCL : Hid (∀ ww, Calls Tryd.prog 23 #[.agg #[S [110, 117, 108, 108], .bool false]] ww (Gives ww (.bool false))) := hide (fun ww => by have h := class_any [110, 117, 108, 108] false ww; rwa [hc] at h)
    clear en
    have HG1 : Hid (Keep (Fr3 s B w.heap.size) w1 w1) := hide (Keep.refl _ _)
    have HTK : Hid (TkE B q gi g m s T f b sg va vd w.heap.size p (v) (.tuple #[.agg #[S [110, 117, 108, 108], .bool false], .bool true]) (dr (v))) := hide (fun ww n' hx hv => by have := take_k hx hv (by have := hS.2.2.2; first | omega | (simp [dr]; omega)); rw [hL] at this; exact this)
    go_upto_region 9 with (go_at_call 61; refine (HTK.out _ _ HX.out HV.out).mono ?_; rintro e w3 ⟨rfl, hx3, hk3, hv3⟩; replace HX := hide hx3; replace HF := hide (HF.out.tr hk3); replace HG1 := hide (HG1.out.tr hk3); replace HI := hide (HI.out.keep hk3 (by unfold Fr3; omega)); replace HV := hide hv3; clear hx3 hk3 hv3)
    obtain ⟨w4, hw4⟩ : ∃ x, x = w3.alloc (.cells #[S [110, 117, 108, 108], .bool false] 24) := ⟨_, rfl⟩
    obtain ⟨r7, hr7⟩ : ∃ x, x = w3.heap.size := ⟨_, rfl⟩
    have HT : Hid (Blk w4 r7 24 #[S [110, 117, 108, 108], .bool false]) := hide (by rw [hw4, hr7]; exact Blk.new _ _ _)
    have hl_r7 : w.heap.size ≤ r7 := by rw [hr7]; exact HF.out.size
    have hbel : Below w3.heap.size w3 w4 := by rw [hw4]; exact (Below.refl _ _).alloc (Nat.le_refl _) _
    replace HX := hide (HX.out.below hbel)
    replace HV := hide (HV.out.below hbel)
    replace HF := hide (HF.out.tr (keep_fr hbel))
    replace HG1 := hide (HG1.out.tr (keep_fr hbel))
    replace HI := hide (HI.out.below hbel HI.out.lt)
    rw [← hw4]
    rw [← hr7]
    clear hw4 hr7 hbel
    clear i0 i1 HTK
    go_upto_region 10 with (go_at_call 58; refine (bool_any _).mono ?_; rintro e w5 ⟨rfl, hb5⟩; replace HX := hide (HX.out.below hb5); replace HV := hide (HV.out.below hb5); replace HF := hide (HF.out.tr (keep_fr hb5)); replace HG1 := hide (HG1.out.tr (keep_fr hb5)); replace HI := hide (HI.out.below hb5 HI.out.lt); replace HT := hide (HT.out.below hb5 HT.out.lt); have hr75 : r7 < w5.heap.size := HT.out.lt; clear hb5)
    obtain ⟨w6, hw6⟩ : ∃ x, x = w5.alloc (.cells #[S [98, 111, 111, 108], .bool false] 24) := ⟨_, rfl⟩
    obtain ⟨r9, hr9⟩ : ∃ x, x = w5.heap.size := ⟨_, rfl⟩
    have HU : Hid (Blk w6 r9 24 #[S [98, 111, 111, 108], .bool false]) := hide (by rw [hw6, hr9]; exact Blk.new _ _ _)
    have hl_r9 : w.heap.size ≤ r9 := by rw [hr9]; exact HF.out.size
    have hbel : Below w5.heap.size w5 w6 := by rw [hw6]; exact (Below.refl _ _).alloc (Nat.le_refl _) _
    replace HX := hide (HX.out.below hbel)
    replace HV := hide (HV.out.below hbel)
    replace HF := hide (HF.out.tr (keep_fr hbel))
    replace HG1 := hide (HG1.out.tr (keep_fr hbel))
    replace HT := hide (HT.out.below hbel HT.out.lt)
    replace HI := hide (HI.out.below hbel HI.out.lt)
    rw [← hw6]
    rw [← hr9]
    have hrr0 : r7 < r9 := by rw [hr9]; exact hr75
    clear hw6 hr9 hbel
    have i0 : w6.cell? ⟨w.heap.size, 0, none⟩ = some (.int .i64 23) := HI.out.cell 0
    have i1 : w6.cell? ⟨w.heap.size, 1, none⟩ = some (.int .i64 (a : Int)) := HI.out.cell 1
    have HG6 := HG1
    clear hL
    go_upto_region 11 with fail
    clear i0 i1
    have HE6 : Hid (∀ i, w6.cell? ⟨bt, i, none⟩ = w1.cell? ⟨bt, i, none⟩) := hide (fun i => HG6.out.cell (p := ⟨bt, i, none⟩) hbt (by show ¬ _; unfold Fr3; simp only []; omega))
    have HS : Hid (∀ w', Keep (fun k => Fr3 s B w.heap.size k ∨ k = r9) w6 w' → w'.cell? ⟨w.heap.size, 1, none⟩ = some (.int .i64 (a : Int)) ∧ w'.cell? ⟨q, 6, none⟩ = some (.slice (some ⟨bt, ot, none⟩) f.cl f.cc) ∧ w'.cell? ⟨bt, ot + a, none⟩ = some (S cn)) := hide (fun w' hk => by
     have t0 := HI.out.keep hk (by unfold Fr3; have := HI.out.ne_ HU.out (by decide); omega)
     have t1 := HX.out.kq.keep hk (by unfold Fr3; have := HX.out.kq.lt; omega)
     have t2 := t1.cell 6
     have t3 : ∀ i, w'.cell? ⟨bt, i, none⟩ = w1.cell? ⟨bt, i, none⟩ := fun i => (hk.cell (p := ⟨bt, i, none⟩) (by show bt < w6.heap.size; have := HX.out.hB; omega) (by show ¬ _; unfold Fr3; simp only []; omega)).trans (HE6.out i)
     exact ⟨t0.cell 1, by rw [t2]; simp [htA], (t3 _).trans HE0.out⟩
     )
    have HR : Hid (Keep (fun k => Fr3 s B w.heap.size k ∨ k = r9) w6 w6.drew) := hide (Keep.refl _ _).drew
    replace HX := hide HX.out.drew
    replace HV := hide HV.out.drew
    replace HF := hide HF.out.drew
    replace HT := hide HT.out.drew
    replace HI := hide HI.out.drew
    refine wp_region_noPanic ?_
    replace HU := hide (HU.out.drew)
    refine tkB HS HR.out (fun hHeld => ?_)
    obtain ⟨w7, hw7⟩ : ∃ x, x = w6.drew := ⟨_, rfl⟩
    rw [← hw7] at hHeld HX HV HF HR HU HT HI ⊢
    clear hw7
    refine tkL 0 ?_ ?_ ?_
    rotate_left
    ·(rintro wS ⟨e0, e1, e2⟩; go_simp; try with_reducible rfl)
    try simp only [sP]
    refine tkL 1 ?_ ?_ ?_
    rotate_left
    ·(rintro wS ⟨e0, e1, e2⟩; go_simp; try with_reducible rfl)
    try simp only [sP]
    refine tkL 2 ?_ ?_ ?_
    rotate_left
    ·(rintro wS ⟨e0, e1, e2⟩; go_simp; try with_reducible rfl)
    try simp only [sP]
    refine tkL 3 ?_ ?_ ?_
    rotate_left
    ·(rintro wS ⟨e0, e1, e2⟩; go_simp; try with_reducible rfl)
    try simp only [sP]
    refine tkL 4 ?_ ?_ ?_
    rotate_left
    ·(rintro wS ⟨e0, e1, e2⟩; go_simp; try with_reducible rfl)
    try simp only [sP]
    refine tkL 5 ?_ ?_ ?_
    rotate_left
    ·(rintro wS ⟨e0, e1, e2⟩; go_simp; try with_reducible rfl)
    try simp only [sP]
    refine tkL 6 ?_ ?_ ?_
    rotate_left
    ·(rintro wS ⟨e0, e1, e2⟩; go_simp; try with_reducible rfl)
    try simp only [sP]
    refine tkL 7 ?_ ?_ ?_
    rotate_left
    ·(rintro wS ⟨e0, e1, e2⟩; go_simp; try with_reducible rfl)
    try simp only [sP]
    refine tkL 8 ?_ ?_ ?_
    rotate_left
    ·(rintro wS ⟨e0, e1, e2⟩; go_simp; try with_reducible rfl)
    try simp only [sP]
    refine tkL 9 ?_ ?_ ?_
    rotate_left
    ·(rintro wS ⟨e0, e1, e2⟩; go_simp; try with_reducible rfl)
    try simp only [sP]
    refine tkC 10 (fun K hK => ?_)
    try rw [if_pos (by rfl)]
    go_simp
    go_at_call 22
    refine (of_any _ _).mono ?_
    rintro e w8 ⟨rfl, hb8⟩
    replace HX := hide (HX.out.below hb8)
    replace HV := hide (HV.out.below hb8)
    replace HF := hide (HF.out.tr (keep_fr hb8))
    replace HR := hide (HR.out.trans' (keep_fr (s := s) (B := B) (N := w.heap.size) hb8) (fun _ _ h => .inl h))
    replace HU := hide (HU.out.below hb8 HU.out.lt)
    replace HT := hide (HT.out.below hb8 HT.out.lt)
    replace HI := hide (HI.out.below hb8 HI.out.lt)
    clear hb8
    try go_wp2_with fail
    refine hK.out _ _ (HS.out _ HR.out) (fun hHeld => ?_)
    clear hK K
    try simp only [sP]
    refine tkC 11 (fun K hK => ?_)
    try rw [if_pos (by rfl)]
    have f9 := HU.out.frozen
    have c90 := HU.out.cell 0
    have c91 := HU.out.cell 1
    go_simp
    try go_wp2_with fail
    have hU2 := (HU.out.set_ 0 (S cn)).set_ 1 (.bool false)
    have hks : Keep (fun k => k = r9) w8 ((w8.setCell ⟨r9, 0, none⟩ (S cn)).setCell ⟨r9, 1, none⟩ (.bool false)) := ((Keep.refl (fun k => k = r9) w8).setCell (p := ⟨r9, 0, none⟩) (fun _ => rfl) _).setCell (p := ⟨r9, 1, none⟩) (fun _ => rfl) _
    obtain ⟨w9, hw9⟩ : ∃ x, x = (w8.setCell ⟨r9, 0, none⟩ (S cn)).setCell ⟨r9, 1, none⟩ (.bool false) := ⟨_, rfl⟩
    rw [← hw9] at hU2 hks
    rw [show ((w8.setCell ⟨r9, 0, none⟩ (.string { data := cn.toArray })).setCell ⟨r9, 1, none⟩ (.bool false)) = w9 from hw9.symm]
    clear hw9 f9 c90 c91
    have hrr : r7 ≠ r9 := by omega
    have hne : ∀ k, k < w.heap.size → k ≠ r9 := fun k hk => by omega
    replace HX := hide (HX.out.high (hks.mono (fun k _ e => by omega)))
    replace HV := hide (HV.out.keepR hks (by omega))
    replace HF := hide (HF.out.trans' hks (fun k hk e => absurd e (hne k hk)))
    replace HT := hide (HT.out.keep hks hrr)
    have HU9 : Hid (Blk w9 r9 24 #[S cn, .bool false]) := hide (by simpa using hU2)
    replace HR := hide (HR.out.trans' hks (fun _ _ h => .inr h))
    clear hks hU2 HU
    refine hK.out _ _ (HS.out _ HR.out) (fun hHeld => ?_)
    clear hK K
    try simp only [sP]
    refine wpAnyH_done (by kernel_rfl) ?_ _
    refine NoPanic.normal ?_
    clear HS HR hHeld
    go_upto_region 12 with fail
    have HS : Hid (∀ w', Keep (Fr3 s B w.heap.size) w9 w' → w'.cell? ⟨r7, 0, none⟩ = some (S [110, 117, 108, 108]) ∧ w'.cell? ⟨r7, 1, none⟩ = some (.bool false) ∧ w'.cell? ⟨r9, 0, none⟩ = some (S cn) ∧ w'.cell? ⟨r9, 1, none⟩ = some (.bool false)) := hide (fun w' hk => by
     have t0 := HT.out.keep hk (by unfold Fr3; omega)
     have t1 := HU9.out.keep hk (by unfold Fr3; omega)
     exact ⟨t0.cell 0, t0.cell 1, t1.cell 0, t1.cell 1⟩
     )
    have HR : Hid (Keep (Fr3 s B w.heap.size) w9 w9.drew) := hide (Keep.refl _ _).drew
    replace HX := hide HX.out.drew
    replace HV := hide HV.out.drew
    replace HF := hide HF.out.drew
    refine wp_region_noPanic ?_
    refine tkB HS HR.out (fun hHeld => ?_)
    obtain ⟨wA, hwA⟩ : ∃ x, x = w9.drew := ⟨_, rfl⟩
    rw [← hwA] at hHeld HX HV HF HR ⊢
    clear hwA
    refine tkL 0 ?_ ?_ ?_
    rotate_left
    ·(rintro wS ⟨e0, e1, e2, e3⟩; go_simp; try with_reducible rfl)
    try simp only [sP]
    refine tkL 1 ?_ ?_ ?_
    rotate_left
    ·(rintro wS ⟨e0, e1, e2, e3⟩; go_simp; try with_reducible rfl)
    try simp only [sP]
    refine tkL 2 ?_ ?_ ?_
    rotate_left
    ·(rintro wS ⟨e0, e1, e2, e3⟩; go_simp; try with_reducible rfl)
    try simp only [sP]
    refine tkC 3 (fun K hK => ?_)
    try rw [if_pos (by rfl)]
    go_simp
    go_at_call 23
    refine (HCL.out _).mono ?_
    rintro e wB ⟨rfl, hbB⟩
    replace HX := hide (HX.out.below hbB)
    replace HV := hide (HV.out.below hbB)
    replace HF := hide (HF.out.tr (keep_fr hbB))
    replace HR := hide (HR.out.tr (keep_fr hbB))
    clear hbB
    try go_wp2_with fail
    refine hK.out _ _ (HS.out _ HR.out) (fun hHeld => ?_)
    clear hK K
    try simp only [sP]
    refine tkL 4 ?_ ?_ ?_
    rotate_left
    ·(rintro wS ⟨e0, e1, e2, e3⟩; go_simp; try with_reducible rfl)
    try simp only [sP]
    refine tkL 5 ?_ ?_ ?_
    rotate_left
    ·(rintro wS ⟨e0, e1, e2, e3⟩; go_simp; try with_reducible rfl)
    try simp only [sP]
    refine tkC 6 (fun K hK => ?_)
    try rw [if_pos (by rfl)]
    go_simp
    go_at_call 60
    refine (null_any _).mono ?_
    rintro e wC ⟨rfl, hbC⟩
    replace HX := hide (HX.out.below hbC)
    replace HV := hide (HV.out.below hbC)
    replace HF := hide (HF.out.tr (keep_fr hbC))
    replace HR := hide (HR.out.tr (keep_fr hbC))
    clear hbC
    try go_wp2_with fail
    refine hK.out _ _ (HS.out _ HR.out) (fun hHeld => ?_)
    clear hK K
    try simp only [sP]
    refine tkL 7 ?_ ?_ ?_
    rotate_left
    ·(rintro wS ⟨e0, e1, e2, e3⟩; go_simp; try with_reducible rfl)
    try simp only [sP]
    refine tkL 8 ?_ ?_ ?_
    rotate_left
    ·(rintro wS ⟨e0, e1, e2, e3⟩; go_simp; try with_reducible rfl)
    try simp only [sP]
    refine tkL 9 ?_ ?_ ?_
    rotate_left
    ·(rintro wS ⟨e0, e1, e2, e3⟩; go_simp; try with_reducible rfl)
    try simp only [sP]
    refine tkL 10 ?_ ?_ ?_
    rotate_left
    ·(rintro wS ⟨e0, e1, e2, e3⟩; go_simp; try with_reducible rfl)
    try simp only [sP]
    refine tkL 11 ?_ ?_ ?_
    rotate_left
    ·(rintro wS ⟨e0, e1, e2, e3⟩; go_simp; try with_reducible rfl)
    try simp only [sP]
    refine tkL 12 ?_ ?_ ?_
    rotate_left
    ·(rintro wS ⟨e0, e1, e2, e3⟩; go_simp; try with_reducible rfl)
    try simp only [sP]
    refine tkL 13 ?_ ?_ ?_
    rotate_left
    ·(rintro wS ⟨e0, e1, e2, e3⟩; go_simp; try with_reducible rfl)
    try simp only [sP]
    refine tkC 14 (fun K hK => ?_)
    try rw [if_pos (by rfl)]
    go_simp
    go_at_call 59
    refine (push_k HX.out HV.out (by first | omega | (have := hS.2.2.2; omega)) ⟨cn, false⟩).mono ?_
    rintro e wD ⟨rfl, hxD, hkD, hvD⟩
    replace HX := hide hxD
    replace HF := hide (HF.out.tr hkD)
    replace HR := hide (HR.out.tr hkD)
    have HVE := hide hvD
    clear hxD hkD hvD
    try go_wp2_with fail
    refine hK.out _ _ (HS.out _ HR.out) (fun hHeld => ?_)
    clear hK K
    try simp only [sP]
    refine tkL 15 ?_ ?_ ?_
    rotate_left
    ·(rintro wS ⟨e0, e1, e2, e3⟩; go_simp; try with_reducible rfl)
    try simp only [sP]
    refine tkL 16 ?_ ?_ ?_
    rotate_left
    ·(rintro wS ⟨e0, e1, e2, e3⟩; go_simp; try with_reducible rfl)
    try simp only [sP]
    refine wpAnyH_done (by kernel_rfl) ?_ _
    refine NoPanic.normal ?_
    go_wp2_with fail
    go_ret
    exact ⟨by rw [HM.out ()] <;> rfl, HX.out.mono (by omega), HF.out, fun x hx => HVE.out x (by rw [HM.out ()] at hx; exact hx)⟩
  ·have HM : Hid (∀ _ : Unit, objM T f.ppl b.sk 23 a v = puM b.sk ⟨cn, false⟩ (dr v)) := hide (fun _ => by unfold objM; (iterate 2 rw [if_neg (by decide)]); rw [if_pos (by decide)]; rw [hL]; rw [hXe]; exact if_pos (.inl hc))
   have HCL : Hid (∀ ww, Calls Tryd.prog 23 #[.agg #[S tn, .bool ta]] ww (Gives ww (.bool true))) := hide (fun ww => by have h := class_any tn ta ww; rwa [hc] at h)
   have HG1 : Hid (Keep (Fr3 s B w.heap.size) w1 w1) := hide (Keep.refl _ _)
   have HTK : Hid (TkE B q gi g m s T f b sg va vd w.heap.size p (v) (.tuple #[.agg #[S tn, .bool ta], .bool true]) (dr (v))) := hide (fun ww n' hx hv => by have := take_k hx hv (by have := hS.2.2.2; first | omega | (simp [dr]; omega)); rw [hL] at this; exact this)
   go_upto_region 9 with (go_at_call 61; refine (HTK.out _ _ HX.out HV.out).mono ?_; rintro e w3 ⟨rfl, hx3, hk3, hv3⟩; replace HX := hide hx3; replace HF := hide (HF.out.tr hk3); replace HG1 := hide (HG1.out.tr hk3); replace HI := hide (HI.out.keep hk3 (by unfold Fr3; omega)); replace HV := hide hv3; clear hx3 hk3 hv3)
   obtain ⟨w4, hw4⟩ : ∃ x, x = w3.alloc (.cells #[S tn, .bool ta] 24) := ⟨_, rfl⟩
   obtain ⟨r7, hr7⟩ : ∃ x, x = w3.heap.size := ⟨_, rfl⟩
   have HT : Hid (Blk w4 r7 24 #[S tn, .bool ta]) := hide (by rw [hw4, hr7]; exact Blk.new _ _ _)
   have hl_r7 : w.heap.size ≤ r7 := by rw [hr7]; exact HF.out.size
   have hbel : Below w3.heap.size w3 w4 := by rw [hw4]; exact (Below.refl _ _).alloc (Nat.le_refl _) _
   replace HX := hide (HX.out.below hbel)
   replace HV := hide (HV.out.below hbel)
   replace HF := hide (HF.out.tr (keep_fr hbel))
   replace HG1 := hide (HG1.out.tr (keep_fr hbel))
   replace HI := hide (HI.out.below hbel HI.out.lt)
   rw [← hw4]
   rw [← hr7]
   clear hw4 hr7 hbel
   clear i0 i1 HTK
   go_upto_region 10 with (go_at_call 58; refine (bool_any _).mono ?_; rintro e w5 ⟨rfl, hb5⟩; replace HX := hide (HX.out.below hb5); replace HV := hide (HV.out.below hb5); replace HF := hide (HF.out.tr (keep_fr hb5)); replace HG1 := hide (HG1.out.tr (keep_fr hb5)); replace HI := hide (HI.out.below hb5 HI.out.lt); replace HT := hide (HT.out.below hb5 HT.out.lt); have hr75 : r7 < w5.heap.size := HT.out.lt; clear hb5)
   obtain ⟨w6, hw6⟩ : ∃ x, x = w5.alloc (.cells #[S [98, 111, 111, 108], .bool false] 24) := ⟨_, rfl⟩
   obtain ⟨r9, hr9⟩ : ∃ x, x = w5.heap.size := ⟨_, rfl⟩
   have HU : Hid (Blk w6 r9 24 #[S [98, 111, 111, 108], .bool false]) := hide (by rw [hw6, hr9]; exact Blk.new _ _ _)
   have hl_r9 : w.heap.size ≤ r9 := by rw [hr9]; exact HF.out.size
   have hbel : Below w5.heap.size w5 w6 := by rw [hw6]; exact (Below.refl _ _).alloc (Nat.le_refl _) _
   replace HX := hide (HX.out.below hbel)
   replace HV := hide (HV.out.below hbel)
   replace HF := hide (HF.out.tr (keep_fr hbel))
   replace HG1 := hide (HG1.out.tr (keep_fr hbel))
   replace HT := hide (HT.out.below hbel HT.out.lt)
   replace HI := hide (HI.out.below hbel HI.out.lt)
   rw [← hw6]
   rw [← hr9]
   have hrr0 : r7 < r9 := by rw [hr9]; exact hr75
   clear hw6 hr9 hbel
   have i0 : w6.cell? ⟨w.heap.size, 0, none⟩ = some (.int .i64 23) := HI.out.cell 0
   have i1 : w6.cell? ⟨w.heap.size, 1, none⟩ = some (.int .i64 (a : Int)) := HI.out.cell 1
   have HG6 := HG1
   clear hL
   go_upto_region 11 with fail
   clear i0 i1
   have HE6 : Hid (∀ i, w6.cell? ⟨bt, i, none⟩ = w1.cell? ⟨bt, i, none⟩) := hide (fun i => HG6.out.cell (p := ⟨bt, i, none⟩) hbt (by show ¬ _; unfold Fr3; simp only []; omega))
   have HS : Hid (∀ w', Keep (fun k => Fr3 s B w.heap.size k ∨ k = r9) w6 w' → w'.cell? ⟨w.heap.size, 1, none⟩ = some (.int .i64 (a : Int)) ∧ w'.cell? ⟨q, 6, none⟩ = some (.slice (some ⟨bt, ot, none⟩) f.cl f.cc) ∧ w'.cell? ⟨bt, ot + a, none⟩ = some (S cn)) := hide (fun w' hk => by
    have t0 := HI.out.keep hk (by unfold Fr3; have := HI.out.ne_ HU.out (by decide); omega)
    have t1 := HX.out.kq.keep hk (by unfold Fr3; have := HX.out.kq.lt; omega)
    have t2 := t1.cell 6
    have t3 : ∀ i, w'.cell? ⟨bt, i, none⟩ = w1.cell? ⟨bt, i, none⟩ := fun i => (hk.cell (p := ⟨bt, i, none⟩) (by show bt < w6.heap.size; have := HX.out.hB; omega) (by show ¬ _; unfold Fr3; simp only []; omega)).trans (HE6.out i)
    exact ⟨t0.cell 1, by rw [t2]; simp [htA], (t3 _).trans HE0.out⟩
    )
   have HR : Hid (Keep (fun k => Fr3 s B w.heap.size k ∨ k = r9) w6 w6.drew) := hide (Keep.refl _ _).drew
   replace HX := hide HX.out.drew
   replace HV := hide HV.out.drew
   replace HF := hide HF.out.drew
   replace HT := hide HT.out.drew
   replace HI := hide HI.out.drew
   refine wp_region_noPanic ?_
   replace HU := hide (HU.out.drew)
   refine tkB HS HR.out (fun hHeld => ?_)
   obtain ⟨w7, hw7⟩ : ∃ x, x = w6.drew := ⟨_, rfl⟩
   rw [← hw7] at hHeld HX HV HF HR HU HT HI ⊢
   clear hw7
   refine tkL 0 ?_ ?_ ?_
   rotate_left
   ·(rintro wS ⟨e0, e1, e2⟩; go_simp; try with_reducible rfl)
   try simp only [sP]
   refine tkL 1 ?_ ?_ ?_
   rotate_left
   ·(rintro wS ⟨e0, e1, e2⟩; go_simp; try with_reducible rfl)
   try simp only [sP]
   refine tkL 2 ?_ ?_ ?_
   rotate_left
   ·(rintro wS ⟨e0, e1, e2⟩; go_simp; try with_reducible rfl)
   try simp only [sP]
   refine tkL 3 ?_ ?_ ?_
   rotate_left
   ·(rintro wS ⟨e0, e1, e2⟩; go_simp; try with_reducible rfl)
   try simp only [sP]
   refine tkL 4 ?_ ?_ ?_
   rotate_left
   ·(rintro wS ⟨e0, e1, e2⟩; go_simp; try with_reducible rfl)
   try simp only [sP]
   refine tkL 5 ?_ ?_ ?_
   rotate_left
   ·(rintro wS ⟨e0, e1, e2⟩; go_simp; try with_reducible rfl)
   try simp only [sP]
   refine tkL 6 ?_ ?_ ?_
   rotate_left
   ·(rintro wS ⟨e0, e1, e2⟩; go_simp; try with_reducible rfl)
   try simp only [sP]
   refine tkL 7 ?_ ?_ ?_
   rotate_left
   ·(rintro wS ⟨e0, e1, e2⟩; go_simp; try with_reducible rfl)
   try simp only [sP]
   refine tkL 8 ?_ ?_ ?_
   rotate_left
   ·(rintro wS ⟨e0, e1, e2⟩; go_simp; try with_reducible rfl)
   try simp only [sP]
   refine tkL 9 ?_ ?_ ?_
   rotate_left
   ·(rintro wS ⟨e0, e1, e2⟩; go_simp; try with_reducible rfl)
   try simp only [sP]
   refine tkC 10 (fun K hK => ?_)
   try rw [if_pos (by rfl)]
   go_simp
   go_at_call 22
   refine (of_any _ _).mono ?_
   rintro e w8 ⟨rfl, hb8⟩
   replace HX := hide (HX.out.below hb8)
   replace HV := hide (HV.out.below hb8)
   replace HF := hide (HF.out.tr (keep_fr hb8))
   replace HR := hide (HR.out.trans' (keep_fr (s := s) (B := B) (N := w.heap.size) hb8) (fun _ _ h => .inl h))
   replace HU := hide (HU.out.below hb8 HU.out.lt)
   replace HT := hide (HT.out.below hb8 HT.out.lt)
   replace HI := hide (HI.out.below hb8 HI.out.lt)
   clear hb8
   try go_wp2_with fail
   refine hK.out _ _ (HS.out _ HR.out) (fun hHeld => ?_)
   clear hK K
   try simp only [sP]
   refine tkC 11 (fun K hK => ?_)
   try rw [if_pos (by rfl)]
   have f9 := HU.out.frozen
   have c90 := HU.out.cell 0
   have c91 := HU.out.cell 1
   go_simp
   try go_wp2_with fail
   have hU2 := (HU.out.set_ 0 (S cn)).set_ 1 (.bool false)
   have hks : Keep (fun k => k = r9) w8 ((w8.setCell ⟨r9, 0, none⟩ (S cn)).setCell ⟨r9, 1, none⟩ (.bool false)) := ((Keep.refl (fun k => k = r9) w8).setCell (p := ⟨r9, 0, none⟩) (fun _ => rfl) _).setCell (p := ⟨r9, 1, none⟩) (fun _ => rfl) _
   obtain ⟨w9, hw9⟩ : ∃ x, x = (w8.setCell ⟨r9, 0, none⟩ (S cn)).setCell ⟨r9, 1, none⟩ (.bool false) := ⟨_, rfl⟩
   rw [← hw9] at hU2 hks
   rw [show ((w8.setCell ⟨r9, 0, none⟩ (.string { data := cn.toArray })).setCell ⟨r9, 1, none⟩ (.bool false)) = w9 from hw9.symm]
   clear hw9 f9 c90 c91
   have hrr : r7 ≠ r9 := by omega
   have hne : ∀ k, k < w.heap.size → k ≠ r9 := fun k hk => by omega
   replace HX := hide (HX.out.high (hks.mono (fun k _ e => by omega)))
   replace HV := hide (HV.out.keepR hks (by omega))
   replace HF := hide (HF.out.trans' hks (fun k hk e => absurd e (hne k hk)))
   replace HT := hide (HT.out.keep hks hrr)
   have HU9 : Hid (Blk w9 r9 24 #[S cn, .bool false]) := hide (by simpa using hU2)
   replace HR := hide (HR.out.trans' hks (fun _ _ h => .inr h))
   clear hks hU2 HU
   refine hK.out _ _ (HS.out _ HR.out) (fun hHeld => ?_)
   clear hK K
   try simp only [sP]
   refine wpAnyH_done (by kernel_rfl) ?_ _
   refine NoPanic.normal ?_
   clear HS HR hHeld
   go_upto_region 12 with fail
   have HS : Hid (∀ w', Keep (Fr3 s B w.heap.size) w9 w' → w'.cell? ⟨r7, 0, none⟩ = some (S tn) ∧ w'.cell? ⟨r7, 1, none⟩ = some (.bool ta) ∧ w'.cell? ⟨r9, 0, none⟩ = some (S cn) ∧ w'.cell? ⟨r9, 1, none⟩ = some (.bool false)) := hide (fun w' hk => by
    have t0 := HT.out.keep hk (by unfold Fr3; omega)
    have t1 := HU9.out.keep hk (by unfold Fr3; omega)
    exact ⟨t0.cell 0, t0.cell 1, t1.cell 0, t1.cell 1⟩
    )
   have HR : Hid (Keep (Fr3 s B w.heap.size) w9 w9.drew) := hide (Keep.refl _ _).drew
   replace HX := hide HX.out.drew
   replace HV := hide HV.out.drew
   replace HF := hide HF.out.drew
   refine wp_region_noPanic ?_
   refine tkB HS HR.out (fun hHeld => ?_)
   obtain ⟨wA, hwA⟩ : ∃ x, x = w9.drew := ⟨_, rfl⟩
   rw [← hwA] at hHeld HX HV HF HR ⊢
   clear hwA
   refine tkL 0 ?_ ?_ ?_
   rotate_left
   ·(rintro wS ⟨e0, e1, e2, e3⟩; go_simp; try with_reducible rfl)
   try simp only [sP]
   refine tkL 1 ?_ ?_ ?_
   rotate_left
   ·(rintro wS ⟨e0, e1, e2, e3⟩; go_simp; try with_reducible rfl)
   try simp only [sP]
   refine tkL 2 ?_ ?_ ?_
   rotate_left
   ·(rintro wS ⟨e0, e1, e2, e3⟩; go_simp; try with_reducible rfl)
   try simp only [sP]
   refine tkC 3 (fun K hK => ?_)
   try rw [if_pos (by rfl)]
   go_simp
   go_at_call 23
   refine (HCL.out _).mono ?_
   rintro e wB ⟨rfl, hbB⟩
   replace HX := hide (HX.out.below hbB)
   replace HV := hide (HV.out.below hbB)
   replace HF := hide (HF.out.tr (keep_fr hbB))
   replace HR := hide (HR.out.tr (keep_fr hbB))
   clear hbB
   try go_wp2_with fail
   refine hK.out _ _ (HS.out _ HR.out) (fun hHeld => ?_)
   clear hK K
   try simp only [sP]
   refine tkL 4 ?_ ?_ ?_
   rotate_left
   ·(rintro wS ⟨e0, e1, e2, e3⟩; go_simp; try with_reducible rfl)
   try simp only [sP]
   refine tkR 5 ?_
   try simp only [sP]
   refine tkR 6 ?_
   try simp only [sP]
   refine tkR 7 ?_
   try simp only [sP]
   refine tkL 8 ?_ ?_ ?_
   rotate_left
   ·(rintro wS ⟨e0, e1, e2, e3⟩; go_simp; try with_reducible rfl)
   try simp only [sP]
   refine tkL 9 ?_ ?_ ?_
   rotate_left
   ·(rintro wS ⟨e0, e1, e2, e3⟩; go_simp; try with_reducible rfl)
   try simp only [sP]
   refine tkL 10 ?_ ?_ ?_
   rotate_left
   ·(rintro wS ⟨e0, e1, e2, e3⟩; go_simp; try with_reducible rfl)
   try simp only [sP]
   refine tkL 11 ?_ ?_ ?_
   rotate_left
   ·(rintro wS ⟨e0, e1, e2, e3⟩; go_simp; try with_reducible rfl)
   try simp only [sP]
   refine tkL 12 ?_ ?_ ?_
   rotate_left
   ·(rintro wS ⟨e0, e1, e2, e3⟩; go_simp; try with_reducible rfl)
   try simp only [sP]
   refine tkL 13 ?_ ?_ ?_
   rotate_left
   ·(rintro wS ⟨e0, e1, e2, e3⟩; go_simp; try with_reducible rfl)
   try simp only [sP]
   refine tkC 14 (fun K hK => ?_)
   try rw [if_pos (by rfl)]
   go_simp
   go_at_call 59
   refine (push_k HX.out HV.out (by first | omega | (have := hS.2.2.2; omega)) ⟨cn, false⟩).mono ?_
   rintro e wD ⟨rfl, hxD, hkD, hvD⟩
   replace HX := hide hxD
   replace HF := hide (HF.out.tr hkD)
   replace HR := hide (HR.out.tr hkD)
   have HVE := hide hvD
   clear hxD hkD hvD
   try go_wp2_with fail
   refine hK.out _ _ (HS.out _ HR.out) (fun hHeld => ?_)
   clear hK K
   try simp only [sP]
   refine tkL 15 ?_ ?_ ?_
   rotate_left
   ·(rintro wS ⟨e0, e1, e2, e3⟩; go_simp; try with_reducible rfl)
   try simp only [sP]
   refine tkL 16 ?_ ?_ ?_
   rotate_left
   ·(rintro wS ⟨e0, e1, e2, e3⟩; go_simp; try with_reducible rfl)
   try simp only [sP]
   refine wpAnyH_done (by kernel_rfl) ?_ _
   refine NoPanic.normal ?_
   go_wp2_with fail
   go_ret
   exact ⟨by rw [HM.out ()] <;> rfl, HX.out.mono (by omega), HF.out, fun x hx => HVE.out x (by rw [HM.out ()] at hx; exact hx)⟩
end Go.Proofs.YtmbegaobnpoefaaDoor
