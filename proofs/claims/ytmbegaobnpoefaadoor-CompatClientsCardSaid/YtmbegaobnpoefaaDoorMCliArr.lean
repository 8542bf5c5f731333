/- A state behind an instruction about an array: walked; no statement of the seat is proved here. (Written by gen/varr.py.) -/
import Derived.Test.YtmbegaobnpoefaaDoorMTk2
import Derived.Test.YtmbegaobnpoefaaDoorMTk
import Derived.Test.YtmbegaobnpoefaaDoorMCliV
import Derived.BigRegion
import Derived.Deep.RegionHeld3
namespace Go.Proofs.YtmbegaobnpoefaaDoor
open Go.RowKit Go.Maps
set_option linter.unusedVariables false
set_option linter.unusedSimpArgs false
set_option maxRecDepth 100000 in
theorem elem_any (n : List UInt8) (a : Bool) (w : World) : Calls Tryd.prog 70 #[.agg #[S n, .bool a]] w (Gives w (.agg #[S n, .bool false])) := by
 have hb : ∀ o o', Below w.heap.size w ((w.alloc o).alloc o') := fun o o' => ((Below.refl _ _).alloc (Nat.le_refl _) o).alloc (by simp) o'
 go_enter Tryd.func70, Tryd.ntmps70
 go_wp2_with fail
 refine bodyPost_ret (v := .agg #[S n, .bool false]) ?_ rfl ?_
 ·simp [results, Tryd.results70, go_sem]
 ·exact ⟨rfl, hb _ _⟩
theorem null_any (w : World) : Calls Tryd.prog 60 #[] w (Gives w (.agg #[S [110, 117, 108, 108], .bool false])) := nothing_any w
theorem po_len {T : List Fc} {want : List Ty} {v v1 : Vs} (h : poM T want v = some v1) : v1.st.length ≤ v.st.length := by
 unfold poM at h
 rw [Option.map_eq_some_iff] at h
 obtain ⟨r, hr, rfl⟩ := h
 exact popR_len _ _ _ hr
set_option maxRecDepth 100000 in
set_option maxHeartbeats 4000000 in
theorem arr22 (w : World) (B q p gi g m s n : Nat) (T : List Fc) (f : Fl) (b : Bd) (sg : Sg) (va vd : Value) (v : Vs) (a : Int) (h : Sx w B q gi g m s n T f b sg va vd) (hv : WsE w B p v) (hS : VsS v) (hn : n ≤ 6000000000000000) :
  Calls Tryd.prog 68 #[.pointer (some ⟨q, 0, none⟩), .pointer (some ⟨p, 0, none⟩), .agg #[.int .i64 22, .int .i64 a]] w (StpEnd w B q p gi g m s n T f b sg va vd 100000 (arrM T f.ppl b.sk 22 a.toNat v)) := by
 obtain ⟨hBp, hpl⟩ := hv.n.hp
 have hlt := h.lt
 have hBw := h.hB
 obtain ⟨w1, hw1⟩ : ∃ w1, w1 = w.alloc (.cells #[.int .i64 22, .int .i64 a] 87) := ⟨_, rfl⟩
 have hb1 : Blk w1 w.heap.size 87 #[.int .i64 22, .int .i64 a] := by rw [hw1]; exact Blk.new _ _ _
 have hbb : Below w.heap.size w w1 := by rw [hw1]; exact (Below.refl _ w).alloc (Nat.le_refl _) _
 have HX := hide (h.below hbb)
 have HV := hide (hv.n.below hbb)
 have HF : Hid (Keep (Fr3 s B w.heap.size) w w1) := hide (keep_fr hbb)
 have HI : Hid (Blk w1 w.heap.size 87 #[.int .i64 22, .int .i64 a]) := hide hb1
 have i0 : w1.cell? ⟨w.heap.size, 0, none⟩ = some (.int .i64 22) := hb1.cell 0
 have i1 : w1.cell? ⟨w.heap.size, 1, none⟩ = some (.int .i64 a) := hb1.cell 1
 have hwl : w.heap.size < w1.heap.size := hb1.lt
 clear h hbb hb1
 go_enter Tryd.func68, Tryd.ntmps68
 go_upto_region 1 with fail
 rw [← hw1]
 clear hw1
 have hS2 : v.st.length ≤ 2000 := hS.2.2.2
 have hS3 : (dr v).st.length ≤ 100000 := by simp [dr]; omega
 rcases hL : v.st.getLast? with _ | ⟨tn, ta⟩
 ·have HM : Hid (∀ _ : Unit, arrM T f.ppl b.sk 22 a.toNat v = none) := hide (fun _ => by unfold arrM; rw [if_pos rfl, hL])
  have HTK : Hid (TkE B q gi g m s T f b sg va vd w.heap.size p (v) (.tuple #[.agg #[S [], .bool false], .bool false]) (dr (v))) := hide (fun ww n' hx hv => by have := take_k hx hv (by have := hS.2.2.2; first | omega | (simp [dr]; omega)); rw [hL] at this; exact this)
  clear hL
  go_upto_region 3 with (go_at_call 61; refine (HTK.out _ _ HX.out HV.out).mono ?_; rintro e w3 ⟨rfl, hx3, hk3, hv3⟩; replace HX := hide hx3; replace HF := hide (HF.out.tr hk3); replace HI := hide (HI.out.keep hk3 (by unfold Fr3; omega)); replace HV := hide hv3; clear hx3 hk3 hv3)
  obtain ⟨w4, hw4⟩ : ∃ x, x = w3.alloc (.cells #[S [], .bool false] 24) := ⟨_, rfl⟩
  obtain ⟨r7, hr7⟩ : ∃ x, x = w3.heap.size := ⟨_, rfl⟩
  have HT : Hid (Blk w4 r7 24 #[S [], .bool false]) := hide (by rw [hw4, hr7]; exact Blk.new _ _ _)
  have hl_r7 : w.heap.size ≤ r7 := by rw [hr7]; exact HF.out.size
  have hbel : Below w3.heap.size w3 w4 := by rw [hw4]; exact (Below.refl _ _).alloc (Nat.le_refl _) _
  replace HX := hide (HX.out.below hbel)
  replace HV := hide (HV.out.below hbel)
  replace HF := hide (HF.out.tr (keep_fr hbel))
  replace HI := hide (HI.out.below hbel HI.out.lt)
  rw [← hw4]
  rw [← hr7]
  clear hw4 hr7 hbel
  clear HTK i0 i1
  have HS : Hid (∀ w', Keep (Fr3 s B w.heap.size) w4 w' → w'.cell? ⟨r7, 0, none⟩ = some (S []) ∧ w'.cell? ⟨r7, 1, none⟩ = some (.bool false)) := hide (fun w' hk => by
   have t0 := HT.out.keep hk (by unfold Fr3; omega)
   exact ⟨t0.cell 0, t0.cell 1⟩
   )
  have HR : Hid (Keep (Fr3 s B w.heap.size) w4 w4.drew) := hide (Keep.refl _ _).drew
  replace HX := hide HX.out.drew
  replace HV := hide HV.out.drew
  replace HF := hide HF.out.drew
  refine wp_region_noPanic ?_
  refine tkB HS HR.out (fun hHeld => ?_)
  obtain ⟨w5, hw5⟩ : ∃ x, x = w4.drew := ⟨_, rfl⟩
  rw [← hw5] at hHeld HX HV HF HR ⊢
  clear hw5
  refine tkL 0 ?_ ?_ ?_
  rotate_left
  ·(rintro wS ⟨e0, e1⟩; go_simp; try with_reducible rfl)
  try simp only [sP]
  refine tkL 1 ?_ ?_ ?_
  rotate_left
  ·(rintro wS ⟨e0, e1⟩; go_simp; try with_reducible rfl)
  try simp only [sP]
  refine tkR 2 ?_
  try simp only [sP]
  refine tkR 3 ?_
  try simp only [sP]
  refine tkR 4 ?_
  try simp only [sP]
  refine tkR 5 ?_
  try simp only [sP]
  refine tkR 6 ?_
  try simp only [sP]
  refine tkR 7 ?_
  try simp only [sP]
  refine tkR 8 ?_
  try simp only [sP]
  refine tkL 9 ?_ ?_ ?_
  rotate_left
  ·(rintro wS ⟨e0, e1⟩; go_simp; try with_reducible rfl)
  try simp only [sP]
  refine tkL 10 ?_ ?_ ?_
  rotate_left
  ·(rintro wS ⟨e0, e1⟩; go_simp; try with_reducible rfl)
  try simp only [sP]
  refine tkR 11 ?_
  try simp only [sP]
  refine tkR 12 ?_
  try simp only [sP]
  refine tkR 13 ?_
  try simp only [sP]
  refine tkR 14 ?_
  try simp only [sP]
  refine tkL 15 ?_ ?_ ?_
  rotate_left
  ·(rintro wS ⟨e0, e1⟩; go_simp; try with_reducible rfl)
  try simp only [sP]
  refine tkL 16 ?_ ?_ ?_
  rotate_left
  ·(rintro wS ⟨e0, e1⟩; go_simp; try with_reducible rfl)
  try simp only [sP]
  refine wpAnyH_done (by kernel_rfl) ?_ _
  refine NoPanic.normal ?_
  go_wp2_with fail
  go_ret
  exact ⟨by rw [HM.out ()] <;> rfl, HX.out.mono (by omega), HF.out, fun x hx => by rw [HM.out ()] at hx; cases hx⟩
 ·have HTK : Hid (TkE B q gi g m s T f b sg va vd w.heap.size p (v) (.tuple #[.agg #[S tn, .bool ta], .bool true]) (dr (v))) := hide (fun ww n' hx hv => by have := take_k hx hv (by have := hS.2.2.2; first | omega | (simp [dr]; omega)); rw [hL] at this; exact this)
  go_upto_region 3 with (go_at_call 61; refine (HTK.out _ _ HX.out HV.out).mono ?_; rintro e w3 ⟨rfl, hx3, hk3, hv3⟩; replace HX := hide hx3; replace HF := hide (HF.out.tr hk3); replace HI := hide (HI.out.keep hk3 (by unfold Fr3; omega)); replace HV := hide hv3; clear hx3 hk3 hv3)
  obtain ⟨w4, hw4⟩ : ∃ x, x = w3.alloc (.cells #[S tn, .bool ta] 24) := ⟨_, rfl⟩
  obtain ⟨r7, hr7⟩ : ∃ x, x = w3.heap.size := ⟨_, rfl⟩
  have HT : Hid (Blk w4 r7 24 #[S tn, .bool ta]) := hide (by rw [hw4, hr7]; exact Blk.new _ _ _)
  have hl_r7 : w.heap.size ≤ r7 := by rw [hr7]; exact HF.out.size
  have hbel : Below w3.heap.size w3 w4 := by rw [hw4]; exact (Below.refl _ _).alloc (Nat.le_refl _) _
  replace HX := hide (HX.out.below hbel)
  replace HV := hide (HV.out.below hbel)
  replace HF := hide (HF.out.tr (keep_fr hbel))
  replace HI := hide (HI.out.below hbel HI.out.lt)
  rw [← hw4]
  rw [← hr7]
  clear hw4 hr7 hbel
  clear HTK i0 i1
  cases ta
  case true =>
   have HM : Hid (∀ _ : Unit, arrM T f.ppl b.sk 22 a.toNat v = puM b.sk ⟨[105, 110, 116], false⟩ (dr v)) := hide (fun _ => by unfold arrM; rw [if_pos rfl, hL]; exact if_pos (.inl rfl))
   clear hL
   have HS : Hid (∀ w', Keep (Fr3 s B w.heap.size) w4 w' → w'.cell? ⟨r7, 0, none⟩ = some (S tn) ∧ w'.cell? ⟨r7, 1, none⟩ = some (.bool true)) := hide (fun w' hk => by
    have t0 := HT.out.keep hk (by unfold Fr3; omega)
    exact ⟨t0.cell 0, t0.cell 1⟩
    )
   have HR : Hid (Keep (Fr3 s B w.heap.size) w4 w4.drew) := hide (Keep.refl _ _).drew
   replace HX := hide HX.out.drew
   replace HV := hide HV.out.drew
   replace HF := hide HF.out.drew
   refine wp_region_noPanic ?_
   refine tkB HS HR.out (fun hHeld => ?_)
   obtain ⟨w5, hw5⟩ : ∃ x, x = w4.drew := ⟨_, rfl⟩
   rw [← hw5] at hHeld HX HV HF HR ⊢
   clear hw5
   refine tkL 0 ?_ ?_ ?_
   rotate_left
   ·(rintro wS ⟨e0, e1⟩; go_simp; try with_reducible rfl)
   try simp only [sP]
   refine tkL 1 ?_ ?_ ?_
   rotate_left
   ·(rintro wS ⟨e0, e1⟩; go_simp; try with_reducible rfl)
   try simp only [sP]
   refine tkL 2 ?_ ?_ ?_
   rotate_left
   ·(rintro wS ⟨e0, e1⟩; go_simp; try with_reducible rfl)
   try simp only [sP]
   refine tkL 3 ?_ ?_ ?_
   rotate_left
   ·(rintro wS ⟨e0, e1⟩; go_simp; try with_reducible rfl)
   try simp only [sP]
   refine tkL 4 ?_ ?_ ?_
   rotate_left
   ·(rintro wS ⟨e0, e1⟩; go_simp; try with_reducible rfl)
   try simp only [sP]
   refine tkR 5 ?_
   try simp only [sP]
   refine tkR 6 ?_
   try simp only [sP]
   refine tkR 7 ?_
   try simp only [sP]
   refine tkL 8 ?_ ?_ ?_
   rotate_left
   ·(rintro wS ⟨e0, e1⟩; go_simp; try with_reducible rfl)
   try simp only [sP]
   refine tkL 9 ?_ ?_ ?_
   rotate_left
   ·(rintro wS ⟨e0, e1⟩; go_simp; try with_reducible rfl)
   try simp only [sP]
   refine tkL 10 ?_ ?_ ?_
   rotate_left
   ·(rintro wS ⟨e0, e1⟩; go_simp; try with_reducible rfl)
   try simp only [sP]
   refine tkL 11 ?_ ?_ ?_
   rotate_left
   ·(rintro wS ⟨e0, e1⟩; go_simp; try with_reducible rfl)
   try simp only [sP]
   refine tkL 12 ?_ ?_ ?_
   rotate_left
   ·(rintro wS ⟨e0, e1⟩; go_simp; try with_reducible rfl)
   try simp only [sP]
   refine tkC 13 (fun K hK => ?_)
   try rw [if_pos (by rfl)]
   go_simp
   go_at_call 12
   refine (int_any _).mono ?_
   rintro e w7 ⟨rfl, hb7⟩
   replace HX := hide (HX.out.below hb7)
   replace HV := hide (HV.out.below hb7)
   replace HF := hide (HF.out.tr (keep_fr hb7))
   replace HR := hide (HR.out.tr (keep_fr hb7))
   clear hb7
   try go_wp2_with fail
   refine hK.out _ _ (HS.out _ HR.out) (fun hHeld => ?_)
   clear hK K
   try simp only [sP]
   refine tkC 14 (fun K hK => ?_)
   try rw [if_pos (by rfl)]
   go_simp
   go_at_call 59
   refine (push_k HX.out HV.out (by first | omega | (have := hS.2.2.2; omega)) ⟨[105, 110, 116], false⟩).mono ?_
   rintro e w8 ⟨rfl, hx8, hk8, hv8⟩
   replace HX := hide hx8
   replace HF := hide (HF.out.tr hk8)
   replace HR := hide (HR.out.tr hk8)
   have HVE := hide hv8
   clear hx8 hk8 hv8
   try go_wp2_with fail
   refine hK.out _ _ (HS.out _ HR.out) (fun hHeld => ?_)
   clear hK K
   try simp only [sP]
   refine tkL 15 ?_ ?_ ?_
   rotate_left
   ·(rintro wS ⟨e0, e1⟩; go_simp; try with_reducible rfl)
   try simp only [sP]
   refine tkL 16 ?_ ?_ ?_
   rotate_left
   ·(rintro wS ⟨e0, e1⟩; go_simp; try with_reducible rfl)
   try simp only [sP]
   refine wpAnyH_done (by kernel_rfl) ?_ _
   refine NoPanic.normal ?_
   go_wp2_with fail
   go_ret
   exact ⟨by rw [HM.out ()] <;> rfl, HX.out.mono (by omega), HF.out, fun x hx => HVE.out x (by rw [HM.out ()] at hx; exact hx)⟩
  case false =>
   by_cases e : tn = [110, 117, 108, 108]
   ·subst e
    have HM : Hid (∀ _ : Unit, arrM T f.ppl b.sk 22 a.toNat v = puM b.sk ⟨[105, 110, 116], false⟩ (dr v)) := hide (fun _ => by unfold arrM; rw [if_pos rfl, hL]; exact if_pos (.inr rfl))
    clear hL
    have HS : Hid (∀ w', Keep (Fr3 s B w.heap.size) w4 w' → w'.cell? ⟨r7, 0, none⟩ = some (S [110, 117, 108, 108]) ∧ w'.cell? ⟨r7, 1, none⟩ = some (.bool false)) := hide (fun w' hk => by
     have t0 := HT.out.keep hk (by unfold Fr3; omega)
     exact ⟨t0.cell 0, t0.cell 1⟩
     )
    have HR : Hid (Keep (Fr3 s B w.heap.size) w4 w4.drew) := hide (Keep.refl _ _).drew
    replace HX := hide HX.out.drew
    replace HV := hide HV.out.drew
    replace HF := hide HF.out.drew
    refine wp_region_noPanic ?_
    refine tkB HS HR.out (fun hHeld => ?_)
    obtain ⟨w5, hw5⟩ : ∃ x, x = w4.drew := ⟨_, rfl⟩
    rw [← hw5] at hHeld HX HV HF HR ⊢
    clear hw5
    refine tkL 0 ?_ ?_ ?_
    rotate_left
    ·(rintro wS ⟨e0, e1⟩; go_simp; try with_reducible rfl)
    try simp only [sP]
    refine tkL 1 ?_ ?_ ?_
    rotate_left
    ·(rintro wS ⟨e0, e1⟩; go_simp; try with_reducible rfl)
    try simp only [sP]
    refine tkL 2 ?_ ?_ ?_
    rotate_left
    ·(rintro wS ⟨e0, e1⟩; go_simp; try with_reducible rfl)
    try simp only [sP]
    refine tkL 3 ?_ ?_ ?_
    rotate_left
    ·(rintro wS ⟨e0, e1⟩; go_simp; try with_reducible rfl)
    try simp only [sP]
    refine tkL 4 ?_ ?_ ?_
    rotate_left
    ·(rintro wS ⟨e0, e1⟩; go_simp; try with_reducible rfl)
    try simp only [sP]
    refine tkL 5 ?_ ?_ ?_
    rotate_left
    ·(rintro wS ⟨e0, e1⟩; go_simp; try with_reducible rfl)
    try simp only [sP]
    refine tkC 6 (fun K hK => ?_)
    try rw [if_pos (by rfl)]
    go_simp
    go_at_call 60
    refine (null_any _).mono ?_
    rintro e w6 ⟨rfl, hb6⟩
    replace HX := hide (HX.out.below hb6)
    replace HV := hide (HV.out.below hb6)
    replace HF := hide (HF.out.tr (keep_fr hb6))
    replace HR := hide (HR.out.tr (keep_fr hb6))
    clear hb6
    try go_wp2_with fail
    refine hK.out _ _ (HS.out _ HR.out) (fun hHeld => ?_)
    clear hK K
    try simp only [sP]
    refine tkL 7 ?_ ?_ ?_
    rotate_left
    ·(rintro wS ⟨e0, e1⟩; go_simp; try with_reducible rfl)
    try simp only [sP]
    refine tkL 8 ?_ ?_ ?_
    rotate_left
    ·(rintro wS ⟨e0, e1⟩; go_simp; try with_reducible rfl)
    try simp only [sP]
    refine tkL 9 ?_ ?_ ?_
    rotate_left
    ·(rintro wS ⟨e0, e1⟩; go_simp; try with_reducible rfl)
    try simp only [sP]
    refine tkL 10 ?_ ?_ ?_
    rotate_left
    ·(rintro wS ⟨e0, e1⟩; go_simp; try with_reducible rfl)
    try simp only [sP]
    refine tkL 11 ?_ ?_ ?_
    rotate_left
    ·(rintro wS ⟨e0, e1⟩; go_simp; try with_reducible rfl)
    try simp only [sP]
    refine tkL 12 ?_ ?_ ?_
    rotate_left
    ·(rintro wS ⟨e0, e1⟩; go_simp; try with_reducible rfl)
    try simp only [sP]
    refine tkC 13 (fun K hK => ?_)
    try rw [if_pos (by rfl)]
    go_simp
    go_at_call 12
    refine (int_any _).mono ?_
    rintro e w7 ⟨rfl, hb7⟩
    replace HX := hide (HX.out.below hb7)
    replace HV := hide (HV.out.below hb7)
    replace HF := hide (HF.out.tr (keep_fr hb7))
    replace HR := hide (HR.out.tr (keep_fr hb7))
    clear hb7
    try go_wp2_with fail
    refine hK.out _ _ (HS.out _ HR.out) (fun hHeld => ?_)
    clear hK K
    try simp only [sP]
    refine tkC 14 (fun K hK => ?_)
    try rw [if_pos (by rfl)]
    go_simp
    go_at_call 59
    refine (push_k HX.out HV.out (by first | omega | (have := hS.2.2.2; omega)) ⟨[105, 110, 116], false⟩).mono ?_
    rintro e w8 ⟨rfl, hx8, hk8, hv8⟩
    replace HX := hide hx8
    replace HF := hide (HF.out.tr hk8)
    replace HR := hide (HR.out.tr hk8)
    have HVE := hide hv8
    clear hx8 hk8 hv8
    try go_wp2_with fail
    refine hK.out _ _ (HS.out _ HR.out) (fun hHeld => ?_)
    clear hK K
    try simp only [sP]
    refine tkL 15 ?_ ?_ ?_
    rotate_left
    ·(rintro wS ⟨e0, e1⟩; go_simp; try with_reducible rfl)
    try simp only [sP]
    refine tkL 16 ?_ ?_ ?_
    rotate_left
    ·(rintro wS ⟨e0, e1⟩; go_simp; try with_reducible rfl)
    try simp only [sP]
    refine wpAnyH_done (by kernel_rfl) ?_ _
    refine NoPanic.normal ?_
    go_wp2_with fail
    go_ret
    exact ⟨by rw [HM.out ()] <;> rfl, HX.out.mono (by omega), HF.out, fun x hx => HVE.out x (by rw [HM.out ()] at hx; exact hx)⟩
   ·have HM : Hid (∀ _ : Unit, arrM T f.ppl b.sk 22 a.toNat v = none) := hide (fun _ => by unfold arrM; rw [if_pos rfl, hL]; exact if_neg (by simp [kN, nNull, e]))
    clear hL
    have e' : ¬ ([110, 117, 108, 108] : List UInt8) = tn := fun h => e h.symm
    have HS : Hid (∀ w', Keep (Fr3 s B w.heap.size) w4 w' → w'.cell? ⟨r7, 0, none⟩ = some (S tn) ∧ w'.cell? ⟨r7, 1, none⟩ = some (.bool false)) := hide (fun w' hk => by
     have t0 := HT.out.keep hk (by unfold Fr3; omega)
     exact ⟨t0.cell 0, t0.cell 1⟩
     )
    have HR : Hid (Keep (Fr3 s B w.heap.size) w4 w4.drew) := hide (Keep.refl _ _).drew
    replace HX := hide HX.out.drew
    replace HV := hide HV.out.drew
    replace HF := hide HF.out.drew
    refine wp_region_noPanic ?_
    refine tkB HS HR.out (fun hHeld => ?_)
    obtain ⟨w5, hw5⟩ : ∃ x, x = w4.drew := ⟨_, rfl⟩
    rw [← hw5] at hHeld HX HV HF HR ⊢
    clear hw5
    refine tkL 0 ?_ ?_ ?_
    rotate_left
    ·(rintro wS ⟨e0, e1⟩; go_simp; try with_reducible rfl)
    try simp only [sP]
    refine tkL 1 ?_ ?_ ?_
    rotate_left
    ·(rintro wS ⟨e0, e1⟩; go_simp; try with_reducible rfl)
    try simp only [sP]
    refine tkL 2 ?_ ?_ ?_
    rotate_left
    ·(rintro wS ⟨e0, e1⟩; go_simp; try with_reducible rfl)
    try simp only [sP]
    refine tkL 3 ?_ ?_ ?_
    rotate_left
    ·(rintro wS ⟨e0, e1⟩; go_simp; try with_reducible rfl)
    try simp only [sP]
    refine tkL 4 ?_ ?_ ?_
    rotate_left
    ·(rintro wS ⟨e0, e1⟩; go_simp; try with_reducible rfl)
    try simp only [sP]
    refine tkL 5 ?_ ?_ ?_
    rotate_left
    ·(rintro wS ⟨e0, e1⟩; go_simp; try with_reducible rfl)
    try simp only [sP]
    refine tkC 6 (fun K hK => ?_)
    try rw [if_pos (by rfl)]
    go_simp
    go_at_call 60
    refine (null_any _).mono ?_
    rintro e w6 ⟨rfl, hb6⟩
    replace HX := hide (HX.out.below hb6)
    replace HV := hide (HV.out.below hb6)
    replace HF := hide (HF.out.tr (keep_fr hb6))
    replace HR := hide (HR.out.tr (keep_fr hb6))
    clear hb6
    try go_wp2_with fail
    refine hK.out _ _ (HS.out _ HR.out) (fun hHeld => ?_)
    clear hK K
    try simp only [sP]
    refine tkL 7 ?_ ?_ ?_
    rotate_left
    ·(rintro wS ⟨e0, e1⟩; go_simp; try with_reducible rfl)
    try simp only [sP]
    refine tkL 8 ?_ ?_ ?_
    rotate_left
    ·(rintro wS ⟨e0, e1⟩; go_simp; try with_reducible rfl)
    try simp only [sP]
    refine tkL 9 ?_ ?_ ?_
    rotate_left
    ·(rintro wS ⟨e0, e1⟩; go_simp; try with_reducible rfl)
    try simp only [sP]
    refine tkL 10 ?_ ?_ ?_
    rotate_left
    ·(rintro wS ⟨e0, e1⟩; go_simp; try with_reducible rfl)
    try simp only [sP]
    refine tkR 11 ?_
    try simp only [sP]
    refine tkR 12 ?_
    try simp only [sP]
    refine tkR 13 ?_
    try simp only [sP]
    refine tkR 14 ?_
    try simp only [sP]
    refine tkL 15 ?_ ?_ ?_
    rotate_left
    ·(rintro wS ⟨e0, e1⟩; go_simp; try with_reducible rfl)
    try simp only [sP]
    refine tkL 16 ?_ ?_ ?_
    rotate_left
    ·(rintro wS ⟨e0, e1⟩; go_simp; try with_reducible rfl)
    try simp only [sP]
    refine wpAnyH_done (by kernel_rfl) ?_ _
    refine NoPanic.normal ?_
    go_wp2_with fail
    go_ret
    exact ⟨by rw [HM.out ()] <;> rfl, HX.out.mono (by omega), HF.out, fun x hx => by rw [HM.out ()] at hx; cases hx⟩
set_option maxRecDepth 100000 in
set_option maxHeartbeats 4000000 in
theorem arr21 (w : World) (B q p gi g m s n : Nat) (T : List Fc) (f : Fl) (b : Bd) (sg : Sg) (va vd : Value) (v : Vs) (a : Nat) (h : Sx w B q gi g m s n T f b sg va vd) (hv : WsE w B p v) (hS : VsS v) (hn : n ≤ 6000000000000000) (ha : a < f.tl) :
  Calls Tryd.prog 68 #[.pointer (some ⟨q, 0, none⟩), .pointer (some ⟨p, 0, none⟩), .agg #[.int .i64 21, .int .i64 (a : Int)]] w (StpEnd w B q p gi g m s n T f b sg va vd 100000 (arrM T f.ppl b.sk 21 a v)) := by
 obtain ⟨hBp, hpl⟩ := hv.n.hp
 have hlt := h.lt
 have hBw := h.hB
 obtain ⟨w1, hw1⟩ : ∃ w1, w1 = w.alloc (.cells #[.int .i64 21, .int .i64 (a : Int)] 87) := ⟨_, rfl⟩
 have hb1 : Blk w1 w.heap.size 87 #[.int .i64 21, .int .i64 (a : Int)] := by rw [hw1]; exact Blk.new _ _ _
 have hbb : Below w.heap.size w w1 := by rw [hw1]; exact (Below.refl _ w).alloc (Nat.le_refl _) _
 have HX := hide (h.below hbb)
 have HV := hide (hv.n.below hbb)
 have HF : Hid (Keep (Fr3 s B w.heap.size) w w1) := hide (keep_fr hbb)
 have HI : Hid (Blk w1 w.heap.size 87 #[.int .i64 21, .int .i64 (a : Int)]) := hide hb1
 have i0 : w1.cell? ⟨w.heap.size, 0, none⟩ = some (.int .i64 21) := hb1.cell 0
 have i1 : w1.cell? ⟨w.heap.size, 1, none⟩ = some (.int .i64 (a : Int)) := hb1.cell 1
 have hwl : w.heap.size < w1.heap.size := hb1.lt
 clear h hbb hb1
 go_enter Tryd.func68, Tryd.ntmps68
 go_upto_region 1 with fail
 rw [← hw1]
 clear hw1
 have hS2 : v.st.length ≤ 2000 := hS.2.2.2
 obtain ⟨bt, ot, htA, hbF, hbt, hct⟩ := Rd.rec_ (f := Ty.cells) (fun _ => rfl) HX.out.fl.po.tr HX.out.fl.po.tL a ha
 have hXe : tyAt f.ppl.tys a = f.tys[a]'(by rw [HX.out.fl.po.tL]; exact ha) := by unfold tyAt; exact List.getElem_eq_getD _ |>.symm
 generalize f.tys[a]'(by rw [HX.out.fl.po.tL]; exact ha) = X at hct hXe
 obtain ⟨xn, xa⟩ := X
 have hbF' : ¬ bt = s ∧ bt < B := by omega
 have HE0 : Hid (w1.cell? ⟨bt, ot + a * 2, none⟩ = some (S xn)) := hide (hct 0 _ rfl)
 have HE1 : Hid (w1.cell? ⟨bt, ot + a * 2 + 1, none⟩ = some (.bool xa)) := hide (hct 1 _ rfl)
 clear hct hbF
 have hqs := HX.out.qs
 go_upto_region 4 with fail
 clear i0 i1
 have HS : Hid (∀ w', Keep (Fr3 s B w.heap.size) w1 w' → w'.cell? ⟨w.heap.size, 0, none⟩ = some (.int .i64 21) ∧ w'.cell? ⟨w.heap.size, 1, none⟩ = some (.int .i64 (a : Int)) ∧ w'.cell? ⟨q, 7, none⟩ = some (.slice (some ⟨bt, ot, none⟩) f.tl f.tc) ∧ w'.cell? ⟨bt, ot + a * 2, none⟩ = some (S xn) ∧ w'.cell? ⟨bt, ot + a * 2 + 1, none⟩ = some (.bool xa)) := hide (fun w' hk => by
  have t0 := HI.out.keep hk (by unfold Fr3; omega)
  have t1 := HX.out.kq.keep hk (by unfold Fr3; omega)
  have t2 := t1.cell 7
  have t3 : ∀ i, w'.cell? ⟨bt, i, none⟩ = w1.cell? ⟨bt, i, none⟩ := fun i => hk.cell (p := ⟨bt, i, none⟩) hbt (by unfold Fr3; show ¬ (bt = s ∨ B ≤ bt ∧ bt < w.heap.size); omega)
  exact ⟨t0.cell 0, t0.cell 1, by rw [t2]; simp [htA], (t3 _).trans HE0.out, (t3 _).trans HE1.out⟩
  )
 have HR : Hid (Keep (Fr3 s B w.heap.size) w1 w1.drew) := hide (Keep.refl _ _).drew
 replace HX := hide HX.out.drew
 replace HV := hide HV.out.drew
 replace HF := hide HF.out.drew
 refine wp_region_noPanic ?_
 refine tkB HS HR.out (fun hHeld => ?_)
 obtain ⟨w2, hw2⟩ : ∃ x, x = w1.drew := ⟨_, rfl⟩
 rw [← hw2] at hHeld HX HV HF HR ⊢
 clear hw2
 refine tkL 0 ?_ ?_ ?_
 rotate_left
 ·(rintro wS ⟨e0, e1, e2, e3, e4⟩; go_simp; try with_reducible rfl)
 try simp only [sP]
 refine tkL 1 ?_ ?_ ?_
 rotate_left
 ·(rintro wS ⟨e0, e1, e2, e3, e4⟩; go_simp; try with_reducible rfl)
 try simp only [sP]
 refine tkL 2 ?_ ?_ ?_
 rotate_left
 ·(rintro wS ⟨e0, e1, e2, e3, e4⟩; go_simp; try with_reducible rfl)
 try simp only [sP]
 refine tkL 3 ?_ ?_ ?_
 rotate_left
 ·(rintro wS ⟨e0, e1, e2, e3, e4⟩; go_simp; try with_reducible rfl)
 try simp only [sP]
 refine tkL 4 ?_ ?_ ?_
 rotate_left
 ·(rintro wS ⟨e0, e1, e2, e3, e4⟩; go_simp; try with_reducible rfl)
 try simp only [sP]
 refine tkL 5 ?_ ?_ ?_
 rotate_left
 ·(rintro wS ⟨e0, e1, e2, e3, e4⟩; go_simp; try with_reducible rfl)
 try simp only [sP]
 refine tkL 6 ?_ ?_ ?_
 rotate_left
 ·(rintro wS ⟨e0, e1, e2, e3, e4⟩; go_simp; try with_reducible rfl)
 try simp only [sP]
 refine tkL 7 ?_ ?_ ?_
 rotate_left
 ·(rintro wS ⟨e0, e1, e2, e3, e4⟩; go_simp; try with_reducible rfl)
 try simp only [sP]
 refine tkL 8 ?_ ?_ ?_
 rotate_left
 ·(rintro wS ⟨e0, e1, e2, e3, e4⟩; go_simp; try with_reducible rfl)
 try simp only [sP]
 refine tkL 9 ?_ ?_ ?_
 rotate_left
 ·(rintro wS ⟨e0, e1, e2, e3, e4⟩; go_simp; try with_reducible rfl)
 try simp only [sP]
 refine tkC 10 (fun K hK => ?_)
 try rw [if_pos (by rfl)]
 go_simp
 try go_wp2_with fail
 refine hK.out _ _ (HS.out _ (HR.out.tr (keep_fr ((Below.refl _ _).alloc (Nat.le_refl _) _)))) (fun hHeld => ?_)
 clear hK K
 try simp only [sP]
 refine tkC 11 (fun K hK => ?_)
 try rw [if_pos (by rfl)]
 go_simp
 try go_wp2_with fail
 refine hK.out _ _ (HS.out _ (HR.out.tr (keep_fr ((Below.refl _ _).alloc (Nat.le_refl _) _)))) (fun hHeld => ?_)
 clear hK K
 try simp only [sP]
 refine wpAnyH_done (by kernel_rfl) ?_ _
 refine NoPanic.normal ?_
 replace HI := hide (HI.out.keep HR.out (by unfold Fr3; omega))
 clear HR hHeld
 obtain ⟨w3, hw3⟩ : ∃ x, x = w2.alloc (.cells #[S xn, .bool xa] 24) := ⟨_, rfl⟩
 obtain ⟨r9, hr9⟩ : ∃ x, x = w2.heap.size := ⟨_, rfl⟩
 have HT : Hid (Blk w3 r9 24 #[S xn, .bool xa]) := hide (by rw [hw3, hr9]; exact Blk.new _ _ _)
 have hl_r9 : w.heap.size ≤ r9 := by rw [hr9]; exact HF.out.size
 have hbel : Below w2.heap.size w2 w3 := by rw [hw3]; exact (Below.refl _ _).alloc (Nat.le_refl _) _
 replace HX := hide (HX.out.below hbel)
 replace HV := hide (HV.out.below hbel)
 replace HF := hide (HF.out.tr (keep_fr hbel))
 replace HI := hide (HI.out.below hbel HI.out.lt)
 rw [show w2.alloc (.cells #[.string { data := xn.toArray }, .bool xa] 24) = w3 from hw3.symm]
 rw [← hr9]
 clear hw3 hr9 hbel HS HE0 HE1
 have i0 : w3.cell? ⟨w.heap.size, 0, none⟩ = some (.int .i64 21) := HI.out.cell 0
 have i1 : w3.cell? ⟨w.heap.size, 1, none⟩ = some (.int .i64 (a : Int)) := HI.out.cell 1
 go_upto_region 6 with fail
 clear i0 i1
 cases xa
 case false =>
  have HM : Hid (∀ _ : Unit, arrM T f.ppl b.sk 21 a v = none) := hide (fun _ => by unfold arrM; rw [if_neg (by decide), hXe]; exact if_pos rfl)
  have HS : Hid (∀ w', Keep (Fr3 s B w.heap.size) w3 w' → w'.cell? ⟨r9, 0, none⟩ = some (S xn) ∧ w'.cell? ⟨r9, 1, none⟩ = some (.bool false)) := hide (fun w' hk => by
   have t0 := HT.out.keep hk (by unfold Fr3; omega)
   exact ⟨t0.cell 0, t0.cell 1⟩
   )
  have HR : Hid (Keep (Fr3 s B w.heap.size) w3 w3.drew) := hide (Keep.refl _ _).drew
  replace HX := hide HX.out.drew
  replace HV := hide HV.out.drew
  replace HF := hide HF.out.drew
  refine wp_region_noPanic ?_
  refine tkB HS HR.out (fun hHeld => ?_)
  obtain ⟨w4, hw4⟩ : ∃ x, x = w3.drew := ⟨_, rfl⟩
  rw [← hw4] at hHeld HX HV HF HR ⊢
  clear hw4
  refine tkL 0 ?_ ?_ ?_
  rotate_left
  ·(rintro wS ⟨e0, e1⟩; go_simp; try with_reducible rfl)
  try simp only [sP]
  refine tkL 1 ?_ ?_ ?_
  rotate_left
  ·(rintro wS ⟨e0, e1⟩; go_simp; try with_reducible rfl)
  try simp only [sP]
  refine tkL 2 ?_ ?_ ?_
  rotate_left
  ·(rintro wS ⟨e0, e1⟩; go_simp; try with_reducible rfl)
  try simp only [sP]
  refine tkR 3 ?_
  try simp only [sP]
  refine tkR 4 ?_
  try simp only [sP]
  refine tkR 5 ?_
  try simp only [sP]
  refine tkR 6 ?_
  try simp only [sP]
  refine tkR 7 ?_
  try simp only [sP]
  refine tkR 8 ?_
  try simp only [sP]
  refine tkR 9 ?_
  try simp only [sP]
  refine tkR 10 ?_
  try simp only [sP]
  refine tkL 11 ?_ ?_ ?_
  rotate_left
  ·(rintro wS ⟨e0, e1⟩; go_simp; try with_reducible rfl)
  try simp only [sP]
  refine tkL 12 ?_ ?_ ?_
  rotate_left
  ·(rintro wS ⟨e0, e1⟩; go_simp; try with_reducible rfl)
  try simp only [sP]
  refine wpAnyH_done (by kernel_rfl) ?_ _
  refine NoPanic.normal ?_
  go_wp2_with fail
  go_ret
  exact ⟨by rw [HM.out ()] <;> rfl, HX.out.mono (by omega), HF.out, fun x hx => by rw [HM.out ()] at hx; cases hx⟩
 case true =>
  rcases hP : poM T [⟨xn, true⟩, ⟨[105, 110, 116], false⟩, ⟨xn, false⟩] v with _ | v1
  ·have HM : Hid (∀ _ : Unit, arrM T f.ppl b.sk 21 a v = none) := hide (fun _ => by unfold arrM; rw [if_neg (by decide), hXe]; exact hP)
   have HPK : Hid (PkF B q gi g m s T f b sg va vd w.heap.size p (v) 3 ([⟨xn, true⟩, ⟨[105, 110, 116], false⟩, ⟨xn, false⟩] : List Ty)) := hide (fun ww n' AW cW hx hv hr hn => (pop_k hx hv hS [⟨xn, true⟩, ⟨[105, 110, 116], false⟩, ⟨xn, false⟩] hr (by first | rfl | assumption) (by omega) hn).mono (fun e w' hh => by obtain ⟨h1, h2, h3, h4⟩ := hh; rw [hP] at h1 h4; exact ⟨h1, h2, h3⟩))
   clear hP
   have HS : Hid (∀ w', Keep (Fr3 s B w.heap.size) w3 w' → w'.cell? ⟨r9, 0, none⟩ = some (S xn) ∧ w'.cell? ⟨r9, 1, none⟩ = some (.bool true)) := hide (fun w' hk => by
    have t0 := HT.out.keep hk (by unfold Fr3; omega)
    exact ⟨t0.cell 0, t0.cell 1⟩
    )
   have HR : Hid (Keep (Fr3 s B w.heap.size) w3 w3.drew) := hide (Keep.refl _ _).drew
   replace HX := hide HX.out.drew
   replace HV := hide HV.out.drew
   replace HF := hide HF.out.drew
   refine wp_region_noPanic ?_
   refine tkB HS HR.out (fun hHeld => ?_)
   obtain ⟨w4, hw4⟩ : ∃ x, x = w3.drew := ⟨_, rfl⟩
   rw [← hw4] at hHeld HX HV HF HR ⊢
   clear hw4
   refine tkL 0 ?_ ?_ ?_
   rotate_left
   ·(rintro wS ⟨e0, e1⟩; go_simp; try with_reducible rfl)
   try simp only [sP]
   refine tkL 1 ?_ ?_ ?_
   rotate_left
   ·(rintro wS ⟨e0, e1⟩; go_simp; try with_reducible rfl)
   try simp only [sP]
   refine tkL 2 ?_ ?_ ?_
   rotate_left
   ·(rintro wS ⟨e0, e1⟩; go_simp; try with_reducible rfl)
   try simp only [sP]
   refine tkL 3 ?_ ?_ ?_
   rotate_left
   ·(rintro wS ⟨e0, e1⟩; go_simp; try with_reducible rfl)
   try simp only [sP]
   refine tkL 4 ?_ ?_ ?_
   rotate_left
   ·(rintro wS ⟨e0, e1⟩; go_simp; try with_reducible rfl)
   try simp only [sP]
   refine tkL 5 ?_ ?_ ?_
   rotate_left
   ·(rintro wS ⟨e0, e1⟩; go_simp; try with_reducible rfl)
   try simp only [sP]
   refine tkL 7 ?_ ?_ ?_
   rotate_left
   ·(rintro wS ⟨e0, e1⟩; go_simp; try with_reducible rfl)
   try simp only [sP]
   refine tkC 6 (fun K hK => ?_)
   try rw [if_pos (by rfl)]
   go_simp
   go_at_call 12
   refine (int_any _).mono ?_
   rintro e w5 ⟨rfl, hb5⟩
   replace HX := hide (HX.out.below hb5)
   replace HV := hide (HV.out.below hb5)
   replace HF := hide (HF.out.tr (keep_fr hb5))
   replace HR := hide (HR.out.tr (keep_fr hb5))
   clear hb5
   try go_wp2_with fail
   refine hK.out _ _ (HS.out _ HR.out) (fun hHeld => ?_)
   clear hK K
   try simp only [sP]
   refine tkC 8 (fun K hK => ?_)
   try rw [if_pos (by rfl)]
   go_simp
   go_at_call 70
   refine (elem_any _ _ _).mono ?_
   rintro e w6 ⟨rfl, hb6⟩
   replace HX := hide (HX.out.below hb6)
   replace HV := hide (HV.out.below hb6)
   replace HF := hide (HF.out.tr (keep_fr hb6))
   replace HR := hide (HR.out.tr (keep_fr hb6))
   clear hb6
   try go_wp2_with fail
   refine hK.out _ _ (HS.out _ HR.out) (fun hHeld => ?_)
   clear hK K
   try simp only [sP]
   refine tkC 9 (fun K hK => ?_)
   try rw [if_pos (by rfl)]
   go_simp
   try go_wp2_with fail
   refine hK.out _ _ (HS.out _ (HR.out.tr (keep_fr ((Below.refl _ _).alloc (Nat.le_refl _) _)))) (fun hHeld => ?_)
   clear hK K
   try simp only [sP]
   obtain ⟨w7, hw7⟩ : ∃ x, x = w6.alloc (.cells #[S xn, .bool true, S [105, 110, 116], .bool false, S xn, .bool false] 24) := ⟨_, rfl⟩
   obtain ⟨r10, hr10⟩ : ∃ x, x = w6.heap.size := ⟨_, rfl⟩
   have HB : Hid (Blk w7 r10 24 #[S xn, .bool true, S [105, 110, 116], .bool false, S xn, .bool false]) := hide (by rw [hw7, hr10]; exact Blk.new _ _ _)
   have hl_r10 : w.heap.size ≤ r10 := by rw [hr10]; exact HF.out.size
   have hbel : Below w6.heap.size w6 w7 := by rw [hw7]; exact (Below.refl _ _).alloc (Nat.le_refl _) _
   replace HX := hide (HX.out.below hbel)
   replace HV := hide (HV.out.below hbel)
   replace HF := hide (HF.out.tr (keep_fr hbel))
   replace HR := hide (HR.out.tr (keep_fr hbel))
   rw [← hw7] at hHeld ⊢
   rw [← hr10]
   clear hw7 hr10 hbel
   refine tkC 10 (fun K hK => ?_)
   try rw [if_pos (by rfl)]
   go_simp
   go_at_call 62
   refine (HPK.out _ _ _ _ HX.out HV.out (Rd.of_blk HB.out (by unfold Fr3; omega) rfl) (by omega)).mono ?_
   rintro e w8 ⟨rfl, hx8, hk8⟩
   replace HX := hide hx8
   replace HF := hide (HF.out.tr hk8)
   replace HR := hide (HR.out.tr hk8)
   clear HV
   clear hx8 hk8
   try go_wp2_with fail
   refine hK.out _ _ (HS.out _ HR.out) (fun hHeld => ?_)
   clear hK K
   try simp only [sP]
   refine tkL 11 ?_ ?_ ?_
   rotate_left
   ·(rintro wS ⟨e0, e1⟩; go_simp; try with_reducible rfl)
   try simp only [sP]
   refine tkL 12 ?_ ?_ ?_
   rotate_left
   ·(rintro wS ⟨e0, e1⟩; go_simp; try with_reducible rfl)
   try simp only [sP]
   refine wpAnyH_done (by kernel_rfl) ?_ _
   refine NoPanic.normal ?_
   go_wp2_with fail
   go_ret
   exact ⟨by rw [HM.out ()] <;> rfl, HX.out.mono (by omega), HF.out, fun x hx => by rw [HM.out ()] at hx; cases hx⟩
  ·have HM : Hid (∀ _ : Unit, arrM T f.ppl b.sk 21 a v = some v1) := hide (fun _ => by unfold arrM; rw [if_neg (by decide), hXe]; exact hP)
   have HPK : Hid (PkT B q gi g m s T f b sg va vd w.heap.size p (v) 3 ([⟨xn, true⟩, ⟨[105, 110, 116], false⟩, ⟨xn, false⟩] : List Ty) v1) := hide (fun ww n' AW cW hx hv hr hn => (pop_k hx hv hS [⟨xn, true⟩, ⟨[105, 110, 116], false⟩, ⟨xn, false⟩] hr (by first | rfl | assumption) (by omega) hn).mono (fun e w' hh => by obtain ⟨h1, h2, h3, h4⟩ := hh; rw [hP] at h1 h4; exact ⟨h1, h2, h3, h4 _ rfl⟩))
   clear hP
   have HS : Hid (∀ w', Keep (Fr3 s B w.heap.size) w3 w' → w'.cell? ⟨r9, 0, none⟩ = some (S xn) ∧ w'.cell? ⟨r9, 1, none⟩ = some (.bool true)) := hide (fun w' hk => by
    have t0 := HT.out.keep hk (by unfold Fr3; omega)
    exact ⟨t0.cell 0, t0.cell 1⟩
    )
   have HR : Hid (Keep (Fr3 s B w.heap.size) w3 w3.drew) := hide (Keep.refl _ _).drew
   replace HX := hide HX.out.drew
   replace HV := hide HV.out.drew
   replace HF := hide HF.out.drew
   refine wp_region_noPanic ?_
   refine tkB HS HR.out (fun hHeld => ?_)
   obtain ⟨w4, hw4⟩ : ∃ x, x = w3.drew := ⟨_, rfl⟩
   rw [← hw4] at hHeld HX HV HF HR ⊢
   clear hw4
   refine tkL 0 ?_ ?_ ?_
   rotate_left
   ·(rintro wS ⟨e0, e1⟩; go_simp; try with_reducible rfl)
   try simp only [sP]
   refine tkL 1 ?_ ?_ ?_
   rotate_left
   ·(rintro wS ⟨e0, e1⟩; go_simp; try with_reducible rfl)
   try simp only [sP]
   refine tkL 2 ?_ ?_ ?_
   rotate_left
   ·(rintro wS ⟨e0, e1⟩; go_simp; try with_reducible rfl)
   try simp only [sP]
   refine tkL 3 ?_ ?_ ?_
   rotate_left
   ·(rintro wS ⟨e0, e1⟩; go_simp; try with_reducible rfl)
   try simp only [sP]
   refine tkL 4 ?_ ?_ ?_
   rotate_left
   ·(rintro wS ⟨e0, e1⟩; go_simp; try with_reducible rfl)
   try simp only [sP]
   refine tkL 5 ?_ ?_ ?_
   rotate_left
   ·(rintro wS ⟨e0, e1⟩; go_simp; try with_reducible rfl)
   try simp only [sP]
   refine tkL 7 ?_ ?_ ?_
   rotate_left
   ·(rintro wS ⟨e0, e1⟩; go_simp; try with_reducible rfl)
   try simp only [sP]
   refine tkC 6 (fun K hK => ?_)
   try rw [if_pos (by rfl)]
   go_simp
   go_at_call 12
   refine (int_any _).mono ?_
   rintro e w5 ⟨rfl, hb5⟩
   replace HX := hide (HX.out.below hb5)
   replace HV := hide (HV.out.below hb5)
   replace HF := hide (HF.out.tr (keep_fr hb5))
   replace HR := hide (HR.out.tr (keep_fr hb5))
   clear hb5
   try go_wp2_with fail
   refine hK.out _ _ (HS.out _ HR.out) (fun hHeld => ?_)
   clear hK K
   try simp only [sP]
   refine tkC 8 (fun K hK => ?_)
   try rw [if_pos (by rfl)]
   go_simp
   go_at_call 70
   refine (elem_any _ _ _).mono ?_
   rintro e w6 ⟨rfl, hb6⟩
   replace HX := hide (HX.out.below hb6)
   replace HV := hide (HV.out.below hb6)
   replace HF := hide (HF.out.tr (keep_fr hb6))
   replace HR := hide (HR.out.tr (keep_fr hb6))
   clear hb6
   try go_wp2_with fail
   refine hK.out _ _ (HS.out _ HR.out) (fun hHeld => ?_)
   clear hK K
   try simp only [sP]
   refine tkC 9 (fun K hK => ?_)
   try rw [if_pos (by rfl)]
   go_simp
   try go_wp2_with fail
   refine hK.out _ _ (HS.out _ (HR.out.tr (keep_fr ((Below.refl _ _).alloc (Nat.le_refl _) _)))) (fun hHeld => ?_)
   clear hK K
   try simp only [sP]
   obtain ⟨w7, hw7⟩ : ∃ x, x = w6.alloc (.cells #[S xn, .bool true, S [105, 110, 116], .bool false, S xn, .bool false] 24) := ⟨_, rfl⟩
   obtain ⟨r10, hr10⟩ : ∃ x, x = w6.heap.size := ⟨_, rfl⟩
   have HB : Hid (Blk w7 r10 24 #[S xn, .bool true, S [105, 110, 116], .bool false, S xn, .bool false]) := hide (by rw [hw7, hr10]; exact Blk.new _ _ _)
   have hl_r10 : w.heap.size ≤ r10 := by rw [hr10]; exact HF.out.size
   have hbel : Below w6.heap.size w6 w7 := by rw [hw7]; exact (Below.refl _ _).alloc (Nat.le_refl _) _
   replace HX := hide (HX.out.below hbel)
   replace HV := hide (HV.out.below hbel)
   replace HF := hide (HF.out.tr (keep_fr hbel))
   replace HR := hide (HR.out.tr (keep_fr hbel))
   rw [← hw7] at hHeld ⊢
   rw [← hr10]
   clear hw7 hr10 hbel
   refine tkC 10 (fun K hK => ?_)
   try rw [if_pos (by rfl)]
   go_simp
   go_at_call 62
   refine (HPK.out _ _ _ _ HX.out HV.out (Rd.of_blk HB.out (by unfold Fr3; omega) rfl) (by omega)).mono ?_
   rintro e w8 ⟨rfl, hx8, hk8, hv8⟩
   replace HX := hide hx8
   replace HF := hide (HF.out.tr hk8)
   replace HR := hide (HR.out.tr hk8)
   clear HV
   have HV := hide hv8
   clear hx8 hk8 hv8
   try go_wp2_with fail
   refine hK.out _ _ (HS.out _ HR.out) (fun hHeld => ?_)
   clear hK K
   try simp only [sP]
   refine tkL 11 ?_ ?_ ?_
   rotate_left
   ·(rintro wS ⟨e0, e1⟩; go_simp; try with_reducible rfl)
   try simp only [sP]
   refine tkL 12 ?_ ?_ ?_
   rotate_left
   ·(rintro wS ⟨e0, e1⟩; go_simp; try with_reducible rfl)
   try simp only [sP]
   refine wpAnyH_done (by kernel_rfl) ?_ _
   refine NoPanic.normal ?_
   go_wp2_with fail
   go_ret
   exact ⟨by rw [HM.out ()] <;> rfl, HX.out.mono (by omega), HF.out, fun x hx => by rw [HM.out ()] at hx; injection hx with hx; subst hx; exact HV.out.e⟩
set_option maxRecDepth 100000 in
set_option maxHeartbeats 4000000 in
theorem arr20 (w : World) (B q p gi g m s n : Nat) (T : List Fc) (f : Fl) (b : Bd) (sg : Sg) (va vd : Value) (v : Vs) (a : Nat) (h : Sx w B q gi g m s n T f b sg va vd) (hv : WsE w B p v) (hS : VsS v) (hn : n ≤ 6000000000000000) (ha : a < f.tl) :
  Calls Tryd.prog 68 #[.pointer (some ⟨q, 0, none⟩), .pointer (some ⟨p, 0, none⟩), .agg #[.int .i64 20, .int .i64 (a : Int)]] w (StpEnd w B q p gi g m s n T f b sg va vd 100000 (arrM T f.ppl b.sk 20 a v)) := by
 obtain ⟨hBp, hpl⟩ := hv.n.hp
 have hlt := h.lt
 have hBw := h.hB
 obtain ⟨w1, hw1⟩ : ∃ w1, w1 = w.alloc (.cells #[.int .i64 20, .int .i64 (a : Int)] 87) := ⟨_, rfl⟩
 have hb1 : Blk w1 w.heap.size 87 #[.int .i64 20, .int .i64 (a : Int)] := by rw [hw1]; exact Blk.new _ _ _
 have hbb : Below w.heap.size w w1 := by rw [hw1]; exact (Below.refl _ w).alloc (Nat.le_refl _) _
 have HX := hide (h.below hbb)
 have HV := hide (hv.n.below hbb)
 have HF : Hid (Keep (Fr3 s B w.heap.size) w w1) := hide (keep_fr hbb)
 have HI : Hid (Blk w1 w.heap.size 87 #[.int .i64 20, .int .i64 (a : Int)]) := hide hb1
 have i0 : w1.cell? ⟨w.heap.size, 0, none⟩ = some (.int .i64 20) := hb1.cell 0
 have i1 : w1.cell? ⟨w.heap.size, 1, none⟩ = some (.int .i64 (a : Int)) := hb1.cell 1
 have hwl : w.heap.size < w1.heap.size := hb1.lt
 clear h hbb hb1
 go_enter Tryd.func68, Tryd.ntmps68
 go_upto_region 1 with fail
 rw [← hw1]
 clear hw1
 have hS2 : v.st.length ≤ 2000 := hS.2.2.2
 obtain ⟨bt, ot, htA, hbF, hbt, hct⟩ := Rd.rec_ (f := Ty.cells) (fun _ => rfl) HX.out.fl.po.tr HX.out.fl.po.tL a ha
 have hXe : tyAt f.ppl.tys a = f.tys[a]'(by rw [HX.out.fl.po.tL]; exact ha) := by unfold tyAt; exact List.getElem_eq_getD _ |>.symm
 generalize f.tys[a]'(by rw [HX.out.fl.po.tL]; exact ha) = X at hct hXe
 obtain ⟨xn, xa⟩ := X
 have hbF' : ¬ bt = s ∧ bt < B := by omega
 have HE0 : Hid (w1.cell? ⟨bt, ot + a * 2, none⟩ = some (S xn)) := hide (hct 0 _ rfl)
 have HE1 : Hid (w1.cell? ⟨bt, ot + a * 2 + 1, none⟩ = some (.bool xa)) := hide (hct 1 _ rfl)
 clear hct hbF
 have hqs := HX.out.qs
 go_upto_region 4 with fail
 clear i0 i1
 have HS : Hid (∀ w', Keep (Fr3 s B w.heap.size) w1 w' → w'.cell? ⟨w.heap.size, 0, none⟩ = some (.int .i64 20) ∧ w'.cell? ⟨w.heap.size, 1, none⟩ = some (.int .i64 (a : Int)) ∧ w'.cell? ⟨q, 7, none⟩ = some (.slice (some ⟨bt, ot, none⟩) f.tl f.tc) ∧ w'.cell? ⟨bt, ot + a * 2, none⟩ = some (S xn) ∧ w'.cell? ⟨bt, ot + a * 2 + 1, none⟩ = some (.bool xa)) := hide (fun w' hk => by
  have t0 := HI.out.keep hk (by unfold Fr3; omega)
  have t1 := HX.out.kq.keep hk (by unfold Fr3; omega)
  have t2 := t1.cell 7
  have t3 : ∀ i, w'.cell? ⟨bt, i, none⟩ = w1.cell? ⟨bt, i, none⟩ := fun i => hk.cell (p := ⟨bt, i, none⟩) hbt (by unfold Fr3; show ¬ (bt = s ∨ B ≤ bt ∧ bt < w.heap.size); omega)
  exact ⟨t0.cell 0, t0.cell 1, by rw [t2]; simp [htA], (t3 _).trans HE0.out, (t3 _).trans HE1.out⟩
  )
 have HR : Hid (Keep (Fr3 s B w.heap.size) w1 w1.drew) := hide (Keep.refl _ _).drew
 replace HX := hide HX.out.drew
 replace HV := hide HV.out.drew
 replace HF := hide HF.out.drew
 refine wp_region_noPanic ?_
 refine tkB HS HR.out (fun hHeld => ?_)
 obtain ⟨w2, hw2⟩ : ∃ x, x = w1.drew := ⟨_, rfl⟩
 rw [← hw2] at hHeld HX HV HF HR ⊢
 clear hw2
 refine tkL 0 ?_ ?_ ?_
 rotate_left
 ·(rintro wS ⟨e0, e1, e2, e3, e4⟩; go_simp; try with_reducible rfl)
 try simp only [sP]
 refine tkL 1 ?_ ?_ ?_
 rotate_left
 ·(rintro wS ⟨e0, e1, e2, e3, e4⟩; go_simp; try with_reducible rfl)
 try simp only [sP]
 refine tkL 2 ?_ ?_ ?_
 rotate_left
 ·(rintro wS ⟨e0, e1, e2, e3, e4⟩; go_simp; try with_reducible rfl)
 try simp only [sP]
 refine tkL 3 ?_ ?_ ?_
 rotate_left
 ·(rintro wS ⟨e0, e1, e2, e3, e4⟩; go_simp; try with_reducible rfl)
 try simp only [sP]
 refine tkL 4 ?_ ?_ ?_
 rotate_left
 ·(rintro wS ⟨e0, e1, e2, e3, e4⟩; go_simp; try with_reducible rfl)
 try simp only [sP]
 refine tkL 5 ?_ ?_ ?_
 rotate_left
 ·(rintro wS ⟨e0, e1, e2, e3, e4⟩; go_simp; try with_reducible rfl)
 try simp only [sP]
 refine tkL 6 ?_ ?_ ?_
 rotate_left
 ·(rintro wS ⟨e0, e1, e2, e3, e4⟩; go_simp; try with_reducible rfl)
 try simp only [sP]
 refine tkL 7 ?_ ?_ ?_
 rotate_left
 ·(rintro wS ⟨e0, e1, e2, e3, e4⟩; go_simp; try with_reducible rfl)
 try simp only [sP]
 refine tkL 8 ?_ ?_ ?_
 rotate_left
 ·(rintro wS ⟨e0, e1, e2, e3, e4⟩; go_simp; try with_reducible rfl)
 try simp only [sP]
 refine tkL 9 ?_ ?_ ?_
 rotate_left
 ·(rintro wS ⟨e0, e1, e2, e3, e4⟩; go_simp; try with_reducible rfl)
 try simp only [sP]
 refine tkC 10 (fun K hK => ?_)
 try rw [if_pos (by rfl)]
 go_simp
 try go_wp2_with fail
 refine hK.out _ _ (HS.out _ (HR.out.tr (keep_fr ((Below.refl _ _).alloc (Nat.le_refl _) _)))) (fun hHeld => ?_)
 clear hK K
 try simp only [sP]
 refine tkC 11 (fun K hK => ?_)
 try rw [if_pos (by rfl)]
 go_simp
 try go_wp2_with fail
 refine hK.out _ _ (HS.out _ (HR.out.tr (keep_fr ((Below.refl _ _).alloc (Nat.le_refl _) _)))) (fun hHeld => ?_)
 clear hK K
 try simp only [sP]
 refine wpAnyH_done (by kernel_rfl) ?_ _
 refine NoPanic.normal ?_
 replace HI := hide (HI.out.keep HR.out (by unfold Fr3; omega))
 clear HR hHeld
 obtain ⟨w3, hw3⟩ : ∃ x, x = w2.alloc (.cells #[S xn, .bool xa] 24) := ⟨_, rfl⟩
 obtain ⟨r9, hr9⟩ : ∃ x, x = w2.heap.size := ⟨_, rfl⟩
 have HT : Hid (Blk w3 r9 24 #[S xn, .bool xa]) := hide (by rw [hw3, hr9]; exact Blk.new _ _ _)
 have hl_r9 : w.heap.size ≤ r9 := by rw [hr9]; exact HF.out.size
 have hbel : Below w2.heap.size w2 w3 := by rw [hw3]; exact (Below.refl _ _).alloc (Nat.le_refl _) _
 replace HX := hide (HX.out.below hbel)
 replace HV := hide (HV.out.below hbel)
 replace HF := hide (HF.out.tr (keep_fr hbel))
 replace HI := hide (HI.out.below hbel HI.out.lt)
 rw [show w2.alloc (.cells #[.string { data := xn.toArray }, .bool xa] 24) = w3 from hw3.symm]
 rw [← hr9]
 clear hw3 hr9 hbel HS HE0 HE1
 have i0 : w3.cell? ⟨w.heap.size, 0, none⟩ = some (.int .i64 20) := HI.out.cell 0
 have i1 : w3.cell? ⟨w.heap.size, 1, none⟩ = some (.int .i64 (a : Int)) := HI.out.cell 1
 go_upto_region 7 with fail
 clear i0 i1
 cases xa
 case false =>
  have HM : Hid (∀ _ : Unit, arrM T f.ppl b.sk 20 a v = none) := hide (fun _ => by unfold arrM; rw [if_neg (by decide), hXe]; exact if_pos rfl)
  have HS : Hid (∀ w', Keep (Fr3 s B w.heap.size) w3 w' → w'.cell? ⟨r9, 0, none⟩ = some (S xn) ∧ w'.cell? ⟨r9, 1, none⟩ = some (.bool false)) := hide (fun w' hk => by
   have t0 := HT.out.keep hk (by unfold Fr3; omega)
   exact ⟨t0.cell 0, t0.cell 1⟩
   )
  have HR : Hid (Keep (Fr3 s B w.heap.size) w3 w3.drew) := hide (Keep.refl _ _).drew
  replace HX := hide HX.out.drew
  replace HV := hide HV.out.drew
  replace HF := hide HF.out.drew
  refine wp_region_noPanic ?_
  refine tkB HS HR.out (fun hHeld => ?_)
  obtain ⟨w4, hw4⟩ : ∃ x, x = w3.drew := ⟨_, rfl⟩
  rw [← hw4] at hHeld HX HV HF HR ⊢
  clear hw4
  refine tkL 0 ?_ ?_ ?_
  rotate_left
  ·(rintro wS ⟨e0, e1⟩; go_simp; try with_reducible rfl)
  try simp only [sP]
  refine tkL 1 ?_ ?_ ?_
  rotate_left
  ·(rintro wS ⟨e0, e1⟩; go_simp; try with_reducible rfl)
  try simp only [sP]
  refine tkL 2 ?_ ?_ ?_
  rotate_left
  ·(rintro wS ⟨e0, e1⟩; go_simp; try with_reducible rfl)
  try simp only [sP]
  refine tkR 3 ?_
  try simp only [sP]
  refine tkR 4 ?_
  try simp only [sP]
  refine tkR 5 ?_
  try simp only [sP]
  refine tkR 6 ?_
  try simp only [sP]
  refine tkR 7 ?_
  try simp only [sP]
  refine tkR 8 ?_
  try simp only [sP]
  refine tkL 9 ?_ ?_ ?_
  rotate_left
  ·(rintro wS ⟨e0, e1⟩; go_simp; try with_reducible rfl)
  try simp only [sP]
  refine tkL 10 ?_ ?_ ?_
  rotate_left
  ·(rintro wS ⟨e0, e1⟩; go_simp; try with_reducible rfl)
  try simp only [sP]
  refine tkR 11 ?_
  try simp only [sP]
  refine tkR 12 ?_
  try simp only [sP]
  refine tkR 13 ?_
  try simp only [sP]
  refine tkR 14 ?_
  try simp only [sP]
  refine tkR 15 ?_
  try simp only [sP]
  refine tkL 16 ?_ ?_ ?_
  rotate_left
  ·(rintro wS ⟨e0, e1⟩; go_simp; try with_reducible rfl)
  try simp only [sP]
  refine tkL 17 ?_ ?_ ?_
  rotate_left
  ·(rintro wS ⟨e0, e1⟩; go_simp; try with_reducible rfl)
  try simp only [sP]
  refine wpAnyH_done (by kernel_rfl) ?_ _
  refine NoPanic.normal ?_
  go_wp2_with fail
  go_ret
  exact ⟨by rw [HM.out ()] <;> rfl, HX.out.mono (by omega), HF.out, fun x hx => by rw [HM.out ()] at hx; cases hx⟩
 case true =>
  rcases hP : poM T [⟨xn, true⟩, ⟨[105, 110, 116], false⟩] v with _ | v1
  ·have HM : Hid (∀ _ : Unit, arrM T f.ppl b.sk 20 a v = none) := hide (fun _ => by unfold arrM; rw [if_neg (by decide), hXe]; show ppM T b.sk [⟨xn, true⟩, ⟨[105, 110, 116], false⟩] ⟨xn, false⟩ v = _; unfold ppM; rw [hP]; rfl)
   have HPK : Hid (PkF B q gi g m s T f b sg va vd w.heap.size p (v) 2 ([⟨xn, true⟩, ⟨[105, 110, 116], false⟩] : List Ty)) := hide (fun ww n' AW cW hx hv hr hn => (pop_k hx hv hS [⟨xn, true⟩, ⟨[105, 110, 116], false⟩] hr (by first | rfl | assumption) (by omega) hn).mono (fun e w' hh => by obtain ⟨h1, h2, h3, h4⟩ := hh; rw [hP] at h1 h4; exact ⟨h1, h2, h3⟩))
   clear hP
   have HS : Hid (∀ w', Keep (Fr3 s B w.heap.size) w3 w' → w'.cell? ⟨r9, 0, none⟩ = some (S xn) ∧ w'.cell? ⟨r9, 1, none⟩ = some (.bool true)) := hide (fun w' hk => by
    have t0 := HT.out.keep hk (by unfold Fr3; omega)
    exact ⟨t0.cell 0, t0.cell 1⟩
    )
   have HR : Hid (Keep (Fr3 s B w.heap.size) w3 w3.drew) := hide (Keep.refl _ _).drew
   replace HX := hide HX.out.drew
   replace HV := hide HV.out.drew
   replace HF := hide HF.out.drew
   refine wp_region_noPanic ?_
   refine tkB HS HR.out (fun hHeld => ?_)
   obtain ⟨w4, hw4⟩ : ∃ x, x = w3.drew := ⟨_, rfl⟩
   rw [← hw4] at hHeld HX HV HF HR ⊢
   clear hw4
   refine tkL 0 ?_ ?_ ?_
   rotate_left
   ·(rintro wS ⟨e0, e1⟩; go_simp; try with_reducible rfl)
   try simp only [sP]
   refine tkL 1 ?_ ?_ ?_
   rotate_left
   ·(rintro wS ⟨e0, e1⟩; go_simp; try with_reducible rfl)
   try simp only [sP]
   refine tkL 2 ?_ ?_ ?_
   rotate_left
   ·(rintro wS ⟨e0, e1⟩; go_simp; try with_reducible rfl)
   try simp only [sP]
   refine tkL 3 ?_ ?_ ?_
   rotate_left
   ·(rintro wS ⟨e0, e1⟩; go_simp; try with_reducible rfl)
   try simp only [sP]
   refine tkL 4 ?_ ?_ ?_
   rotate_left
   ·(rintro wS ⟨e0, e1⟩; go_simp; try with_reducible rfl)
   try simp only [sP]
   refine tkL 5 ?_ ?_ ?_
   rotate_left
   ·(rintro wS ⟨e0, e1⟩; go_simp; try with_reducible rfl)
   try simp only [sP]
   refine tkC 6 (fun K hK => ?_)
   try rw [if_pos (by rfl)]
   go_simp
   go_at_call 12
   refine (int_any _).mono ?_
   rintro e w5 ⟨rfl, hb5⟩
   replace HX := hide (HX.out.below hb5)
   replace HV := hide (HV.out.below hb5)
   replace HF := hide (HF.out.tr (keep_fr hb5))
   replace HR := hide (HR.out.tr (keep_fr hb5))
   clear hb5
   try go_wp2_with fail
   refine hK.out _ _ (HS.out _ HR.out) (fun hHeld => ?_)
   clear hK K
   try simp only [sP]
   refine tkC 7 (fun K hK => ?_)
   try rw [if_pos (by rfl)]
   go_simp
   try go_wp2_with fail
   refine hK.out _ _ (HS.out _ (HR.out.tr (keep_fr ((Below.refl _ _).alloc (Nat.le_refl _) _)))) (fun hHeld => ?_)
   clear hK K
   try simp only [sP]
   obtain ⟨w6, hw6⟩ : ∃ x, x = w5.alloc (.cells #[S xn, .bool true, S [105, 110, 116], .bool false] 24) := ⟨_, rfl⟩
   obtain ⟨r10, hr10⟩ : ∃ x, x = w5.heap.size := ⟨_, rfl⟩
   have HB : Hid (Blk w6 r10 24 #[S xn, .bool true, S [105, 110, 116], .bool false]) := hide (by rw [hw6, hr10]; exact Blk.new _ _ _)
   have hl_r10 : w.heap.size ≤ r10 := by rw [hr10]; exact HF.out.size
   have hbel : Below w5.heap.size w5 w6 := by rw [hw6]; exact (Below.refl _ _).alloc (Nat.le_refl _) _
   replace HX := hide (HX.out.below hbel)
   replace HV := hide (HV.out.below hbel)
   replace HF := hide (HF.out.tr (keep_fr hbel))
   replace HR := hide (HR.out.tr (keep_fr hbel))
   rw [← hw6] at hHeld ⊢
   rw [← hr10]
   clear hw6 hr10 hbel
   refine tkC 8 (fun K hK => ?_)
   try rw [if_pos (by rfl)]
   go_simp
   go_at_call 62
   refine (HPK.out _ _ _ _ HX.out HV.out (Rd.of_blk HB.out (by unfold Fr3; omega) rfl) (by omega)).mono ?_
   rintro e w7 ⟨rfl, hx7, hk7⟩
   replace HX := hide hx7
   replace HF := hide (HF.out.tr hk7)
   replace HR := hide (HR.out.tr hk7)
   clear HV
   clear hx7 hk7
   try go_wp2_with fail
   refine hK.out _ _ (HS.out _ HR.out) (fun hHeld => ?_)
   clear hK K
   try simp only [sP]
   refine tkL 9 ?_ ?_ ?_
   rotate_left
   ·(rintro wS ⟨e0, e1⟩; go_simp; try with_reducible rfl)
   try simp only [sP]
   refine tkL 10 ?_ ?_ ?_
   rotate_left
   ·(rintro wS ⟨e0, e1⟩; go_simp; try with_reducible rfl)
   try simp only [sP]
   refine tkR 11 ?_
   try simp only [sP]
   refine tkR 12 ?_
   try simp only [sP]
   refine tkR 13 ?_
   try simp only [sP]
   refine tkR 14 ?_
   try simp only [sP]
   refine tkR 15 ?_
   try simp only [sP]
   refine tkL 16 ?_ ?_ ?_
   rotate_left
   ·(rintro wS ⟨e0, e1⟩; go_simp; try with_reducible rfl)
   try simp only [sP]
   refine tkL 17 ?_ ?_ ?_
   rotate_left
   ·(rintro wS ⟨e0, e1⟩; go_simp; try with_reducible rfl)
   try simp only [sP]
   refine wpAnyH_done (by kernel_rfl) ?_ _
   refine NoPanic.normal ?_
   go_wp2_with fail
   go_ret
   exact ⟨by rw [HM.out ()] <;> rfl, HX.out.mono (by omega), HF.out, fun x hx => by rw [HM.out ()] at hx; cases hx⟩
  ·have HM : Hid (∀ _ : Unit, arrM T f.ppl b.sk 20 a v = puM b.sk ⟨xn, false⟩ v1) := hide (fun _ => by unfold arrM; rw [if_neg (by decide), hXe]; show ppM T b.sk [⟨xn, true⟩, ⟨[105, 110, 116], false⟩] ⟨xn, false⟩ v = _; unfold ppM; rw [hP]; rfl)
   have hS3 : v1.st.length ≤ 2000 := Nat.le_trans (po_len hP) hS2
   have HPK : Hid (PkT B q gi g m s T f b sg va vd w.heap.size p (v) 2 ([⟨xn, true⟩, ⟨[105, 110, 116], false⟩] : List Ty) v1) := hide (fun ww n' AW cW hx hv hr hn => (pop_k hx hv hS [⟨xn, true⟩, ⟨[105, 110, 116], false⟩] hr (by first | rfl | assumption) (by omega) hn).mono (fun e w' hh => by obtain ⟨h1, h2, h3, h4⟩ := hh; rw [hP] at h1 h4; exact ⟨h1, h2, h3, h4 _ rfl⟩))
   clear hP
   have HS : Hid (∀ w', Keep (Fr3 s B w.heap.size) w3 w' → w'.cell? ⟨r9, 0, none⟩ = some (S xn) ∧ w'.cell? ⟨r9, 1, none⟩ = some (.bool true)) := hide (fun w' hk => by
    have t0 := HT.out.keep hk (by unfold Fr3; omega)
    exact ⟨t0.cell 0, t0.cell 1⟩
    )
   have HR : Hid (Keep (Fr3 s B w.heap.size) w3 w3.drew) := hide (Keep.refl _ _).drew
   replace HX := hide HX.out.drew
   replace HV := hide HV.out.drew
   replace HF := hide HF.out.drew
   refine wp_region_noPanic ?_
   refine tkB HS HR.out (fun hHeld => ?_)
   obtain ⟨w4, hw4⟩ : ∃ x, x = w3.drew := ⟨_, rfl⟩
   rw [← hw4] at hHeld HX HV HF HR ⊢
   clear hw4
   refine tkL 0 ?_ ?_ ?_
   rotate_left
   ·(rintro wS ⟨e0, e1⟩; go_simp; try with_reducible rfl)
   try simp only [sP]
   refine tkL 1 ?_ ?_ ?_
   rotate_left
   ·(rintro wS ⟨e0, e1⟩; go_simp; try with_reducible rfl)
   try simp only [sP]
   refine tkL 2 ?_ ?_ ?_
   rotate_left
   ·(rintro wS ⟨e0, e1⟩; go_simp; try with_reducible rfl)
   try simp only [sP]
   refine tkL 3 ?_ ?_ ?_
   rotate_left
   ·(rintro wS ⟨e0, e1⟩; go_simp; try with_reducible rfl)
   try simp only [sP]
   refine tkL 4 ?_ ?_ ?_
   rotate_left
   ·(rintro wS ⟨e0, e1⟩; go_simp; try with_reducible rfl)
   try simp only [sP]
   refine tkL 5 ?_ ?_ ?_
   rotate_left
   ·(rintro wS ⟨e0, e1⟩; go_simp; try with_reducible rfl)
   try simp only [sP]
   refine tkC 6 (fun K hK => ?_)
   try rw [if_pos (by rfl)]
   go_simp
   go_at_call 12
   refine (int_any _).mono ?_
   rintro e w5 ⟨rfl, hb5⟩
   replace HX := hide (HX.out.below hb5)
   replace HV := hide (HV.out.below hb5)
   replace HF := hide (HF.out.tr (keep_fr hb5))
   replace HR := hide (HR.out.tr (keep_fr hb5))
   clear hb5
   try go_wp2_with fail
   refine hK.out _ _ (HS.out _ HR.out) (fun hHeld => ?_)
   clear hK K
   try simp only [sP]
   refine tkC 7 (fun K hK => ?_)
   try rw [if_pos (by rfl)]
   go_simp
   try go_wp2_with fail
   refine hK.out _ _ (HS.out _ (HR.out.tr (keep_fr ((Below.refl _ _).alloc (Nat.le_refl _) _)))) (fun hHeld => ?_)
   clear hK K
   try simp only [sP]
   obtain ⟨w6, hw6⟩ : ∃ x, x = w5.alloc (.cells #[S xn, .bool true, S [105, 110, 116], .bool false] 24) := ⟨_, rfl⟩
   obtain ⟨r10, hr10⟩ : ∃ x, x = w5.heap.size := ⟨_, rfl⟩
   have HB : Hid (Blk w6 r10 24 #[S xn, .bool true, S [105, 110, 116], .bool false]) := hide (by rw [hw6, hr10]; exact Blk.new _ _ _)
   have hl_r10 : w.heap.size ≤ r10 := by rw [hr10]; exact HF.out.size
   have hbel : Below w5.heap.size w5 w6 := by rw [hw6]; exact (Below.refl _ _).alloc (Nat.le_refl _) _
   replace HX := hide (HX.out.below hbel)
   replace HV := hide (HV.out.below hbel)
   replace HF := hide (HF.out.tr (keep_fr hbel))
   replace HR := hide (HR.out.tr (keep_fr hbel))
   rw [← hw6] at hHeld ⊢
   rw [← hr10]
   clear hw6 hr10 hbel
   refine tkC 8 (fun K hK => ?_)
   try rw [if_pos (by rfl)]
   go_simp
   go_at_call 62
   refine (HPK.out _ _ _ _ HX.out HV.out (Rd.of_blk HB.out (by unfold Fr3; omega) rfl) (by omega)).mono ?_
   rintro e w7 ⟨rfl, hx7, hk7, hv7⟩
   replace HX := hide hx7
   replace HF := hide (HF.out.tr hk7)
   replace HR := hide (HR.out.tr hk7)
   clear HV
   have HV := hide hv7
   clear hx7 hk7 hv7
   try go_wp2_with fail
   refine hK.out _ _ (HS.out _ HR.out) (fun hHeld => ?_)
   clear hK K
   try simp only [sP]
   refine tkL 9 ?_ ?_ ?_
   rotate_left
   ·(rintro wS ⟨e0, e1⟩; go_simp; try with_reducible rfl)
   try simp only [sP]
   refine tkL 10 ?_ ?_ ?_
   rotate_left
   ·(rintro wS ⟨e0, e1⟩; go_simp; try with_reducible rfl)
   try simp only [sP]
   refine tkL 11 ?_ ?_ ?_
   rotate_left
   ·(rintro wS ⟨e0, e1⟩; go_simp; try with_reducible rfl)
   try simp only [sP]
   refine tkL 12 ?_ ?_ ?_
   rotate_left
   ·(rintro wS ⟨e0, e1⟩; go_simp; try with_reducible rfl)
   try simp only [sP]
   refine tkL 13 ?_ ?_ ?_
   rotate_left
   ·(rintro wS ⟨e0, e1⟩; go_simp; try with_reducible rfl)
   try simp only [sP]
   refine tkC 14 (fun K hK => ?_)
   try rw [if_pos (by rfl)]
   go_simp
   go_at_call 70
   refine (elem_any _ _ _).mono ?_
   rintro e w8 ⟨rfl, hb8⟩
   replace HX := hide (HX.out.below hb8)
   replace HV := hide (HV.out.below hb8)
   replace HF := hide (HF.out.tr (keep_fr hb8))
   replace HR := hide (HR.out.tr (keep_fr hb8))
   clear hb8
   try go_wp2_with fail
   refine hK.out _ _ (HS.out _ HR.out) (fun hHeld => ?_)
   clear hK K
   try simp only [sP]
   refine tkC 15 (fun K hK => ?_)
   try rw [if_pos (by rfl)]
   go_simp
   go_at_call 59
   refine (push_k HX.out HV.out (by first | omega | (have := hS.2.2.2; omega)) ⟨xn, false⟩).mono ?_
   rintro e w9 ⟨rfl, hx9, hk9, hv9⟩
   replace HX := hide hx9
   replace HF := hide (HF.out.tr hk9)
   replace HR := hide (HR.out.tr hk9)
   have HVE := hide hv9
   clear hx9 hk9 hv9
   try go_wp2_with fail
   refine hK.out _ _ (HS.out _ HR.out) (fun hHeld => ?_)
   clear hK K
   try simp only [sP]
   refine tkL 16 ?_ ?_ ?_
   rotate_left
   ·(rintro wS ⟨e0, e1⟩; go_simp; try with_reducible rfl)
   try simp only [sP]
   refine tkL 17 ?_ ?_ ?_
   rotate_left
   ·(rintro wS ⟨e0, e1⟩; go_simp; try with_reducible rfl)
   try simp only [sP]
   refine wpAnyH_done (by kernel_rfl) ?_ _
   refine NoPanic.normal ?_
   go_wp2_with fail
   go_ret
   exact ⟨by rw [HM.out ()] <;> rfl, HX.out.mono (by omega), HF.out, fun x hx => HVE.out x (by rw [HM.out ()] at hx; exact hx)⟩
end Go.Proofs.YtmbegaobnpoefaaDoor
