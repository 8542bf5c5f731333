/- Verification of a method: walked; no statement of the seat is proved here. (Written by gen/vrun.py.) -/
import Derived.Test.YtmbegaobnpoefaaDoorMTk
import Derived.Test.YtmbegaobnpoefaaDoorMCliRunM
import Derived.Test.YtmbegaobnpoefaaDoorMCliRunC
import Derived.Test.YtmbegaobnpoefaaDoorMCliRunN
import Derived.BigRegion
import Derived.Deep.RegionHeld3
import Derived.Deep.LoopGhost
import Derived.Deep.DeepCutAuto
namespace Go.Proofs.YtmbegaobnpoefaaDoor
open Go.RowKit Go.Maps
set_option linter.unusedVariables false
set_option linter.unusedSimpArgs false
theorem row_0 {lo : Nat} (h : 0 < lo) : (((List.replicate lo kZ).flatMap Ty.cells).toArray)[0]? = some (S []) := by
 obtain ⟨k, rfl⟩ : ∃ k, lo = k + 1 := ⟨lo - 1, by omega⟩
 rw [List.replicate_succ]; rfl
theorem row_1 {lo : Nat} (h : 0 < lo) : (((List.replicate lo kZ).flatMap Ty.cells).toArray)[1]? = some (.bool false) := by
 obtain ⟨k, rfl⟩ : ∃ k, lo = k + 1 := ⟨lo - 1, by omega⟩
 rw [List.replicate_succ]; rfl
theorem row_set {lo : Nat} (h : 0 < lo) {nm : List UInt8} : ((((List.replicate lo kZ).flatMap Ty.cells).toArray.setIfInBounds 0 (S nm)).setIfInBounds 1 (.bool false)) = (((List.replicate lo kZ).set 0 (kO nm)).flatMap Ty.cells).toArray := by
 obtain ⟨k, rfl⟩ : ∃ k, lo = k + 1 := ⟨lo - 1, by omega⟩
 rw [List.replicate_succ]
 simp [kO, kZ]
set_option maxRecDepth 100000 in
set_option maxHeartbeats 4000000 in
theorem run_any (w : World) (B q gi g m s n M N : Nat) (T : List Fc) (f : Fl) (b : Bd) (sg : Sg) (h : Sy w B q gi g m s n T f b sg (.slice none 0 0) (.slice none 0 0)) (hBe : B = w.heap.size) (c : Rc N M T f b) (hN1 : 1 ≤ N) (hN60 : N ≤ 100)
  (hps : sg.ps.length + (if sg.st then 0 else 1) ≤ b.lo.toNat) (hsp : ∀ t ∈ sg.ps, short t.n) (hnm : short f.f.n) (hM : n + 30000010000000 ≤ M) (hsk : 0 ≤ b.sk) (hlo4 : b.lo ≤ 401) (hsk1 : b.sk ≤ 1000) :
  Calls Tryd.prog 20 #[.pointer (some ⟨q, 0, none⟩)] w (fun e w' => ∃ z : Int, e = .returned (.int .i64 z) ∧
   decide (z < 0) = runM T f.ppl b.sk sg.r b.code 10000000 ⟨(List.replicate N none).set 0 (some ⟨loM f.f.n sg.st sg.ps b.lo.toNat, []⟩), [0]⟩ ∧ Vt w' gi g m s T M ∧ Keep (fun k => k = s ∨ k = q ∨ B ≤ k) w w') := by
 obtain ⟨lo, hlo⟩ : ∃ x : Nat, b.lo = (x : Int) := ⟨b.lo.toNat, by have := c.lo; omega⟩
 have hlo2 : b.lo.toNat = lo := by omega
 rw [hlo2] at hps ⊢
 have hlo3 : lo ≤ 1000 := by have := c.lo; omega
 have q11 : w.cell? ⟨q, 11, none⟩ = some (.int .i64 (lo : Int)) := by rw [← hlo]; exact h.sx.kq.cell 11
 obtain ⟨w1, hw1⟩ : ∃ x, x = (w.alloc (.cells ((List.replicate lo kZ).flatMap Ty.cells).toArray 24)).alloc (.cells #[.slice (some ⟨w.heap.size, 0, none⟩) lo lo, .slice none 0 0] 113) := ⟨_, rfl⟩
 have HR0 : Hid (Blk w1 w.heap.size 24 ((List.replicate lo kZ).flatMap Ty.cells).toArray) := hide (by rw [hw1]; exact (Blk.new _ _ _).alloc _)
 have HST : Hid (Blk w1 (w.heap.size + 1) 113 #[.slice (some ⟨w.heap.size, 0, none⟩) lo lo, .slice none 0 0]) := hide (by
  rw [hw1]
  have := Blk.new (w.alloc (.cells ((List.replicate lo kZ).flatMap Ty.cells).toArray 24)) 113 #[.slice (some ⟨w.heap.size, 0, none⟩) lo lo, .slice none 0 0]
  rwa [World.size_alloc] at this)
 have hbb : Below w.heap.size w w1 := by rw [hw1]; exact ((Below.refl _ w).alloc (Nat.le_refl _) _).alloc (by simp) _
 have HY := hide (h.below hbb)
 have hqB := h.sx.lt.2.2.2.2
 clear h
 go_enter Tryd.func20, Tryd.ntmps20
 have hmk := mkTy w lo hlo3
 go_upto_region 3 with fail
 rw [← hw1]
 clear hw1 hmk
 obtain ⟨r0, hr0⟩ : ∃ x, x = w.heap.size := ⟨_, rfl⟩
 obtain ⟨r1, hr1⟩ : ∃ x, x = w.heap.size + 1 := ⟨_, rfl⟩
 rw [← hr1, ← hr0] at HST
 rw [← hr0] at HR0
 rw [← hr1, ← hr0]
 have hr01 : B ≤ r0 ∧ r0 < r1 := by omega
 clear hr0 hr1
 have q15 : w1.cell? ⟨q, 15, none⟩ = some (.bool sg.st) := HY.out.sx.kq.cell 15
 have q1 : w1.cell? ⟨q, 1, none⟩ = some (S f.f.n) := HY.out.sx.kq.cell 1
 have s0 : w1.cell? ⟨r1, 0, none⟩ = some (.slice (some ⟨r0, 0, none⟩) lo lo) := HST.out.cell 0
 have hkl : Hid (∀ _ : Unit, True) := hide (fun _ => trivial)
 obtain ⟨l1, HL1⟩ : ∃ x : List Ty, Hid (x = if sg.st then List.replicate lo kZ else (List.replicate lo kZ).set 0 (kO f.f.n)) := ⟨_, hide rfl⟩
 have hl1 : l1.length = lo := by rw [HL1.out]; split <;> simp
 clear hkl
 have HST0 := HST
 have HQ := HY
 go_upto_if 20 with fail
 go_cut [4] (fun v4 wx => ∃ k : Nat, v4 = .int .i64 (k : Int) ∧ Hid (k = if sg.st then 0 else 1) ∧ Hid (Blk wx r0 24 (l1.flatMap Ty.cells).toArray) ∧ Hid (Keep (fun k => k = r0) w1 wx))
 case first =>
  cases hst : sg.st
  all_goals rw [hst] at q15 hps HL1
  case false =>
   have hlo1 : 0 < lo := by simp at hps; omega
   go_upto_region 4 with fail
   have HS : Hid (∀ w', Keep (fun k => k = r0) w1 w' → w'.cell? ⟨r1, 0, none⟩ = some (.slice (some ⟨r0, 0, none⟩) lo lo) ∧ w'.cell? ⟨q, 1, none⟩ = some (S f.f.n)) := hide (fun w' hk => by
    have t0 := HST.out.keep hk (by show ¬ r1 = r0; omega)
    have t1 := HY.out.sx.kq.keep hk (by show ¬ q = r0; omega)
    exact ⟨t0.cell 0, t1.cell 1⟩)
   have HR : Hid (Keep (fun k => k = r0) w1 w1.drew) := hide (Keep.refl _ _).drew
   have HRW := hide HR0.out.drew
   refine wp_region_noPanic ?_
   refine tkB HS HR.out (fun hHeld => ?_)
   obtain ⟨w2, hw2⟩ : ∃ x, x = w1.drew := ⟨_, rfl⟩
   rw [← hw2] at hHeld HR HRW ⊢
   clear hw2
   refine tkL 0 ?_ ?_ ?_
   rotate_left
   ·(rintro wS ⟨e0, e1⟩; go_simp; try with_reducible rfl)
   try simp only [sP]
   refine tkL 1 ?_ ?_ ?_
   rotate_left
   ·(rintro wS ⟨e0, e1⟩; go_simp; try with_reducible rfl)
   try simp only [sP]
   refine tkL 2 ?_ ?_ ?_
   rotate_left
   ·(rintro wS ⟨e0, e1⟩; go_simp; try with_reducible rfl)
   try simp only [sP]
   refine tkL 3 ?_ ?_ ?_
   rotate_left
   ·(rintro wS ⟨e0, e1⟩; go_simp; try with_reducible rfl)
   try simp only [sP]
   refine tkL 4 ?_ ?_ ?_
   rotate_left
   ·(rintro wS ⟨e0, e1⟩; go_simp; try with_reducible rfl)
   try simp only [sP]
   refine tkL 5 ?_ ?_ ?_
   rotate_left
   ·(rintro wS ⟨e0, e1⟩; go_simp; try with_reducible rfl)
   try simp only [sP]
   refine tkL 6 ?_ ?_ ?_
   rotate_left
   ·(rintro wS ⟨e0, e1⟩; go_simp; try with_reducible rfl)
   try simp only [sP]
   refine tkL 7 ?_ ?_ ?_
   rotate_left
   ·(rintro wS ⟨e0, e1⟩; go_simp; try with_reducible rfl)
   try simp only [sP]
   refine tkC 8 (fun K hK => ?_)
   try rw [if_pos (by rfl)]
   go_simp
   go_at_call 22
   refine (of_any _ _).mono ?_
   rintro e w3 ⟨rfl, hb3⟩
   replace HR := hide (HR.out.tr (keep_any (F := fun k => k = r0) hb3))
   replace HRW := hide (HRW.out.below hb3 HRW.out.lt)
   clear hb3
   try go_wp2_with fail
   refine hK.out _ _ (HS.out _ HR.out) (fun hHeld => ?_)
   clear hK K
   try simp only [sP]
   refine tkL 9 ?_ ?_ ?_
   rotate_left
   ·(rintro wS ⟨e0, e1⟩; go_simp; try with_reducible rfl)
   try simp only [sP]
   refine tkC 10 (fun K hK => ?_)
   try rw [if_pos (by rfl)]
   have f9 := HRW.out.frozen
   have c90 := HRW.out.cell 0
   have c91 := HRW.out.cell 1
   rw [row_0 hlo1] at c90
   rw [row_1 hlo1] at c91
   go_simp
   try go_wp2_with fail
   have hU2 := (HRW.out.set_ 0 (S f.f.n)).set_ 1 (.bool false)
   have hks : Keep (fun k => k = r0) w3 ((w3.setCell ⟨r0, 0, none⟩ (S f.f.n)).setCell ⟨r0, 1, none⟩ (.bool false)) := ((Keep.refl (fun k => k = r0) w3).setCell (p := ⟨r0, 0, none⟩) (fun _ => rfl) _).setCell (p := ⟨r0, 1, none⟩) (fun _ => rfl) _
   obtain ⟨w5, hw5⟩ : ∃ x, x = (w3.setCell ⟨r0, 0, none⟩ (S f.f.n)).setCell ⟨r0, 1, none⟩ (.bool false) := ⟨_, rfl⟩
   rw [← hw5] at hU2 hks
   rw [show ((w3.setCell ⟨r0, 0, none⟩ (.string { data := f.f.n.toArray })).setCell ⟨r0, 1, none⟩ (.bool false)) = w5 from hw5.symm]
   clear hw5 f9 c90 c91
   rw [row_set hlo1] at hU2
   have HU9 := hide hU2
   replace HR := hide (HR.out.tr hks)
   clear hks hU2 HRW
   refine hK.out _ _ (HS.out _ HR.out) (fun hHeld => ?_)
   clear hK K
   try simp only [sP]
   refine wpAnyH_done (by kernel_rfl) ?_ _
   refine NoPanic.normal ?_
   go_wp2_with fail
   go_meet
   exact ⟨1, rfl, hide (by simp [hst]), by have := HL1.out; simp at this; rw [this]; exact HU9, hide HR.out⟩
  case true =>
   go_wp2_with fail
   go_meet
   exact ⟨0, rfl, hide (by simp [hst]), by have := HL1.out; simp at this; rw [this]; exact HR0, hide (Keep.refl _ _)⟩
 case rest =>
  obtain ⟨k, rfl, HK, HR1, HKP⟩ := hcut
  obtain ⟨w2, rfl⟩ : ∃ x : World, x = wc := ⟨_, rfl⟩
  have hkl : k + sg.ps.length ≤ lo := by rw [HK.out]; omega
  have HY2 : Hid (Sy w2 B q gi g m s n T f b sg (.slice none 0 0) (.slice none 0 0)) := hide (HY.out.high (HKP.out.mono (fun k _ e => by omega)))
  have HST2 := hide (HST.out.keep HKP.out (by show ¬ r1 = r0; omega))
  have s0' : w2.cell? ⟨r1, 0, none⟩ = some (.slice (some ⟨r0, 0, none⟩) lo lo) := HST2.out.cell 0
  have q16 : w2.cell? ⟨q, 16, none⟩ = some (.slice sg.A sg.k sg.c) := HY2.out.sx.kq.cell 16
  have HSG := hide HY2.out.sx.sg
  have hskk : sg.ps.length = sg.k := HSG.out.2.1
  have hk9 : k ≤ lo := by omega
  have hsk9 : sg.k ≤ lo - k := by omega
  clear HST0 HQ HR0 HST HY q15 q1 s0 q11 hskk
  have HCP : Hid (∀ o : Nat, o = k * 2 ∨ lo = k → ∃ w', (Builtin.copy_ #[45, 45] 3 #[.slice (some ⟨r0, o, none⟩) (lo - k) (lo - k), .slice sg.A sg.k sg.c]).run Tryd.prog w2.drew = .ok (goInt sg.k) w' ∧ Blk w' r0 24 ((loM f.f.n sg.st sg.ps lo).flatMap Ty.cells).toArray ∧ Keep (fun b => b = r0) w2.drew w') := hide (fun o ho => by
   have h9 := copy_ty w2.drew r0 k lo sg.c o l1 sg.ps sg.A _ HR1.out.drew hl1 hkl (by have h8 := HSG.out.1.drew; rw [← HSG.out.2.1] at h8; exact h8) ho
   rw [HSG.out.2.1] at h9
   have e9 : l1.take k ++ (sg.ps ++ l1.drop (k + sg.k)) = loM f.f.n sg.st sg.ps lo := by rw [HL1.out, HK.out, ← HSG.out.2.1]; rfl
   rw [e9] at h9
   exact h9)
  go_upto_region 6 with fail
  go_cut [4] (fun v4 wx => v4 = .int .i64 (k : Int) ∧ Hid (Blk wx r0 24 ((loM f.f.n sg.st sg.ps lo).flatMap Ty.cells).toArray) ∧ Hid (Keep (fun b => b = r0) w2 wx))
  case first =>
   by_cases hlk : lo = k
   case pos =>
    obtain ⟨w3, hcp, hB3, hK3⟩ := HCP.out 0 (.inr hlk)
    have HB3 := hide hB3
    have HK3 := hide ((Keep.refl (fun b => b = r0) w2).drew.tr hK3)
    clear hB3 hK3 HCP
    rw [show lo - k = 0 by omega] at hcp
    go_still_tail 9, (by kernel_rfl)
    go_wp2_with fail
    all_goals go_meet
    all_goals exact ⟨rfl, HB3, HK3⟩
   case neg =>
    obtain ⟨w3, hcp, hB3, hK3⟩ := HCP.out (k * 2) (.inl rfl)
    have HB3 := hide hB3
    have HK3 := hide ((Keep.refl (fun b => b = r0) w2).drew.tr hK3)
    clear hB3 hK3 HCP
    go_still_tail 9, (by kernel_rfl)
    go_wp2_with fail
    all_goals go_meet
    all_goals exact ⟨rfl, HB3, HK3⟩
  case rest =>
   obtain ⟨rfl, HR3, HK3⟩ := hcut
   obtain ⟨w4, rfl⟩ : ∃ x : World, x = wc := ⟨_, rfl⟩
   have HY4 : Hid (Sy w4 B q gi g m s n T f b sg (.slice none 0 0) (.slice none 0 0)) := hide (HY2.out.high (HK3.out.mono (fun k _ e => by omega)))
   have HST4 := hide (HST2.out.keep HK3.out (by show ¬ r1 = r0; omega))
   have q13 : w4.cell? ⟨q, 13, none⟩ = some (.slice b.A b.k b.c) := HY4.out.sx.kq.cell 13
   rw [c.k] at q13
   have hmk := mkPs w4 N c.N
   obtain ⟨w5, hw5⟩ : ∃ x, x = w4.alloc (.cells ((List.replicate N (none : Option Vp)).map Vp.ptr).toArray 115) := ⟨_, rfl⟩
   obtain ⟨qa, hqa⟩ : ∃ x, x = w4.heap.size := ⟨_, rfl⟩
   rw [← hw5, ← hqa] at hmk
   have HQA : Hid (Blk w5 qa 115 ((List.replicate N (none : Option Vp)).map Vp.ptr).toArray) := hide (by rw [hw5, hqa]; exact Blk.new _ _ _)
   have hb5 : Below w4.heap.size w4 w5 := by rw [hw5]; exact (Below.refl _ _).alloc (Nat.le_refl _) _
   have HY5 := hide (HY4.out.below hb5)
   have q19 : w5.cell? ⟨q, 19, none⟩ = some (.slice none 0 0) := HY5.out.sx.kq.cell 19
   have q19f := HY5.out.sx.kq.frozen
   have hqa3 : B ≤ qa ∧ r0 < qa ∧ r1 < qa := by have h1 := HR3.out.lt; have h2 := HST4.out.lt; rw [hqa]; omega
   have HR5 := hide (HR3.out.below hb5 HR3.out.lt)
   have HST5 := hide (HST4.out.below hb5 HST4.out.lt)
   have HKW : Hid (Keep (fun k => k = s ∨ k = q ∨ B ≤ k) w w5) := hide ((((Keep.of_below (F := fun k => k = s ∨ k = q ∨ B ≤ k) hbb (fun k h1 h2 => by omega)).trans' HKP.out (fun k _ e => by omega)).trans' HK3.out (fun k _ e => by omega)).trans' (keep_any (F := fun _ => False) hb5) (fun _ _ h => h.elim))
   clear HY4 HY2 HST2 HSG HCP HR1 HKP s0' q16 hk9 hsk9 hkl HK hw5 hb5 hqa HR3 HK3 HST4
   go_upto_region 8 with fail
   obtain ⟨w6, hw6⟩ : ∃ x, x = w5.setCell ⟨q, 19, none⟩ (.slice (some ⟨qa, 0, none⟩) N N) := ⟨_, rfl⟩
   rw [← hw6]
   have hks6 : Keep (fun k => k = q) w5 w6 := by rw [hw6]; exact (Keep.refl (fun k => k = q) w5).setCell (p := ⟨q, 19, none⟩) (fun _ => rfl) _
   have HY6 : Hid (Sy w6 B q gi g m s n T f b sg (.slice (some ⟨qa, 0, none⟩) N N) (.slice none 0 0)) := hide (by rw [hw6]; exact HY5.out.at_ _)
   have HV6 := hide (start_vk (HQA.out.keep hks6 (by omega)) hqa3.1)
   have HR6 := hide (HR5.out.keep hks6 (by omega))
   have HST6 := hide (HST5.out.keep hks6 (by omega))
   replace HKW := hide (HKW.out.trans' hks6 (fun k _ e => .inr (.inl e)))
   clear hw6 hks6 HY5 HQA HR5 HST5 q19 q19f hmk q13
   have hlM : (loM f.f.n sg.st sg.ps lo).length = lo := loM_len hps
   have hShM : Sho ⟨loM f.f.n sg.st sg.ps lo, []⟩ := ⟨loM_short hnm hsp, fun t h => by cases h⟩
   have hFtM : Fit lo b.sk ⟨loM f.f.n sg.st sg.ps lo, []⟩ := ⟨hlM, by simpa using hsk⟩
   obtain ⟨r, hr⟩ : ∃ r, r = runM T f.ppl b.sk sg.r b.code 10000000 ⟨(List.replicate N none).set 0 (some ⟨loM f.f.n sg.st sg.ps lo, []⟩), [0]⟩ := ⟨_, rfl⟩
   have HRM : Hid (Rm T f.ppl b.sk sg.r b.code lo N r 10000000 ⟨(List.replicate N none).set 0 (some ⟨loM f.f.n sg.st sg.ps lo, []⟩), [0]⟩) := hide (by rw [hr]; exact start_rm hN1 hN60 hFtM hShM (by omega) hsk1)
   have HRR : Hid (∀ _ : Unit, r = runM T f.ppl b.sk sg.r b.code 10000000 ⟨(List.replicate N none).set 0 (some ⟨loM f.f.n sg.st sg.ps lo, []⟩), [0]⟩) := hide (fun _ => hr)
   clear hr
   have HFL : Hid (Calls Tryd.prog 40 #[.pointer (some ⟨q, 0, none⟩), .int .i64 0, .agg #[.slice (some ⟨r0, 0, none⟩) lo lo, .slice none 0 0]] w6 (FlowEnd w6 B q qa gi g m s n N T f b sg (fun k => k = qa) (some ⟨(List.replicate N none).set 0 (some ⟨loM f.f.n sg.st sg.ps lo, []⟩), [0]⟩))) := hide (by
    have hR : Rd w6 (fun k => k = s ∨ k = q ∨ k = qa) 2 (some ⟨r0, 0, none⟩) lo ((loM f.f.n sg.st sg.ps lo).flatMap Ty.cells) := Rd.of_blk HR6.out (by have := HY6.out.sx.lt; omega) (show ((loM f.f.n sg.st sg.ps lo).flatMap Ty.cells).length = lo * 2 by rw [flat_lenT, hlM])
    have h9 := flow_any w6 B q qa gi g m s n N 0 T f b sg none 0 [] (List.replicate N none) (fun k => k = qa) ⟨loM f.f.n sg.st sg.ps lo, []⟩ (some ⟨r0, 0, none⟩) none lo 0 HY6.out HV6.out (by simp) c.k (fun k e => by subst e; exact ⟨hqa3.1, HV6.out.atb.lt⟩) c.N (by simp) (by rw [hlM]; exact hR) (Rd.nil _ _ _ _) (VsS.of hFtM hShM (by omega) c.sk) (by have := c.M; omega) (by omega) (fun i x hx => by have := List.mem_of_getElem? hx; rw [List.mem_replicate] at this; cases this.2)
    rw [flow_first T N _ hN1] at h9
    simp only [hlM, List.length_nil] at h9
    exact h9)
   have s0 : w6.cell? ⟨r1, 0, none⟩ = some (.slice (some ⟨r0, 0, none⟩) lo lo) := HST6.out.cell 0
   have s1 : w6.cell? ⟨r1, 1, none⟩ = some (.slice none 0 0) := HST6.out.cell 1
   clear hlM hShM hFtM hps
   go_wp2_with (go_at_call 40; refine HFL.out.mono ?_; rintro e w7 ⟨rfl, hv7, _, hk7, hK7⟩; have HV7 := hide hv7; have HK7 := hide hk7; have HN7 := hide (hK7 _ rfl); clear hv7 hk7 hK7)
   obtain ⟨A7, tA7, tc7, hA7, hvk7, hsy7⟩ := HN7.out
   have hA7l : A7.length = N := by have h9 := congrArg List.length hA7; simpa using h9.symm
   have HL7 : Hid (Rl w w7 B q qa gi g m s M N T f b sg r (n + 1000000) 10000000 A7 tA7 tc7 [0]) := hide ⟨hvk7.weak (fun k hz hk => by have := HKW.out.size; rcases hz with e | e; exact ⟨by omega, hk⟩; exact ⟨by omega, hk⟩), hsy7, hA7l, by rw [hlo2, ← hA7]; exact HRM.out, by omega, by omega, HKW.out.trans' HK7.out (fun k _ e => by omega)⟩
   clear hA7 hvk7 hsy7 hA7l HN7 HV7 HK7 HFL HRM s0 s1 HY6 HV6 HR6 HST6 HKW
   go_loopg [5] 10000000 (fun fu v wr => ∃ (n1 : Nat) (A : List (Option Vp)) (tA : Option Addr) (tc : Nat) (td : List Nat), Hid (Rl w wr B q qa gi g m s M N T f b sg r n1 fu A tA tc td))
   case atStart => exact ⟨_, _, _, _, _, HL7⟩
   case round =>
    obtain ⟨n1, A, tA, tc, td, HL⟩ := hrel
    clear HL7
    obtain ⟨fu, rfl⟩ : ∃ x, gk = x + 1 := ⟨gk - 1, by have := HL.out.rm.mu; omega⟩
    have hlk := HL.out.lk
    have hle := HL.out.le
    rcases td.eq_nil_or_concat with rfl | ⟨td, i, rfl⟩
    case inl =>
     have q20 : wr.cell? ⟨q, 20, none⟩ = some (.slice tA 0 tc) := HL.out.sy.sx.kq.cell 20
     go_wp2_with fail
     go_ret
     exact ⟨-1, rfl, by rw [← HRR.out (), HL.out.rm.done rfl]; rfl, HL.out.sy.sx.vt.mono (by omega), HL.out.kp⟩
    case inr =>
     simp only [List.concat_eq_append] at HL
     obtain ⟨x, hx, hxS, hxl, hiN⟩ := HL.out.x c
     obtain ⟨g5, rfl⟩ := own_some HL.out.vk.todo (by simp)
     have q20 : wr.cell? ⟨q, 20, none⟩ = some (.slice (some ⟨g5, 0, none⟩) (td.length + 1) tc) := by have h9 := HL.out.sy.sx.kq.cell 20; simpa using h9
     have d0 : wr.cell? ⟨g5, td.length, none⟩ = some (.int .i64 (i : Int)) := by
      obtain ⟨b9, o9, u9, e9, hu9, hc9⟩ := (Rd.of_own2 (F := fun k => k < B) HL.out.vk.todo (fun k hk h => by omega)).at_ td.length (by simp)
      injection e9 with e9
      injection e9 with e8 e9
      subst e8 e9
      simp at hu9
      rw [← hu9] at hc9
      simpa using hc9
     have htl : td.length < 10000000 := by have h9 : (td ++ [i]).length < fu + 1 := HL.out.rm.td_lt; rw [List.length_append, List.length_singleton] at h9; omega
     have hsc : td.length + 1 ≤ tc := by have h9 := own_cap HL.out.vk.todo; simpa using h9
     go_upto_region 10 with fail
     go_quiet (fail)
     obtain ⟨w8, hw8⟩ : ∃ x, x = wr.drewN nq := ⟨_, rfl⟩
     rw [← hw8]
     have hb8 : Below wr.heap.size wr w8 := by rw [hw8]; exact bdrewN (Below.refl _ _) nq
     have HV8 := hide (HL.out.vk.below hb8)
     have HY8 := hide (HL.out.sy.below hb8)
     have HK8 := hide (HL.out.kp.trans' (keep_any (F := fun _ => False) hb8) (fun _ _ h => h.elim))
     have hs8 : w8.heap.size = wr.heap.size := by rw [hw8]; rfl
     clear hw8 hb8 q20 d0
     have q20 : w8.cell? ⟨q, 20, none⟩ = some (.slice (some ⟨g5, 0, none⟩) (td.length + 1) tc) := by have h9 := HY8.out.sx.kq.cell 20; simpa using h9
     have q20f := HY8.out.sx.kq.frozen 20
     have e1 : IntKind.i64.wrap (td.length : Int) = (td.length : Int) := by rw [IntKind.wrap_i64]; omega
     have hsc2 : td.length ≤ tc := by omega
     go_upto_region 11 with fail
     go_cut [5] (fun v5 wx => v5 = .int .i64 (i : Int) ∧ wx = (w8.setCell ⟨q, 20, none⟩ (.slice (some ⟨g5, 0, none⟩) td.length tc)).drew)
     case first =>
      go_still_tail 14, (by kernel_rfl)
      go_wp2_with fail
      go_meet
      exact ⟨rfl, rfl⟩
     case rest =>
      obtain ⟨rfl, hw9⟩ := hcut
      obtain ⟨w9, rfl⟩ : ∃ x : World, x = wc := ⟨_, rfl⟩
      have hqB' := HY8.out.sx.lt
      have HV9 : Hid (Vk w9 B qa (fun k => B ≤ k ∧ k < wr.heap.size) A (some ⟨g5, 0, none⟩) tc td) := hide (by rw [hw9]; exact (HV8.out.last HY8.out.sx.kq hqB'.2.2.2.2 (fun k h => h.1)).below (bdrewN (Below.refl _ _) 1))
      have HY9 : Hid (Sy w9 B q gi g m s n1 T f b sg (.slice (some ⟨qa, 0, none⟩) N N) (.slice (some ⟨g5, 0, none⟩) td.length tc)) := hide (by rw [hw9]; exact (HY8.out.todo _).drew)
      have HK9 : Hid (Keep (fun k => k = s ∨ k = q ∨ B ≤ k) w w9) := hide (by rw [hw9]; exact (HK8.out.setCell (p := ⟨q, 20, none⟩) (fun _ => .inr (.inl rfl)) _).drew)
      have hs9 : w9.heap.size = wr.heap.size := by rw [hw9, ← hs8]; simp [World.drew]
      clear hw9 HV8 HY8 HK8 hs8 q20 q20f e1 hsc2
      have q13 : w9.cell? ⟨q, 13, none⟩ = some (.slice b.A N b.c) := by have h9 := HY9.out.sx.kq.cell 13; rw [← c.k]; simpa using h9
      have hbd := HY9.out.bd
      have hbl : b.code.length = N := by rw [← c.k]; exact hbd.2.1
      obtain ⟨cb, co, hcA, hcF, hcl, hcc⟩ := Rd.rec_ (f := coC) (fun _ => rfl) hbd.1 hbd.2.1 i (by rw [c.k]; exact hiN)
      generalize hX : b.code[i] = X at hcc
      obtain ⟨ic, ia⟩ := X
      have hxi : b.code[i]? = some (ic, ia) := by rw [List.getElem?_eq_getElem (by omega), hX]
      have HIN := hide (c.ins _ (List.mem_of_getElem? hxi))
      obtain ⟨ja, rfl⟩ : ∃ x : Nat, ia = (x : Int) := ⟨ia.toNat, (Int.toNat_of_nonneg (rt_pos HIN.out).1).symm⟩
      have m0 : w9.cell? ⟨cb, co + i * 2, none⟩ = some (.int .i64 ic) := hcc 0 _ rfl
      have m1 : w9.cell? ⟨cb, co + i * 2 + 1, none⟩ = some (.int .i64 (ja : Int)) := hcc 1 _ rfl
      have HXI := hide hxi
      clear hcc hX hxi hbd
      rw [hcA] at q13
      clear hcA
      go_upto_region 13 with fail
      obtain ⟨w10, hw10⟩ : ∃ x, x = w9.alloc (.cells #[.int .i64 ic, .int .i64 (ja : Int)] 87) := ⟨_, rfl⟩
      obtain ⟨r6, hr6⟩ : ∃ x, x = wr.heap.size := ⟨_, rfl⟩
      have hb10 : Below w9.heap.size w9 w10 := by rw [hw10]; exact (Below.refl _ _).alloc (Nat.le_refl _) _
      have HI10 : Hid (Blk w10 r6 87 #[.int .i64 ic, .int .i64 (ja : Int)]) := hide (by rw [hw10, hr6, ← hs9]; exact Blk.new _ _ _)
      have HV10 : Hid (Vk w10 B qa (fun k => B ≤ k ∧ k < r6) A (some ⟨g5, 0, none⟩) tc td) := hide ((HV9.out.below hb10).weak (fun k h _ => ⟨h.1, by omega⟩))
      have HY10 := hide (HY9.out.below hb10)
      have HK10 := hide (HK9.out.trans' (keep_any (F := fun _ => False) hb10) (fun _ _ h => h.elim))
      have hs10 : w10.heap.size = r6 + 1 := by rw [hw10, hr6, ← hs9]; simp
      have hBr6 : B ≤ r6 := by have := HK9.out.size; omega
      rw [← hw10]
      rw [← hr6]
      clear hw10 hr6 hb10 HV9 HY9 HK9 hs9 q13 m0 m1 hcF hcl
      have HXW := hide (HV10.out.ws i x hx)
      have q19 : w10.cell? ⟨q, 19, none⟩ = some (.slice (some ⟨qa, 0, none⟩) N N) := HY10.out.sx.kq.cell 19
      have k0 : w10.cell? ⟨qa, i, none⟩ = some (.pointer (some ⟨x.p, 0, none⟩)) := by rw [HV10.out.ptr_at i, hx]; rfl
      have c0 : w10.cell? ⟨x.p, 0, none⟩ = some (.slice x.la x.v.lo.length x.lc) := HXW.out.blk.cell 0
      have c1 : w10.cell? ⟨x.p, 1, none⟩ = some (.slice x.sa x.v.st.length x.sc) := HXW.out.blk.cell 1
      have HCL := hide (clone_any x.la x.sa x.lc x.sc x.v.lo x.v.st w10 (own_rd2 HXW.out.lown).old (own_rd2 HXW.out.sown).old (by have := hxS.2.2.1; omega) (by have := hxS.2.2.2; omega))
      go_upto_region 14 with (go_at_call 41; refine HCL.out.mono ?_; rintro e w11 ⟨la', lc', sa', sc', rfl, ho1, ho2, hne, hb11⟩; have HO1 := hide ho1; have HO2 := hide ho2; have HNE := hide hne; have HB11 := hide hb11; clear ho1 ho2 hne hb11)
      obtain ⟨w12, hw12⟩ : ∃ y, y = w11.alloc (.cells #[.slice la' x.v.lo.length lc', .slice sa' x.v.st.length sc'] 113) := ⟨_, rfl⟩
      obtain ⟨p7, hp7⟩ : ∃ x, x = w11.heap.size := ⟨_, rfl⟩
      have hb12 : Below w11.heap.size w11 w12 := by rw [hw12]; exact (Below.refl _ _).alloc (Nat.le_refl _) _
      have hB12 : Below w10.heap.size w10 w12 := HB11.out.trans (hb12.mono HB11.out.size)
      have hs12 : w12.heap.size = p7 + 1 := by rw [hw12, hp7]; simp
      have hp10 : w10.heap.size ≤ p7 := by rw [hp7]; exact HB11.out.size
      have HWS : Hid (Ws w12 w10.heap.size p7 la' lc' sa' sc' x.v.lo x.v.st) := hide ⟨by rw [hw12, hp7]; exact Blk.new _ _ _, hp10, own_keep HO1.out (keep_any (F := fun _ => False) hb12) (fun _ _ h => h), own_keep HO2.out (keep_any (F := fun _ => False) hb12) (fun _ _ h => h), HNE.out⟩
      have HV12 := hide (HV10.out.below hB12)
      have HY12 := hide (HY10.out.below hB12)
      have HK12 := hide (HK10.out.trans' (keep_any (F := fun _ => False) hB12) (fun _ _ h => h.elim))
      have HI12 := hide (HI10.out.below hB12 HI10.out.lt)
      obtain ⟨N5, hN5⟩ : ∃ x, x = w10.heap.size := ⟨_, rfl⟩
      rw [← hN5] at HWS hp10 hs10
      rw [← hw12, ← hp7]
      clear hw12 hp7 hb12 hB12 hN5 HV10 HY10 HK10 HI10 HXW q19 k0 c0 c1 HCL HO1 HO2 HNE HB11
      have HSX : Hid (Sx w12 N5 q gi g m s n1 T f b sg (.slice (some ⟨qa, 0, none⟩) N N) (.slice (some ⟨g5, 0, none⟩) td.length tc)) := hide (HY12.out.base (by omega) (by omega))
      have hcM := c.M
      have hq1 := le_k hlk 200000 (by decide)
      have hq2 := le_k hlk 0 (by decide)
      have hq3 : n1 ≤ 5000000000000000 := Nat.le_trans hq2 (Nat.le_trans hcM (by decide))
      have HST := hide (step_any HSX.out (p := p7) (v := x.v) ⟨_, _, _, _, HWS.out⟩ hxS hq3 hxl c.ps ic ja HIN.out)
      rw [Int.toNat_natCast] at HST
      have i0 : w12.cell? ⟨r6, 0, none⟩ = some (.int .i64 ic) := HI12.out.cell 0
      have i1 : w12.cell? ⟨r6, 1, none⟩ = some (.int .i64 (ja : Int)) := HI12.out.cell 1
      have HXA : Hid ((A.map (Option.map Vp.v))[i]? = some (some x.v)) := hide (by rw [List.getElem?_map, hx]; rfl)
      rcases hstep : stepM T f.ppl b.sk sg.r ic ja x.v with _ | v'
      case none =>
       rw [hstep] at HST
       have hbad := HL.out.bad (nextM_none HXA.out HXI.out (by rw [Int.toNat_natCast]; exact hstep))
       clear hstep
       go_wp2_with (go_at_call 42; refine HST.out.mono ?_; rintro e w13 ⟨rfl, hx13, hk13, _⟩; have HX13 := hide hx13; have HK13 := hide hk13; clear hx13 hk13)
       go_ret
       exact ⟨i, rfl, by rw [← HRR.out (), hbad]; exact decide_eq_false (by omega), HX13.out.vt.mono hq1, HK12.out.trans' HK13.out (fun k _ e => by unfold Fr3 at e; omega)⟩
      case some =>
       rw [hstep] at HST
       obtain ⟨ir, hir⟩ : ∃ y : Option Vm, y = nextM T f.ppl b.sk sg.r b.code i ⟨A.map (Option.map Vp.v), td⟩ := ⟨_, rfl⟩
       have HNX : Hid (∀ _ : Unit, nextM T f.ppl b.sk sg.r b.code i ⟨A.map (Option.map Vp.v), td⟩ = match (if ic = 27 ∨ ic = 28 then flowM T ⟨A.map (Option.map Vp.v), td⟩ ja v' else some ⟨A.map (Option.map Vp.v), td⟩) with | none => none | some K1 => if ic = 27 ∨ ic = 29 then some K1 else flowM T K1 (i + 1) v') := hide (fun _ => by have h9 := nextM_some (T := T) (p := f.ppl) (sk := b.sk) (ret := sg.r) (td := td) HXA.out HXI.out (by rw [Int.toNat_natCast]; exact hstep); rw [Int.toNat_natCast] at h9; exact h9)
       obtain ⟨hgd, hsh, hmu⟩ := HL.out.pop
       have hfx := hgd.fit x.v (List.mem_of_getElem? HXA.out)
       have hsx := hsh x.v (List.mem_of_getElem? HXA.out)
       have hfv := step_fit hfx hstep
       have hsv := step_sho c.pos hsx hstep
       have hVS : VsS v' := VsS.of hfv hsv (by omega) c.sk
       have HGD := hide hgd
       have HSH := hide hsh
       have HMU := hide hmu
       have HFV := hide hfv
       have HSV := hide hsv
       clear hir hgd hsh hmu hfx hsx hfv hsv hstep
       go_upto_region 16 with (go_at_call 42; refine HST.out.mono ?_; rintro e w13 ⟨rfl, hx13, hk13, hv13⟩; have HX13 := hide hx13; have HK13 := hide hk13; have HV13 := hide (hv13 _ rfl); clear hx13 hk13 hv13)
       obtain ⟨la, lc, sa, sc, hws⟩ := HV13.out
       have HMM : Hid (Mm w w13 B N5 w13.heap.size q qa gi g m s N (n1 + 200000) T f b sg (fun k => B ≤ k ∧ k < r6) A (some ⟨g5, 0, none⟩) tc td r6 p7 la sa lc sc v' ic (ja : Int)) := hide ⟨HV12.out.keep HK13.out (fun k hz hk e => by unfold Fr3 at e; omega), HY12.out.kp HX13.out.vt (HK13.out.mono (fun k _ e => by unfold Fr3 at e; omega)), HK12.out.trans' HK13.out (fun k _ e => by unfold Fr3 at e; omega), own_rd3 hws.lown, own_rd3 hws.sown, hws.blk, HI12.out.keep HK13.out (by unfold Fr3; omega), ⟨hp10, hws.blk.lt, Nat.le_refl _, hBr6, by omega⟩, fun k h => .inl h⟩
       obtain ⟨N6, hN6⟩ : ∃ y, y = w13.heap.size := ⟨_, rfl⟩
       rw [← hN6] at HMM
       clear hN6 hws HX13 HK13 HV13 HV12 HY12 HK12 HI12 HWS HSX HST i0 i1 HXA hs12
       have p0 : w13.cell? ⟨p7, 0, none⟩ = some (.slice la v'.lo.length lc) := HMM.out.bp.cell 0
       have p1 : w13.cell? ⟨p7, 1, none⟩ = some (.slice sa v'.st.length sc) := HMM.out.bp.cell 1
       have i0 : w13.cell? ⟨r6, 0, none⟩ = some (.int .i64 ic) := HMM.out.bi.cell 0
       have i1 : w13.cell? ⟨r6, 1, none⟩ = some (.int .i64 (ja : Int)) := HMM.out.bi.cell 1
       by_cases h27 : ic = 27
       case pos =>
        subst h27
        have hjN : ja ≤ 1000000 := by have h3 := (rt_idx (show rtC 27 (ja : Int) (manyV f.ppl b.pl (pl 27)) = true from HIN.out) (by decide)).2; rw [show manyV f.ppl b.pl (pl 27) = (b.code.length : Int) from rfl] at h3; have := c.N; omega
        replace HNX : Hid (∀ _ : Unit, nextM T f.ppl b.sk sg.r b.code i ⟨A.map (Option.map Vp.v), td⟩ = flowM T ⟨A.map (Option.map Vp.v), td⟩ ja v') := hide (fun _ => by rw [HNX.out (), if_pos (by decide)]; cases flowM T ⟨A.map (Option.map Vp.v), td⟩ ja v' <;> rfl)
        rcases hrr : flowM T ⟨A.map (Option.map Vp.v), td⟩ ja v' with _ | K1
        case none =>
         have hbad := HL.out.bad (by rw [HNX.out (), hrr])
         go_wp2_with (first | (go_at_call 40; refine (HMM.out.flow c HGD.out HSH.out HMU.out hle hVS HFV.out HSV.out (Nat.le_trans (le_k hlk 200000 (by decide)) (Nat.le_trans hcM (by decide))) ja (ja : Int) rfl hjN _ hrr).mono ?_; rintro e w14 ⟨rfl, hv14, h14, hbi14, hk14, hK14⟩; have HV14 := hide hv14; have HK14 := hide hk14; have i0 : w14.cell? ⟨r6, 0, none⟩ = some (.int .i64 27) := hbi14.cell 0; have i1 : w14.cell? ⟨r6, 1, none⟩ = some (.int .i64 (ja : Int)) := hbi14.cell 1; clear hv14 hbi14 hk14 hK14) | (go_at_call 43; refine (where_any _ q N b.A b.c i (ja : Int) h14 (by omega)).mono ?_; rintro e w15 ⟨z, hz, rfl, hb15⟩; have HB15 := hide hb15; clear hb15))
         go_ret
         exact ⟨z, rfl, by rw [← HRR.out (), hbad]; exact decide_eq_false (by omega), (HV14.out.below HB15.out).mono (le_k2 hlk 200000 1000000 (by decide)), HK14.out.trans' (keep_any (F := fun _ => False) HB15.out) (fun _ _ h => h.elim)⟩
        case some =>
         have HEN : Hid (∀ ww : World, Calls Tryd.prog 44 #[.int .i64 27] ww (Gives ww (.bool true))) := hide (fun ww => by have h9 := ends_any 27 ww; rwa [show decide ((27 : Int) = 27 ∨ (27 : Int) = 29) = true from by first | decide | (exact decide_eq_false (by omega))] at h9)
         go_wp2_with (first | (go_at_call 40; refine (HMM.out.flow c HGD.out HSH.out HMU.out hle hVS HFV.out HSV.out (Nat.le_trans (le_k hlk 200000 (by decide)) (Nat.le_trans hcM (by decide))) ja (ja : Int) rfl hjN _ hrr).mono ?_; rintro e w14 ⟨rfl, hv14, h14, hbi14, hk14, hK14⟩; have HQ14 := hide (hK14 _ rfl); have i0 : w14.cell? ⟨r6, 0, none⟩ = some (.int .i64 27) := hbi14.cell 0; have i1 : w14.cell? ⟨r6, 1, none⟩ = some (.int .i64 (ja : Int)) := hbi14.cell 1; clear hv14 h14 hbi14 hk14 hK14) | (go_at_call 44; refine (HEN.out _).mono ?_; rintro e w15 ⟨rfl, hb15⟩; have HB15 := hide hb15; clear hb15))
         obtain ⟨_, _, _, A2, tA2, tc2, hK2, hM14⟩ := HQ14.out
         have HME := hide (hM14.below HB15.out)
         go_roundg fu
         case measure => omega
         case rel => exact ⟨_, _, _, _, _, hide (HL.out.next (K' := K1) c (by rw [HNX.out (), hrr]) (congrArg Vm.at_ hK2) HME.out.vk (fun k h => by have := HME.out.nm; omega) HME.out.sy (le_n2 200000 1000000 (by decide)) HME.out.kp)⟩
       case neg =>
        by_cases h28 : ic = 28
        case pos =>
         subst h28
         have hjN : ja ≤ 1000000 := by have h3 := (rt_idx (show rtC 28 (ja : Int) (manyV f.ppl b.pl (pl 28)) = true from HIN.out) (by decide)).2; rw [show manyV f.ppl b.pl (pl 28) = (b.code.length : Int) from rfl] at h3; have := c.N; omega
         replace HNX : Hid (∀ _ : Unit, nextM T f.ppl b.sk sg.r b.code i ⟨A.map (Option.map Vp.v), td⟩ = match flowM T ⟨A.map (Option.map Vp.v), td⟩ ja v' with | none => none | some K1 => flowM T K1 (i + 1) v') := hide (fun _ => by rw [HNX.out (), if_pos (by decide)]; cases flowM T ⟨A.map (Option.map Vp.v), td⟩ ja v' <;> rfl)
         rcases hrr : flowM T ⟨A.map (Option.map Vp.v), td⟩ ja v' with _ | K1
         case none =>
          have hbad := HL.out.bad (by rw [HNX.out (), hrr])
          go_wp2_with (first | (go_at_call 40; refine (HMM.out.flow c HGD.out HSH.out HMU.out hle hVS HFV.out HSV.out (Nat.le_trans (le_k hlk 200000 (by decide)) (Nat.le_trans hcM (by decide))) ja (ja : Int) rfl hjN _ hrr).mono ?_; rintro e w14 ⟨rfl, hv14, h14, hbi14, hk14, hK14⟩; have HV14 := hide hv14; have HK14 := hide hk14; have i0 : w14.cell? ⟨r6, 0, none⟩ = some (.int .i64 28) := hbi14.cell 0; have i1 : w14.cell? ⟨r6, 1, none⟩ = some (.int .i64 (ja : Int)) := hbi14.cell 1; clear hv14 hbi14 hk14 hK14) | (go_at_call 43; refine (where_any _ q N b.A b.c i (ja : Int) h14 (by omega)).mono ?_; rintro e w15 ⟨z, hz, rfl, hb15⟩; have HB15 := hide hb15; clear hb15))
          go_ret
          exact ⟨z, rfl, by rw [← HRR.out (), hbad]; exact decide_eq_false (by omega), (HV14.out.below HB15.out).mono (le_k2 hlk 200000 1000000 (by decide)), HK14.out.trans' (keep_any (F := fun _ => False) HB15.out) (fun _ _ h => h.elim)⟩
         case some =>
          obtain ⟨L1, td1⟩ := K1
          have HEN : Hid (∀ ww : World, Calls Tryd.prog 44 #[.int .i64 28] ww (Gives ww (.bool false))) := hide (fun ww => by have h9 := ends_any 28 ww; rwa [show decide ((28 : Int) = 27 ∨ (28 : Int) = 29) = false from by first | decide | (exact decide_eq_false (by omega))] at h9)
          go_upto_region 18 with (go_at_call 40; refine (HMM.out.flow c HGD.out HSH.out HMU.out hle hVS HFV.out HSV.out (Nat.le_trans (le_k hlk 200000 (by decide)) (Nat.le_trans hcM (by decide))) ja (ja : Int) rfl hjN _ hrr).mono ?_; rintro e w14 ⟨rfl, hv14, h14, hbi14, hk14, hK14⟩; have HQ14 := hide (hK14 _ rfl); have i0 : w14.cell? ⟨r6, 0, none⟩ = some (.int .i64 28) := hbi14.cell 0; have i1 : w14.cell? ⟨r6, 1, none⟩ = some (.int .i64 (ja : Int)) := hbi14.cell 1; clear hv14 h14 hbi14 hk14 hK14)
          obtain ⟨hg1, hs1, hu1, A2, tA2, tc2, hK2, hM14⟩ := HQ14.out
          injection hK2 with hK2
          subst hK2
          have HM14 := hide hM14
          have HG1 := hide hg1
          have HS1 := hide hs1
          have HU1 := hide hu1
          replace HNX : Hid (∀ _ : Unit, nextM T f.ppl b.sk sg.r b.code i ⟨A.map (Option.map Vp.v), td⟩ = flowM T ⟨A2.map (Option.map Vp.v), td1⟩ (i + 1) v') := hide (fun _ => by rw [HNX.out (), hrr])
          clear HQ14 hM14 hg1 hs1 hu1
          have p0 : w14.cell? ⟨p7, 0, none⟩ = some (.slice la v'.lo.length lc) := HM14.out.bp.cell 0
          have p1 : w14.cell? ⟨p7, 1, none⟩ = some (.slice sa v'.st.length sc) := HM14.out.bp.cell 1
          rcases hrr2 : flowM T ⟨A2.map (Option.map Vp.v), td1⟩ (i + 1) v' with _ | K2
          case none =>
           have hbad := HL.out.bad (by rw [HNX.out (), hrr2])
           go_wp2_with (first | (go_at_call 44; refine (HEN.out _).mono ?_; rintro e w15 ⟨rfl, hb15⟩; have HB15 := hide hb15; have p0 : w15.cell? ⟨p7, 0, none⟩ = some (.slice la v'.lo.length lc) := (HM14.out.below hb15).bp.cell 0; have p1 : w15.cell? ⟨p7, 1, none⟩ = some (.slice sa v'.st.length sc) := (HM14.out.below hb15).bp.cell 1; clear hb15) | (go_at_call 40; refine ((HM14.out.below HB15.out).flow c HG1.out HS1.out HU1.out hle hVS HFV.out HSV.out (Nat.le_trans (le_k2 hlk 200000 1000000 (by decide)) (Nat.le_trans hcM (by decide))) (i + 1) ((i : Int) + 1) (by omega) (by omega) _ hrr2).mono ?_; rintro e w16 ⟨rfl, hv16, h16, hbi16, hk16, hK16⟩; have HV16 := hide hv16; have HK16 := hide hk16; have i0 : w16.cell? ⟨r6, 0, none⟩ = some (.int .i64 28) := hbi16.cell 0; have i1 : w16.cell? ⟨r6, 1, none⟩ = some (.int .i64 (ja : Int)) := hbi16.cell 1; clear hv16 hbi16 hk16 hK16) | (go_at_call 43; refine (where_any _ q N b.A b.c i ((i : Int) + 1) h16 (by omega)).mono ?_; rintro e w17 ⟨z, hz, rfl, hb17⟩; have HB17 := hide hb17; clear hb17))
           go_ret
           exact ⟨z, rfl, by rw [← HRR.out (), hbad]; exact decide_eq_false (by omega), (HV16.out.below HB17.out).mono (le_k3 hlk 200000 1000000 1000000 (by decide)), HK16.out.trans' (keep_any (F := fun _ => False) HB17.out) (fun _ _ h => h.elim)⟩
          case some =>
           go_wp2_with (first | (go_at_call 44; refine (HEN.out _).mono ?_; rintro e w15 ⟨rfl, hb15⟩; have HB15 := hide hb15; have p0 : w15.cell? ⟨p7, 0, none⟩ = some (.slice la v'.lo.length lc) := (HM14.out.below hb15).bp.cell 0; have p1 : w15.cell? ⟨p7, 1, none⟩ = some (.slice sa v'.st.length sc) := (HM14.out.below hb15).bp.cell 1; clear hb15) | (go_at_call 40; refine ((HM14.out.below HB15.out).flow c HG1.out HS1.out HU1.out hle hVS HFV.out HSV.out (Nat.le_trans (le_k2 hlk 200000 1000000 (by decide)) (Nat.le_trans hcM (by decide))) (i + 1) ((i : Int) + 1) (by omega) (by omega) _ hrr2).mono ?_; rintro e w16 ⟨rfl, hv16, h16, hbi16, hk16, hK16⟩; have HQ16 := hide (hK16 _ rfl); have i0 : w16.cell? ⟨r6, 0, none⟩ = some (.int .i64 28) := hbi16.cell 0; have i1 : w16.cell? ⟨r6, 1, none⟩ = some (.int .i64 (ja : Int)) := hbi16.cell 1; clear hv16 h16 hbi16 hk16 hK16))
           obtain ⟨_, _, _, A2, tA2, tc2, hK2, hM16⟩ := HQ16.out
           have HME := hide (hM16)
           go_roundg fu
           case measure => omega
           case rel => exact ⟨_, _, _, _, _, hide (HL.out.next (K' := K2) c (by rw [HNX.out (), hrr2]) (congrArg Vm.at_ hK2) HME.out.vk (fun k h => by have := HME.out.nm; omega) HME.out.sy (le_n3 200000 1000000 1000000 (by decide)) HME.out.kp)⟩
        case neg =>
         replace HNX : Hid (∀ _ : Unit, nextM T f.ppl b.sk sg.r b.code i ⟨A.map (Option.map Vp.v), td⟩ = if ic = 29 then some ⟨A.map (Option.map Vp.v), td⟩ else flowM T ⟨A.map (Option.map Vp.v), td⟩ (i + 1) v') := hide (fun _ => by rw [HNX.out (), if_neg (by omega)]; show (if ic = 27 ∨ ic = 29 then _ else _) = _; by_cases e : ic = 29; rw [if_pos (Or.inr e), if_pos e]; rw [if_neg (by omega), if_neg e])
         by_cases h29 : ic = 29
         case pos =>
          subst h29
          replace HNX : Hid (∀ _ : Unit, nextM T f.ppl b.sk sg.r b.code i ⟨A.map (Option.map Vp.v), td⟩ = some ⟨A.map (Option.map Vp.v), td⟩) := hide (fun _ => by rw [HNX.out (), if_pos rfl])
          have HEN : Hid (∀ ww : World, Calls Tryd.prog 44 #[.int .i64 29] ww (Gives ww (.bool true))) := hide (fun ww => by have h9 := ends_any 29 ww; rwa [show decide ((29 : Int) = 27 ∨ (29 : Int) = 29) = true from by first | decide | (exact decide_eq_false (by omega))] at h9)
          go_wp2_with (go_at_call 44; refine (HEN.out _).mono ?_; rintro e w15 ⟨rfl, hb15⟩; have HB15 := hide hb15; clear hb15)
          have HME := hide (HMM.out.below HB15.out)
          go_roundg fu
          case measure => omega
          case rel => exact ⟨_, _, _, _, _, hide (HL.out.next (K' := ⟨A.map (Option.map Vp.v), td⟩) c (HNX.out ()) (rfl) HME.out.vk (fun k h => by have := HME.out.nm; omega) HME.out.sy (le_n 200000 (by decide)) HME.out.kp)⟩
         case neg =>
          replace HNX : Hid (∀ _ : Unit, nextM T f.ppl b.sk sg.r b.code i ⟨A.map (Option.map Vp.v), td⟩ = flowM T ⟨A.map (Option.map Vp.v), td⟩ (i + 1) v') := hide (fun _ => by rw [HNX.out (), if_neg h29])
          have HEN : Hid (∀ ww : World, Calls Tryd.prog 44 #[.int .i64 ic] ww (Gives ww (.bool false))) := hide (fun ww => by have h9 := ends_any ic ww; rwa [show decide (ic = 27 ∨ ic = 29) = false from by first | decide | (exact decide_eq_false (by omega))] at h9)
          go_upto_region 18 with fail
          rcases hrr2 : flowM T ⟨A.map (Option.map Vp.v), td⟩ (i + 1) v' with _ | K2
          case none =>
           have hbad := HL.out.bad (by rw [HNX.out (), hrr2])
           go_wp2_with (first | (go_at_call 44; refine (HEN.out _).mono ?_; rintro e w15 ⟨rfl, hb15⟩; have HB15 := hide hb15; have p0 : w15.cell? ⟨p7, 0, none⟩ = some (.slice la v'.lo.length lc) := (HMM.out.below hb15).bp.cell 0; have p1 : w15.cell? ⟨p7, 1, none⟩ = some (.slice sa v'.st.length sc) := (HMM.out.below hb15).bp.cell 1; clear hb15) | (go_at_call 40; refine ((HMM.out.below HB15.out).flow c HGD.out HSH.out HMU.out hle hVS HFV.out HSV.out (Nat.le_trans (le_k hlk 200000 (by decide)) (Nat.le_trans hcM (by decide))) (i + 1) ((i : Int) + 1) (by omega) (by omega) _ hrr2).mono ?_; rintro e w16 ⟨rfl, hv16, h16, hbi16, hk16, hK16⟩; have HV16 := hide hv16; have HK16 := hide hk16; have i0 : w16.cell? ⟨r6, 0, none⟩ = some (.int .i64 ic) := hbi16.cell 0; have i1 : w16.cell? ⟨r6, 1, none⟩ = some (.int .i64 (ja : Int)) := hbi16.cell 1; clear hv16 hbi16 hk16 hK16) | (go_at_call 43; refine (where_any _ q N b.A b.c i ((i : Int) + 1) h16 (by omega)).mono ?_; rintro e w17 ⟨z, hz, rfl, hb17⟩; have HB17 := hide hb17; clear hb17))
           go_ret
           exact ⟨z, rfl, by rw [← HRR.out (), hbad]; exact decide_eq_false (by omega), (HV16.out.below HB17.out).mono (le_k2 hlk 200000 1000000 (by decide)), HK16.out.trans' (keep_any (F := fun _ => False) HB17.out) (fun _ _ h => h.elim)⟩
          case some =>
           go_wp2_with (first | (go_at_call 44; refine (HEN.out _).mono ?_; rintro e w15 ⟨rfl, hb15⟩; have HB15 := hide hb15; have p0 : w15.cell? ⟨p7, 0, none⟩ = some (.slice la v'.lo.length lc) := (HMM.out.below hb15).bp.cell 0; have p1 : w15.cell? ⟨p7, 1, none⟩ = some (.slice sa v'.st.length sc) := (HMM.out.below hb15).bp.cell 1; clear hb15) | (go_at_call 40; refine ((HMM.out.below HB15.out).flow c HGD.out HSH.out HMU.out hle hVS HFV.out HSV.out (Nat.le_trans (le_k hlk 200000 (by decide)) (Nat.le_trans hcM (by decide))) (i + 1) ((i : Int) + 1) (by omega) (by omega) _ hrr2).mono ?_; rintro e w16 ⟨rfl, hv16, h16, hbi16, hk16, hK16⟩; have HQ16 := hide (hK16 _ rfl); have i0 : w16.cell? ⟨r6, 0, none⟩ = some (.int .i64 ic) := hbi16.cell 0; have i1 : w16.cell? ⟨r6, 1, none⟩ = some (.int .i64 (ja : Int)) := hbi16.cell 1; clear hv16 h16 hbi16 hk16 hK16))
           obtain ⟨_, _, _, A2, tA2, tc2, hK2, hM16⟩ := HQ16.out
           have HME := hide (hM16)
           go_roundg fu
           case measure => omega
           case rel => exact ⟨_, _, _, _, _, hide (HL.out.next (K' := K2) c (by rw [HNX.out (), hrr2]) (congrArg Vm.at_ hK2) HME.out.vk (fun k h => by have := HME.out.nm; omega) HME.out.sy (le_n2 200000 1000000 (by decide)) HME.out.kp)⟩
end Go.Proofs.YtmbegaobnpoefaaDoor
