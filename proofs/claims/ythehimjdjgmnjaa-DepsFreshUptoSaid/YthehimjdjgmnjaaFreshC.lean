/- deps.Fresh's closure, walked; no statement of the seat is proved here. (Written by gen/freshc.py.) -/
import Derived.Test.YthehimjdjgmnjaaDepReads
import Derived.Deep.RegionHeld3
import Derived.Great.Ranges
namespace Go.Proofs.Ythehimjdjgmnjaa
open Go.RowKit Go.Maps
set_option linter.unusedVariables false

set_option maxRecDepth 100000 in
set_option maxHeartbeats 4000000 in
theorem frc_any (w0 : World) (g m s n bx : Nat) (T : List Fc) (r : Rdq) (w : World) (h : Tab w g m s T n) (hn : n ≤ 1000000) (hk : short r.n) (hd : r.d.length = 32) (hT : FcsOk w0 T) (hB0 : Below w0.heap.size w0 w) (hs0 : w0.heap.size ≤ s)
    (hbx : Blk w bx 28 #[.pointer (some ⟨g, 0, none⟩)]) (xv : Array Value) (hxv : xv = r.cells.toArray) :
    Calls Try.prog 24 #[.agg xv, .pointer (some ⟨bx, 0, none⟩)] w (fun e w' => e = .returned (.bool (digM T r.n != r.d)) ∧ Tab w' g m s T (n + 1) ∧ Keep (fun b => b = s) w w') := by
  obtain ⟨nm, rd⟩ := r
  obtain ⟨dg, hdg⟩ : ∃ d, d = digM T nm := ⟨_, rfl⟩
  obtain ⟨R, hR⟩ : ∃ R, R = (digM T nm != rd) := ⟨_, rfl⟩
  simp only at hk hd
  show Calls Try.prog 24 #[.agg xv, .pointer (some ⟨bx, 0, none⟩)] w (fun e w' => e = .returned (.bool (digM T nm != rd)) ∧ Tab w' g m s T (n + 1) ∧ Keep (fun b => b = s) w w')
  rw [← hR]
  obtain ⟨q, hq⟩ : ∃ q, q = w.heap.size := ⟨_, rfl⟩
  obtain ⟨wB, hwB⟩ : ∃ wB, wB = w.alloc (.cells xv 77) := ⟨_, rfl⟩
  have hQ : Blk wB q 77 xv := by rw [hwB, hq]; exact Blk.new _ _ _
  have hTB : Tab wB g m s T n := by rw [hwB]; exact h.alloc _
  have hBX : Blk wB bx 28 #[.pointer (some ⟨g, 0, none⟩)] := by rw [hwB]; exact hbx.alloc _
  have hsq : q ≠ s := by have := h.slt; omega
  have hsb : bx ≠ s := by obtain ⟨D, hD⟩ := h.seen; exact blk_map_ne hbx hD
  have hbB : Below w0.heap.size w0 wB.drew := by rw [hwB]; exact (hB0.trans ((Below.refl _ w).alloc hB0.size _)).drew
  have HDD := hide (ddig_any w0 g m s n T nm wB.drew (hTB.below (Below.refl _ _).drew) hn hk hT hbB hs0)
  rw [← hdg] at HDD hR
  have HDL : dg.length = 32 := by rw [hdg, digM_len]
  obtain ⟨dz, hdz⟩ : ∃ d, d = darr rd := ⟨_, rfl⟩
  obtain ⟨ez, hez⟩ : ∃ d, d = darr dg := ⟨_, rfl⟩
  rw [← hez] at HDD
  have heq : ∀ w, (binOp .neq 35 (.agg ez) (.agg dz)).run Try.prog w = .ok (.bool R) w := fun w => by rw [hez, hdz, hR]; exact run_neq_darr dg rd HDL hd w
  have hdu := Try.underlying35
  have hdi : (Try.prog.info? 35).map (·.size) = some dz.toList.length := by rw [Array.length_toList, hdz, darr_size, hd]; exact dig_info
  have c1 : wB.cell? ⟨bx, 0, none⟩ = some (.pointer (some ⟨g, 0, none⟩)) := hBX.cell 0
  have c2 : wB.cell? ⟨q, 0, none⟩ = some (S nm) := by rw [hQ.cell 0, hxv]; rfl
  have c3 : wB.rangeAt q 1 dz.toList := by
    intro j v hj
    rw [hQ.cell (1 + j), hxv]
    have e1 : 1 + j = j + 1 := by omega
    have e2 : dz.toList = (dpad rd).map B8 := by rw [hdz, dpad_id hd]; simp [darr]
    rw [e1]
    rw [e2] at hj
    simpa [Rdq.cells] using hj
  have H0 : Hid (wB.drew.cell? ⟨bx, 0, none⟩ = some (.pointer (some ⟨g, 0, none⟩)) ∧ wB.drew.cell? ⟨q, 0, none⟩ = some (S nm) ∧ wB.drew.rangeAt q 1 dz.toList) := hide ⟨c1, c2, c3⟩
  have HST : Hid (∀ w2, Keep (fun b => b = s) wB.drew w2 → (wB.drew.cell? ⟨bx, 0, none⟩ = some (.pointer (some ⟨g, 0, none⟩)) ∧ wB.drew.cell? ⟨q, 0, none⟩ = some (S nm) ∧ wB.drew.rangeAt q 1 dz.toList) → w2.cell? ⟨bx, 0, none⟩ = some (.pointer (some ⟨g, 0, none⟩)) ∧ w2.cell? ⟨q, 0, none⟩ = some (S nm) ∧ w2.rangeAt q 1 dz.toList) := hide (fun w2 hk2 hS => ⟨(hk2.cell (p := ⟨bx, 0, none⟩) hBX.lt hsb).trans hS.1, (hk2.cell (p := ⟨q, 0, none⟩) hQ.lt hsq).trans hS.2.1, fun j v hj => (hk2.cell (p := ⟨q, 1 + j, none⟩) hQ.lt hsq).trans (hS.2.2 j v hj)⟩)
  have HKB : Hid (Keep (fun b => b = s) w wB.drew) := hide (by rw [hwB]; exact ((Keep.refl _ w).alloc _).drew)
  have HTB := hide hTB
  clear h hTB hBX hbx hB0 hT hbB hQ c1 c2 c3 hR hdg hez hdz hxv hd HDL
  go_enter Try.func24, Try.ntmps24
  go_upto_region 1 with (refine Go.Great.wpList_boxTo rfl 77 (.tmp 0) rfl _ rfl q hq.symm xv rfl ?_)
  rw [← hwB, ← hq]
  clear hwB hq
  refine wp_region_noPanic ?_
  refine wp_region_held_drew (S := fun w' => w'.cell? ⟨bx, 0, none⟩ = some (.pointer (some ⟨g, 0, none⟩)) ∧ w'.cell? ⟨q, 0, none⟩ = some (S nm) ∧ w'.rangeAt q 1 dz.toList) (by kernel_rfl) H0.out (fun hHeld => ?_)
  refine wpAnyH_take (i := 0) (v := ?_) (by simp only [List.getElem?_toArray, List.getElem?_cons_zero]; rfl) (by kernel_rfl) (by kernel_rfl) (by kernel_rfl) (fun _ _ _ h => h) (Or.inl ⟨by rfl, ?_⟩) (by assumption) ?_
  rotate_left
  · (intro wS hSw; have c1 := hSw.1; have c2 := hSw.2.1; go_simp; try with_reducible rfl)
  try simp only [Act.put, List.setIfInBounds_toArray, List.set_cons_zero, List.set_cons_succ]
  refine wpAnyH_take (i := 1) (v := ?_) (by simp only [List.getElem?_toArray, List.getElem?_cons_zero, List.getElem?_cons_succ]; rfl) (by kernel_rfl) (by kernel_rfl) (by kernel_rfl) (fun _ _ _ h => h) (Or.inl ⟨by rfl, ?_⟩) (by assumption) ?_
  rotate_left
  · (intro wS hSw; have c1 := hSw.1; have c2 := hSw.2.1; go_simp; try with_reducible rfl)
  try simp only [Act.put, List.setIfInBounds_toArray, List.set_cons_zero, List.set_cons_succ]
  refine wpAnyH_take (i := 2) (v := ?_) (by simp only [List.getElem?_toArray, List.getElem?_cons_zero, List.getElem?_cons_succ]; rfl) (by kernel_rfl) (by kernel_rfl) (by kernel_rfl) (fun _ _ _ h => h) (Or.inl ⟨by rfl, ?_⟩) (by assumption) ?_
  rotate_left
  · (intro wS hSw; have c1 := hSw.1; have c2 := hSw.2.1; go_simp; try with_reducible rfl)
  try simp only [Act.put, List.setIfInBounds_toArray, List.set_cons_zero, List.set_cons_succ]
  refine wpAnyH_take (i := 4) (v := ?_) (by simp only [List.getElem?_toArray, List.getElem?_cons_zero, List.getElem?_cons_succ]; rfl) (by kernel_rfl) (by kernel_rfl) (by kernel_rfl) (fun _ _ _ h => h) (Or.inl ⟨by rfl, ?_⟩) (by assumption) ?_
  rotate_left
  · (intro wS hSw; have c1 := hSw.1; have c2 := hSw.2.1; go_simp; try with_reducible rfl)
  try simp only [Act.put, List.setIfInBounds_toArray, List.set_cons_zero, List.set_cons_succ]
  refine wpAnyH_take (i := 5) (by simp only [List.getElem?_toArray, List.getElem?_cons_zero, List.getElem?_cons_succ]; rfl) (by kernel_rfl) (by kernel_rfl) (by kernel_rfl) (fun _ _ _ h => h) (yieldsIf_load_mid (by rfl) _ _ rfl q 1 rfl dz.toList _ (fun _ h => h.2.2) hdu rfl hdi) (by assumption) ?_
  simp only [Act.put, List.setIfInBounds_toArray, List.set_cons_zero, List.set_cons_succ, Array.toArray_toList]
  refine wpAnyH_ready (rs := [3]) (by kernel_rfl) (by simp) ?_
  refine AllReadyH.cons (by simp only [List.getElem?_toArray, List.getElem?_cons_zero, List.getElem?_cons_succ]; rfl) (fun K hK => ?_) AllReadyH.nil
  go_simp
  go_at_call 19
  refine HDD.out.mono ?_
  rintro e w2 ⟨rfl, ht2, hk2⟩
  have HT2 := hide ht2
  have HK2 := hide hk2
  clear ht2 hk2
  go_wp2_with fail
  refine hK.out _ _ (HST.out w2 HK2.out hHeld) (fun hHeld => ?_)
  clear hK K
  try simp only [Act.put, List.setIfInBounds_toArray, List.set_cons_zero, List.set_cons_succ]
  refine wpAnyH_take (i := 6) (v := ?_) (by simp only [List.getElem?_toArray, List.getElem?_cons_zero, List.getElem?_cons_succ]; rfl) (by kernel_rfl) (by kernel_rfl) (by kernel_rfl) (fun _ _ _ h => h) (Or.inl ⟨by rfl, ?_⟩) (by assumption) ?_
  rotate_left
  · (intro wS hSw; have c1 := hSw.1; have c2 := hSw.2.1; go_simp; try with_reducible rfl)
  try simp only [Act.put, List.setIfInBounds_toArray, List.set_cons_zero, List.set_cons_succ]
  refine wpAnyH_take (i := 7) (v := ?_) (by simp only [List.getElem?_toArray, List.getElem?_cons_zero, List.getElem?_cons_succ]; rfl) (by kernel_rfl) (by kernel_rfl) (by kernel_rfl) (fun _ _ _ h => h) (Or.inl ⟨by rfl, ?_⟩) (by assumption) ?_
  rotate_left
  · (intro wS hSw; have c1 := hSw.1; have c2 := hSw.2.1; go_simp; try with_reducible rfl)
  try simp only [Act.put, List.setIfInBounds_toArray, List.set_cons_zero, List.set_cons_succ]
  refine wpAnyH_done (by kernel_rfl) ?_ _
  refine NoPanic.normal ?_
  go_wp2_with fail
  go_ret
  exact ⟨rfl, HT2.out, (HKB.out.trans HK2.out)⟩
end Go.Proofs.Ythehimjdjgmnjaa
