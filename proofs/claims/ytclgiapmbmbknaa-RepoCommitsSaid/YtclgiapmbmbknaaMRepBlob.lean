/- blob.Name and Text, walked; no statement of the seat is proved here. (Written by gen/repblob.py.) -/
import Derived.Test.YtclgiapmbmbknaaMRepW
import Derived.Deep.RegionHeld3
import Derived.Great.Ranges
namespace Go.Proofs.Ytclgiapmbmbknaa
open Go.RowKit Go.Maps
set_option linter.unusedVariables false
set_option linter.unusedSimpArgs false

/-- The digest of one text, wherever its slice lies. -/
theorem Rd.of_one {w : World} {b : Nat} {t : TypeId} {size : Nat} {cs : List Value} {F : Nat → Prop} (h : Blk w b t cs.toArray) (hs : cs.length = size) (hF : ¬ F b) : Rd w F size (some ⟨b, 0, none⟩) 1 cs :=
  ⟨by rw [hs, Nat.one_mul], fun _ => ⟨b, 0, rfl, hF, h.lt, fun j u hu => by rw [Nat.zero_add, h.cell j]; simpa using hu⟩⟩
theorem sum_blk (W : World) (b : Nat) (l : List UInt8) (hl : l.length ≤ 1099511627776) (hb : Blk W b 9 #[S l]) : Calls Try.prog 23 #[.slice (some ⟨b, 0, none⟩) 1 1] W fun e w' => e = .returned (.agg (darr (sumM l))) ∧ Below W.heap.size W w' := by
  refine (sum_any W (some ⟨b, 0, none⟩) 1 1 [l] (Rd.of_one (cs := [S l]) (by simpa using hb) rfl (by have := hb.lt; omega)) rfl (by simpa using hl) (by omega)).mono ?_
  rintro e w' ⟨rfl, hbe⟩
  exact ⟨by simp, hbe⟩
theorem dg_size {dz : Array Value} {d : List UInt8} (h : dz = darr d) (hd : d.length = 32) : dz.size = 32 ∧ dz.all (·.oneCell') = true := ⟨by rw [h, darr_size, hd], by rw [h]; exact darr_one _⟩
set_option maxRecDepth 100000 in
set_option maxHeartbeats 2000000 in
theorem name_any (w : World) (d : List UInt8) (hd : d.length = 32) : Calls Try.prog 11 #[.agg (darr d)] w (Gives w (S (bnm d))) := by
  obtain ⟨dz, hdz⟩ : ∃ z, z = darr d := ⟨_, rfl⟩
  have HDZ := hide (dg_size hdz hd)
  obtain ⟨q, hq⟩ : ∃ q, q = w.heap.size := ⟨_, rfl⟩
  obtain ⟨wB, hwB⟩ : ∃ wB, wB = w.alloc (.cells dz 41) := ⟨_, rfl⟩
  have HQ : Hid (Blk wB q 41 dz) := hide (by rw [hwB, hq]; exact Blk.new _ _ _)
  have HB : Hid (Below w.heap.size w wB) := hide (by rw [hwB]; exact (Below.refl _ w).alloc (Nat.le_refl _) _)
  have HHX := hide (hex_any wB d hd)
  have hxl : (hexM d).length = 64 := by rw [hexM_len, hd]
  rw [← hdz] at HHX ⊢
  clear hdz
  go_enter Try.func11, Try.ntmps11
  go_upto_region 1 with (refine Go.Great.wpList_boxTo rfl 41 (.tmp 0) rfl _ rfl q hq.symm dz rfl ?_)
  rw [← hwB, ← hq]
  clear hwB hq
  go_wp2_with (first
    | (refine wpList_load_mid rfl 41 (.tmp 1) rfl q 0 rfl dz.toList _ HQ.out.range Try.underlying41 rfl (by rw [Array.length_toList, HDZ.out.1]; exact dig_info) ?_; rw [Array.toArray_toList])
    | (go_at_call 30; refine HHX.out.mono ?_; rintro e w2 ⟨rfl, hb2⟩; have HB2 := hide (HB.out.trans (hb2.mono HB.out.size)); clear hb2))
  go_ret
  exact ⟨rfl, HB2.out⟩

/-- What Text answers. -/
def textA (R : Fl) (d : List UInt8) : List UInt8 × Int := match R (bnm d) with
  | none => ([], 5)
  | some t => if sumM t = d then (t, 0) else ([], 40)
set_option maxRecDepth 100000 in
set_option maxHeartbeats 4000000 in
theorem text_ds (B g room M : Nat) (s : Ds) (w : World) (h : DAt w B g room M s) (hM : M ≤ 80000) (hu : s.dn = false) (d : List UInt8) (hd : d.length = 32) (ht : ∀ t, s.R (bnm d) = some t → t.length ≤ 1000) :
    Calls Try.prog 29 #[.agg #[.pointer (some ⟨g, 0, none⟩)], .agg (darr d)] w (fun e w' => e = .returned (.tuple #[S (textA s.R d).1, .int .i64 (textA s.R d).2]) ∧ Below w.heap.size w w') := by
  obtain ⟨dz, hdz⟩ : ∃ z, z = darr d := ⟨_, rfl⟩
  have HDZ := hide (dg_size hdz hd)
  have HDV : Hid (∀ _ : Unit, dz = darr d) := hide (fun _ => hdz)
  have hnl : (bnm d).length = 66 := by rw [bnm_len, hd]
  obtain ⟨nm, hnm⟩ : ∃ x, x = bnm d := ⟨_, rfl⟩
  have HNA : Hid (∀ W, Calls Try.prog 11 #[.agg dz] W (Gives W (S nm))) := hide (fun W => by rw [hdz, hnm]; exact name_any W d hd)
  obtain ⟨er, her⟩ : ∃ e : Int, e = if (s.R nm).isSome then 0 else 5 := ⟨_, rfl⟩
  obtain ⟨tt, htt⟩ : ∃ t, t = (s.R nm).getD [] := ⟨_, rfl⟩
  have HRD : Hid (∀ W, Below w.heap.size w W → Calls Try.prog 34 #[.pointer (some ⟨g, 0, none⟩), S nm] W (fun e w' => e = .returned (.tuple #[S tt, .int .i64 er]) ∧ Below W.heap.size W w')) := hide (fun W hb => by rw [her, htt]; exact read_ds B g room M s W (h.below hb) nm hM (by unfold short; rw [hnm]; omega) hu)
  obtain ⟨r, hr⟩ : ∃ r, r = textA s.R d := ⟨_, rfl⟩
  have HTA : Hid (r = match s.R nm with | none => ([], 5) | some t => if sumM t = d then (t, 0) else ([], 40)) := hide (by rw [hr, textA, ← hnm])
  have HTL : Hid (∀ t, s.R nm = some t → t.length ≤ 1000) := hide (by rw [hnm]; exact ht)
  rw [← hr, ← hdz]
  have HER : Hid (∀ _ : Unit, er = if (s.R nm).isSome then 0 else 5) := hide (fun _ => her)
  have HTT : Hid (∀ _ : Unit, tt = (s.R nm).getD []) := hide (fun _ => htt)
  clear hr hdz ht hnm hnl her htt
  obtain ⟨qb, hqb⟩ : ∃ q, q = w.heap.size := ⟨_, rfl⟩
  obtain ⟨qd, hqd⟩ : ∃ q, q = w.heap.size + 1 := ⟨_, rfl⟩
  obtain ⟨wE, hwE⟩ : ∃ wE, wE = (w.alloc (.cells #[.pointer (some ⟨g, 0, none⟩)] 32)).alloc (.cells dz 41) := ⟨_, rfl⟩
  have HQB : Hid (Blk wE qb 32 #[.pointer (some ⟨g, 0, none⟩)]) := hide (by rw [hwE, hqb]; exact (Blk.new _ _ _).alloc _)
  have HQD : Hid (Blk wE qd 41 dz) := hide (by
    have := Blk.new (w.alloc (.cells #[.pointer (some ⟨g, 0, none⟩)] 32)) 41 dz
    rw [World.size_alloc, ← hqd, ← hwE] at this
    exact this)
  have HBE : Hid (Below w.heap.size w wE) := hide (by rw [hwE]; exact ((Below.refl _ w).alloc (Nat.le_refl _) _).alloc (by simp) _)
  have HS3 : Hid (∀ w', Below wE.heap.size wE w' → w'.cell? ⟨qb, 0, none⟩ = some (.pointer (some ⟨g, 0, none⟩)) ∧ w'.rangeAt qd 0 dz.toList) := hide (fun w' hb => ⟨(HQB.out.below hb HQB.out.lt).cell 0, (HQD.out.below hb HQD.out.lt).range⟩)
  have hdu := Try.underlying41
  have hdi : (Try.prog.info? 41).map (·.size) = some dz.toList.length := by rw [Array.length_toList, HDZ.out.1]; exact dig_info
  go_enter Try.func29, Try.ntmps29
  go_upto_region 1 with (refine Go.Great.wpList_boxTo rfl 41 (.tmp 1) rfl _ rfl qd (by first | (rw [hqd]; simp) | exact hqd.symm) dz rfl ?_)
  rw [← hwE, ← hqd, ← hqb]
  clear hwE hqd hqb
  refine wp_region_noPanic ?_
  refine wp_region_held_drew (S := (fun w' => w'.cell? ⟨qb, 0, none⟩ = some (.pointer (some ⟨g, 0, none⟩)) ∧ w'.rangeAt qd 0 dz.toList)) (by kernel_rfl) (HS3.out _ (Below.refl _ _).drew) (fun hHeld => ?_)
  obtain ⟨w1, hw1⟩ : ∃ x, x = wE.drew := ⟨_, rfl⟩
  rw [← hw1] at hHeld ⊢
  have HB1 : Hid (Below wE.heap.size wE w1) := hide (by rw [hw1]; exact (Below.refl _ _).drew)
  clear hw1
  refine wpAnyH_take (i := 0) (v := ?_) (by simp only [List.getElem?_toArray, List.getElem?_cons_zero]; rfl) (by kernel_rfl) (by kernel_rfl) (by kernel_rfl) (fun _ _ _ h => h) (Or.inl ⟨by rfl, ?_⟩) (by assumption) ?_
  rotate_left
  · (intro wS hSw; have c1 := hSw.1; go_simp; try with_reducible rfl)
  try simp only [Act.put, List.setIfInBounds_toArray, List.set_cons_zero, List.set_cons_succ]
  refine wpAnyH_take (i := 1) (v := ?_) (by simp only [List.getElem?_toArray, List.getElem?_cons_zero, List.getElem?_cons_succ]; rfl) (by kernel_rfl) (by kernel_rfl) (by kernel_rfl) (fun _ _ _ h => h) (Or.inl ⟨by rfl, ?_⟩) (by assumption) ?_
  rotate_left
  · (intro wS hSw; have c1 := hSw.1; go_simp; try with_reducible rfl)
  try simp only [Act.put, List.setIfInBounds_toArray, List.set_cons_zero, List.set_cons_succ]
  refine wpAnyH_take (i := 2) (by simp only [List.getElem?_toArray, List.getElem?_cons_zero, List.getElem?_cons_succ]; rfl) (by kernel_rfl) (by kernel_rfl) (by kernel_rfl) (fun _ _ _ h => h) (yieldsIf_load_mid (by rfl) _ _ rfl qd 0 rfl dz.toList _ (fun _ h => h.2) hdu rfl hdi) (by assumption) ?_
  simp only [Act.put, List.setIfInBounds_toArray, List.set_cons_zero, List.set_cons_succ, Array.toArray_toList]
  refine wpAnyH_ready (rs := [3]) (by kernel_rfl) (by simp) ?_
  refine AllReadyH.cons (by simp only [List.getElem?_toArray, List.getElem?_cons_zero, List.getElem?_cons_succ]; rfl) (fun K hK => ?_) AllReadyH.nil
  try rw [if_pos (by rfl)]
  go_simp
  go_at_call 11
  refine (HNA.out w1).mono ?_
  rintro e w2 ⟨rfl, hb⟩
  have HB2 := hide (HB1.out.trans (hb.mono HB1.out.size))
  clear hb
  try go_wp2_with fail
  refine hK.out _ _ (HS3.out _ HB2.out) (fun hHeld => ?_)
  clear hK K
  try simp only [Act.put, List.setIfInBounds_toArray, List.set_cons_zero, List.set_cons_succ]
  refine wpAnyH_ready (rs := [4]) (by kernel_rfl) (by simp) ?_
  refine AllReadyH.cons (by simp only [List.getElem?_toArray, List.getElem?_cons_zero, List.getElem?_cons_succ]; rfl) (fun K hK => ?_) AllReadyH.nil
  try rw [if_pos (by rfl)]
  go_simp
  go_at_call 34
  refine (HRD.out w2 (HBE.out.trans (HB2.out.mono HBE.out.size))).mono ?_
  rintro e w3 ⟨rfl, hb⟩
  have HB3 := hide (HB2.out.trans (hb.mono HB2.out.size))
  clear hb
  try go_wp2_with fail
  refine hK.out _ _ (HS3.out _ HB3.out) (fun hHeld => ?_)
  clear hK K
  try simp only [Act.put, List.setIfInBounds_toArray, List.set_cons_zero, List.set_cons_succ]
  refine wpAnyH_take (i := 5) (v := ?_) (by simp only [List.getElem?_toArray, List.getElem?_cons_zero, List.getElem?_cons_succ]; rfl) (by kernel_rfl) (by kernel_rfl) (by kernel_rfl) (fun _ _ _ h => h) (Or.inl ⟨by rfl, ?_⟩) (by assumption) ?_
  rotate_left
  · (intro wS hSw; have c1 := hSw.1; go_simp; try with_reducible rfl)
  try simp only [Act.put, List.setIfInBounds_toArray, List.set_cons_zero, List.set_cons_succ]
  refine wpAnyH_take (i := 6) (v := ?_) (by simp only [List.getElem?_toArray, List.getElem?_cons_zero, List.getElem?_cons_succ]; rfl) (by kernel_rfl) (by kernel_rfl) (by kernel_rfl) (fun _ _ _ h => h) (Or.inl ⟨by rfl, ?_⟩) (by assumption) ?_
  rotate_left
  · (intro wS hSw; have c1 := hSw.1; go_simp; try with_reducible rfl)
  try simp only [Act.put, List.setIfInBounds_toArray, List.set_cons_zero, List.set_cons_succ]
  refine wpAnyH_take (i := 7) (v := ?_) (by simp only [List.getElem?_toArray, List.getElem?_cons_zero, List.getElem?_cons_succ]; rfl) (by kernel_rfl) (by kernel_rfl) (by kernel_rfl) (fun _ _ _ h => h) (Or.inl ⟨by rfl, ?_⟩) (by assumption) ?_
  rotate_left
  · (intro wS hSw; have c1 := hSw.1; go_simp; try with_reducible rfl)
  try simp only [Act.put, List.setIfInBounds_toArray, List.set_cons_zero, List.set_cons_succ]
  refine wpAnyH_take (i := 8) (v := ?_) (by simp only [List.getElem?_toArray, List.getElem?_cons_zero, List.getElem?_cons_succ]; rfl) (by kernel_rfl) (by kernel_rfl) (by kernel_rfl) (fun _ _ _ h => h) (Or.inl ⟨by rfl, ?_⟩) (by assumption) ?_
  rotate_left
  · (intro wS hSw; have c1 := hSw.1; go_simp; try with_reducible rfl)
  try simp only [Act.put, List.setIfInBounds_toArray, List.set_cons_zero, List.set_cons_succ]
  refine wpAnyH_take (i := 9) (v := ?_) (by simp only [List.getElem?_toArray, List.getElem?_cons_zero, List.getElem?_cons_succ]; rfl) (by kernel_rfl) (by kernel_rfl) (by kernel_rfl) (fun _ _ _ h => h) (Or.inl ⟨by rfl, ?_⟩) (by assumption) ?_
  rotate_left
  · (intro wS hSw; have c1 := hSw.1; go_simp; try with_reducible rfl)
  try simp only [Act.put, List.setIfInBounds_toArray, List.set_cons_zero, List.set_cons_succ]
  refine wpAnyH_done (by kernel_rfl) ?_ _
  refine NoPanic.normal ?_
  clear HB1 HB2 HNA HRD hHeld
  have her := HER.out ()
  have htt := HTT.out ()
  clear HER HTT
  obtain ⟨rt, hrt⟩ : ∃ x, x = s.R nm := ⟨_, rfl⟩
  rw [← hrt] at HTA HTL her htt
  clear hrt
  have HB3w : Hid (Below w.heap.size w w3) := hide (HBE.out.trans (HB3.out.mono HBE.out.size))
  cases rt with
  | none =>
    obtain rfl : er = 5 := her
    obtain rfl : tt = [] := htt
    go_upto_region 2 with fail
    refine wp_region_noPanic ?_
    refine wp_region_held_drew (S := (fun w' => w'.cell? ⟨qb, 0, none⟩ = some (.pointer (some ⟨g, 0, none⟩)) ∧ w'.rangeAt qd 0 dz.toList)) (by kernel_rfl) (HS3.out _ (HB3.out.trans (Below.refl _ w3).drew)) (fun hHeld => ?_)
    obtain ⟨w4, hw4⟩ : ∃ x, x = w3.drew := ⟨_, rfl⟩
    rw [← hw4] at hHeld ⊢
    refine wpAnyH_take (i := 0) (v := ?_) (by simp only [List.getElem?_toArray, List.getElem?_cons_zero]; rfl) (by kernel_rfl) (by kernel_rfl) (by kernel_rfl) (fun _ _ _ h => h) (Or.inl ⟨by rfl, ?_⟩) (by assumption) ?_
    rotate_left
    · (intro wS hSw; have c1 := hSw.1; go_simp; try with_reducible rfl)
    try simp only [Act.put, List.setIfInBounds_toArray, List.set_cons_zero, List.set_cons_succ]
    refine wpAnyH_take (i := 1) (v := ?_) (by simp only [List.getElem?_toArray, List.getElem?_cons_zero, List.getElem?_cons_succ]; rfl) (by kernel_rfl) (by kernel_rfl) (by kernel_rfl) (fun _ _ _ h => h) (Or.inl ⟨by rfl, ?_⟩) (by assumption) ?_
    rotate_left
    · (intro wS hSw; have c1 := hSw.1; go_simp; try with_reducible rfl)
    try simp only [Act.put, List.setIfInBounds_toArray, List.set_cons_zero, List.set_cons_succ]
    refine wpAnyH_take (i := 2) (v := ?_) (by simp only [List.getElem?_toArray, List.getElem?_cons_zero, List.getElem?_cons_succ]; rfl) (by kernel_rfl) (by kernel_rfl) (by kernel_rfl) (fun _ _ _ h => h) (Or.inl ⟨by rfl, ?_⟩) (by assumption) ?_
    rotate_left
    · (intro wS hSw; have c1 := hSw.1; go_simp; try with_reducible rfl)
    try simp only [Act.put, List.setIfInBounds_toArray, List.set_cons_zero, List.set_cons_succ]
    refine wpAnyH_take (i := 3) (v := undef) (by simp only [List.getElem?_toArray, List.getElem?_cons_zero, List.getElem?_cons_succ]; rfl) (by kernel_rfl) (by kernel_rfl) (by kernel_rfl) (fun _ _ _ h => h) (Or.inr ⟨by rfl, rfl⟩) (by assumption) ?_
    try simp only [Act.put, List.setIfInBounds_toArray, List.set_cons_zero, List.set_cons_succ]
    refine wpAnyH_take (i := 4) (v := undef) (by simp only [List.getElem?_toArray, List.getElem?_cons_zero, List.getElem?_cons_succ]; rfl) (by kernel_rfl) (by kernel_rfl) (by kernel_rfl) (fun _ _ _ h => h) (Or.inr ⟨by rfl, rfl⟩) (by assumption) ?_
    try simp only [Act.put, List.setIfInBounds_toArray, List.set_cons_zero, List.set_cons_succ]
    refine wpAnyH_take (i := 5) (v := undef) (by simp only [List.getElem?_toArray, List.getElem?_cons_zero, List.getElem?_cons_succ]; rfl) (by kernel_rfl) (by kernel_rfl) (by kernel_rfl) (fun _ _ _ h => h) (Or.inr ⟨by rfl, rfl⟩) (by assumption) ?_
    try simp only [Act.put, List.setIfInBounds_toArray, List.set_cons_zero, List.set_cons_succ]
    refine wpAnyH_take (i := 6) (v := undef) (by simp only [List.getElem?_toArray, List.getElem?_cons_zero, List.getElem?_cons_succ]; rfl) (by kernel_rfl) (by kernel_rfl) (by kernel_rfl) (fun _ _ _ h => h) (Or.inr ⟨by rfl, rfl⟩) (by assumption) ?_
    try simp only [Act.put, List.setIfInBounds_toArray, List.set_cons_zero, List.set_cons_succ]
    refine wpAnyH_take (i := 7) (v := undef) (by simp only [List.getElem?_toArray, List.getElem?_cons_zero, List.getElem?_cons_succ]; rfl) (by kernel_rfl) (by kernel_rfl) (by kernel_rfl) (fun _ _ _ h => h) (Or.inr ⟨by rfl, rfl⟩) (by assumption) ?_
    try simp only [Act.put, List.setIfInBounds_toArray, List.set_cons_zero, List.set_cons_succ]
    refine wpAnyH_take (i := 8) (v := ?_) (by simp only [List.getElem?_toArray, List.getElem?_cons_zero, List.getElem?_cons_succ]; rfl) (by kernel_rfl) (by kernel_rfl) (by kernel_rfl) (fun _ _ _ h => h) (Or.inl ⟨by rfl, ?_⟩) (by assumption) ?_
    rotate_left
    · (intro wS hSw; have c1 := hSw.1; go_simp; try with_reducible rfl)
    try simp only [Act.put, List.setIfInBounds_toArray, List.set_cons_zero, List.set_cons_succ]
    refine wpAnyH_done (by kernel_rfl) ?_ _
    refine NoPanic.normal ?_
    go_wp2_with fail
    go_ret2
    exact ⟨by rw [HTA.out] <;> rfl, HB3w.out.drew⟩
  | some t =>
    obtain rfl : er = 0 := her
    obtain rfl : tt = t := htt
    have htl : tt.length ≤ 1000 := HTL.out tt rfl
    obtain ⟨ez, hez⟩ : ∃ z, z = darr (sumM tt) := ⟨_, rfl⟩
    obtain ⟨B2, hB2⟩ : ∃ b, b = (sumM tt != d) := ⟨_, rfl⟩
    have heq : ∀ w, (binOp .neq 41 (.agg ez) (.agg dz)).run Try.prog w = .ok (.bool B2) w := fun w => by rw [hez, HDV.out (), hB2]; exact run_neq_darr _ _ (sumM_len _) hd w
    have HSB : Hid (∀ W b, Blk W b 9 #[S tt] → Calls Try.prog 23 #[.slice (some ⟨b, 0, none⟩) 1 1] W fun e w' => e = .returned (.agg ez) ∧ Below W.heap.size W w') := hide (fun W b hb => by rw [hez]; exact sum_blk W b tt (by omega) hb)
    have HTB : Hid (r = if B2 then ([], 40) else (tt, 0)) := hide (by rw [HTA.out, hB2]; show (if sumM tt = d then (tt, (0 : Int)) else ([], 40)) = _; by_cases h : sumM tt = d <;> simp [h])
    clear hez hB2
    go_upto_region 2 with fail
    refine wp_region_noPanic ?_
    refine wp_region_held_drew (S := (fun w' => w'.cell? ⟨qb, 0, none⟩ = some (.pointer (some ⟨g, 0, none⟩)) ∧ w'.rangeAt qd 0 dz.toList)) (by kernel_rfl) (HS3.out _ (HB3.out.trans (Below.refl _ w3).drew)) (fun hHeld => ?_)
    obtain ⟨w4, hw4⟩ : ∃ x, x = w3.drew := ⟨_, rfl⟩
    rw [← hw4] at hHeld ⊢
    have HB4 : Hid (Below wE.heap.size wE w4) := hide (by rw [hw4]; exact HB3.out.trans (Below.refl _ w3).drew)
    clear hw4
    refine wpAnyH_take (i := 0) (v := ?_) (by simp only [List.getElem?_toArray, List.getElem?_cons_zero]; rfl) (by kernel_rfl) (by kernel_rfl) (by kernel_rfl) (fun _ _ _ h => h) (Or.inl ⟨by rfl, ?_⟩) (by assumption) ?_
    rotate_left
    · (intro wS hSw; have c1 := hSw.1; go_simp; try with_reducible rfl)
    try simp only [Act.put, List.setIfInBounds_toArray, List.set_cons_zero, List.set_cons_succ]
    refine wpAnyH_take (i := 1) (v := ?_) (by simp only [List.getElem?_toArray, List.getElem?_cons_zero, List.getElem?_cons_succ]; rfl) (by kernel_rfl) (by kernel_rfl) (by kernel_rfl) (fun _ _ _ h => h) (Or.inl ⟨by rfl, ?_⟩) (by assumption) ?_
    rotate_left
    · (intro wS hSw; have c1 := hSw.1; go_simp; try with_reducible rfl)
    try simp only [Act.put, List.setIfInBounds_toArray, List.set_cons_zero, List.set_cons_succ]
    refine wpAnyH_take (i := 2) (v := ?_) (by simp only [List.getElem?_toArray, List.getElem?_cons_zero, List.getElem?_cons_succ]; rfl) (by kernel_rfl) (by kernel_rfl) (by kernel_rfl) (fun _ _ _ h => h) (Or.inl ⟨by rfl, ?_⟩) (by assumption) ?_
    rotate_left
    · (intro wS hSw; have c1 := hSw.1; go_simp; try with_reducible rfl)
    try simp only [Act.put, List.setIfInBounds_toArray, List.set_cons_zero, List.set_cons_succ]
    refine wpAnyH_take (i := 3) (v := ?_) (by simp only [List.getElem?_toArray, List.getElem?_cons_zero, List.getElem?_cons_succ]; rfl) (by kernel_rfl) (by kernel_rfl) (by kernel_rfl) (fun _ _ _ h => h) (Or.inl ⟨by rfl, ?_⟩) (by assumption) ?_
    rotate_left
    · (intro wS hSw; have c1 := hSw.1; go_simp; try with_reducible rfl)
    try simp only [Act.put, List.setIfInBounds_toArray, List.set_cons_zero, List.set_cons_succ]
    refine wpAnyH_take (i := 6) (by simp only [List.getElem?_toArray, List.getElem?_cons_zero, List.getElem?_cons_succ]; rfl) (by kernel_rfl) (by kernel_rfl) (by kernel_rfl) (fun _ _ _ h => h) (yieldsIf_load_mid (by rfl) _ _ rfl qd 0 rfl dz.toList _ (fun _ h => h.2) hdu rfl hdi) (by assumption) ?_
    simp only [Act.put, List.setIfInBounds_toArray, List.set_cons_zero, List.set_cons_succ, Array.toArray_toList]
    refine wpAnyH_ready (rs := [4]) (by kernel_rfl) (by simp) ?_
    refine AllReadyH.cons (by simp only [List.getElem?_toArray, List.getElem?_cons_zero, List.getElem?_cons_succ]; rfl) (fun K hK => ?_) AllReadyH.nil
    try rw [if_pos (by rfl)]
    go_simp
    try go_wp2_with fail
    refine hK.out _ _ (HS3.out _ (HB4.out.trans (((Below.refl _ w4).alloc (Nat.le_refl _) (.cells #[S tt] 9)).mono HB4.out.size))) (fun hHeld => ?_)
    clear hK K
    try simp only [Act.put, List.setIfInBounds_toArray, List.set_cons_zero, List.set_cons_succ]
    obtain ⟨w5, hw5⟩ : ∃ x, x = w4.alloc (.cells #[S tt] 9) := ⟨_, rfl⟩
    have HC5 : Hid (Blk w5 w4.heap.size 9 #[S tt]) := hide (by rw [hw5]; exact Blk.new _ _ _)
    have HB5 : Hid (Below wE.heap.size wE w5) := hide (by rw [hw5]; exact HB4.out.trans (((Below.refl _ w4).alloc (Nat.le_refl _) _).mono HB4.out.size))
    rw [← hw5] at hHeld ⊢
    obtain ⟨c5, hc5⟩ : ∃ x, x = w4.heap.size := ⟨_, rfl⟩
    rw [← hc5] at HC5 ⊢
    clear hw5 hc5 HB4
    refine wpAnyH_ready (rs := [5]) (by kernel_rfl) (by simp) ?_
    refine AllReadyH.cons (by simp only [List.getElem?_toArray, List.getElem?_cons_zero, List.getElem?_cons_succ]; rfl) (fun K hK => ?_) AllReadyH.nil
    try rw [if_pos (by rfl)]
    go_simp
    go_at_call 23
    refine (HSB.out w5 c5 HC5.out).mono ?_
    rintro e w6 ⟨rfl, hb⟩
    have HB6 := hide (HB5.out.trans (hb.mono HB5.out.size))
    clear hb
    try go_wp2_with fail
    refine hK.out _ _ (HS3.out _ HB6.out) (fun hHeld => ?_)
    clear hK K
    try simp only [Act.put, List.setIfInBounds_toArray, List.set_cons_zero, List.set_cons_succ]
    refine wpAnyH_take (i := 7) (v := ?_) (by simp only [List.getElem?_toArray, List.getElem?_cons_zero, List.getElem?_cons_succ]; rfl) (by kernel_rfl) (by kernel_rfl) (by kernel_rfl) (fun _ _ _ h => h) (Or.inl ⟨by rfl, ?_⟩) (by assumption) ?_
    rotate_left
    · (intro wS hSw; have c1 := hSw.1; go_simp; try with_reducible rfl)
    try simp only [Act.put, List.setIfInBounds_toArray, List.set_cons_zero, List.set_cons_succ]
    refine wpAnyH_take (i := 8) (v := ?_) (by simp only [List.getElem?_toArray, List.getElem?_cons_zero, List.getElem?_cons_succ]; rfl) (by kernel_rfl) (by kernel_rfl) (by kernel_rfl) (fun _ _ _ h => h) (Or.inl ⟨by rfl, ?_⟩) (by assumption) ?_
    rotate_left
    · (intro wS hSw; have c1 := hSw.1; go_simp; try with_reducible rfl)
    try simp only [Act.put, List.setIfInBounds_toArray, List.set_cons_zero, List.set_cons_succ]
    refine wpAnyH_done (by kernel_rfl) ?_ _
    refine NoPanic.normal ?_
    have HBZ : Hid (Below w.heap.size w w6) := hide (HBE.out.trans (HB6.out.mono HBE.out.size))
    cases B2 with
    | true =>
      go_wp2_with fail
      go_ret2
      exact ⟨by rw [HTB.out] <;> rfl, HBZ.out⟩
    | false =>
      go_wp2_with fail
      go_ret2
      exact ⟨by rw [HTB.out] <;> rfl, HBZ.out⟩
end Go.Proofs.Ytclgiapmbmbknaa
