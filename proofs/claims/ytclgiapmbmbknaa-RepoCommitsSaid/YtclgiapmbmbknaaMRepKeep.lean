/- blob.Keep, walked; no statement of the seat is proved here. (Written by gen/repkeep.py.) -/
import Derived.Test.YtclgiapmbmbknaaMRepBlob
namespace Go.Proofs.Ytclgiapmbmbknaa
open Go.RowKit Go.Maps
set_option linter.unusedVariables false
set_option linter.unusedSimpArgs false

theorem zero_dg (w : World) : (zeroValue 41).run Try.prog w = .ok (.agg ZC) w := by kernel_rfl
section
variable {w w' : World} {B g room M : Nat} {s : Ds}
theorem DAt.keep {q : Nat} {t : TypeId} {cs : Array Value} (h : DAt w B g room M s) (hq : Blk w q t cs) (h1 : t ≠ 66) (h2 : t ≠ 80) (hk : Keep (fun k => k = q) w w') : DAt w' B g room M s := by
  obtain ⟨b, N, n, c, A, hd, h3, h4⟩ := h
  refine ⟨b, N, n, c, A, hd.keep hk (fun e => ?_) (fun e => ?_) (fun k hk e => ?_), h3, h4⟩
  · exact hq.ne_ hd.blk h1 e.symm
  · obtain ⟨D, ⟨es, clock, hb, _⟩, _⟩ := hd.txt
    unfold Blk at hq
    rw [← e, hb] at hq
    cases hq
  · exact own_blk_ne hd.own hq (fun e => h2 e.symm) (by rw [hk, e])
theorem Fr.keep {w0 : World} {q : Nat} (h : Fr B w0 w) (hk : Keep (fun k => k = q) w w') (hq : w0.heap.size ≤ q) (hB : B ≤ w0.heap.size) : Fr B w0 w' :=
  ⟨h.bel.trans (hk.below (Nat.le_trans hB h.size) (fun k hk => by omega)), fun r t cs h1 h2 hb => (h.far r t cs h1 h2 hb).keep hk (by have := hb.lt; omega)⟩
end

set_option maxRecDepth 100000 in
set_option maxHeartbeats 4000000 in
theorem keep_ds (B g room M : Nat) (s : Ds) (w : World) (h : DAt w B g room M s) (hM : M ≤ 79990) (hr : room ≤ 4194304) (hu : s.dn = false) (t : List UInt8) (ht : t.length ≤ 1000) (tot : Nat) (hT : Tot s.R tot) (htot : tot ≤ 1000000) :
    Calls Try.prog 51 #[.agg #[.pointer (some ⟨g, 0, none⟩)], S t] w (fun e w' => ∃ (s' : Ds) (x : Int) (dd : List UInt8), dd.length = 32 ∧ e = .returned (.tuple #[.agg (darr dd), .int .i64 x]) ∧ DAt w' B g room (M + 1) s' ∧ Fr B w w' ∧
      ((s.R (bnm (sumM t)) = some t ∧ x = 0 ∧ s' = s) ∨ ((x = 8 ∧ s' = s.dead ∧ s.stop) ∨ (¬ s.stop ∧ ((x = 0 ∧ s' = s.tick (s.cs ++ [⟨0, bnm (sumM t), t⟩])) ∨ (x = 7 ∧ s' = s.tick s.cs ∧ (room : Int) < tot + t.length)))))) := by
  have hBw : B ≤ w.heap.size := by have := h.lt; omega
  have HD := hide h
  obtain ⟨d, hd⟩ : ∃ d, d = sumM t := ⟨_, rfl⟩
  have hdl : d.length = 32 := by rw [hd, sumM_len]
  rw [← hd]
  obtain ⟨dz, hdz⟩ : ∃ z, z = darr d := ⟨_, rfl⟩
  have HDZ := hide (dg_size hdz hdl)
  have HDV : Hid (∀ _ : Unit, dz = darr d) := hide (fun _ => hdz)
  have hnl : (bnm d).length = 66 := by rw [bnm_len, hdl]
  obtain ⟨nm, hnm⟩ : ∃ x, x = bnm d := ⟨_, rfl⟩
  have HNA : Hid (∀ W, Calls Try.prog 11 #[.agg dz] W (Gives W (S nm))) := hide (fun W => by rw [hdz, hnm]; exact name_any W d hdl)
  rw [← hnm] at hnl ⊢
  obtain ⟨rt, hrt⟩ : ∃ r, r = s.R nm := ⟨_, rfl⟩
  obtain ⟨er, her⟩ : ∃ e : Int, e = if rt.isSome then 0 else 5 := ⟨_, rfl⟩
  obtain ⟨tt, htt⟩ : ∃ t, t = rt.getD [] := ⟨_, rfl⟩
  have HRD : Hid (∀ W, Below w.heap.size w W → Calls Try.prog 34 #[.pointer (some ⟨g, 0, none⟩), S nm] W (fun e w' => e = .returned (.tuple #[S tt, .int .i64 er]) ∧ Below W.heap.size W w')) := hide (fun W hb => by rw [her, htt, hrt]; exact read_ds B g room M s W (h.below hb) nm (by omega) (by unfold short; omega) hu)
  have HSU : Hid (∀ W b, Blk W b 9 #[S t] → Calls Try.prog 23 #[.slice (some ⟨b, 0, none⟩) 1 1] W fun e w' => e = .returned (.agg dz) ∧ Below W.heap.size W w') := hide (fun W b hb => by rw [hdz, hd]; exact sum_blk W b t (by omega) hb)
  have HWR : Hid (∀ W, Below w.heap.size w W → Calls Try.prog 12 #[.pointer (some ⟨g, 0, none⟩), S nm, S t] W (fun e w' => ∃ (s' : Ds) (x : Int), e = .returned (.int .i64 x) ∧ DAt w' B g room (M + 1) s' ∧ Fr B W w' ∧
      ((x = 8 ∧ s' = s.dead ∧ s.stop) ∨ (¬ s.stop ∧ ((x = 0 ∧ s' = s.tick (s.cs ++ [⟨0, nm, t⟩])) ∨ (x = 7 ∧ s' = s.tick s.cs ∧ (room : Int) < tot + t.length)))))) := hide (fun W hb => write_ds B g room M s W (h.below hb) nm t (by omega) hr tot hT htot (by intro e; rw [e] at hnl; simp at hnl) (by omega) (by omega))
  have HRT : Hid (rt = s.R nm) := hide hrt
  have HER : Hid (∀ _ : Unit, er = if rt.isSome then 0 else 5) := hide (fun _ => her)
  have HTT : Hid (∀ _ : Unit, tt = rt.getD []) := hide (fun _ => htt)
  clear hdz hnm hd hrt her htt h hT htot
  obtain ⟨zc, hzc⟩ : ∃ z, z = ZC := ⟨_, rfl⟩
  have hzero : ∀ w, (zeroValue 41).run Try.prog w = .ok (.agg zc) w := fun w => by rw [hzc]; exact zero_dg w
  have HZS : Hid (zc.size = 32 ∧ zc.all (·.oneCell') = true) := hide (by rw [hzc]; exact ⟨rfl, Z32_one⟩)
  have HBU : Hid (Try.prog.built 41 [] = some zc) := hide (by rw [hzc]; kernel_rfl)
  have HZV : Hid (∀ _ : Unit, zc = darr Z32) := hide (fun _ => by rw [hzc]; exact ZC_is)
  clear hzc
  obtain ⟨qb, hqb⟩ : ∃ q, q = w.heap.size := ⟨_, rfl⟩
  obtain ⟨q4, hq4⟩ : ∃ q, q = w.heap.size + 1 := ⟨_, rfl⟩
  obtain ⟨wA, hwA⟩ : ∃ wE, wE = (w.alloc (.cells #[.pointer (some ⟨g, 0, none⟩)] 32)).alloc (.cells zc 41) := ⟨_, rfl⟩
  have HQBA : Hid (Blk wA qb 32 #[.pointer (some ⟨g, 0, none⟩)]) := hide (by rw [hwA, hqb]; exact (Blk.new _ _ _).alloc _)
  have HQ4A : Hid (Blk wA q4 41 zc) := hide (by
    have := Blk.new (w.alloc (.cells #[.pointer (some ⟨g, 0, none⟩)] 32)) 41 zc
    rw [World.size_alloc, ← hq4, ← hwA] at this
    exact this)
  have HBA : Hid (Below w.heap.size w wA) := hide (by rw [hwA]; exact ((Below.refl _ w).alloc (Nat.le_refl _) _).alloc (by simp) _)
  have HQN : Hid (w.heap.size ≤ q4) := hide (by omega)
  go_enter Try.func51, Try.ntmps51
  go_upto_region 1 with fail
  rw [← hwA, ← hq4, ← hqb]
  clear hwA hq4 hqb
  obtain ⟨wB, hwB⟩ : ∃ x, x = wA.alloc (.cells #[S t] 9) := ⟨_, rfl⟩
  have HSB := hide (HSU.out wB wA.heap.size (by rw [hwB]; exact Blk.new _ _ _))
  have HBB : Hid (Below wA.heap.size wA wB) := hide (by rw [hwB]; exact (Below.refl _ _).alloc (Nat.le_refl _) _)
  rw [hwB] at HSB
  go_upto_region 2 with (first
    | (go_at_call 23; refine HSB.out.mono ?_; rintro e wC ⟨rfl, hbC⟩; have HBC : Hid (Below wA.heap.size wA wC) := hide (HBB.out.trans (by rw [← hwB] at hbC; exact hbC.mono HBB.out.size)); clear hbC; obtain ⟨wD, hwD⟩ : ∃ x, x = (wC.alloc (.cells zc 41)).setCells wC.heap.size 0 dz.toList := ⟨_, rfl⟩; have HBX := hide (box_any wC 41 zc dz (by rw [HDZ.out.1, HZS.out.1])); rw [← hwD] at HBX; have HZT : Hid ((wC.alloc (.cells zc 41)).there wC.heap.size 0 dz.size) := hide ((Blk.new wC 41 zc).there_ (by rw [HDZ.out.1, HZS.out.1])))
    | (refine wpList_store_mid rfl 41 (.tmp 6) (.tmp 12) rfl wC.heap.size 0 dz rfl rfl HZT.out (by rw [HDZ.out.1]; exact dig_info) HDZ.out.2 ?_))
  simp only [show ∀ (x : Act), x.put none undef = x from fun _ => rfl]
  rw [← hwD]
  have HBD : Hid (Below wA.heap.size wA wD) := hide (HBC.out.trans (HBX.out.2.mono HBC.out.size))
  have HQ6D : Hid (Blk wD wC.heap.size 41 dz) := hide HBX.out.1
  obtain ⟨q6, hq6⟩ : ∃ q, q = wC.heap.size := ⟨_, rfl⟩
  rw [← hq6] at HQ6D ⊢
  have HN6 : Hid (q6 ≠ q4) := hide (by have := HQ4A.out.lt; have := HBC.out.size; omega)
  have HQBD := hide (HQBA.out.below HBD.out HQBA.out.lt)
  have HQ4D := hide (HQ4A.out.below HBD.out HQ4A.out.lt)
  have HBE : Hid (Below w.heap.size w wD) := hide (HBA.out.trans (HBD.out.mono HBA.out.size))
  clear hwD hq6 HBX HZT HBC HBB HSB HQBA HQ4A hwB HBA HBD
  have HS3 : Hid (∀ w', Below wD.heap.size wD w' → w'.cell? ⟨qb, 0, none⟩ = some (.pointer (some ⟨g, 0, none⟩)) ∧ w'.rangeAt q6 0 dz.toList) := hide (fun w' hb => ⟨(HQBD.out.below hb HQBD.out.lt).cell 0, (HQ6D.out.below hb HQ6D.out.lt).range⟩)
  have hdu := Try.underlying41
  have hdi : (Try.prog.info? 41).map (·.size) = some dz.toList.length := by rw [Array.length_toList, HDZ.out.1]; exact dig_info
  refine wp_region_noPanic ?_
  refine wp_region_held_drew (S := (fun w' => w'.cell? ⟨qb, 0, none⟩ = some (.pointer (some ⟨g, 0, none⟩)) ∧ w'.rangeAt q6 0 dz.toList)) (by kernel_rfl) (HS3.out _ (Below.refl _ _).drew) (fun hHeld => ?_)
  obtain ⟨w1, hw1⟩ : ∃ x, x = wD.drew := ⟨_, rfl⟩
  rw [← hw1] at hHeld ⊢
  have HB1 : Hid (Below wD.heap.size wD w1) := hide (by rw [hw1]; exact (Below.refl _ _).drew)
  clear hw1
  refine wpAnyH_take (i := 0) (v := ?_) (by simp only [List.getElem?_toArray, List.getElem?_cons_zero]; rfl) (by kernel_rfl) (by kernel_rfl) (by kernel_rfl) (fun _ _ _ h => h) (Or.inl ⟨by rfl, ?_⟩) (by assumption) ?_
  rotate_left
  · (intro wS hSw; have c1 := hSw.1; go_simp; try with_reducible rfl)
  try simp only [Act.put, List.setIfInBounds_toArray, List.set_cons_zero, List.set_cons_succ]
  refine wpAnyH_take (i := 1) (v := ?_) (by simp only [List.getElem?_toArray, List.getElem?_cons_zero, List.getElem?_cons_succ]; rfl) (by kernel_rfl) (by kernel_rfl) (by kernel_rfl) (fun _ _ _ h => h) (Or.inl ⟨by rfl, ?_⟩) (by assumption) ?_
  rotate_left
  · (intro wS hSw; have c1 := hSw.1; go_simp; try with_reducible rfl)
  try simp only [Act.put, List.setIfInBounds_toArray, List.set_cons_zero, List.set_cons_succ]
  refine wpAnyH_take (i := 2) (by simp only [List.getElem?_toArray, List.getElem?_cons_zero, List.getElem?_cons_succ]; rfl) (by kernel_rfl) (by kernel_rfl) (by kernel_rfl) (fun _ _ _ h => h) (yieldsIf_load_mid (by rfl) _ _ rfl q6 0 rfl dz.toList _ (fun _ h => h.2) hdu rfl hdi) (by assumption) ?_
  simp only [Act.put, List.setIfInBounds_toArray, List.set_cons_zero, List.set_cons_succ, Array.toArray_toList]
  refine wpAnyH_ready (rs := [3]) (by kernel_rfl) (by simp) ?_
  refine AllReadyH.cons (by simp only [List.getElem?_toArray, List.getElem?_cons_zero, List.getElem?_cons_succ]; rfl) (fun K hK => ?_) AllReadyH.nil
  try rw [if_pos (by rfl)]
  go_simp
  go_at_call 11
  refine (HNA.out w1).mono ?_
  rintro e w2 ⟨rfl, hb⟩
  have HB2 := hide (HB1.out.trans (hb.mono HB1.out.size))
  clear hb
  try go_wp2_with fail
  refine hK.out _ _ (HS3.out _ HB2.out) (fun hHeld => ?_)
  clear hK K
  try simp only [Act.put, List.setIfInBounds_toArray, List.set_cons_zero, List.set_cons_succ]
  refine wpAnyH_ready (rs := [4]) (by kernel_rfl) (by simp) ?_
  refine AllReadyH.cons (by simp only [List.getElem?_toArray, List.getElem?_cons_zero, List.getElem?_cons_succ]; rfl) (fun K hK => ?_) AllReadyH.nil
  try rw [if_pos (by rfl)]
  go_simp
  go_at_call 34
  refine (HRD.out w2 (HBE.out.trans (HB2.out.mono HBE.out.size))).mono ?_
  rintro e w3 ⟨rfl, hb⟩
  have HB3 := hide (HB2.out.trans (hb.mono HB2.out.size))
  clear hb
  try go_wp2_with fail
  refine hK.out _ _ (HS3.out _ HB3.out) (fun hHeld => ?_)
  clear hK K
  try simp only [Act.put, List.setIfInBounds_toArray, List.set_cons_zero, List.set_cons_succ]
  refine wpAnyH_take (i := 5) (v := ?_) (by simp only [List.getElem?_toArray, List.getElem?_cons_zero, List.getElem?_cons_succ]; rfl) (by kernel_rfl) (by kernel_rfl) (by kernel_rfl) (fun _ _ _ h => h) (Or.inl ⟨by rfl, ?_⟩) (by assumption) ?_
  rotate_left
  · (intro wS hSw; have c1 := hSw.1; go_simp; try with_reducible rfl)
  try simp only [Act.put, List.setIfInBounds_toArray, List.set_cons_zero, List.set_cons_succ]
  refine wpAnyH_take (i := 6) (v := ?_) (by simp only [List.getElem?_toArray, List.getElem?_cons_zero, List.getElem?_cons_succ]; rfl) (by kernel_rfl) (by kernel_rfl) (by kernel_rfl) (fun _ _ _ h => h) (Or.inl ⟨by rfl, ?_⟩) (by assumption) ?_
  rotate_left
  · (intro wS hSw; have c1 := hSw.1; go_simp; try with_reducible rfl)
  try simp only [Act.put, List.setIfInBounds_toArray, List.set_cons_zero, List.set_cons_succ]
  refine wpAnyH_take (i := 7) (v := ?_) (by simp only [List.getElem?_toArray, List.getElem?_cons_zero, List.getElem?_cons_succ]; rfl) (by kernel_rfl) (by kernel_rfl) (by kernel_rfl) (fun _ _ _ h => h) (Or.inl ⟨by rfl, ?_⟩) (by assumption) ?_
  rotate_left
  · (intro wS hSw; have c1 := hSw.1; go_simp; try with_reducible rfl)
  try simp only [Act.put, List.setIfInBounds_toArray, List.set_cons_zero, List.set_cons_succ]
  refine wpAnyH_take (i := 8) (v := ?_) (by simp only [List.getElem?_toArray, List.getElem?_cons_zero, List.getElem?_cons_succ]; rfl) (by kernel_rfl) (by kernel_rfl) (by kernel_rfl) (fun _ _ _ h => h) (Or.inl ⟨by rfl, ?_⟩) (by assumption) ?_
  rotate_left
  · (intro wS hSw; have c1 := hSw.1; go_simp; try with_reducible rfl)
  try simp only [Act.put, List.setIfInBounds_toArray, List.set_cons_zero, List.set_cons_succ]
  refine wpAnyH_take (i := 9) (v := ?_) (by simp only [List.getElem?_toArray, List.getElem?_cons_zero, List.getElem?_cons_succ]; rfl) (by kernel_rfl) (by kernel_rfl) (by kernel_rfl) (fun _ _ _ h => h) (Or.inl ⟨by rfl, ?_⟩) (by assumption) ?_
  rotate_left
  · (intro wS hSw; have c1 := hSw.1; go_simp; try with_reducible rfl)
  try simp only [Act.put, List.setIfInBounds_toArray, List.set_cons_zero, List.set_cons_succ]
  refine wpAnyH_done (by kernel_rfl) ?_ _
  refine NoPanic.normal ?_
  clear HB1 HB2 HRD hHeld
  have HW3 : Hid (Below w.heap.size w w3) := hide (HBE.out.trans (HB3.out.mono HBE.out.size))
  have HQ43 := hide (HQ4D.out.below HB3.out HQ4D.out.lt)
  have HQ63 := hide (HQ6D.out.below HB3.out HQ6D.out.lt)
  have HQB3 := hide (HQBD.out.below HB3.out HQBD.out.lt)
  have HS4 : Hid (∀ w', Below w3.heap.size w3 w' → w'.cell? ⟨qb, 0, none⟩ = some (.pointer (some ⟨g, 0, none⟩)) ∧ w'.rangeAt q6 0 dz.toList) := hide (fun w' hb => ⟨(HQB3.out.below hb HQB3.out.lt).cell 0, (HQ63.out.below hb HQ63.out.lt).range⟩)
  clear HS3 HQ4D HQ6D HQBD HB3
  by_cases hs : rt = some t
  case pos =>
    obtain rfl : er = 0 := by rw [HER.out (), hs]; rfl
    obtain rfl : tt = t := by rw [HTT.out (), hs]; rfl
    have hRt := HRT.out
    rw [hs] at hRt
    have HER' := HER
    clear hs HER HTT HRT
    go_wp2_with (first
    | (refine wpList_load_mid rfl 41 (.tmp 6) rfl q6 0 rfl dz.toList _ HQ63.out.range Try.underlying41 rfl (by rw [Array.length_toList, HDZ.out.1]; exact dig_info) ?_; rw [Array.toArray_toList])
    | (refine wpList_store_mid rfl 41 (.tmp 4) (.tmp 28) rfl q4 0 dz rfl rfl (HQ43.out.there_ (by rw [HDZ.out.1, HZS.out.1])) (by rw [HDZ.out.1]; exact dig_info) HDZ.out.2 ?_))
    have HFF := HQ43.out.cells_all dz.toList (by rw [Array.length_toList]; rw [HDZ.out.1, HZS.out.1])
    rw [Array.toArray_toList] at HFF
    have HKZ : Keep (fun k => k = q4) w3 (w3.setCells q4 0 dz.toList) := Keep.setCells (F := fun b => b = q4) (fun _ => rfl) _ _ (Keep.refl _ _)
    refine bodyPost_ret (results_cell_slot rfl _ _ ⟨q4, 0, none⟩ (.agg dz) (.int .i64 0) rfl (HFF.loads Try.underlying41 rfl (by rw [HDZ.out.1]; exact dig_info)) rfl) rfl ?_
    exact ⟨s, 0, d, hdl, by rw [HDV.out ()], (HD.out.below HW3.out).keep HQ43.out (by decide) (by decide) HKZ |>.mono (by omega), (Fr.below HW3.out hBw).keep HKZ HQN.out hBw, .inl ⟨hRt.symm, rfl, rfl⟩⟩
  case neg =>
    have hte : ((er == 0) && (tt == t)) = false := by
      rw [HER.out (), HTT.out ()]
      cases rt with
      | none => rfl
      | some v => simpa using hs
    have HER' := HER
    clear hs HER HTT HRT
    have HE2 : Hid (er = 0 ∨ er = 5) := hide (by rw [HER'.out ()]; split <;> simp)
    rcases HE2.out with rfl | rfl
    case' inl => have htf : (tt == t) = false := by simpa using hte
    all_goals
      clear hte HE2
      go_upto_region 5 with fail
      refine wp_region_noPanic ?_
      refine wp_region_held_drew (S := (fun w' => w'.cell? ⟨qb, 0, none⟩ = some (.pointer (some ⟨g, 0, none⟩)) ∧ w'.rangeAt q6 0 dz.toList)) (by kernel_rfl) (HS4.out _ (Below.refl _ _).drew) (fun hHeld => ?_)
      obtain ⟨w4, hw4⟩ : ∃ x, x = w3.drew := ⟨_, rfl⟩
      rw [← hw4] at hHeld ⊢
      have HB4 : Hid (Below w3.heap.size w3 w4) := hide (by rw [hw4]; exact (Below.refl _ _).drew)
      clear hw4
      refine wpAnyH_take (i := 0) (v := ?_) (by simp only [List.getElem?_toArray, List.getElem?_cons_zero]; rfl) (by kernel_rfl) (by kernel_rfl) (by kernel_rfl) (fun _ _ _ h => h) (Or.inl ⟨by rfl, ?_⟩) (by assumption) ?_
      rotate_left
      · (intro wS hSw; have c1 := hSw.1; go_simp; try with_reducible rfl)
      try simp only [Act.put, List.setIfInBounds_toArray, List.set_cons_zero, List.set_cons_succ]
      refine wpAnyH_take (i := 1) (v := ?_) (by simp only [List.getElem?_toArray, List.getElem?_cons_zero, List.getElem?_cons_succ]; rfl) (by kernel_rfl) (by kernel_rfl) (by kernel_rfl) (fun _ _ _ h => h) (Or.inl ⟨by rfl, ?_⟩) (by assumption) ?_
      rotate_left
      · (intro wS hSw; have c1 := hSw.1; go_simp; try with_reducible rfl)
      try simp only [Act.put, List.setIfInBounds_toArray, List.set_cons_zero, List.set_cons_succ]
      refine wpAnyH_take (i := 2) (by simp only [List.getElem?_toArray, List.getElem?_cons_zero, List.getElem?_cons_succ]; rfl) (by kernel_rfl) (by kernel_rfl) (by kernel_rfl) (fun _ _ _ h => h) (yieldsIf_load_mid (by rfl) _ _ rfl q6 0 rfl dz.toList _ (fun _ h => h.2) hdu rfl hdi) (by assumption) ?_
      simp only [Act.put, List.setIfInBounds_toArray, List.set_cons_zero, List.set_cons_succ, Array.toArray_toList]
      refine wpAnyH_take (i := 4) (v := ?_) (by simp only [List.getElem?_toArray, List.getElem?_cons_zero, List.getElem?_cons_succ]; rfl) (by kernel_rfl) (by kernel_rfl) (by kernel_rfl) (fun _ _ _ h => h) (Or.inl ⟨by rfl, ?_⟩) (by assumption) ?_
      rotate_left
      · (intro wS hSw; have c1 := hSw.1; go_simp; try with_reducible rfl)
      try simp only [Act.put, List.setIfInBounds_toArray, List.set_cons_zero, List.set_cons_succ]
      refine wpAnyH_ready (rs := [3]) (by kernel_rfl) (by simp) ?_
      refine AllReadyH.cons (by simp only [List.getElem?_toArray, List.getElem?_cons_zero, List.getElem?_cons_succ]; rfl) (fun K hK => ?_) AllReadyH.nil
      try rw [if_pos (by rfl)]
      go_simp
      go_at_call 11
      refine (HNA.out w4).mono ?_
      rintro e w5 ⟨rfl, hb⟩
      have HB5 := hide (HB4.out.trans (hb.mono HB4.out.size))
      clear hb
      try go_wp2_with fail
      refine hK.out _ _ (HS4.out _ HB5.out) (fun hHeld => ?_)
      clear hK K
      try simp only [Act.put, List.setIfInBounds_toArray, List.set_cons_zero, List.set_cons_succ]
      refine wpAnyH_ready (rs := [5]) (by kernel_rfl) (by simp) ?_
      refine AllReadyH.cons (by simp only [List.getElem?_toArray, List.getElem?_cons_zero, List.getElem?_cons_succ]; rfl) (fun K hK => ?_) AllReadyH.nil
      try rw [if_pos (by rfl)]
      go_simp
      go_at_call 12
      refine (HWR.out w5 (HW3.out.trans (HB5.out.mono HW3.out.size))).mono ?_
      rintro e w6 ⟨s', x, rfl, hd6, hf6, hx6⟩
      have HD6 := hide hd6
      have HX6 := hide hx6
      have HF6 : Hid (Fr B w3 w6) := hide ((Fr.below HB5.out (Nat.le_trans hBw HW3.out.size)).trans hf6)
      clear hd6 hf6 hx6
      have HQ46 := hide (HF6.out.far q4 _ _ (by decide) (by decide) HQ43.out)
      have HQ66 := hide (HF6.out.far q6 _ _ (by decide) (by decide) HQ63.out)
      have HQB6 := hide (HF6.out.far qb _ _ (by decide) (by decide) HQB3.out)
      try go_wp2_with fail
      refine hK.out _ _ (⟨HQB6.out.cell 0, HQ66.out.range⟩) (fun hHeld => ?_)
      clear hK K
      try simp only [Act.put, List.setIfInBounds_toArray, List.set_cons_zero, List.set_cons_succ]
      refine wpAnyH_take (i := 6) (v := ?_) (by simp only [List.getElem?_toArray, List.getElem?_cons_zero, List.getElem?_cons_succ]; rfl) (by kernel_rfl) (by kernel_rfl) (by kernel_rfl) (fun _ _ _ h => h) (Or.inl ⟨by rfl, ?_⟩) (by assumption) ?_
      rotate_left
      · (intro wS hSw; have c1 := hSw.1; go_simp; try with_reducible rfl)
      try simp only [Act.put, List.setIfInBounds_toArray, List.set_cons_zero, List.set_cons_succ]
      refine wpAnyH_done (by kernel_rfl) ?_ _
      refine NoPanic.normal ?_
      clear hHeld HS4 HB4 HB5 HWR
      have HFW : Hid (Fr B w w6) := hide ((Fr.below HW3.out hBw).trans HF6.out)
      have hxx : x = 0 ∨ x = 7 ∨ x = 8 := by rcases HX6.out with ⟨h, _⟩ | ⟨_, ⟨h, _⟩ | ⟨h, _⟩⟩ <;> simp [h]
      by_cases hx0 : x = 0
      case pos =>
        subst hx0
        go_wp2_with (first
      | (refine wpList_load_mid rfl 41 (.tmp 6) rfl q6 0 rfl dz.toList _ HQ66.out.range Try.underlying41 rfl (by rw [Array.length_toList, HDZ.out.1]; exact dig_info) ?_; rw [Array.toArray_toList])
      | (refine wpList_store_mid rfl 41 (.tmp 4) (.tmp 39) rfl q4 0 dz rfl rfl (HQ46.out.there_ (by rw [HDZ.out.1, HZS.out.1])) (by rw [HDZ.out.1]; exact dig_info) HDZ.out.2 ?_))
        have HFF := HQ46.out.cells_all dz.toList (by rw [Array.length_toList]; rw [HDZ.out.1, HZS.out.1])
        rw [Array.toArray_toList] at HFF
        have HKZ : Keep (fun k => k = q4) w6 (w6.setCells q4 0 dz.toList) := Keep.setCells (F := fun b => b = q4) (fun _ => rfl) _ _ (Keep.refl _ _)
        refine bodyPost_ret (results_cell_slot rfl _ _ ⟨q4, 0, none⟩ (.agg dz) (.int .i64 0) rfl (HFF.loads Try.underlying41 rfl (by rw [HDZ.out.1]; exact dig_info)) rfl) rfl ?_
        exact ⟨s', 0, d, hdl, by rw [HDV.out ()], HD6.out.keep HQ46.out (by decide) (by decide) HKZ, HFW.out.keep HKZ HQN.out hBw, .inr (by have h := HX6.out; simpa using h)⟩
      case neg =>
        have hxb : (x != 0) = true := by simpa using hx0
        go_wp2_with (first
      | (refine Go.wpList_buildTo rfl 41 #[] rfl (some 37) rfl zc HBU.out ?_)
      | (refine wpList_store_mid rfl 41 (.tmp 4) (.tmp 37) rfl q4 0 zc rfl rfl (HQ46.out.there_ rfl) (by rw [HZS.out.1]; exact dig_info) HZS.out.2 ?_))
        have HFF := HQ46.out.cells_all zc.toList (by rw [Array.length_toList])
        rw [Array.toArray_toList] at HFF
        have HKZ : Keep (fun k => k = q4) w6 (w6.setCells q4 0 zc.toList) := Keep.setCells (F := fun b => b = q4) (fun _ => rfl) _ _ (Keep.refl _ _)
        refine bodyPost_ret (results_cell_slot rfl _ _ ⟨q4, 0, none⟩ (.agg zc) (.int .i64 x) rfl (HFF.loads Try.underlying41 rfl (by rw [HZS.out.1]; exact dig_info)) rfl) rfl ?_
        exact ⟨s', x, Z32, rfl, by rw [HZV.out ()], HD6.out.keep HQ46.out (by decide) (by decide) HKZ, HFW.out.keep HKZ HQN.out hBw, .inr HX6.out⟩
end Go.Proofs.Ytclgiapmbmbknaa
