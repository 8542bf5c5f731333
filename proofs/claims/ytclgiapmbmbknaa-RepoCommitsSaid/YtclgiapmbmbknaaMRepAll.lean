/- strings.CutPrefix at "b-", slices.Contains of digests, blob.All, walked; no statement of the seat is proved here. (Written by gen/repall.py.) -/
import Derived.Test.YtclgiapmbmbknaaMRepBlobs
namespace Go.Proofs.Ytclgiapmbmbknaa
open Go.RowKit Go.Maps
set_option linter.unusedVariables false
set_option linter.unusedSimpArgs false

def preB (l : List UInt8) : Bool := decide (2 ≤ l.length) && (l.take 2 == [98, 45])
def cutM (l : List UInt8) : List UInt8 × Bool := if preB l then (l.drop 2, true) else (l, false)
set_option maxRecDepth 100000 in
set_option maxHeartbeats 1000000 in
theorem hpre_any (w : World) (l : List UInt8) (hl : l.length ≤ 1000000) : Calls Try.prog 87 #[S l, S [98, 45]] w (Gives w (.bool (preB l))) := by
  obtain ⟨p, hp⟩ : ∃ p, p = (l.take 2 == [98, 45]) := ⟨_, rfl⟩
  have HP : Hid (preB l = (decide (2 ≤ l.length) && p)) := hide (by rw [hp]; rfl)
  by_cases h2 : 2 ≤ l.length
  · have d2 : decide (2 ≤ (l.length : Int)) = true := by simp; omega
    have HF : Hid (preB l = p) := hide (by rw [HP.out]; simp [h2])
    rw [HF.out]
    have hp2 : ((l.take 2) == [98, 45]) = p := hp.symm
    clear hp
    go_enter Try.func87, Try.ntmps87
    go_wp2_with fail
    go_ret
    exact ⟨rfl, Below.refl _ _⟩
  · have d2 : decide (2 ≤ (l.length : Int)) = false := by simp; omega
    have HF : Hid (preB l = false) := hide (by rw [HP.out]; simp [h2])
    rw [HF.out]
    clear hp
    go_enter Try.func87, Try.ntmps87
    go_wp2_with fail
    go_ret
    exact ⟨rfl, Below.refl _ _⟩
set_option maxRecDepth 100000 in
set_option maxHeartbeats 1000000 in
theorem scut_any (w : World) (l : List UInt8) (hl : l.length ≤ 1000000) : Calls Try.prog 75 #[S l, S [98, 45]] w (Gives w (.tuple #[S (cutM l).1, .bool (cutM l).2])) := by
  have HP := hide (hpre_any w l hl)
  cases hb : preB l with
  | true =>
    have HC : Hid (cutM l = (l.drop 2, true)) := hide (by rw [cutM, hb]; rfl)
    have h2 : 2 ≤ l.length := by
      unfold preB at hb
      simp only [Bool.and_eq_true, decide_eq_true_eq] at hb
      exact hb.1
    rw [hb] at HP
    rw [HC.out]
    clear hb
    go_enter Try.func75, Try.ntmps75
    go_wp2_with (go_at_call 87; refine HP.out.mono ?_; rintro e w1 ⟨rfl, hb1⟩)
    go_ret2
    exact ⟨rfl, hb1⟩
  | false =>
    have HC : Hid (cutM l = (l, false)) := hide (by rw [cutM, hb]; rfl)
    rw [hb] at HP
    rw [HC.out]
    clear hb
    go_enter Try.func75, Try.ntmps75
    go_wp2_with (go_at_call 87; refine HP.out.mono ?_; rintro e w1 ⟨rfl, hb1⟩)
    go_ret2
    exact ⟨rfl, hb1⟩
set_option maxRecDepth 100000 in
set_option maxHeartbeats 1000000 in
theorem cut_any (w : World) (l : List UInt8) (hl : l.length ≤ 1000000) : Calls Try.prog 68 #[S l, S [98, 45]] w (Gives w (.tuple #[S (cutM l).1, .bool (cutM l).2])) := by
  have HP := hide (scut_any w l hl)
  obtain ⟨a, ha⟩ : ∃ a, a = (cutM l).1 := ⟨_, rfl⟩
  obtain ⟨b, hb⟩ : ∃ a, a = (cutM l).2 := ⟨_, rfl⟩
  rw [← ha, ← hb] at HP ⊢
  clear ha hb
  go_enter Try.func68, Try.ntmps68
  go_wp2_with (go_at_call 75; refine HP.out.mono ?_; rintro e w1 ⟨rfl, hb1⟩)
  go_ret2
  exact ⟨rfl, hb1⟩

/-- Is a digest among these? -/
def posD (d : List UInt8) : List (List UInt8) → Nat → Int
  | [], _ => -1
  | x :: l, k => if d == x then (k : Int) else posD d l (k + 1)
theorem posD_mem (d : List UInt8) : ∀ (l : List (List UInt8)) (k : Nat), decide (0 ≤ posD d l k) = l.contains d
  | [], _ => by simp [posD]
  | x :: l, k => by
    unfold posD
    rw [List.contains_cons]
    cases hx : d == x with
    | true => simp
    | false => simpa using posD_mem d l (k + 1)
theorem posD_no {d : List UInt8} {l : List (List UInt8)} {k : Nat} (hk : k < l.length) (h : (d == l[k]) = false) : posD d (l.drop k) k = posD d (l.drop (k + 1)) (k + 1) := by
  rw [List.drop_eq_getElem_cons hk, posD, h]
  rfl
theorem posD_yes {d : List UInt8} {l : List (List UInt8)} {k : Nat} (hk : k < l.length) (h : (d == l[k]) = true) : posD d (l.drop k) k = (k : Int) := by
  rw [List.drop_eq_getElem_cons hk, posD, h]
  rfl
set_option maxRecDepth 100000 in
set_option maxHeartbeats 4000000 in
theorem index_any (w : World) (A : Option Addr) (n c : Nat) (ds : List (List UInt8)) (d : List UInt8) (hr : Rd w (fun k => w.heap.size ≤ k) 32 A n (ds.flatMap dgC)) (hl : ds.length = n) (hn : n ≤ 1000000) (hd : d.length = 32) (hds : ∀ x ∈ ds, x.length = 32) :
    Calls Try.prog 70 #[.slice A n c, .agg (darr d)] w (Gives w (.int .i64 (posD d ds 0))) := by
  have HR := hide hr
  have HL := hide hl
  have HDS := hide hds
  clear hr hl hds
  obtain ⟨dz, hdz⟩ : ∃ z, z = darr d := ⟨_, rfl⟩
  have HDZ := hide (dg_size hdz hd)
  have HDV : Hid (∀ _ : Unit, dz = darr d) := hide (fun _ => hdz)
  obtain ⟨P, hP⟩ : ∃ P, P = posD d ds 0 := ⟨_, rfl⟩
  have HPP : Hid (posD d (ds.drop 0) 0 = P) := hide (by rw [hP]; rfl)
  rw [← hdz, ← hP]
  clear hdz hP
  obtain ⟨q, hq⟩ : ∃ q, q = w.heap.size := ⟨_, rfl⟩
  obtain ⟨wB, hwB⟩ : ∃ wB, wB = w.alloc (.cells dz 41) := ⟨_, rfl⟩
  have HQ : Hid (Blk wB q 41 dz) := hide (by rw [hwB, hq]; exact Blk.new _ _ _)
  have HB : Hid (Below w.heap.size w wB) := hide (by rw [hwB]; exact (Below.refl _ w).alloc (Nat.le_refl _) _)
  have hdu := Try.underlying41
  have hdi : (Try.prog.info? 41).map (·.size) = some dz.toList.length := by rw [Array.length_toList, HDZ.out.1]; exact dig_info
  go_enter Try.func70, Try.ntmps70
  go_upto_region 1 with (refine Go.Great.wpList_boxTo rfl 41 (.tmp 1) rfl _ rfl q hq.symm dz rfl ?_)
  rw [← hwB, ← hq]
  clear hwB hq
  go_wp2_with fail
  go_loopw [8] (fun i wr => ∃ k : Nat, k ≤ n ∧ i = .int .i64 k ∧ Hid (posD d (ds.drop k) k = P) ∧ Hid (Below wB.heap.size wB wr)) (fun i _ => n - (intOf i).toNat)
  case atStart => exact ⟨0, Nat.zero_le _, rfl, HPP, hide (Below.refl _ _)⟩
  case round =>
    obtain ⟨k, hk, rfl, HP, HBR⟩ := hrel
    have HBW : Hid (Below w.heap.size w wr) := hide (HB.out.trans (HBR.out.mono HB.out.size))
    by_cases hlt : k < n
    case neg =>
      obtain rfl : k = n := by omega
      have HF : Hid (P = -1) := hide (by rw [← HP.out, List.drop_of_length_le (by rw [HL.out]; exact Nat.le_refl _)]; rfl)
      go_wp2_with fail
      go_ret
      exact ⟨by rw [HF.out] <;> rfl, HBW.out⟩
    case pos =>
      obtain ⟨b, o, rfl, _, hbl, hcs⟩ := Rd.rec_ (f := dgC) (size := 32) dgC_len (HR.out.below HBW.out) HL.out k hlt
      have hlk : k < ds.length := by rw [HL.out]; exact hlt
      have hel := HDS.out _ (List.getElem_mem hlk)
      obtain ⟨B, hB⟩ : ∃ b, b = (d == ds[k]) := ⟨_, rfl⟩
      have HY : Hid (B = true → P = (k : Int)) := hide (fun h => by rw [← HP.out]; exact posD_yes hlk (hB ▸ h))
      have HN : Hid (B = false → posD d (ds.drop (k + 1)) (k + 1) = P) := hide (fun h => by rw [← HP.out]; exact (posD_no hlk (hB ▸ h)).symm)
      generalize ds[k] = x at hcs hel hB
      obtain ⟨ez, hez⟩ : ∃ z, z = darr x := ⟨_, rfl⟩
      have HEZ := hide (dg_size hez hel)
      have heq : ∀ w, (binOp .eql 41 (.agg dz) (.agg ez)).run Try.prog w = .ok (.bool B) w := fun w => by rw [hez, HDV.out (), hB]; exact run_eql_darr _ _ hd hel w
      have HS3 : Hid (∀ w', Below wr.heap.size wr w' → w'.rangeAt q 0 dz.toList ∧ w'.rangeAt b (o + k * 32) ez.toList) := hide (fun w' hb => ⟨((HQ.out.below HBR.out HQ.out.lt).below hb (HQ.out.below HBR.out HQ.out.lt).lt).range, fun i v hv => (hb.cell (p := ⟨b, o + k * 32 + i, none⟩) hbl).trans (hcs i v (by rw [← dgC_is hel, ← hez]; exact hv))⟩)
      have hei : (Try.prog.info? 41).map (·.size) = some ez.toList.length := by rw [Array.length_toList, HEZ.out.1]; exact dig_info
      clear hB hez hcs HP
      go_upto_region 4 with fail
      refine wp_region_noPanic ?_
      refine wp_region_held_drew (S := (fun w' => w'.rangeAt q 0 dz.toList ∧ w'.rangeAt b (o + k * 32) ez.toList)) (by kernel_rfl) (HS3.out _ (Below.refl _ _).drew) (fun hHeld => ?_)
      obtain ⟨w1, hw1⟩ : ∃ x, x = wr.drew := ⟨_, rfl⟩
      rw [← hw1] at hHeld ⊢
      have HB1 : Hid (Below wB.heap.size wB w1) := hide (by rw [hw1]; exact HBR.out.drew)
      have HBV : Hid (Below w.heap.size w w1) := hide (by rw [hw1]; exact HBW.out.drew)
      clear hw1
      refine wpAnyH_take (i := 0) (by simp only [List.getElem?_toArray, List.getElem?_cons_zero]; rfl) (by kernel_rfl) (by kernel_rfl) (by kernel_rfl) (fun _ _ _ h => h) (yieldsIf_load_mid (by rfl) _ _ rfl q 0 rfl dz.toList _ (fun _ h => h.1) hdu rfl hdi) (by assumption) ?_
      simp only [Act.put, List.setIfInBounds_toArray, List.set_cons_zero, List.set_cons_succ, Array.toArray_toList]
      refine wpAnyH_take (i := 1) (v := ?_) (by simp only [List.getElem?_toArray, List.getElem?_cons_zero, List.getElem?_cons_succ]; rfl) (by kernel_rfl) (by kernel_rfl) (by kernel_rfl) (fun _ _ _ h => h) (Or.inl ⟨by rfl, ?_⟩) (by assumption) ?_
      rotate_left
      · (intro wS hSw; go_simp; try with_reducible rfl)
      try simp only [Act.put, List.setIfInBounds_toArray, List.set_cons_zero, List.set_cons_succ]
      refine wpAnyH_take (i := 2) (v := ?_) (by simp only [List.getElem?_toArray, List.getElem?_cons_zero, List.getElem?_cons_succ]; rfl) (by kernel_rfl) (by kernel_rfl) (by kernel_rfl) (fun _ _ _ h => h) (Or.inl ⟨by rfl, ?_⟩) (by assumption) ?_
      rotate_left
      · (intro wS hSw; go_simp; try with_reducible rfl)
      try simp only [Act.put, List.setIfInBounds_toArray, List.set_cons_zero, List.set_cons_succ]
      refine wpAnyH_take (i := 3) (v := ?_) (by simp only [List.getElem?_toArray, List.getElem?_cons_zero, List.getElem?_cons_succ]; rfl) (by kernel_rfl) (by kernel_rfl) (by kernel_rfl) (fun _ _ _ h => h) (Or.inl ⟨by rfl, ?_⟩) (by assumption) ?_
      rotate_left
      · (intro wS hSw; go_simp; try with_reducible rfl)
      try simp only [Act.put, List.setIfInBounds_toArray, List.set_cons_zero, List.set_cons_succ]
      refine wpAnyH_take (i := 4) (by simp only [List.getElem?_toArray, List.getElem?_cons_zero, List.getElem?_cons_succ]; rfl) (by kernel_rfl) (by kernel_rfl) (by kernel_rfl) (fun _ _ _ h => h) (yieldsIf_load_mid (by rfl) _ _ rfl b (o + k * 32) rfl ez.toList _ (fun _ h => h.2) hdu rfl hei) (by assumption) ?_
      simp only [Act.put, List.setIfInBounds_toArray, List.set_cons_zero, List.set_cons_succ, Array.toArray_toList]
      refine wpAnyH_take (i := 5) (v := ?_) (by simp only [List.getElem?_toArray, List.getElem?_cons_zero, List.getElem?_cons_succ]; rfl) (by kernel_rfl) (by kernel_rfl) (by kernel_rfl) (fun _ _ _ h => h) (Or.inl ⟨by rfl, ?_⟩) (by assumption) ?_
      rotate_left
      · (intro wS hSw; go_simp; try with_reducible rfl)
      try simp only [Act.put, List.setIfInBounds_toArray, List.set_cons_zero, List.set_cons_succ]
      refine wpAnyH_done (by kernel_rfl) ?_ _
      refine NoPanic.normal ?_
      cases B with
      | true =>
        have HF := hide (HY.out rfl)
        go_wp2_with fail
        go_ret
        exact ⟨by rw [HF.out] <;> rfl, HBV.out⟩
      | false =>
        have HNX := hide (HN.out rfl)
        go_wp2_with fail
        go_roundw
        · exact ⟨k + 1, by omega, by go_num, HNX, HB1⟩
        · simp [intOf]; omega

set_option maxRecDepth 100000 in
set_option maxHeartbeats 2000000 in
theorem has_any (w : World) (A : Option Addr) (n c : Nat) (ds : List (List UInt8)) (d : List UInt8) (hr : Rd w (fun k => w.heap.size ≤ k) 32 A n (ds.flatMap dgC)) (hl : ds.length = n) (hn : n ≤ 1000000) (hd : d.length = 32) (hds : ∀ x ∈ ds, x.length = 32) :
    Calls Try.prog 63 #[.slice A n c, .agg (darr d)] w (Gives w (.bool (ds.contains d))) := by
  obtain ⟨q, hq⟩ : ∃ q, q = w.heap.size := ⟨_, rfl⟩
  obtain ⟨dz, hdz⟩ : ∃ z, z = darr d := ⟨_, rfl⟩
  obtain ⟨wB, hwB⟩ : ∃ wB, wB = w.alloc (.cells dz 41) := ⟨_, rfl⟩
  have HDZ := hide (dg_size hdz hd)
  have HQ : Hid (Blk wB q 41 dz) := hide (by rw [hwB, hq]; exact Blk.new _ _ _)
  have HB : Hid (Below w.heap.size w wB) := hide (by rw [hwB]; exact (Below.refl _ w).alloc (Nat.le_refl _) _)
  have HI := hide (index_any wB A n c ds d ((hr.below HB.out).weak (fun k _ hk => Nat.le_trans HB.out.size hk)) hl hn hd hds)
  have HM := hide (posD_mem d ds 0)
  obtain ⟨p, hp⟩ : ∃ p, p = posD d ds 0 := ⟨_, rfl⟩
  obtain ⟨R, hR⟩ : ∃ R, R = ds.contains d := ⟨_, rfl⟩
  rw [← hp] at HI HM
  rw [← hR] at HM ⊢
  rw [← hdz] at HI ⊢
  have hdec : decide (0 ≤ p) = R := HM.out
  clear hp hR hdz HM hr hl hds
  go_enter Try.func63, Try.ntmps63
  go_upto_region 1 with (refine Go.Great.wpList_boxTo rfl 41 (.tmp 1) rfl _ rfl q hq.symm dz rfl ?_)
  rw [← hwB, ← hq]
  clear hwB hq
  go_wp2_with (first
    | (refine wpList_load_mid rfl 41 (.tmp 3) rfl q 0 rfl dz.toList _ HQ.out.range Try.underlying41 rfl (by rw [Array.length_toList, HDZ.out.1]; exact dig_info) ?_; rw [Array.toArray_toList])
    | (go_at_call 70; refine HI.out.mono ?_; rintro e w2 ⟨rfl, hb2⟩; have HB2 := hide (HB.out.trans (hb2.mono HB.out.size)); clear hb2))
  go_ret
  exact ⟨rfl, HB2.out⟩

/-- The digest that a name is of. -/
def allD (n : List UInt8) : Option (List UInt8) := if (cutM n).2 && (parseM (cutM n).1).2 then some (parseM (cutM n).1).1 else none
theorem allD_len {n d : List UInt8} (h : allD n = some d) : d.length = 32 := by
  unfold allD at h
  split at h
  · injection h with h
    rw [← h]
    exact parse_len _
  · cases h
set_option maxRecDepth 100000 in
set_option maxHeartbeats 4000000 in
theorem all_ds (B g room M : Nat) (s : Ds) (w : World) (h : DAt w B g room M s) (hM : M ≤ 80000) (hu : s.dn = false) (hN : ∀ n, (s.R n).isSome = true → n.length ≤ 1000) (hNL : ∀ l, IsNames s.R l → l.length ≤ 1000) :
    Calls Try.prog 62 #[.agg #[.pointer (some ⟨g, 0, none⟩)]] w (fun e w' => ∃ A2 c2 l, e = .returned (.slice A2 (l.filterMap allD).length c2) ∧ IsNames s.R l ∧ w'.ownsRow w.heap.size 41 32 (.slice A2 (l.filterMap allD).length c2) (l.filterMap allD).length ((l.filterMap allD).flatMap dgC) ∧ Below w.heap.size w w') := by
  obtain ⟨zc, hzc⟩ : ∃ z, z = ZC := ⟨_, rfl⟩
  have hzero : ∀ w, (zeroValue 41).run Try.prog w = .ok (.agg zc) w := fun w => by rw [hzc]; exact zero_dg w
  have HZS : Hid (zc.size = 32) := hide (by rw [hzc]; rfl)
  have HZC : Hid ((Value.agg ZC).cells.size = 32) := hide rfl
  clear hzc
  obtain ⟨qb, hqb⟩ : ∃ q, q = w.heap.size := ⟨_, rfl⟩
  obtain ⟨wA, hwA⟩ : ∃ wE, wE = w.alloc (.cells #[.pointer (some ⟨g, 0, none⟩)] 32) := ⟨_, rfl⟩
  have HBA : Hid (Below w.heap.size w wA) := hide (by rw [hwA]; exact (Below.refl _ w).alloc (Nat.le_refl _) _)
  have q0 : wA.cell? ⟨qb, 0, none⟩ = some (.pointer (some ⟨g, 0, none⟩)) := by rw [hwA, hqb]; exact (Blk.new _ _ _).cell 0
  have HNM := hide (names_ds B g room M s wA (h.below HBA.out) hM hu)
  have HNN := hide hN
  have HNL := hide hNL
  clear hN hNL h
  go_enter Try.func62, Try.ntmps62
  go_upto_region 2 with fail
  rw [← hwA, ← hqb]
  clear hwA hqb
  go_wp2_with fail
  refine HNM.out.mono ?_
  rintro e w1 ⟨A', c', l, rfl, hl, hr, hb⟩
  have HLN := hide hl
  have HRD := hide hr
  have hll := HNL.out l hl
  have HB1 : Hid (Below w.heap.size w w1) := hide (HBA.out.trans (hb.mono HBA.out.size))
  have HWA : Hid (wA.heap.size ≤ w1.heap.size ∧ w.heap.size ≤ wA.heap.size) := hide ⟨hb.size, HBA.out.size⟩
  clear hl hr hb HNM q0 HNL HBA
  obtain ⟨n, hn⟩ : ∃ n, n = l.length := ⟨_, rfl⟩
  have HNE : Hid (l.length = n) := hide hn.symm
  rw [← hn] at HRD hll ⊢
  clear hn
  go_wp2_with fail
  go_loopw [14, 3] (fun i u wr => ∃ (j cnt : Nat) (A2 : Option Addr) (c2 : Nat), j ≤ n ∧ i = .int .i64 j ∧ u = .slice A2 cnt c2 ∧ Hid (cnt = ((l.take j).filterMap allD).length) ∧ Hid (wr.ownsRow w1.heap.size 41 32 (.slice A2 cnt c2) cnt (((l.take j).filterMap allD).flatMap dgC)) ∧ Hid (Below w1.heap.size w1 wr)) (fun i _ _ => n - (intOf i).toNat)
  case atStart => exact ⟨0, 0, none, 0, Nat.zero_le _, rfl, rfl, hide rfl, hide (World.ownsRow_nil _ _ _ _), hide (Below.refl _ _)⟩
  case round =>
    obtain ⟨j, cnt, A2, c2, hj, rfl, rfl, HCN, HO, HBR⟩ := hrel
    have HBW : Hid (Below w.heap.size w wr) := hide (HB1.out.trans (HBR.out.mono HB1.out.size))
    have hcj : cnt ≤ 1000 := by
      have h1 := HCN.out
      have h2 := List.length_filterMap_le allD (l.take j)
      rw [List.length_take] at h2
      omega
    by_cases hlt : j < n
    case neg =>
      obtain rfl : j = n := by omega
      have h1 := HO.out
      have h2 := HCN.out
      rw [List.take_of_length_le (by rw [HNE.out]; exact Nat.le_refl _)] at h1 h2
      have HF := hide (And.intro h1 h2)
      clear h1 h2
      go_wp2_with fail
      go_ret
      exact ⟨A2, c2, l, by rw [← HF.out.2] <;> rfl, HLN.out, by rw [← HF.out.2]; exact own_base_mono HF.out.1 HB1.out.size, HBW.out⟩
    case pos =>
      have hlk : j < l.length := by rw [HNE.out]; exact hlt
      obtain ⟨y1, p1, rfl, _, _, hd1⟩ := Rd.rec_ (f := fun s => [S s]) (l := l) (size := 1) (fun _ => rfl) (by rw [← List.map_eq_flatMap]; exact HRD.out.keep (Keep.of_below HBR.out (fun k h1 h2 => by have := HWA.out; omega))) HNE.out j hlt
      have hnl := HNN.out _ ((HLN.out.2 _).1 (List.getElem_mem hlk))
      have HTK : Hid ((l.take (j + 1)).filterMap allD = (l.take j).filterMap allD ++ [l[j]].filterMap allD) := hide (by rw [List.take_add_one, List.getElem?_eq_getElem hlk, List.filterMap_append]; rfl)
      obtain ⟨nm, hnm⟩ : ∃ x, x = l[j] := ⟨_, rfl⟩
      rw [← hnm] at hnl HTK
      have qr : wr.cell? ⟨y1, p1 + j, none⟩ = some (S nm) := by have := hd1 0 (S nm) (by rw [hnm]; rfl); simpa using this
      clear hd1 hnm
      obtain ⟨hx, hhx⟩ : ∃ x, x = (cutM nm).1 := ⟨_, rfl⟩
      obtain ⟨is, his⟩ : ∃ x, x = (cutM nm).2 := ⟨_, rfl⟩
      have HCT := hide (cut_any wr nm (by omega))
      rw [← hhx, ← his] at HCT
      obtain ⟨dd, hdd⟩ : ∃ x, x = (parseM hx).1 := ⟨_, rfl⟩
      obtain ⟨ok, hok⟩ : ∃ x, x = (parseM hx).2 := ⟨_, rfl⟩
      have hdl : dd.length = 32 := by rw [hdd]; exact parse_len _
      obtain ⟨dz, hdz⟩ : ∃ z, z = darr dd := ⟨_, rfl⟩
      have HPA : Hid (∀ W, Calls Try.prog 69 #[S hx] W (Gives W (.tuple #[.agg dz, .bool ok]))) := hide (fun W => by rw [hdz, hdd, hok]; exact parse_any W hx)
      have HAD : Hid (allD nm = if is && ok then some dd else none) := hide (by rw [allD, ← hhx, ← his, ← hdd, ← hok])
      have HDZ := hide (dg_size hdz hdl)
      have HDL : Hid (dz.toList = dgC dd) := hide (by rw [hdz, dgC_is hdl])
      clear hhx his hdd hok hdz
      go_upto_region 6 with (go_at_call 68; refine HCT.out.mono ?_; rintro e w2 ⟨rfl, hb2⟩; have HB2 := hide hb2; clear hb2)
      clear HCT qr
      go_upto_region 7 with (first
        | (go_at_call 69; refine (HPA.out w2).mono ?_; rintro e w3 ⟨rfl, hb3⟩; have HB3 := hide (HB2.out.trans (hb3.mono HB2.out.size)); clear hb3; obtain ⟨wE, hwE⟩ : ∃ x, x = (w3.alloc (.cells zc 41)).setCells w3.heap.size 0 dz.toList := ⟨_, rfl⟩; have HBX := hide (box_any w3 41 zc dz (by rw [HDZ.out.1, HZS.out])); rw [← hwE] at HBX; have HZT : Hid ((w3.alloc (.cells zc 41)).there w3.heap.size 0 dz.size) := hide ((Blk.new w3 41 zc).there_ (by rw [HDZ.out.1, HZS.out])))
        | (refine wpList_store_mid rfl 41 (.tmp 8) (.tmp 26) rfl w3.heap.size 0 dz rfl rfl HZT.out (by rw [HDZ.out.1]; exact dig_info) HDZ.out.2 ?_))
      rw [← hwE]
      have HQ : Hid (Blk wE w3.heap.size 41 dz) := hide HBX.out.1
      have HBE : Hid (Below wr.heap.size wr wE) := hide (HB3.out.trans (HBX.out.2.mono HB3.out.size))
      have HB1E : Hid (Below w1.heap.size w1 wE) := hide (HBR.out.trans (HBE.out.mono HBR.out.size))
      have HOE : Hid (wE.ownsRow w1.heap.size 41 32 (.slice A2 cnt c2) cnt (((l.take j).filterMap allD).flatMap dgC)) := hide (own_keep (F := fun _ => False) HO.out (Keep.of_below HBE.out (fun k h1 h2 => by omega)) (fun _ _ h => h))
      obtain ⟨q, hq⟩ : ∃ q, q = w3.heap.size := ⟨_, rfl⟩
      rw [← hq] at HQ ⊢
      clear hwE hq HBX HZT HB2 HB3 HPA HBE HO
      by_cases hb : (is && ok) = true
      case neg =>
        have HT2 : Hid ((l.take (j + 1)).filterMap allD = (l.take j).filterMap allD) := hide (by rw [HTK.out]; simp [HAD.out, hb])
        have HCN2 : Hid (cnt = ((l.take (j + 1)).filterMap allD).length) := hide (by rw [HT2.out]; exact HCN.out)
        have HO2 : Hid (wE.ownsRow w1.heap.size 41 32 (.slice A2 cnt c2) cnt (((l.take (j + 1)).filterMap allD).flatMap dgC)) := hide (by rw [HT2.out]; exact HOE.out)
        cases is <;> cases ok
        case true.true => exact absurd rfl hb
        all_goals
          clear hb
          go_wp2_with fail
          go_roundw
          · exact ⟨j + 1, cnt, A2, c2, by omega, by go_num, rfl, HCN2, HO2, HB1E⟩
          · simp [intOf]; omega
      case pos =>
        have HT2 : Hid ((l.take (j + 1)).filterMap allD = (l.take j).filterMap allD ++ [dd]) := hide (by rw [HTK.out]; simp [HAD.out, hb])
        obtain rfl : is = true := by cases is <;> simp_all
        obtain rfl : ok = true := by cases ok <;> simp_all
        clear hb
        go_upto_region 9 with (first
          | (refine wpList_load_mid rfl 41 (.tmp 8) rfl q 0 rfl dz.toList _ HQ.out.range Try.underlying41 rfl (by rw [Array.length_toList, HDZ.out.1]; exact dig_info) ?_; rw [Array.toArray_toList])
          | (refine wpList_part rfl 72 41 (.tmp 33) rfl 32 dz rfl HDZ.out.1 (by decide) (by decide) Try.underlying72 dg_info2 ?_)
          | (at_builtin; have e1 := HOE.out.alloc (.cells dz 41); have e2 : Blk (wE.alloc (.cells dz 41)) wE.heap.size 41 dz.toList.toArray := (by rw [Array.toArray_toList]; exact Blk.new _ _ _); refine wpList_appB rfl (.tmp 32) (.tmp 34) 72 rfl w1.heap.size 41 (.agg ZC) 32 32 Try.underlying72 dg_info3 HZC.out (by decide) (.slice A2 cnt c2) cnt (((l.take j).filterMap allD).flatMap dgC) ?hs e1 wE.heap.size dz.toList ?hx ?hl e2 ?h1 ?h63 ?hbytes ?hbase ?h; (case hs => exact rfl); (case hx => exact rfl); (case hl => (rw [Array.length_toList]; exact HDZ.out.1)); (case h1 => exact all_one HDZ.out.2); (case h63 => (unfold maxLen; omega)); (case hbytes => omega); (case hbase => (have := HB1E.out.size; simp; omega)); intro A4 c4 w9 hown9 hg9; clear e1 e2; have HOWN9 := hide hown9; have HG9 := hide hg9; clear hown9 hg9))
        have HCT : Hid (cnt + 1 = ((l.take (j + 1)).filterMap allD).length) := hide (by rw [HT2.out, List.length_append, ← HCN.out]; rfl)
        have HOT : Hid (w9.ownsRow w1.heap.size 41 32 (.slice A4 (cnt + 1) c4) (cnt + 1) (((l.take (j + 1)).filterMap allD).flatMap dgC)) := hide (by
          rw [HT2.out, List.flatMap_append, List.flatMap_singleton, ← HDL.out]
          exact HOWN9.out)
        have HBT : Hid (Below w1.heap.size w1 w9) := hide (HB1E.out.trans ((((Keep.refl _ wE).alloc _).grown HG9.out (fun i hi _ => hi.symm)).below (B := w1.heap.size) HB1E.out.size (fun k hk => own_base HOE.out hk.symm)))
        clear HOWN9 HG9
        go_wp2_with fail
        go_roundw
        · exact ⟨j + 1, cnt + 1, A4, c4, by omega, by go_num, rfl, HCT, HOT, HBT⟩
        · simp [intOf]; omega
end Go.Proofs.Ytclgiapmbmbknaa
