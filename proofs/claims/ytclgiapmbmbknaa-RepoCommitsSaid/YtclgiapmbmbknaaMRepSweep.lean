/- blob.Sweep, walked; no statement of the seat is proved here. (Written by gen/repsweep.py.) -/
import Derived.Test.YtclgiapmbmbknaaMRepAll
namespace Go.Proofs.Ytclgiapmbmbknaa
open Go.RowKit Go.Maps
set_option linter.unusedVariables false
set_option linter.unusedSimpArgs false

theorem allD_name {n d : List UInt8} (h : allD n = some d) : n = bnm d := by
  unfold allD at h
  split at h
  · rename_i hc
    simp only [Bool.and_eq_true] at hc
    injection h with h
    have h1 := hex_parse _ hc.2
    rw [h] at h1
    unfold bnm
    rw [h1]
    have h2 := hc.1
    unfold cutM at h2 ⊢
    split at h2
    · rename_i hp
      rw [if_pos hp]
      unfold preB at hp
      simp only [Bool.and_eq_true, decide_eq_true_eq, beq_iff_eq] at hp
      rw [show (98 :: 45 :: (n.drop 2, true).1) = [98, 45] ++ n.drop 2 from rfl, ← hp.2, List.take_append_drop]
    · cases h2
  · cases h
theorem allD_bnm {d : List UInt8} (hd : d.length = 32) : allD (bnm d) = some d := by
  have h1 : cutM (bnm d) = (hexM d, true) := by
    unfold cutM preB bnm
    simp
  unfold allD
  rw [h1, parse_hex d hd]
  rfl
theorem mem_allD {l : List (List UInt8)} {d : List UInt8} (hd : d.length = 32) : d ∈ l.filterMap allD ↔ bnm d ∈ l := by
  rw [List.mem_filterMap]
  constructor
  · rintro ⟨n, hn, h⟩
    rw [← allD_name h]
    exact hn
  · exact fun h => ⟨_, h, allD_bnm hd⟩
theorem nodup_allD {l : List (List UInt8)} (h : l.Nodup) : (l.filterMap allD).Nodup := by
  refine List.Pairwise.filterMap _ (fun a b hab x hx y hy e => hab ?_) h
  subst e
  rw [allD_name hx, allD_name hy]
theorem IsNames.nodup {R : Fl} {l : List (List UInt8)} (h : IsNames R l) : l.Nodup := h.1.imp fun {a b} hab e => by subst e; exact List.lt_irrefl a hab
/-- What goes. -/
def remD (keep ds : List (List UInt8)) : List Ch := (ds.filter (fun d => !keep.contains d)).map (fun d => ⟨2, bnm d, []⟩)
theorem remD_snoc_in {keep ds : List (List UInt8)} {d : List UInt8} (h : keep.contains d = true) : remD keep (ds ++ [d]) = remD keep ds := by
  unfold remD
  rw [List.filter_append, List.filter_cons, h, List.filter_nil]
  simp
theorem remD_snoc_out {keep ds : List (List UInt8)} {d : List UInt8} (h : keep.contains d = false) : remD keep (ds ++ [d]) = remD keep ds ++ [⟨2, bnm d, []⟩] := by
  unfold remD
  rw [List.filter_append, List.filter_cons, h, List.filter_nil, List.map_append]
  rfl
theorem fold_rem (cs : List Ch) (h : ∀ c ∈ cs, c.k = 2) (F : Fl) (n : List UInt8) : cs.foldl chDo F n = if n ∈ cs.map Ch.n then none else F n := by
  induction cs generalizing F with
  | nil => rfl
  | cons c cs ih =>
    rw [List.foldl_cons, ih (fun d hd => h d (List.mem_cons_of_mem _ hd))]
    have hk := h c (List.mem_cons_self ..)
    have e : chDo F c = F.del c.n := by
      obtain ⟨k, m, t⟩ := c
      simp only at hk
      subst hk
      simp [chDo]
    rw [e, List.map_cons]
    by_cases h1 : n ∈ cs.map Ch.n
    · rw [if_pos h1, if_pos (List.mem_cons_of_mem _ h1)]
    · rw [if_neg h1]
      unfold Fl.del
      by_cases h2 : n = c.n
      · rw [if_pos h2, if_pos (by rw [h2]; exact List.mem_cons_self ..)]
      · rw [if_neg h2, if_neg (fun h3 => by rcases List.mem_cons.1 h3 with h4 | h4; exact h2 h4; exact h1 h4)]
theorem remD_names (keep ds : List (List UInt8)) : (remD keep ds).map Ch.n = (ds.filter (fun d => !keep.contains d)).map bnm := by simp [remD, List.map_map, Function.comp_def]
theorem remD_k {keep ds : List (List UInt8)} {c : Ch} (h : c ∈ remD keep ds) : c.k = 2 := by
  obtain ⟨d, _, rfl⟩ := List.mem_map.1 h
  rfl
/-- So far Sweep has come. -/
structure SwAt (w0 : World) (B g room M : Nat) (s : Ds) (keep ds : List (List UInt8)) (k : Nat) (w : World) (s' : Ds) : Prop where
  d : DAt w B g room M s'
  fr : Fr B w0 w
  F : s'.F = s.F
  cs : s'.cs = s.cs ++ remD keep (ds.take k)
  fall : s.fall < 0 → s'.fall = s.fall
theorem SwAt.mono {w0 w : World} {B g room M M' k : Nat} {s s' : Ds} {keep ds : List (List UInt8)} (h : SwAt w0 B g room M s keep ds k w s') (hm : M ≤ M') : SwAt w0 B g room M' s keep ds k w s' := { h with d := h.d.mono hm }
set_option maxRecDepth 100000 in
set_option maxHeartbeats 4000000 in
theorem sweep_ds (B g room M : Nat) (s : Ds) (w : World) (h : DAt w B g room M s) (hM : M ≤ 79000) (hu : s.dn = false) (hN : ∀ n, (s.R n).isSome = true → n.length ≤ 1000) (hNL : ∀ l, IsNames s.R l → l.length ≤ 40)
    (A : Option Addr) (n c base : Nat) (keep : List (List UInt8)) (hr : w.ownsRow base 41 32 (.slice A n c) n (keep.flatMap dgC)) (hl : keep.length = n) (hn : n ≤ 1000) (hk : ∀ x ∈ keep, x.length = 32) :
    Calls Try.prog 52 #[.agg #[.pointer (some ⟨g, 0, none⟩)], .slice A n c] w (fun e w' => ∃ (s' : Ds) (x : Int), (∃ cnt : Int, e = .returned (.tuple #[.int .i64 cnt, .int .i64 x])) ∧ ∃ (l : List (List UInt8)), IsNames s.R l ∧ ∃ k : Nat, k ≤ 40 ∧ SwAt w B g room (M + 50) s keep (l.filterMap allD) k w' s' ∧
      ((x = 8 ∧ s'.dn = true ∧ 0 ≤ s.fall) ∨ (x = 0 ∧ s'.dn = false ∧ k = (l.filterMap allD).length))) := by
  have hBw : B ≤ w.heap.size := by have := h.lt; omega
  obtain ⟨zc, hzc⟩ : ∃ z, z = ZC := ⟨_, rfl⟩
  have hzero : ∀ w, (zeroValue 41).run Try.prog w = .ok (.agg zc) w := fun w => by rw [hzc]; exact zero_dg w
  have HZS : Hid (zc.size = 32) := hide (by rw [hzc]; rfl)
  clear hzc
  have HKL := hide hl
  have HK32 := hide hk
  have HKO := hide hr
  have HD := hide h
  have hdu := Try.underlying41
  obtain ⟨qb, hqb⟩ : ∃ q, q = w.heap.size := ⟨_, rfl⟩
  obtain ⟨wA, hwA⟩ : ∃ wE, wE = w.alloc (.cells #[.pointer (some ⟨g, 0, none⟩)] 32) := ⟨_, rfl⟩
  have HBA : Hid (Below w.heap.size w wA) := hide (by rw [hwA]; exact (Below.refl _ w).alloc (Nat.le_refl _) _)
  have HQA : Hid (Blk wA qb 32 #[.pointer (some ⟨g, 0, none⟩)]) := hide (by rw [hwA, hqb]; exact Blk.new _ _ _)
  have HAL := hide (all_ds B g room M s wA (h.below HBA.out) (by omega) hu hN (fun l hl => by have := hNL l hl; omega))
  have HNL := hide hNL
  clear hl hk hr h hN hNL
  have q0 : wA.cell? ⟨qb, 0, none⟩ = some (.pointer (some ⟨g, 0, none⟩)) := HQA.out.cell 0
  go_enter Try.func52, Try.ntmps52
  go_upto_region 2 with fail
  rw [← hwA, ← hqb]
  clear hwA hqb
  go_wp2_with fail
  refine HAL.out.mono ?_
  rintro e w1 ⟨A1, c1, l, rfl, hl, ho, hb⟩
  have HLN := hide hl
  have hlen : (l.filterMap allD).length ≤ 40 := Nat.le_trans (List.length_filterMap_le ..) (HNL.out l hl)
  have HND : Hid ((l.filterMap allD).Nodup) := hide (nodup_allD hl.nodup)
  have HSM : Hid (∀ d ∈ l.filterMap allD, d.length = 32 ∧ (s.R (bnm d)).isSome = true) := hide (fun d hd => by
    obtain ⟨n, hn, h⟩ := List.mem_filterMap.1 hd
    rw [← allD_name h]
    exact ⟨allD_len h, (hl.2 n).1 hn⟩)
  obtain ⟨ds, hds⟩ : ∃ ds, ds = l.filterMap allD := ⟨_, rfl⟩
  have HDE : Hid (∀ _ : Unit, l.filterMap allD = ds) := hide (fun _ => hds.symm)
  rw [← hds] at hlen HND HSM ho ⊢
  have HO1 := hide ho
  have HFA : Hid (Fr B w wA) := hide (Fr.below HBA.out hBw)
  have HF1 : Hid (Fr B w w1) := hide (HFA.out.trans (Fr.below hb (Nat.le_trans hBw HBA.out.size)))
  have HQ1 := hide (HQA.out.below hb HQA.out.lt)
  have HD1 : Hid (DAt w1 B g room M s) := hide ((HD.out.below HBA.out).below hb)
  clear hl ho hb hds HAL HQA q0
  obtain ⟨m, hm⟩ : ∃ m, m = ds.length := ⟨_, rfl⟩
  have HME : Hid (ds.length = m) := hide hm.symm
  rw [← hm] at HO1 hlen ⊢
  clear hm
  go_wp2_with fail
  go_loopw [13, 6] (fun i u wr => ∃ (k : Nat) (cnt : Nat) (sk : Ds), k ≤ m ∧ cnt ≤ k ∧ i = .int .i64 k ∧ u = .int .i64 cnt ∧ sk.dn = false ∧ Hid (SwAt w B g room (M + k) s keep ds k wr sk) ∧ Hid (Fr B w1 wr)) (fun i _ _ => m - (intOf i).toNat)
  case atStart => exact ⟨0, 0, s, Nat.zero_le _, Nat.le_refl _, rfl, rfl, hu, hide ⟨HD1.out, HF1.out, rfl, by simp [remD], fun _ => rfl⟩, hide (Fr.below (Below.refl _ _) (Nat.le_trans hBw HF1.out.size))⟩
  case round =>
    obtain ⟨k, cnt, sk, hk, hck, rfl, rfl, hup, HSK, HFR⟩ := hrel
    by_cases hlt : k < m
    case neg =>
      obtain rfl : k = m := by omega
      go_wp2_with fail
      go_ret2
      exact ⟨sk, 0, ⟨cnt, rfl⟩, l, HLN.out, k, by omega, by rw [HDE.out ()]; exact HSK.out.mono (by omega), .inr ⟨rfl, hup, by rw [HDE.out ()]; exact HME.out.symm⟩⟩
    case pos =>
      have hlk : k < ds.length := by rw [HME.out]; exact hlt
      have HOR : Hid (wr.ownsRow wA.heap.size 41 32 (.slice A1 m c1) m (ds.flatMap dgC)) := hide (HFR.out.own HO1.out (by decide) (by decide))
      have HKR : Hid (wr.ownsRow base 41 32 (.slice A n c) n (keep.flatMap dgC)) := hide (HSK.out.fr.own HKO.out (by decide) (by decide))
      have HQR := hide (HFR.out.far qb _ _ (by decide) (by decide) HQ1.out)
      obtain ⟨b, o, rfl, _, hbl, hcs⟩ := Rd.rec_ (f := dgC) (size := 32) dgC_len (Rd.of_ownB HOR.out) HME.out k hlt
      have hel := HSM.out _ (List.getElem_mem hlk)
      have HTK : Hid (ds.take (k + 1) = ds.take k ++ [ds[k]]) := hide (by rw [List.take_add_one, List.getElem?_eq_getElem hlk]; rfl)
      have HNI : Hid (ds[k] ∉ ds.take k) := hide (fun hm => by
        have h1 := HND.out
        rw [← List.take_append_drop k ds, List.drop_eq_getElem_cons hlk, List.nodup_append] at h1
        exact h1.2.2 _ hm _ (List.mem_cons_self ..) rfl)
      have HTM : Hid (∀ y ∈ ds.take k, y.length = 32) := hide (fun y hy => (HSM.out y (List.mem_of_mem_take hy)).1)
      generalize ds[k] = d at hcs hel HTK HNI
      obtain ⟨hdl, hds⟩ := hel
      obtain ⟨dz, hdz⟩ : ∃ z, z = darr d := ⟨_, rfl⟩
      have HDZ := hide (dg_size hdz hdl)
      have HRG : Hid (wr.rangeAt b (o + k * 32) dz.toList) := hide (fun i v hv => hcs i v (by rw [← dgC_is hdl, ← hdz]; exact hv))
      have HNA : Hid (∀ W, Calls Try.prog 11 #[.agg dz] W (Gives W (S (bnm d)))) := hide (fun W => by rw [hdz]; exact name_any W d hdl)
      obtain ⟨wE, hwE⟩ : ∃ x, x = (wr.alloc (.cells zc 41)).setCells wr.heap.size 0 dz.toList := ⟨_, rfl⟩
      have HBX := hide (box_any wr 41 zc dz (by rw [HDZ.out.1, HZS.out]))
      rw [← hwE] at HBX
      have HZT : Hid ((wr.alloc (.cells zc 41)).there wr.heap.size 0 dz.size) := hide ((Blk.new wr 41 zc).there_ (by rw [HDZ.out.1, HZS.out]))
      have HHA := hide (has_any wE A n c keep d ((Rd.of_ownB (own_keep (F := fun _ => False) HKR.out (Keep.of_below HBX.out.2 (fun k h1 h2 => by omega)) (fun _ _ h => h))).weak (fun k h1 h2 => by omega)) HKL.out (by omega) hdl HK32.out)
      rw [← hdz] at HHA
      obtain ⟨R, hR⟩ : ∃ R, R = keep.contains d := ⟨_, rfl⟩
      have HRC : Hid (∀ _ : Unit, keep.contains d = R) := hide (fun _ => hR.symm)
      rw [← hR] at HHA
      clear hR hdz hcs
      go_upto_region 5 with (first
        | (refine wpList_load_mid rfl 41 (.tmp 15) rfl b (o + k * 32) rfl dz.toList _ HRG.out Try.underlying41 rfl (by rw [Array.length_toList, HDZ.out.1]; exact dig_info) ?_; rw [Array.toArray_toList])
        | (refine wpList_store_mid rfl 41 (.tmp 8) (.tmp 16) rfl wr.heap.size 0 dz rfl rfl HZT.out (by rw [HDZ.out.1]; exact dig_info) HDZ.out.2 ?_))
      simp only [show ∀ (x : Act), x.put none undef = x from fun _ => rfl]
      rw [← hwE]
      have HQ : Hid (Blk wE wr.heap.size 41 dz) := hide HBX.out.1
      have HBE : Hid (Below wr.heap.size wr wE) := hide HBX.out.2
      have HQRE := hide (HQR.out.below HBX.out.2 HQR.out.lt)
      obtain ⟨q, hq⟩ : ∃ q, q = wr.heap.size := ⟨_, rfl⟩
      rw [← hq] at HQ ⊢
      clear hwE hq HBX HZT HRG HQR
      cases R with
      | true =>
        go_wp2_with (first
              | (refine wpList_load_mid rfl 41 (.tmp 8) rfl q 0 rfl dz.toList _ HQ.out.range Try.underlying41 rfl (by rw [Array.length_toList, HDZ.out.1]; exact dig_info) ?_; rw [Array.toArray_toList])
              | (go_at_call 63; refine HHA.out.mono ?_; rintro e w2 ⟨rfl, hb2⟩; have HB2 := hide (HBE.out.trans (hb2.mono HBE.out.size)); have HQ2 := hide (HQ.out.below hb2 HQ.out.lt); have HQR2 := hide (HQRE.out.below hb2 HQRE.out.lt); clear hb2))
        have HFZ : Hid (Fr B wr w2) := hide (Fr.below HB2.out (Nat.le_trans hBw (Nat.le_trans HF1.out.size HFR.out.size)))
        have HSN : Hid (SwAt w B g room (M + (k + 1)) s keep ds (k + 1) w2 sk) := hide ⟨(HSK.out.d.below HB2.out).mono (by omega), HSK.out.fr.trans HFZ.out, HSK.out.F, by rw [HSK.out.cs, HTK.out, remD_snoc_in (HRC.out ())], HSK.out.fall⟩
        have HFN : Hid (Fr B w1 w2) := hide (HFR.out.trans HFZ.out)
        go_roundw
        · exact ⟨k + 1, cnt, sk, by omega, by omega, by go_num, rfl, hup, HSN, HFN⟩
        · simp [intOf]; omega
      | false =>
        go_upto_region 6 with (first
              | (refine wpList_load_mid rfl 41 (.tmp 8) rfl q 0 rfl dz.toList _ HQ.out.range Try.underlying41 rfl (by rw [Array.length_toList, HDZ.out.1]; exact dig_info) ?_; rw [Array.toArray_toList])
              | (go_at_call 63; refine HHA.out.mono ?_; rintro e w2 ⟨rfl, hb2⟩; have HB2 := hide (HBE.out.trans (hb2.mono HBE.out.size)); have HQ2 := hide (HQ.out.below hb2 HQ.out.lt); have HQR2 := hide (HQRE.out.below hb2 HQRE.out.lt); clear hb2))
        have HFZ : Hid (Fr B wr w2) := hide (Fr.below HB2.out (Nat.le_trans hBw (Nat.le_trans HF1.out.size HFR.out.size)))
        have hdi : (Try.prog.info? 41).map (·.size) = some dz.toList.length := by rw [Array.length_toList, HDZ.out.1]; exact dig_info
        have HS3 : Hid (∀ w', Below w2.heap.size w2 w' → w'.cell? ⟨qb, 0, none⟩ = some (.pointer (some ⟨g, 0, none⟩)) ∧ w'.rangeAt q 0 dz.toList) := hide (fun w' hb => ⟨(HQR2.out.below hb HQR2.out.lt).cell 0, (HQ2.out.below hb HQ2.out.lt).range⟩)
        have HISS : Hid ((sk.R (bnm d)).isSome = true) := hide (by
          unfold Ds.R
          rw [HSK.out.cs, List.foldl_append, HSK.out.F, fold_rem _ (fun c hc => remD_k hc), if_neg]
          · exact hds
          · intro hm
            rw [remD_names] at hm
            obtain ⟨y, hy, e⟩ := List.mem_map.1 hm
            have hy1 := (List.mem_filter.1 hy).1
            exact HNI.out (bnm_inj (HTM.out y hy1) hdl e ▸ hy1))
        have HRM : Hid (∀ W, Below w2.heap.size w2 W → Calls Try.prog 13 #[.pointer (some ⟨g, 0, none⟩), S (bnm d)] W (fun e w' => ∃ (s' : Ds) (x : Int), e = .returned (.int .i64 x) ∧ DAt w' B g room (M + (k + 1)) s' ∧ Fr B W w' ∧ ((x = 8 ∧ s' = sk.dead ∧ sk.stop) ∨ (¬ sk.stop ∧ x = 0 ∧ s' = sk.tick (sk.cs ++ [⟨2, bnm d, []⟩]))))) := hide (fun W hb => by
          refine (remove_ds B g room (M + k) sk W ((HSK.out.d.below HB2.out).below hb) (bnm d) (by omega) (by unfold short; rw [bnm_len]; omega)).mono ?_
          rintro e w' ⟨s', x, he, h1, h2, h3⟩
          refine ⟨s', x, he, h1, h2, ?_⟩
          rcases h3 with h3 | ⟨h4, ⟨h5, _, h6⟩ | ⟨_, h5, _⟩⟩
          · exact .inl h3
          · exact .inr ⟨h4, h5, h6⟩
          · have := HISS.out
            rw [h5] at this
            cases this)
        refine wp_region_noPanic ?_
        refine wp_region_held_drew (S := (fun w' => w'.cell? ⟨qb, 0, none⟩ = some (.pointer (some ⟨g, 0, none⟩)) ∧ w'.rangeAt q 0 dz.toList)) (by kernel_rfl) (HS3.out _ (Below.refl _ _).drew) (fun hHeld => ?_)
        obtain ⟨w3, hw3⟩ : ∃ x, x = w2.drew := ⟨_, rfl⟩
        rw [← hw3] at hHeld ⊢
        have HB3 : Hid (Below w2.heap.size w2 w3) := hide (by rw [hw3]; exact (Below.refl _ _).drew)
        clear hw3
        refine wpAnyH_take (i := 0) (v := ?_) (by simp only [List.getElem?_toArray, List.getElem?_cons_zero]; rfl) (by kernel_rfl) (by kernel_rfl) (by kernel_rfl) (fun _ _ _ h => h) (Or.inl ⟨by rfl, ?_⟩) (by assumption) ?_
        rotate_left
        · (intro wS hSw; have c1 := hSw.1; go_simp; try with_reducible rfl)
        try simp only [Act.put, List.setIfInBounds_toArray, List.set_cons_zero, List.set_cons_succ]
        refine wpAnyH_take (i := 1) (v := ?_) (by simp only [List.getElem?_toArray, List.getElem?_cons_zero, List.getElem?_cons_succ]; rfl) (by kernel_rfl) (by kernel_rfl) (by kernel_rfl) (fun _ _ _ h => h) (Or.inl ⟨by rfl, ?_⟩) (by assumption) ?_
        rotate_left
        · (intro wS hSw; have c1 := hSw.1; go_simp; try with_reducible rfl)
        try simp only [Act.put, List.setIfInBounds_toArray, List.set_cons_zero, List.set_cons_succ]
        refine wpAnyH_take (i := 2) (by simp only [List.getElem?_toArray, List.getElem?_cons_zero, List.getElem?_cons_succ]; rfl) (by kernel_rfl) (by kernel_rfl) (by kernel_rfl) (fun _ _ _ h => h) (yieldsIf_load_mid (by rfl) _ _ rfl q 0 rfl dz.toList _ (fun _ h => h.2) hdu rfl hdi) (by assumption) ?_
        simp only [Act.put, List.setIfInBounds_toArray, List.set_cons_zero, List.set_cons_succ, Array.toArray_toList]
        refine wpAnyH_ready (rs := [3]) (by kernel_rfl) (by simp) ?_
        refine AllReadyH.cons (by simp only [List.getElem?_toArray, List.getElem?_cons_zero, List.getElem?_cons_succ]; rfl) (fun K hK => ?_) AllReadyH.nil
        try rw [if_pos (by rfl)]
        go_simp
        go_at_call 11
        refine (HNA.out w3).mono ?_
        rintro e w4 ⟨rfl, hb⟩
        have HB4 := hide (HB3.out.trans (hb.mono HB3.out.size))
        clear hb
        try go_wp2_with fail
        refine hK.out _ _ (HS3.out _ HB4.out) (fun hHeld => ?_)
        clear hK K
        try simp only [Act.put, List.setIfInBounds_toArray, List.set_cons_zero, List.set_cons_succ]
        refine wpAnyH_ready (rs := [4]) (by kernel_rfl) (by simp) ?_
        refine AllReadyH.cons (by simp only [List.getElem?_toArray, List.getElem?_cons_zero, List.getElem?_cons_succ]; rfl) (fun K hK => ?_) AllReadyH.nil
        try rw [if_pos (by rfl)]
        go_simp
        go_at_call 13
        refine (HRM.out w4 HB4.out).mono ?_
        rintro e w5 ⟨s', x, rfl, hd5, hf5, hx5⟩
        have HD5 := hide hd5
        have HX5 := hide hx5
        have HF5 : Hid (Fr B wr w5) := hide (HFZ.out.trans ((Fr.below HB4.out (Nat.le_trans (Nat.le_trans hBw (Nat.le_trans HF1.out.size HFR.out.size)) HFZ.out.size)).trans hf5))
        have HS5 : Hid (w5.cell? ⟨qb, 0, none⟩ = some (.pointer (some ⟨g, 0, none⟩)) ∧ w5.rangeAt q 0 dz.toList) := hide ⟨(hf5.far qb _ _ (by decide) (by decide) (HQR2.out.below HB4.out HQR2.out.lt)).cell 0, (hf5.far q _ _ (by decide) (by decide) (HQ2.out.below HB4.out HQ2.out.lt)).range⟩
        clear hd5 hf5 hx5
        try go_wp2_with fail
        refine hK.out _ _ (HS5.out) (fun hHeld => ?_)
        clear hK K
        try simp only [Act.put, List.setIfInBounds_toArray, List.set_cons_zero, List.set_cons_succ]
        refine wpAnyH_take (i := 5) (v := ?_) (by simp only [List.getElem?_toArray, List.getElem?_cons_zero, List.getElem?_cons_succ]; rfl) (by kernel_rfl) (by kernel_rfl) (by kernel_rfl) (fun _ _ _ h => h) (Or.inl ⟨by rfl, ?_⟩) (by assumption) ?_
        rotate_left
        · (intro wS hSw; have c1 := hSw.1; go_simp; try with_reducible rfl)
        try simp only [Act.put, List.setIfInBounds_toArray, List.set_cons_zero, List.set_cons_succ]
        refine wpAnyH_done (by kernel_rfl) ?_ _
        refine NoPanic.normal ?_
        clear hHeld HS3 HB3 HB4 HRM HS5
        rcases HX5.out with ⟨rfl, hs5, hst⟩ | ⟨hst, rfl, hs5⟩
        · have HSN : Hid (SwAt w B g room (M + 50) s keep ds k w5 sk.dead) := hide ⟨by rw [← hs5]; exact HD5.out.mono (by omega), HSK.out.fr.trans HF5.out, HSK.out.F, HSK.out.cs, HSK.out.fall⟩
          have HFL : Hid (0 ≤ s.fall) := hide (by
            rcases hst with h2 | h2
            · rw [hup] at h2; cases h2
            · by_cases hf : s.fall < 0
              · have := HSK.out.fall hf; omega
              · omega)
          go_wp2_with fail
          go_ret2
          exact ⟨sk.dead, 8, ⟨cnt, rfl⟩, l, HLN.out, k, by omega, by rw [HDE.out ()]; exact HSN.out, .inl ⟨rfl, rfl, HFL.out⟩⟩
        · have HSN : Hid (SwAt w B g room (M + (k + 1)) s keep ds (k + 1) w5 s') := hide ⟨HD5.out, HSK.out.fr.trans HF5.out, by rw [hs5]; exact HSK.out.F, by rw [hs5]; show sk.cs ++ _ = _; rw [HSK.out.cs, HTK.out, remD_snoc_out (HRC.out ()), List.append_assoc], fun hf => by rw [hs5]; have h1 := HSK.out.fall hf; show (if 0 < sk.fall then sk.fall - 1 else sk.fall) = s.fall; rw [if_neg (by omega)]; exact h1⟩
          have hup2 : s'.dn = false := by rw [hs5]; rfl
          have HFN : Hid (Fr B w1 w5) := hide (HFR.out.trans HF5.out)
          clear hs5 hst
          go_wp2_with fail
          go_roundw
          · exact ⟨k + 1, cnt + 1, s', by omega, by omega, by go_num, by go_num, hup2, HSN, HFN⟩
          · simp [intOf]; omega
end Go.Proofs.Ytclgiapmbmbknaa
