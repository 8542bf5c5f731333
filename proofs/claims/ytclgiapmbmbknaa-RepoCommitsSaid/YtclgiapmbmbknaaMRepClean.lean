/- Repo.clean, walked; no statement of the seat is proved here. (Written by gen/repclean.py.) -/
import Derived.Test.YtclgiapmbmbknaaMRepLoad
namespace Go.Proofs.Ytclgiapmbmbknaa
open Go.RowKit Go.Maps
set_option linter.unusedVariables false
set_option linter.unusedSimpArgs false

theorem entX_b (x : Nat × Nat) : (EnP.b ∘ entX) x = dgt x := by
  simp only [Function.comp, entX]
theorem blobs_of {L : List Enq} {O : List (Nat × Nat)} (h : L.map Enq.pl = O.map entX) : L.map Enq.b = O.map dgt := by
  have h1 := congrArg (List.map EnP.b) h
  rw [List.map_map, List.map_map, List.map_congr_left (g := dgt) (fun x _ => entX_b x)] at h1
  exact h1
theorem len_of {L : List Enq} {O : List (Nat × Nat)} (h : L.map Enq.pl = O.map entX) : L.length = O.length := by
  have h1 := congrArg List.length h
  simpa using h1
/-- A turn does no harm to a fall that isn't set. -/
theorem tick_fall {s : Ds} {cs : List Ch} (h : s.fall < 0) : (s.tick cs).fall = s.fall := by
  show (if 0 < s.fall then s.fall - 1 else s.fall) = s.fall
  rw [if_neg (by omega)]
theorem stop_fall {s : Ds} (h : s.stop) (hu : s.dn = false) : 0 ≤ s.fall := by
  rcases h with h | h
  · rw [hu] at h; cases h
  · omega
set_option maxRecDepth 100000 in
set_option maxHeartbeats 4000000 in
theorem clean_ds (O : List (Nat × Nat)) (hO : OkX O) (B g room M : Nat) (s : Ds) (w : World) (h : DAt w B g room M s) (hM : M ≤ 78000) (hu : s.dn = false) (hs : Hs O s) (B0 : Nat) (A : Option Addr) (c : Nat) (L : List Enq) (hL : L.map Enq.pl = O.map entX) (hli : LiOwn w B0 A L.length c L) :
    Calls Try.prog 25 #[.agg #[.pointer (some ⟨g, 0, none⟩)], .slice A L.length c] w (fun e w' => ∃ (s' : Ds) (x : Int), e = .returned (.int .i64 x) ∧ DAt w' B g room (M + 60) s' ∧ Fr B w w' ∧ Hs O s' ∧
      ((x = 8 ∧ s'.dn = true ∧ 0 ≤ s.fall) ∨ (x = 0 ∧ s'.dn = false ∧ s'.cs = [] ∧ Exact O s'.F ∧ (s.fall < 0 → s'.fall = s.fall)))) := by
  have hBw : B ≤ w.heap.size := by have := h.lt; omega
  have hol := hO.len
  have hll := len_of hL
  have HLB := hide (blobs_of hL)
  have HLI := hide hli
  have HHS := hide hs
  have HOO := hide hO
  have HD := hide h
  obtain ⟨n, hn⟩ : ∃ n, n = L.length := ⟨_, rfl⟩
  have HLN : Hid (L.length = n ∧ n ≤ 6) := hide ⟨hn.symm, by omega⟩
  rw [← hn] at HLI ⊢
  clear hn hL hli hs hO hll h hol
  obtain ⟨qb, hqb⟩ : ∃ q, q = w.heap.size := ⟨_, rfl⟩
  obtain ⟨wA, hwA⟩ : ∃ wE, wE = w.alloc (.cells #[.pointer (some ⟨g, 0, none⟩)] 34) := ⟨_, rfl⟩
  have HBA : Hid (Below w.heap.size w wA) := hide (by rw [hwA]; exact (Below.refl _ w).alloc (Nat.le_refl _) _)
  have HQA : Hid (Blk wA qb 34 #[.pointer (some ⟨g, 0, none⟩)]) := hide (by rw [hwA, hqb]; exact Blk.new _ _ _)
  have HFA : Hid (Fr B w wA) := hide (Fr.below HBA.out hBw)
  have HRM := hide (remove_ds B g room M s wA (HD.out.below HBA.out) nNext (by omega) (by unfold short nNext; simp))
  rw [show S nNext = S [110, 101, 120, 116] from rfl] at HRM
  have q0 : wA.cell? ⟨qb, 0, none⟩ = some (.pointer (some ⟨g, 0, none⟩)) := HQA.out.cell 0
  go_enter Try.func25, Try.ntmps25
  go_upto_region 1 with fail
  rw [← hwA, ← hqb]
  clear hwA hqb
  go_upto_region 2 with (go_at_call 13; refine HRM.out.mono ?_; rintro e w1 ⟨s1, x1, rfl, hd1, hf1, hx1⟩; have HD1 := hide hd1; have HF1 := hide (HFA.out.trans hf1); have HQ1 := hide (hf1.far qb _ _ (by decide) (by decide) HQA.out); have HX1 := hide hx1; clear hd1 hf1 hx1)
  clear HRM HQA q0
  rcases HX1.out with ⟨rfl, h1, h2⟩ | ⟨hst, hx⟩
  · have HF : Hid (Hs O s1 ∧ s1.dn = true ∧ 0 ≤ s.fall) := hide (by rw [h1]; exact ⟨HHS.out.dead, rfl, stop_fall h2 hu⟩)
    clear h1 h2
    go_wp2_with fail
    go_ret
    exact ⟨s1, 8, rfl, HD1.out.mono (by omega), HF1.out, HF.out.1, .inl ⟨rfl, HF.out.2⟩⟩
  have HS1 : Hid (Hs O s1 ∧ s1.dn = false ∧ s1.R nNext = none ∧ (s.fall < 0 → s1.fall = s.fall)) := hide (by
    rcases hx with ⟨_, hx1, h1⟩ | ⟨_, hx1, h1⟩
    · rw [h1]
      refine ⟨HHS.out.app (c := ⟨2, nNext, []⟩) (.inr ⟨rfl, .inl rfl⟩), rfl, ?_, fun hf => tick_fall hf⟩
      show ((s.cs ++ ([⟨2, nNext, []⟩] : List Ch)).foldl chDo s.F) nNext = none
      rw [List.foldl_append]
      simp [chDo, Fl.del]
    · rw [h1]
      exact ⟨HHS.out.tick, rfl, hx1, fun hf => tick_fall hf⟩)
  have hxx : x1 = 0 ∨ x1 = 5 := by rcases hx with ⟨h, _⟩ | ⟨h, _⟩ <;> simp [h]
  clear hx hst HX1
  have HG1 : Hid (Good O s1.R) := hide (HS1.out.1.R HOO.out)
  have HSW : Hid (∀ W A2 c2 base, Fr B w W → DAt W B g room (M + 1) s1 → W.ownsRow base 41 32 (.slice A2 n c2) n ((O.map dgt).flatMap dgC) → Calls Try.prog 52 #[.agg #[.pointer (some ⟨g, 0, none⟩)], .slice A2 n c2] W (fun e w' => ∃ (s' : Ds) (x : Int), (∃ cnt : Int, e = .returned (.tuple #[.int .i64 cnt, .int .i64 x])) ∧ ∃ (l : List (List UInt8)), IsNames s1.R l ∧ ∃ k : Nat, k ≤ 40 ∧ SwAt W B g room (M + 51) s1 (O.map dgt) (l.filterMap allD) k w' s' ∧
      ((x = 8 ∧ s'.dn = true ∧ 0 ≤ s1.fall) ∨ (x = 0 ∧ s'.dn = false ∧ k = (l.filterMap allD).length)))) := hide (fun W A2 c2 base hf hd ho => sweep_ds B g room (M + 1) s1 W hd (by omega) HS1.out.2.1 (fun n hn => HG1.out.name_len hn) (fun l hl => HG1.out.names_le hl) A2 n c2 base (O.map dgt) ho (by rw [← HLB.out, List.length_map]; exact HLN.out.1) (by have := HLN.out.2; omega) (fun x hx => by obtain ⟨y, _, rfl⟩ := List.mem_map.1 hx; exact dgt_len y))
  have HS3 : Hid (∀ w', Fr B w1 w' → w'.cell? ⟨qb, 0, none⟩ = some (.pointer (some ⟨g, 0, none⟩))) := hide (fun w' hf => (hf.far qb _ _ (by decide) (by decide) HQ1.out).cell 0)
  have hB1 : B ≤ w1.heap.size := Nat.le_trans hBw HF1.out.size
  rcases hxx with rfl | rfl
  all_goals
    go_upto_region 4 with fail
    refine wp_region_noPanic ?_
    refine wp_region_held_drew (S := (fun w' => w'.cell? ⟨qb, 0, none⟩ = some (.pointer (some ⟨g, 0, none⟩)))) (by kernel_rfl) (HS3.out _ (Fr.below (Below.refl _ _).drew hB1)) (fun hHeld => ?_)
    obtain ⟨w2, hw2⟩ : ∃ x, x = w1.drew := ⟨_, rfl⟩
    rw [← hw2] at hHeld ⊢
    have HF2 : Hid (Below w1.heap.size w1 w2) := hide (by rw [hw2]; exact (Below.refl _ _).drew)
    clear hw2
    have HBL := hide (blobs_any A n c L w2 (((HLI.out.fr HF1.out).onb HF2.out).li (by have := HLN.out.2; omega)) (by have := HLN.out.2; omega))
    rw [HLB.out] at HBL
    refine wpAnyH_take (i := 0) (v := ?_) (by simp only [List.getElem?_toArray, List.getElem?_cons_zero]; rfl) (by kernel_rfl) (by kernel_rfl) (by kernel_rfl) (fun _ _ _ h => h) (Or.inl ⟨by rfl, ?_⟩) (by assumption) ?_
    rotate_left
    · (intro wS hSw; have c1 := hSw; go_simp; try with_reducible rfl)
    try simp only [Act.put, List.setIfInBounds_toArray, List.set_cons_zero, List.set_cons_succ]
    refine wpAnyH_take (i := 1) (v := ?_) (by simp only [List.getElem?_toArray, List.getElem?_cons_zero, List.getElem?_cons_succ]; rfl) (by kernel_rfl) (by kernel_rfl) (by kernel_rfl) (fun _ _ _ h => h) (Or.inl ⟨by rfl, ?_⟩) (by assumption) ?_
    rotate_left
    · (intro wS hSw; have c1 := hSw; go_simp; try with_reducible rfl)
    try simp only [Act.put, List.setIfInBounds_toArray, List.set_cons_zero, List.set_cons_succ]
    refine wpAnyH_take (i := 2) (v := ?_) (by simp only [List.getElem?_toArray, List.getElem?_cons_zero, List.getElem?_cons_succ]; rfl) (by kernel_rfl) (by kernel_rfl) (by kernel_rfl) (fun _ _ _ h => h) (Or.inl ⟨by rfl, ?_⟩) (by assumption) ?_
    rotate_left
    · (intro wS hSw; have c1 := hSw; go_simp; try with_reducible rfl)
    try simp only [Act.put, List.setIfInBounds_toArray, List.set_cons_zero, List.set_cons_succ]
    refine wpAnyH_ready (rs := [3]) (by kernel_rfl) (by simp) ?_
    refine AllReadyH.cons (by simp only [List.getElem?_toArray, List.getElem?_cons_zero, List.getElem?_cons_succ]; rfl) (fun K hK => ?_) AllReadyH.nil
    try rw [if_pos (by rfl)]
    go_simp
    go_at_call 28
    refine (HBL.out).mono ?_
    rintro e w3 ⟨A2, c2, rfl, ho, hb⟩
    have HO3 := hide ho
    have HB3 := hide (HF2.out.trans (hb.mono HF2.out.size))
    clear ho hb
    try go_wp2_with fail
    refine hK.out _ _ (HS3.out _ (Fr.below HB3.out hB1)) (fun hHeld => ?_)
    clear hK K
    try simp only [Act.put, List.setIfInBounds_toArray, List.set_cons_zero, List.set_cons_succ]
    refine wpAnyH_ready (rs := [4]) (by kernel_rfl) (by simp) ?_
    refine AllReadyH.cons (by simp only [List.getElem?_toArray, List.getElem?_cons_zero, List.getElem?_cons_succ]; rfl) (fun K hK => ?_) AllReadyH.nil
    try rw [if_pos (by rfl)]
    go_simp
    go_at_call 52
    refine (HSW.out w3 A2 c2 _ (HF1.out.trans (Fr.below HB3.out hB1)) (HD1.out.below HB3.out) HO3.out).mono ?_
    rintro e w4 ⟨s2, x2, ⟨cnt, rfl⟩, l, hl, k, hk, hsw, hx2⟩
    have HF4 : Hid (Fr B w1 w4) := hide ((Fr.below HB3.out hB1).trans hsw.fr)
    have HX2 := hide (And.intro hl (And.intro hsw hx2))
    clear hl hsw hx2
    try go_wp2_with fail
    refine hK.out _ _ (HS3.out _ HF4.out) (fun hHeld => ?_)
    clear hK K
    try simp only [Act.put, List.setIfInBounds_toArray, List.set_cons_zero, List.set_cons_succ]
    refine wpAnyH_take (i := 5) (v := ?_) (by simp only [List.getElem?_toArray, List.getElem?_cons_zero, List.getElem?_cons_succ]; rfl) (by kernel_rfl) (by kernel_rfl) (by kernel_rfl) (fun _ _ _ h => h) (Or.inl ⟨by rfl, ?_⟩) (by assumption) ?_
    rotate_left
    · (intro wS hSw; have c1 := hSw; go_simp; try with_reducible rfl)
    try simp only [Act.put, List.setIfInBounds_toArray, List.set_cons_zero, List.set_cons_succ]
    refine wpAnyH_take (i := 6) (v := ?_) (by simp only [List.getElem?_toArray, List.getElem?_cons_zero, List.getElem?_cons_succ]; rfl) (by kernel_rfl) (by kernel_rfl) (by kernel_rfl) (fun _ _ _ h => h) (Or.inl ⟨by rfl, ?_⟩) (by assumption) ?_
    rotate_left
    · (intro wS hSw; have c1 := hSw; go_simp; try with_reducible rfl)
    try simp only [Act.put, List.setIfInBounds_toArray, List.set_cons_zero, List.set_cons_succ]
    refine wpAnyH_take (i := 7) (v := ?_) (by simp only [List.getElem?_toArray, List.getElem?_cons_zero, List.getElem?_cons_succ]; rfl) (by kernel_rfl) (by kernel_rfl) (by kernel_rfl) (fun _ _ _ h => h) (Or.inl ⟨by rfl, ?_⟩) (by assumption) ?_
    rotate_left
    · (intro wS hSw; have c1 := hSw; go_simp; try with_reducible rfl)
    try simp only [Act.put, List.setIfInBounds_toArray, List.set_cons_zero, List.set_cons_succ]
    refine wpAnyH_take (i := 8) (v := ?_) (by simp only [List.getElem?_toArray, List.getElem?_cons_zero, List.getElem?_cons_succ]; rfl) (by kernel_rfl) (by kernel_rfl) (by kernel_rfl) (fun _ _ _ h => h) (Or.inl ⟨by rfl, ?_⟩) (by assumption) ?_
    rotate_left
    · (intro wS hSw; have c1 := hSw; go_simp; try with_reducible rfl)
    try simp only [Act.put, List.setIfInBounds_toArray, List.set_cons_zero, List.set_cons_succ]
    refine wpAnyH_take (i := 9) (v := ?_) (by simp only [List.getElem?_toArray, List.getElem?_cons_zero, List.getElem?_cons_succ]; rfl) (by kernel_rfl) (by kernel_rfl) (by kernel_rfl) (fun _ _ _ h => h) (Or.inl ⟨by rfl, ?_⟩) (by assumption) ?_
    rotate_left
    · (intro wS hSw; have c1 := hSw; go_simp; try with_reducible rfl)
    try simp only [Act.put, List.setIfInBounds_toArray, List.set_cons_zero, List.set_cons_succ]
    refine wpAnyH_done (by kernel_rfl) ?_ _
    refine NoPanic.normal ?_
    clear hHeld HS3 HBL HO3 HSW HF2 HB3
    obtain ⟨hl, hsw, hx2⟩ := HX2.out
    have HS2 : Hid (Hs O s2) := hide (hsw.hs HOO.out HS1.out.1 hl)
    have HD4 := hide hsw.d
    have HQ4 := hide (HF4.out.far qb _ _ (by decide) (by decide) HQ1.out)
    have HFL2 : Hid (s.fall < 0 → s2.fall = s.fall) := hide (fun hf => by have h1 := HS1.out.2.2.2 hf; rw [hsw.fall (by omega)]; exact h1)
    rcases hx2 with ⟨rfl, h1, h2⟩ | ⟨rfl, h1, h2⟩
    · have HF : Hid (s2.dn = true ∧ 0 ≤ s.fall) := hide ⟨h1, by by_cases hf : s.fall < 0; have := HS1.out.2.2.2 hf; omega; omega⟩
      clear h1 h2 hl hsw
      go_wp2_with fail
      go_ret
      exact ⟨s2, 8, rfl, HD4.out.mono (by omega), HF1.out.trans HF4.out, HS2.out, .inl ⟨rfl, HF.out⟩⟩
    · have HEX : Hid (Exact O s2.R) := hide (hsw.exact_ HOO.out HS1.out.1 hl h2 HS1.out.2.2.1)
      have HU2 : Hid (s2.dn = false) := hide h1
      have HSY := hide (sync_ds B g room (M + 51) s2 w4 HD4.out (by omega))
      have q4 : w4.cell? ⟨qb, 0, none⟩ = some (.pointer (some ⟨g, 0, none⟩)) := HQ4.out.cell 0
      clear h1 h2 hl hsw
      go_wp2_with (go_at_call 27; refine HSY.out.mono ?_; rintro e w5 ⟨s3, x3, rfl, hd5, hf5, hx5⟩; have HD5 := hide hd5; have HF5 := hide hf5; have HX5 := hide hx5; clear hd5 hf5 hx5)
      go_ret
      refine ⟨s3, x3, rfl, HD5.out.mono (by omega), (HF1.out.trans HF4.out).trans HF5.out, ?_⟩
      rcases HX5.out with ⟨h3, h4, h5⟩ | ⟨h3, h4, h5⟩
      · rw [h4]
        exact ⟨HS2.out.dead, .inl ⟨h3, rfl, by have h6 := stop_fall h5 HU2.out; by_cases hf : s.fall < 0; have := HFL2.out hf; omega; omega⟩⟩
      · rw [h5]
        exact ⟨HS2.out.sync HOO.out, .inr ⟨h4, rfl, rfl, HEX.out, fun hf => by have h6 := HFL2.out hf; show (if 0 < s2.fall then s2.fall - 1 else s2.fall) = s.fall; rw [if_neg (by omega)]; exact h6⟩⟩
end Go.Proofs.Ytclgiapmbmbknaa
