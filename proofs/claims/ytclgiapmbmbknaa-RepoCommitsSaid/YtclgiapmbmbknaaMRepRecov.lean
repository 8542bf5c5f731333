/- Repo.Recover, walked; no statement of the seat is proved here. -/
import Derived.Test.YtclgiapmbmbknaaMRepClean
namespace Go.Proofs.Ytclgiapmbmbknaa
open Go.RowKit Go.Maps
set_option linter.unusedVariables false
set_option linter.unusedSimpArgs false

set_option maxRecDepth 100000 in
set_option maxHeartbeats 4000000 in
theorem recov_gen (O : List (Nat × Nat)) (hO : OkX O) (B g room M : Nat) (s : Ds) (w : World) (h : DAt w B g room M s) (hM : M ≤ 78000) (hu : s.dn = false)
    (hl : s.R nList = some (encX O) ∨ (s.R nList = none ∧ O = [])) (hlen : ∀ x ∈ O, ∀ t, s.R (bnm (dgt x)) = some t → t.length ≤ 1000) (hs : (∀ x ∈ O, (textA s.R (dgt x)).2 = 0) → Hs O s) :
    Calls Try.prog 10 #[.agg #[.pointer (some ⟨g, 0, none⟩)]] w (fun e w' =>
      ((∃ x ∈ O, (textA s.R (dgt x)).2 ≠ 0) ∧ e = .returned (.tuple #[.slice none 0 0, .int .i64 40]) ∧ Below w.heap.size w w') ∨
      ((∀ x ∈ O, (textA s.R (dgt x)).2 = 0) ∧ ∃ (s' : Ds) (x : Int) (A : Option Addr) (c : Nat) (L : List Enq), e = .returned (.tuple #[.slice A L.length c, .int .i64 x]) ∧ L.map Enq.pl = O.map entX ∧ LiOwn w' w.heap.size A L.length c L ∧ DAt w' B g room (M + 60) s' ∧ Fr B w w' ∧ Hs O s' ∧
      ((x = 8 ∧ s'.dn = true ∧ 0 ≤ s.fall) ∨ (x = 0 ∧ s'.dn = false ∧ s'.cs = [] ∧ Exact O s'.F ∧ (s.fall < 0 → s'.fall = s.fall))))) := by
  have hBw : B ≤ w.heap.size := by have := h.lt; omega
  have hol := hO.len
  have HD := hide h
  have HLN := hide hlen
  have HHS := hide hs
  have HOO := hide hO
  obtain ⟨zc, hzc⟩ : ∃ z, z = ZC := ⟨_, rfl⟩
  have hzero : ∀ w, (zeroValue 41).run Try.prog w = .ok (.agg zc) w := fun w => by rw [hzc]; exact zero_dg w
  have HZS : Hid (zc.size = 32) := hide (by rw [hzc]; rfl)
  clear hzc
  obtain ⟨qb, hqb⟩ : ∃ q, q = w.heap.size := ⟨_, rfl⟩
  obtain ⟨wA, hwA⟩ : ∃ wE, wE = w.alloc (.cells #[.pointer (some ⟨g, 0, none⟩)] 34) := ⟨_, rfl⟩
  have HBA : Hid (Below w.heap.size w wA) := hide (by rw [hwA]; exact (Below.refl _ w).alloc (Nat.le_refl _) _)
  have HQA : Hid (Blk wA qb 34 #[.pointer (some ⟨g, 0, none⟩)]) := hide (by rw [hwA, hqb]; exact Blk.new _ _ _)
  have HLD := hide (load_ds O hO B g room M s wA (h.below HBA.out) (by omega) hu hl)
  have q0 : wA.cell? ⟨qb, 0, none⟩ = some (.pointer (some ⟨g, 0, none⟩)) := HQA.out.cell 0
  clear h hlen hs hO hl
  go_enter Try.func10, Try.ntmps10
  go_upto_region 1 with fail
  rw [← hwA, ← hqb]
  clear hwA hqb
  go_upto_region 4 with (go_at_call 14; refine HLD.out.mono ?_; rintro e w1 ⟨A, c, L, rfl, hpl, ho, hb⟩; have HPL := hide hpl; have HLI := hide ho; have HB1 := hide (HBA.out.trans (hb.mono HBA.out.size)); have HQ1 := hide (HQA.out.below hb HQA.out.lt); clear hpl ho hb)
  clear HLD HQA q0
  have hll := len_of HPL.out
  have HLB := hide (blobs_of HPL.out)
  have HWA : Hid (w.heap.size ≤ wA.heap.size) := hide HBA.out.size
  obtain ⟨n, hn⟩ : ∃ n, n = L.length := ⟨_, rfl⟩
  have HNE : Hid (L.length = n ∧ n = O.length) := hide ⟨hn.symm, by omega⟩
  rw [← hn] at HLI ⊢
  have hn6 : n ≤ 6 := by omega
  clear hn hll
  have HBL := hide (blobs_any A n c L w1 (HLI.out.li (by omega)) (by omega))
  rw [HLB.out] at HBL
  go_wp2_with fail
  refine HBL.out.mono ?_
  rintro e w2 ⟨A2, c2, rfl, ho2, hb2⟩
  have HO2 := hide ho2
  have HB2 := hide (HB1.out.trans (hb2.mono HB1.out.size))
  have HQ2 := hide (HQ1.out.below hb2 HQ1.out.lt)
  have HLI2 := hide (HLI.out.onb hb2)
  clear ho2 hb2 HBL HLI HQ1
  have HOL : Hid ((O.map dgt).length = n) := hide (by rw [List.length_map]; exact HNE.out.2.symm)
  go_wp2_with fail
  go_loopw [21] (fun i wr => ∃ k : Nat, k ≤ n ∧ i = .int .i64 k ∧ Hid (∀ j (hj : j < O.length), j < k → (textA s.R (dgt O[j])).2 = 0) ∧ Hid (Below w2.heap.size w2 wr)) (fun i _ => n - (intOf i).toNat)
  case atStart => exact ⟨0, Nat.zero_le _, rfl, hide (fun j _ hj => absurd hj (Nat.not_lt_zero _)), hide (Below.refl _ _)⟩
  case round =>
    obtain ⟨k, hk, rfl, HAL, HBR⟩ := hrel
    have HBW : Hid (Below w.heap.size w wr) := hide (HB2.out.trans (HBR.out.mono HB2.out.size))
    have HQR := hide (HQ2.out.below HBR.out HQ2.out.lt)
    have q1 : wr.cell? ⟨qb, 0, none⟩ = some (.pointer (some ⟨g, 0, none⟩)) := HQR.out.cell 0
    by_cases hlt : k < n
    case neg =>
      obtain rfl : k = n := by omega
      have HALL : Hid (∀ x ∈ O, (textA s.R (dgt x)).2 = 0) := hide (fun x hx => by
        obtain ⟨j, hj, rfl⟩ := List.mem_iff_getElem.1 hx
        exact HAL.out j hj (by have := HNE.out.2; omega))
      have HCL := hide (clean_ds O HOO.out B g room M s wr (HD.out.below HBW.out) hM hu (HHS.out HALL.out) wA.heap.size A c L HPL.out (by rw [HNE.out.1]; exact HLI2.out.onb HBR.out))
      rw [HNE.out.1] at HCL
      go_upto_region 11 with fail
      go_wp2_with fail
      refine HCL.out.mono ?_
      rintro e w3 ⟨s', x, rfl, hd3, hf3, hh3, hx3⟩
      have HF3 : Hid (Fr B w w3) := hide ((Fr.below HBW.out hBw).trans hf3)
      have HLI3 : Hid (LiOwn w3 w.heap.size A k c L) := hide (((HLI2.out.onb HBR.out).fr hf3).base HWA.out)
      have HD3 := hide (And.intro hd3 (And.intro hh3 hx3))
      clear hd3 hf3 hh3 hx3 HCL
      go_wp2_with fail
      go_ret2
      exact .inr ⟨HALL.out, s', x, A, c, L, by rw [HNE.out.1] <;> rfl, HPL.out, by rw [HNE.out.1]; exact HLI3.out, HD3.out.1, HF3.out, HD3.out.2⟩
    case pos =>
      have hlk : k < O.length := by have := HNE.out.2; omega
      have hlk2 : k < (O.map dgt).length := by rw [HOL.out]; exact hlt
      have HOR : Hid (wr.ownsRow w1.heap.size 41 32 (.slice A2 n c2) n ((O.map dgt).flatMap dgC)) := hide (own_keep (F := fun _ => False) HO2.out (Keep.of_below HBR.out (fun k h1 h2 => by omega)) (fun _ _ h => h))
      obtain ⟨b, o, rfl, _, hbl, hcs⟩ := Rd.rec_ (f := dgC) (size := 32) dgC_len (Rd.of_ownB HOR.out) HOL.out k hlt
      rw [List.getElem_map] at hcs
      have hmem := List.getElem_mem hlk
      have HTX0 := hide (text_ds B g room M s wr (HD.out.below HBW.out) (by omega) hu (dgt O[k]) (dgt_len _) (HLN.out _ hmem))
      obtain ⟨er, her⟩ : ∃ e, e = (textA s.R (dgt O[k])).2 := ⟨_, rfl⟩
      have HER : Hid (∀ _ : Unit, (textA s.R (dgt O[k])).2 = er) := hide (fun _ => her.symm)
      obtain ⟨dz, hdz⟩ : ∃ z, z = darr (dgt O[k]) := ⟨_, rfl⟩
      have HDZ := hide (dg_size hdz (dgt_len _))
      have HRG : Hid (wr.rangeAt b (o + k * 32) dz.toList) := hide (fun i v hv => hcs i v (by rw [← dgC_is (dgt_len _), ← hdz]; exact hv))
      have HTX : Hid (∀ W, Below wr.heap.size wr W → ∃ tt, Calls Try.prog 29 #[.agg #[.pointer (some ⟨g, 0, none⟩)], .agg dz] W (fun e w' => e = .returned (.tuple #[S tt, .int .i64 er]) ∧ Below W.heap.size W w')) := hide (fun W hb => ⟨(textA s.R (dgt O[k])).1, by
        rw [hdz, her]
        exact text_ds B g room M s W ((HD.out.below HBW.out).below hb) (by omega) hu (dgt O[k]) (dgt_len _) (HLN.out _ hmem)⟩)
      clear hdz hcs her HTX0 hmem
      obtain ⟨wE, hwE⟩ : ∃ x, x = (wr.alloc (.cells zc 41)).setCells wr.heap.size 0 dz.toList := ⟨_, rfl⟩
      have HBX := hide (box_any wr 41 zc dz (by rw [HDZ.out.1, HZS.out]))
      rw [← hwE] at HBX
      have HZT : Hid ((wr.alloc (.cells zc 41)).there wr.heap.size 0 dz.size) := hide ((Blk.new wr 41 zc).there_ (by rw [HDZ.out.1, HZS.out]))
      obtain ⟨tt, htx⟩ := HTX.out wE HBX.out.2
      have HTT := hide htx
      clear htx HTX q1
      go_upto_region 7 with (first
        | (refine wpList_load_mid rfl 41 (.tmp 23) rfl b (o + k * 32) rfl dz.toList _ HRG.out Try.underlying41 rfl (by rw [Array.length_toList, HDZ.out.1]; exact dig_info) ?_; rw [Array.toArray_toList])
        | (refine wpList_store_mid rfl 41 (.tmp 7) (.tmp 24) rfl wr.heap.size 0 dz rfl rfl HZT.out (by rw [HDZ.out.1]; exact dig_info) HDZ.out.2 ?_))
      simp only [show ∀ (x : Act), x.put none undef = x from fun _ => rfl]
      rw [← hwE]
      have HQ : Hid (Blk wE wr.heap.size 41 dz) := hide HBX.out.1
      have HBE : Hid (Below w2.heap.size w2 wE) := hide (HBR.out.trans (HBX.out.2.mono HBR.out.size))
      have q1 : wE.cell? ⟨qb, 0, none⟩ = some (.pointer (some ⟨g, 0, none⟩)) := (HQR.out.below HBX.out.2 HQR.out.lt).cell 0
      obtain ⟨q, hq⟩ : ∃ q, q = wr.heap.size := ⟨_, rfl⟩
      rw [← hq] at HQ ⊢
      clear hwE hq HBX HZT HRG HQR
      by_cases he : er = 0
      case pos =>
        subst he
        have HAN : Hid (∀ j (hj : j < O.length), j < k + 1 → (textA s.R (dgt O[j])).2 = 0) := hide (fun j hj hjk => by
          by_cases e : j = k
          · subst e; exact HER.out ()
          · exact HAL.out j hj (by omega))
        go_wp2_with (first
          | (refine wpList_load_mid rfl 41 (.tmp 7) rfl q 0 rfl dz.toList _ HQ.out.range Try.underlying41 rfl (by rw [Array.length_toList, HDZ.out.1]; exact dig_info) ?_; rw [Array.toArray_toList])
          | (go_at_call 29; refine HTT.out.mono ?_; rintro e w4 ⟨rfl, hb4⟩; have HB4 := hide (HBE.out.trans (hb4.mono HBE.out.size)); clear hb4))
        go_roundw
        · exact ⟨k + 1, by omega, by go_num, HAN, HB4⟩
        · simp [intOf]; omega
      case neg =>
        have hne : (er != 0) = true := by simpa using he
        have HBAD : Hid (∃ x ∈ O, (textA s.R (dgt x)).2 ≠ 0) := hide ⟨O[k], List.getElem_mem hlk, by rw [HER.out ()]; exact he⟩
        go_wp2_with (first
          | (refine wpList_load_mid rfl 41 (.tmp 7) rfl q 0 rfl dz.toList _ HQ.out.range Try.underlying41 rfl (by rw [Array.length_toList, HDZ.out.1]; exact dig_info) ?_; rw [Array.toArray_toList])
          | (go_at_call 29; refine HTT.out.mono ?_; rintro e w4 ⟨rfl, hb4⟩; have HB4 := hide (HB2.out.trans ((HBE.out.trans (hb4.mono HBE.out.size)).mono HB2.out.size)); clear hb4))
        go_ret2
        exact .inl ⟨HBAD.out, rfl, HB4.out⟩
theorem text_good {O : List (Nat × Nat)} {F : Fl} (h : Good O F) {x : Nat × Nat} (hx : x ∈ O) : textA F (dgt x) = (txt x, 0) := by
  have h1 := h.blob x hx
  unfold textA
  rw [show F (bnm (dgt x)) = some (txt x) from h1]
  show (if sumM (txt x) = dgt x then (txt x, (0 : Int)) else ([], 40)) = _
  rw [if_pos (show sumM (txt x) = dgt x from by unfold dgt; rfl)]
/-- Recovery where all files are there. -/
theorem recov_ds (O : List (Nat × Nat)) (hO : OkX O) (B g room M : Nat) (s : Ds) (w : World) (h : DAt w B g room M s) (hM : M ≤ 78000) (hu : s.dn = false) (hs : Hs O s) :
    Calls Try.prog 10 #[.agg #[.pointer (some ⟨g, 0, none⟩)]] w (fun e w' => ∃ (s' : Ds) (x : Int) (A : Option Addr) (c : Nat) (L : List Enq), e = .returned (.tuple #[.slice A L.length c, .int .i64 x]) ∧ L.map Enq.pl = O.map entX ∧ LiOwn w' w.heap.size A L.length c L ∧ DAt w' B g room (M + 60) s' ∧ Fr B w w' ∧ Hs O s' ∧
      ((x = 8 ∧ s'.dn = true ∧ 0 ≤ s.fall) ∨ (x = 0 ∧ s'.dn = false ∧ s'.cs = [] ∧ Exact O s'.F ∧ (s.fall < 0 → s'.fall = s.fall)))) := by
  have hg := hs.R hO
  refine (recov_gen O hO B g room M s w h hM hu hg.list (fun x hx t ht => by
    have h1 := hg.blob x hx
    rw [show nmX x = bnm (dgt x) from rfl, ht] at h1
    injection h1 with h1
    rw [h1]
    simp [txt]) (fun _ => hs)).mono ?_
  rintro e w' (⟨⟨x, hx, hne⟩, _⟩ | ⟨_, h2⟩)
  · rw [text_good hg hx] at hne
    exact absurd rfl hne
  · exact h2
end Go.Proofs.Ytclgiapmbmbknaa
/- Repo.keep, walked; no statement of the seat is proved here. -/
namespace Go.Proofs.Ytclgiapmbmbknaa
open Go.RowKit Go.Maps
set_option linter.unusedVariables false
set_option linter.unusedSimpArgs false

theorem tick_R {s : Ds} {c : Ch} : (s.tick (s.cs ++ [c])).R = chDo s.R c := by
  show (s.cs ++ [c]).foldl chDo s.F = _
  rw [List.foldl_append]
  rfl
/-- The new list's files are there, and it lies beside the old one. -/
structure Ready (O P : List (Nat × Nat)) (F : Fl) : Prop where
  good : Good O F
  next : F nNext = some (encX P)
  blob : ∀ x ∈ P, F (nmX x) = some (txt x)
set_option maxRecDepth 100000 in
set_option maxHeartbeats 4000000 in
theorem keepr_ds (O P : List (Nat × Nat)) (hO : OkX O) (hP : OkX P) (B g room M : Nat) (s : Ds) (w : World) (h : DAt w B g room M s) (hM : M ≤ 78000) (hr : room ≤ 4194304) (hu : s.dn = false) (hs : Hs O s)
    (B0 : Nat) (A : Option Addr) (c : Nat) (L : List Enq) (hL : L.map Enq.pl = P.map entX) (hli : LiOwn w B0 A L.length c L) (B1 : Nat) (A1 : Option Addr) (n1 c1 : Nat) (hf : w.ownsRow B1 9 1 (.slice A1 n1 c1) n1 ((P.map txt).map S)) (hn1 : n1 = P.length) :
    Calls Try.prog 24 #[.agg #[.pointer (some ⟨g, 0, none⟩)], .slice A L.length c, .slice A1 n1 c1] w (fun e w' => ∃ (s' : Ds) (x : Int), e = .returned (.int .i64 x) ∧ DAt w' B g room (M + 20) s' ∧ Fr B w w' ∧
      ((x = 8 ∧ s'.dn = true ∧ 0 ≤ s.fall ∧ Hs O s') ∨ (x = 7 ∧ s'.dn = false ∧ Hs O s' ∧ room < 17000 ∧ (s.fall < 0 → s'.fall = s.fall)) ∨ (x = 0 ∧ s'.dn = false ∧ s'.cs = [] ∧ Ready O P s'.F ∧ (s.fall < 0 → s'.fall = s.fall)))) := by
  have hBw : B ≤ w.heap.size := by have := h.lt; omega
  have hpl := hP.len
  have hll := len_of hL
  have HD := hide h
  have HHS := hide hs
  have HOO := hide hO
  have HPP := hide hP
  have HPL := hide hL
  have HLI := hide hli
  have HFO := hide hf
  obtain ⟨n, hn⟩ : ∃ n, n = L.length := ⟨_, rfl⟩
  have HNE : Hid (L.length = n ∧ n ≤ 6) := hide ⟨hn.symm, by omega⟩
  rw [← hn] at HLI ⊢
  have hn6 : n1 ≤ 6 := by omega
  have HN1 : Hid (P.length = n1) := hide hn1.symm
  clear hn hL hli hs hO hP hll h hf hn1 hpl
  obtain ⟨zc, hzc⟩ : ∃ z, z = ZC := ⟨_, rfl⟩
  have hzero : ∀ w, (zeroValue 41).run Try.prog w = .ok (.agg zc) w := fun w => by rw [hzc]; exact zero_dg w
  have HZS : Hid (zc.size = 32) := hide (by rw [hzc]; rfl)
  clear hzc
  obtain ⟨qb, hqb⟩ : ∃ q, q = w.heap.size := ⟨_, rfl⟩
  obtain ⟨wA, hwA⟩ : ∃ wE, wE = w.alloc (.cells #[.pointer (some ⟨g, 0, none⟩)] 34) := ⟨_, rfl⟩
  have HBA : Hid (Below w.heap.size w wA) := hide (by rw [hwA]; exact (Below.refl _ w).alloc (Nat.le_refl _) _)
  have HQA : Hid (Blk wA qb 34 #[.pointer (some ⟨g, 0, none⟩)]) := hide (by rw [hwA, hqb]; exact Blk.new _ _ _)
  have HFA : Hid (Fr B w wA) := hide (Fr.below HBA.out hBw)
  have hBA : B ≤ wA.heap.size := Nat.le_trans hBw HBA.out.size
  go_enter Try.func24, Try.ntmps24
  go_upto_region 1 with fail
  rw [← hwA, ← hqb]
  clear hwA hqb
  go_wp2_with fail
  go_loopw [17] (fun i wr => ∃ (k : Nat) (sk : Ds), k ≤ n1 ∧ i = .int .i64 k ∧ sk.dn = false ∧ Hid (DAt wr B g room (M + k) sk) ∧ Hid (Fr B wA wr) ∧ Hid (Hs O sk ∧ (s.fall < 0 → sk.fall = s.fall) ∧ ∀ j (hj : j < P.length), j < k → sk.R (nmX P[j]) = some (txt P[j]))) (fun i _ => n1 - (intOf i).toNat)
  case atStart => exact ⟨0, s, Nat.zero_le _, rfl, hu, hide (HD.out.below HBA.out), hide (Fr.below (Below.refl _ _) hBA), hide ⟨HHS.out, fun _ => rfl, fun j _ hj => absurd hj (Nat.not_lt_zero _)⟩⟩
  case round =>
    obtain ⟨k, sk, hk, rfl, hup, HDK, HFR, HIK⟩ := hrel
    have HFW : Hid (Fr B w wr) := hide (HFA.out.trans HFR.out)
    have hBr : B ≤ wr.heap.size := Nat.le_trans hBw HFW.out.size
    have HQR := hide (HFR.out.far qb _ _ (by decide) (by decide) HQA.out)
    have q0 : wr.cell? ⟨qb, 0, none⟩ = some (.pointer (some ⟨g, 0, none⟩)) := HQR.out.cell 0
    obtain ⟨tot, hT, htot⟩ := (HIK.out.1.R HOO.out).tot
    have HTO := hide hT
    clear hT
    by_cases hlt : k < n1
    case neg =>
      obtain rfl : k = n1 := by omega
      have HBL : Hid (∀ x ∈ P, sk.R (nmX x) = some (txt x)) := hide (fun x hx => by
        obtain ⟨j, hj, rfl⟩ := List.mem_iff_getElem.1 hx
        exact HIK.out.2.2 j hj (by have := HN1.out; omega))
      have HSY := hide (sync_ds B g room (M + k) sk wr HDK.out (by omega))
      go_upto_region 9 with (go_at_call 27; refine HSY.out.mono ?_; rintro e w1 ⟨s1, x1, rfl, hd1, hf1, hx1⟩; have HD1 := hide hd1; have HF1 := hide (HFW.out.trans hf1); have HX1 := hide hx1; have HQ1 := hide (hf1.far qb _ _ (by decide) (by decide) HQR.out); clear hd1 hf1 hx1)
      clear HSY HQR q0 HTO
      rcases HX1.out with ⟨rfl, h1, h2⟩ | ⟨_, rfl, h1⟩
      · have HF : Hid (s1.dn = true ∧ 0 ≤ s.fall ∧ Hs O s1) := hide (by
          rw [h1]
          refine ⟨rfl, ?_, HIK.out.1.dead⟩
          have h3 := stop_fall h2 hup
          by_cases hf : s.fall < 0
          · have := HIK.out.2.1 hf; omega
          · omega)
        clear h1 h2
        go_wp2_with fail
        go_ret
        exact ⟨s1, 8, rfl, HD1.out.mono (by omega), HF1.out, .inl ⟨rfl, HF.out⟩⟩
      have HS1 : Hid (Hs O s1 ∧ s1.dn = false ∧ s1.R = sk.R ∧ (s.fall < 0 → s1.fall = s.fall)) := hide (by
        rw [h1]
        exact ⟨HIK.out.1.sync HOO.out, rfl, rfl, fun hf => by have h3 := HIK.out.2.1 hf; show (if 0 < sk.fall then sk.fall - 1 else sk.fall) = s.fall; rw [if_neg (by omega)]; exact h3⟩)
      clear h1 HX1
      have HG1 : Hid (Good O s1.R) := hide (HS1.out.1.R HOO.out)
      obtain ⟨tot1, hT1, htot1⟩ := HG1.out.tot
      have HEN := hide (enc_ok A n c L w1 ((HLI.out.fr HF1.out).li (by have := HNE.out.2; omega)) (by rw [HPL.out]; exact right_X HPP.out) (fun e he => by
        have h2 : e.pl ∈ P.map entX := by rw [← HPL.out]; exact List.mem_map.2 ⟨e, he, rfl⟩
        obtain ⟨x, _, hx⟩ := List.mem_map.1 h2
        rw [← hx]
        exact ok_X x) (by rw [HPL.out]; have := liX_len HPP.out; omega))
      obtain ⟨E, hE⟩ : ∃ E, E = encX P := ⟨_, rfl⟩
      have HE : Hid (E = encX P) := hide hE
      have hel : E.length ≤ 600 := by rw [hE]; exact encX_len HPP.out
      rw [HPL.out, show encM (P.map entX) = encX P from rfl, ← hE] at HEN
      have q1 : w1.cell? ⟨qb, 0, none⟩ = some (.pointer (some ⟨g, 0, none⟩)) := HQ1.out.cell 0
      have HTO := hide hT1
      clear hT1 hE
      go_upto_region 14 with (go_at_call 21; refine HEN.out.mono ?_; rintro e w2 ⟨rfl, hb2⟩; have HB2 := hide hb2; have HQ2 := hide (HQ1.out.below hb2 HQ1.out.lt); clear hb2)
      have q2 : w2.cell? ⟨qb, 0, none⟩ = some (.pointer (some ⟨g, 0, none⟩)) := HQ2.out.cell 0
      have HF2 : Hid (Fr B w w2) := hide (HF1.out.trans (Fr.below HB2.out (Nat.le_trans hBw HF1.out.size)))
      have HWR := hide (write_ds B g room (M + k + 1) s1 w2 (HD1.out.below HB2.out) nNext E (by omega) hr tot1 HTO.out (by omega) (by decide) (by decide) (by omega))
      rw [show S nNext = S [110, 101, 120, 116] from rfl] at HWR
      clear HEN HQ1 q1
      go_upto_region 15 with (go_at_call 12; refine HWR.out.mono ?_; rintro e w3 ⟨s3, x3, rfl, hd3, hf3, hx3⟩; have HD3 := hide hd3; have HF3 := hide (HF2.out.trans hf3); have HX3 := hide hx3; have HQ3 := hide (hf3.far qb _ _ (by decide) (by decide) HQ2.out); clear hd3 hf3 hx3)
      clear HWR HQ2 q2 HTO
      rcases HX3.out with ⟨rfl, h1, h2⟩ | ⟨_, ⟨rfl, h1⟩ | ⟨rfl, h1, h2⟩⟩
      · have HF : Hid (s3.dn = true ∧ 0 ≤ s.fall ∧ Hs O s3) := hide (by
          rw [h1]
          refine ⟨rfl, ?_, HS1.out.1.dead⟩
          have h3 := stop_fall h2 HS1.out.2.1
          by_cases hf : s.fall < 0
          · have := HS1.out.2.2.2 hf; omega
          · omega)
        clear h1 h2
        go_wp2_with fail
        go_ret
        exact ⟨s3, 8, rfl, HD3.out.mono (by omega), HF3.out, .inl ⟨rfl, HF.out⟩⟩
      · have HS3 : Hid (Hs O s3 ∧ s3.dn = false ∧ (s.fall < 0 → s3.fall = s.fall) ∧ Ready O P s3.R) := hide (by
          have hh : Hs O (s1.tick (s1.cs ++ [⟨0, nNext, E⟩])) := HS1.out.1.app (c := ⟨0, nNext, E⟩) (.inl ⟨rfl, .inr ⟨rfl, hel⟩⟩)
          rw [h1]
          refine ⟨hh, rfl, fun hf => ?_, hh.R HOO.out, ?_, fun x hx => ?_⟩
          · have h3 := HS1.out.2.2.2 hf
            show (if 0 < s1.fall then s1.fall - 1 else s1.fall) = s.fall
            rw [if_neg (by omega)]
            exact h3
          · rw [tick_R, ← HE.out]
            simp [chDo, Fl.set]
          · rw [tick_R, HS1.out.2.2.1]
            have h4 : nmX x ≠ nNext := bnm_ne_next _
            simp only [chDo, if_pos, Fl.set, if_neg h4]
            exact HBL.out x hx)
        clear h1 HX3
        have q3 : w3.cell? ⟨qb, 0, none⟩ = some (.pointer (some ⟨g, 0, none⟩)) := HQ3.out.cell 0
        have HSY := hide (sync_ds B g room (M + k + 1 + 1) s3 w3 HD3.out (by omega))
        go_wp2_with (go_at_call 27; refine HSY.out.mono ?_; rintro e w4 ⟨s4, x4, rfl, hd4, hf4, hx4⟩; have HD4 := hide hd4; have HF4 := hide (HF3.out.trans hf4); have HX4 := hide hx4; clear hd4 hf4 hx4)
        go_ret
        refine ⟨s4, x4, rfl, HD4.out.mono (by omega), HF4.out, ?_⟩
        rcases HX4.out with ⟨h3, h4, h5⟩ | ⟨h3, h4, h5⟩
        · rw [h4]
          refine .inl ⟨h3, rfl, ?_, HS3.out.1.dead⟩
          have h6 := stop_fall h5 HS3.out.2.1
          by_cases hf : s.fall < 0
          · have := HS3.out.2.2.1 hf; omega
          · omega
        · rw [h5]
          exact .inr (.inr ⟨h4, rfl, rfl, HS3.out.2.2.2, fun hf => by have h6 := HS3.out.2.2.1 hf; show (if 0 < s3.fall then s3.fall - 1 else s3.fall) = s.fall; rw [if_neg (by omega)]; exact h6⟩)
      · have HF : Hid (s3.dn = false ∧ Hs O s3 ∧ room < 17000 ∧ (s.fall < 0 → s3.fall = s.fall)) := hide (by
          rw [h1]
          exact ⟨rfl, HS1.out.1.tick, by omega, fun hf => by have h6 := HS1.out.2.2.2 hf; show (if 0 < s1.fall then s1.fall - 1 else s1.fall) = s.fall; rw [if_neg (by omega)]; exact h6⟩)
        clear h1 h2
        go_wp2_with fail
        go_ret
        exact ⟨s3, 7, rfl, HD3.out.mono (by omega), HF3.out, .inr (.inl ⟨rfl, HF.out⟩)⟩
    case pos =>
      have hlk : k < P.length := by rw [HN1.out]; exact hlt
      have hix := HPP.out.is _ (List.getElem_mem hlk)
      have HOR := hide (HFW.out.own HFO.out (by decide) (by decide))
      obtain ⟨y1, p1, rfl, _, _, hd1⟩ := Rd.rec_ (f := fun s => [S s]) (l := P.map txt) (size := 1) (fun _ => rfl) (by rw [← List.map_eq_flatMap]; exact Rd.of_ownB HOR.out) (by rw [List.length_map]; exact HN1.out) k hlt
      rw [List.getElem_map] at hd1
      obtain ⟨t, ht⟩ : ∃ x, x = txt P[k] := ⟨_, rfl⟩
      have htl : t.length ≤ 1000 := by rw [ht]; simp [txt]
      have qr : wr.cell? ⟨y1, p1 + k, none⟩ = some (S t) := by have := hd1 0 (S t) (by rw [ht]; rfl); simpa using this
      have HTE : Hid (∀ _ : Unit, t = txt P[k]) := hide (fun _ => ht)
      have HKE := hide (keep_ds B g room (M + k) sk wr HDK.out (by omega) hr hup t htl tot HTO.out (by omega))
      have HNMX : Hid (bnm (sumM t) = nmX P[k]) := hide (by rw [ht]; rfl)
      clear hd1 ht
      go_upto_region 5 with (first
        | (go_at_call 51; refine HKE.out.mono ?_; rintro e w1 ⟨s1, x1, dd, hdd, rfl, hd1, hf1, hx1⟩; obtain ⟨dz, hdz⟩ : ∃ z, z = darr dd := ⟨_, rfl⟩; have HDZ := hide (dg_size hdz hdd); rw [← hdz]; clear hdz; have HD1 := hide hd1; have HF1 := hide hf1; have HX1 := hide hx1; clear hd1 hf1 hx1; obtain ⟨wE, hwE⟩ : ∃ x, x = (w1.alloc (.cells zc 41)).setCells w1.heap.size 0 dz.toList := ⟨_, rfl⟩; have HBX := hide (box_any w1 41 zc dz (by rw [HDZ.out.1, HZS.out])); rw [← hwE] at HBX; have HZT : Hid ((w1.alloc (.cells zc 41)).there w1.heap.size 0 dz.size) := hide ((Blk.new w1 41 zc).there_ (by rw [HDZ.out.1, HZS.out])))
        | (refine wpList_store_mid rfl 41 (.tmp 9) (.tmp 26) rfl w1.heap.size 0 dz rfl rfl HZT.out (by rw [HDZ.out.1]; exact dig_info) HDZ.out.2 ?_))
      rw [← hwE]
      have HDE : Hid (DAt wE B g room (M + k + 1) s1) := hide (HD1.out.below HBX.out.2)
      have HFE : Hid (Fr B wA wE) := hide ((HFR.out.trans HF1.out).trans (Fr.below HBX.out.2 (Nat.le_trans hBr HF1.out.size)))
      have HFWE : Hid (Fr B w wE) := hide (HFA.out.trans HFE.out)
      clear hwE HBX HZT HKE HD1 qr q0
      have hxx : (x1 = 0 ∧ s1.dn = false) ∨ (x1 = 7 ∧ s1.dn = false) ∨ (x1 = 8 ∧ s1.dn = true) := by
        rcases HX1.out with ⟨_, h1, h2⟩ | ⟨h1, h2, _⟩ | ⟨_, ⟨h1, h2⟩ | ⟨h1, h2, _⟩⟩
        · exact .inl ⟨h1, by rw [h2]; exact hup⟩
        · exact .inr (.inr ⟨h1, by rw [h2]; rfl⟩)
        · exact .inl ⟨h1, by rw [h2]; rfl⟩
        · exact .inr (.inl ⟨h1, by rw [h2]; rfl⟩)
      have HHX : Hid (Hs O s1 ∧ (s.fall < 0 → s1.fall = s.fall) ∧ (x1 = 8 → 0 ≤ s.fall) ∧ (x1 = 7 → room < 17000) ∧ (x1 = 0 → ∀ j (hj : j < P.length), j < k + 1 → s1.R (nmX P[j]) = some (txt P[j]))) := hide (by
        have hfl : ∀ cs, s.fall < 0 → (sk.tick cs).fall = s.fall := fun cs hf => by have h6 := HIK.out.2.1 hf; rw [tick_fall (by omega)]; exact h6
        rcases HX1.out with ⟨h0, h1, h2⟩ | ⟨h1, h2, h3⟩ | ⟨_, ⟨h1, h2⟩ | ⟨h1, h2, h3⟩⟩
        · rw [h2]
          refine ⟨HIK.out.1, HIK.out.2.1, fun e => (by rw [h1] at e; cases e), fun e => (by rw [h1] at e; cases e), fun _ j hj hjk => ?_⟩
          by_cases e : j = k
          · subst e
            rw [← HNMX.out, h0, HTE.out ()]
          · exact HIK.out.2.2 j hj (by omega)
        · rw [h2]
          refine ⟨HIK.out.1.dead, HIK.out.2.1, fun _ => ?_, fun e => (by rw [h1] at e; cases e), fun e => (by rw [h1] at e; cases e)⟩
          have h4 := stop_fall h3 hup
          by_cases hf : s.fall < 0
          · have := HIK.out.2.1 hf; omega
          · omega
        · have hh : Harm O ⟨0, bnm (sumM t), t⟩ := .inl ⟨rfl, .inl ⟨P[k], hix, HNMX.out, HTE.out ()⟩⟩
          rw [h2]
          refine ⟨HIK.out.1.app hh, hfl _, fun e => (by rw [h1] at e; cases e), fun e => (by rw [h1] at e; cases e), fun _ j hj hjk => ?_⟩
          rw [tick_R, HNMX.out]
          simp only [chDo, if_pos, Fl.set]
          by_cases e : nmX P[j] = nmX P[k]
          · rw [if_pos e, HTE.out (), nmX_inj (HPP.out.is _ (List.getElem_mem hj)) hix e]
          · rw [if_neg e]
            exact HIK.out.2.2 j hj (by
              have : j ≠ k := fun e2 => e (by subst e2; rfl)
              omega)
        · rw [h2]
          exact ⟨HIK.out.1.tick, hfl _, fun e => (by rw [h1] at e; cases e), fun _ => by omega, fun e => (by rw [h1] at e; cases e)⟩)
      clear HX1
      rcases hxx with ⟨rfl, hu1⟩ | ⟨rfl, hu1⟩ | ⟨rfl, hu1⟩
      · have HIN : Hid (Hs O s1 ∧ (s.fall < 0 → s1.fall = s.fall) ∧ ∀ j (hj : j < P.length), j < k + 1 → s1.R (nmX P[j]) = some (txt P[j])) := hide ⟨HHX.out.1, HHX.out.2.1, HHX.out.2.2.2.2 rfl⟩
        clear HHX
        go_wp2_with fail
        go_roundw
        · exact ⟨k + 1, s1, by omega, by go_num, hu1, HDE, HFE, HIN⟩
        · simp [intOf]; omega
      · have HF : Hid (Hs O s1 ∧ room < 17000 ∧ (s.fall < 0 → s1.fall = s.fall)) := hide ⟨HHX.out.1, HHX.out.2.2.2.1 rfl, HHX.out.2.1⟩
        clear HHX
        go_wp2_with fail
        go_ret
        exact ⟨s1, 7, rfl, HDE.out.mono (by omega), HFWE.out, .inr (.inl ⟨rfl, hu1, HF.out⟩)⟩
      · have HF : Hid (0 ≤ s.fall ∧ Hs O s1) := hide ⟨HHX.out.2.2.1 rfl, HHX.out.1⟩
        clear HHX
        go_wp2_with fail
        go_ret
        exact ⟨s1, 8, rfl, HDE.out.mono (by omega), HFWE.out, .inl ⟨rfl, hu1, HF.out⟩⟩
end Go.Proofs.Ytclgiapmbmbknaa
/- Repo.Commit, walked; no statement of the seat is proved here. -/
namespace Go.Proofs.Ytclgiapmbmbknaa
open Go.RowKit Go.Maps
set_option linter.unusedVariables false
set_option linter.unusedSimpArgs false

/-- What there is behind a loss of power, whichever changes are kept: the old list's files, or the new one's. -/
def Either (O P : List (Nat × Nat)) (s : Ds) : Prop := ∀ ks : List Bool, Good O ((kept ks s.cs).foldl chDo s.F) ∨ Good P ((kept ks s.cs).foldl chDo s.F)
theorem Hs.either {O P : List (Nat × Nat)} (hO : OkX O) {s : Ds} (h : Hs O s) : Either O P s := fun ks => .inl (h.kept hO ks)
theorem Hs.either' {O P : List (Nat × Nat)} (hP : OkX P) {s : Ds} (h : Hs P s) : Either O P s := fun ks => .inr (h.kept hP ks)
theorem Ready.ren {O P : List (Nat × Nat)} {F : Fl} (h : Ready O P F) (hP : OkX P) : Good P (chDo F ⟨1, nNext, nList⟩) ∧ chDo F ⟨1, nNext, nList⟩ nNext = none := by
  have e : chDo F ⟨1, nNext, nList⟩ = (F.del nNext).set nList (encX P) := by
    unfold chDo
    simp only [h.next]
    rfl
  rw [e]
  have hln : nNext ≠ nList := next_ne_list
  refine ⟨⟨.inl (by simp [Fl.set]), fun x hx => ?_, fun n v hv => ?_⟩, by simp [Fl.set, Fl.del, hln]⟩
  · have h1 : nmX x ≠ nList := bnm_ne_list _
    have h2 : nmX x ≠ nNext := bnm_ne_next _
    simp only [Fl.set, Fl.del, if_neg h1, if_neg h2]
    exact h.blob x hx
  · unfold Fl.set Fl.del at hv
    by_cases h1 : n = nList
    · rw [if_pos h1] at hv
      injection hv with hv
      subst hv
      exact ⟨.inl h1, encX_len hP⟩
    · rw [if_neg h1] at hv
      by_cases h2 : n = nNext
      · rw [if_pos h2] at hv; cases hv
      · rw [if_neg h2] at hv
        exact h.good.only n v hv
theorem kept_one (ks : List Bool) (c : Ch) : kept ks [c] = [] ∨ kept ks [c] = [c] := by
  unfold kept
  rw [List.zipIdx_cons, List.zipIdx_nil, List.filter_cons]
  split
  · exact .inr rfl
  · exact .inl rfl
set_option maxRecDepth 100000 in
set_option maxHeartbeats 4000000 in
theorem commit_ds (O P : List (Nat × Nat)) (hO : OkX O) (hP : OkX P) (B g room M : Nat) (s : Ds) (w : World) (h : DAt w B g room M s) (hM : M ≤ 77000) (hr : room ≤ 4194304) (hu : s.dn = false) (hs : Hs O s)
    (B0 : Nat) (A : Option Addr) (c : Nat) (L : List Enq) (hL : L.map Enq.pl = P.map entX) (hli : LiOwn w B0 A L.length c L) (B1 : Nat) (A1 : Option Addr) (n1 c1 : Nat) (hf : w.ownsRow B1 9 1 (.slice A1 n1 c1) n1 ((P.map txt).map S)) (hn1 : n1 = P.length) :
    Calls Try.prog 9 #[.agg #[.pointer (some ⟨g, 0, none⟩)], .slice A L.length c, .slice A1 n1 c1] w (fun e w' => ∃ (s' : Ds) (x : Int), e = .returned (.int .i64 x) ∧ DAt w' B g room (M + 100) s' ∧ Fr B w w' ∧
      ((x = 8 ∧ s'.dn = true ∧ 0 ≤ s.fall ∧ Either O P s') ∨ (x = 7 ∧ s'.dn = false ∧ s'.cs = [] ∧ Exact O s'.F ∧ room < 17000 ∧ (s.fall < 0 → s'.fall = s.fall)) ∨ (x = 0 ∧ s'.dn = false ∧ s'.cs = [] ∧ Exact P s'.F ∧ (s.fall < 0 → s'.fall = s.fall)))) := by
  have hBw : B ≤ w.heap.size := by have := h.lt; omega
  have HD := hide h
  have HHS := hide hs
  have HOO := hide hO
  have HPP := hide hP
  have HPL := hide hL
  have HLI := hide hli
  have HFO := hide hf
  have HN1 := hide hn1
  have hll := len_of hL
  have hpl := hP.len
  have hnl : L.length ≤ 6 := by omega
  obtain ⟨n, hn⟩ : ∃ n, n = L.length := ⟨_, rfl⟩
  have HNE : Hid (L.length = n ∧ n ≤ 6) := hide ⟨hn.symm, by omega⟩
  rw [← hn] at HLI ⊢
  obtain ⟨qb, hqb⟩ : ∃ q, q = w.heap.size := ⟨_, rfl⟩
  obtain ⟨wA, hwA⟩ : ∃ wE, wE = w.alloc (.cells #[.pointer (some ⟨g, 0, none⟩)] 34) := ⟨_, rfl⟩
  have HBA : Hid (Below w.heap.size w wA) := hide (by rw [hwA]; exact (Below.refl _ w).alloc (Nat.le_refl _) _)
  have HQA : Hid (Blk wA qb 34 #[.pointer (some ⟨g, 0, none⟩)]) := hide (by rw [hwA, hqb]; exact Blk.new _ _ _)
  have HLD := hide (load_ds O hO B g room M s wA (h.below HBA.out) (by omega) hu (hs.R hO).list)
  have q0 : wA.cell? ⟨qb, 0, none⟩ = some (.pointer (some ⟨g, 0, none⟩)) := HQA.out.cell 0
  clear hn hL hli hs hO hP hll h hf hn1 hpl hnl
  go_enter Try.func9, Try.ntmps9
  go_upto_region 1 with fail
  rw [← hwA, ← hqb]
  clear hwA hqb
  go_upto_region 4 with (go_at_call 14; refine HLD.out.mono ?_; rintro e w1 ⟨A0, c0, L0, rfl, hpl, ho, hb⟩; have HPO := hide hpl; have HLO := hide ho; have HB1 := hide (HBA.out.trans (hb.mono HBA.out.size)); have HQ1 := hide (HQA.out.below hb HQA.out.lt); clear hpl ho hb)
  clear HLD HQA q0
  have HRT := hide (right_any A n c L w1 ((HLI.out.onb HB1.out).li (by have := HNE.out.2; omega)))
  rw [HPL.out, right_X HPP.out] at HRT
  go_upto_region 6 with (go_at_call 15; refine HRT.out.mono ?_; rintro e w2 ⟨rfl, hb2⟩; have HB2 := hide (HB1.out.trans (hb2.mono HB1.out.size)); have HQ2 := hide (HQ1.out.below hb2 HQ1.out.lt); have HLO2 := hide (HLO.out.onb hb2); clear hb2)
  clear HRT HQ1 HLO
  have HF2 : Hid (Fr B w w2) := hide (Fr.below HB2.out hBw)
  have q2 : w2.cell? ⟨qb, 0, none⟩ = some (.pointer (some ⟨g, 0, none⟩)) := HQ2.out.cell 0
  have HKR := hide (keepr_ds O P HOO.out HPP.out B g room M s w2 (HD.out.below HB2.out) (by omega) hr hu HHS.out B0 A c L HPL.out (by rw [HNE.out.1]; exact HLI.out.onb HB2.out) B1 A1 n1 c1 (HF2.out.own HFO.out (by decide) (by decide)) HN1.out)
  rw [HNE.out.1] at HKR
  go_upto_region 7 with (go_at_call 24; refine HKR.out.mono ?_; rintro e w3 ⟨s3, x3, rfl, hd3, hf3, hx3⟩; have HD3 := hide hd3; have HF3 := hide (HF2.out.trans hf3); have HX3 := hide hx3; have HQ3 := hide (hf3.far qb _ _ (by decide) (by decide) HQ2.out); have HLO3 := hide (HLO2.out.fr hf3); clear hd3 hf3 hx3)
  clear HKR HQ2 q2 HLO2
  have q3 : w3.cell? ⟨qb, 0, none⟩ = some (.pointer (some ⟨g, 0, none⟩)) := HQ3.out.cell 0
  rcases HX3.out with ⟨rfl, h1, h2, h3⟩ | ⟨rfl, h1, h2, h3, h4⟩ | ⟨rfl, h1, h2, h3, h4⟩
  · have HF : Hid (s3.dn = true ∧ 0 ≤ s.fall ∧ Either O P s3) := hide ⟨h1, h2, h3.either HOO.out⟩
    clear h1 h2 h3
    go_wp2_with fail
    go_ret
    exact ⟨s3, 8, rfl, HD3.out.mono (by omega), HF3.out, .inl ⟨rfl, HF.out⟩⟩
  · have HS3 : Hid (Hs O s3 ∧ room < 17000 ∧ (s.fall < 0 → s3.fall = s.fall)) := hide ⟨h2, h3, h4⟩
    have HCL := hide (clean_ds O HOO.out B g room (M + 20) s3 w3 HD3.out (by omega) h1 h2 wA.heap.size A0 c0 L0 HPO.out HLO3.out)
    clear h1 h2 h3 h4
    go_upto_region 10 with (go_at_call 25; refine HCL.out.mono ?_; rintro e w4 ⟨s4, x4, rfl, hd4, hf4, hh4, hx4⟩; have HD4 := hide hd4; have HF4 := hide (HF3.out.trans hf4); have HX4 := hide (And.intro hh4 hx4); clear hd4 hf4 hh4 hx4)
    obtain ⟨hh4, ⟨rfl, h5, h6⟩ | ⟨rfl, h5, h6, h7, h8⟩⟩ := HX4.out
    · have HF : Hid (s4.dn = true ∧ 0 ≤ s.fall ∧ Either O P s4) := hide ⟨h5, by by_cases hf : s.fall < 0; have := HS3.out.2.2 hf; omega; omega, hh4.either HOO.out⟩
      clear h5 h6 hh4
      go_wp2_with fail
      go_ret
      exact ⟨s4, 8, rfl, HD4.out.mono (by omega), HF4.out, .inl ⟨rfl, HF.out⟩⟩
    · have HF : Hid (s4.dn = false ∧ s4.cs = [] ∧ Exact O s4.F ∧ room < 17000 ∧ (s.fall < 0 → s4.fall = s.fall)) := hide ⟨h5, h6, h7, HS3.out.2.1, fun hf => by have h9 := HS3.out.2.2 hf; rw [h8 (by omega)]; exact h9⟩
      clear h5 h6 h7 h8 hh4
      go_wp2_with fail
      go_ret
      exact ⟨s4, 7, rfl, HD4.out.mono (by omega), HF4.out, .inr (.inl ⟨rfl, HF.out⟩)⟩
  · have hR3 : s3.R = s3.F := by
      unfold Ds.R
      rw [h2]
      rfl
    have HS3 : Hid (s3.dn = false ∧ s3.cs = [] ∧ Ready O P s3.F ∧ (s.fall < 0 → s3.fall = s.fall)) := hide ⟨h1, h2, h3, h4⟩
    have HRN := hide (rename_ds B g room (M + 20) s3 w3 HD3.out nNext nList (by omega) (by unfold short nNext; simp) (by decide) (by decide) (by rw [hR3, h3.next]; rfl))
    rw [show S nNext = S [110, 101, 120, 116] from rfl, show S nList = S [108, 105, 115, 116] from rfl] at HRN
    clear h1 h2 h3 h4 hR3
    go_upto_region 14 with (go_at_call 26; refine HRN.out.mono ?_; rintro e w4 ⟨s4, x4, rfl, hd4, hf4, hx4⟩; have HD4 := hide hd4; have HF4 := hide (HF3.out.trans hf4); have HX4 := hide hx4; have HQ4 := hide (hf4.far qb _ _ (by decide) (by decide) HQ3.out); clear hd4 hf4 hx4)
    clear HRN HQ3 q3
    rcases HX4.out with ⟨rfl, h1, h2⟩ | ⟨_, rfl, h1⟩
    · have HF : Hid (s4.dn = true ∧ 0 ≤ s.fall ∧ Either O P s4) := hide (by
        rw [h1]
        refine ⟨rfl, ?_, fun ks => .inl ?_⟩
        · have h3 := stop_fall h2 HS3.out.1
          by_cases hf : s.fall < 0
          · have := HS3.out.2.2.2 hf; omega
          · omega
        · show Good O ((kept ks s3.cs).foldl chDo s3.F)
          rw [HS3.out.2.1]
          exact HS3.out.2.2.1.good)
      clear h1 h2
      go_wp2_with fail
      go_ret
      exact ⟨s4, 8, rfl, HD4.out.mono (by omega), HF4.out, .inl ⟨rfl, HF.out⟩⟩
    have HS4 : Hid (s4.dn = false ∧ s4.cs = [⟨1, nNext, nList⟩] ∧ s4.F = s3.F ∧ (s.fall < 0 → s4.fall = s.fall)) := hide (by
      rw [h1]
      refine ⟨rfl, ?_, rfl, fun hf => ?_⟩
      · show s3.cs ++ [(⟨1, nNext, nList⟩ : Ch)] = _
        rw [HS3.out.2.1]
        rfl
      · have h3 := HS3.out.2.2.2 hf
        rw [tick_fall (by omega)]
        exact h3)
    have HR4 : Hid (s4.R = chDo s3.F ⟨1, nNext, nList⟩) := hide (by
      unfold Ds.R
      rw [HS4.out.2.1, HS4.out.2.2.1]
      rfl)
    have HGP := hide (HS3.out.2.2.1.ren HPP.out)
    have HEI : Hid (Either O P s4) := hide (fun ks => by
      rw [HS4.out.2.1, HS4.out.2.2.1]
      rcases kept_one ks ⟨1, nNext, nList⟩ with e | e
      · rw [e]; exact .inl HS3.out.2.2.1.good
      · rw [e]; exact .inr HGP.out.1)
    clear h1 HX4
    have q4 : w4.cell? ⟨qb, 0, none⟩ = some (.pointer (some ⟨g, 0, none⟩)) := HQ4.out.cell 0
    have HSY := hide (sync_ds B g room (M + 20 + 1) s4 w4 HD4.out (by omega))
    go_upto_region 17 with (go_at_call 27; refine HSY.out.mono ?_; rintro e w5 ⟨s5, x5, rfl, hd5, hf5, hx5⟩; have HD5 := hide hd5; have HF5 := hide (HF4.out.trans hf5); have HX5 := hide hx5; have HQ5 := hide (hf5.far qb _ _ (by decide) (by decide) HQ4.out); clear hd5 hf5 hx5)
    clear HSY HQ4 q4
    rcases HX5.out with ⟨rfl, h1, h2⟩ | ⟨_, rfl, h1⟩
    · have HF : Hid (s5.dn = true ∧ 0 ≤ s.fall ∧ Either O P s5) := hide (by
        rw [h1]
        refine ⟨rfl, ?_, HEI.out⟩
        have h3 := stop_fall h2 HS4.out.1
        by_cases hf : s.fall < 0
        · have := HS4.out.2.2.2 hf; omega
        · omega)
      clear h1 h2
      go_wp2_with fail
      go_ret
      exact ⟨s5, 8, rfl, HD5.out.mono (by omega), HF5.out, .inl ⟨rfl, HF.out⟩⟩
    have HS5 : Hid (s5.dn = false ∧ Hs P s5 ∧ (s.fall < 0 → s5.fall = s.fall)) := hide (by
      rw [h1]
      refine ⟨rfl, ⟨?_, fun c hc => by cases hc⟩, fun hf => ?_⟩
      · show Good P s4.R
        rw [HR4.out]
        exact HGP.out.1
      · have h3 := HS4.out.2.2.2 hf
        show (if 0 < s4.fall then s4.fall - 1 else s4.fall) = s.fall
        rw [if_neg (by omega)]
        exact h3)
    clear h1 HX5
    have q5 : w5.cell? ⟨qb, 0, none⟩ = some (.pointer (some ⟨g, 0, none⟩)) := HQ5.out.cell 0
    have HCL := hide (clean_ds P HPP.out B g room (M + 20 + 1 + 1) s5 w5 HD5.out (by omega) HS5.out.1 HS5.out.2.1 B0 A c L HPL.out (by rw [HNE.out.1]; exact HLI.out.fr HF5.out))
    rw [HNE.out.1] at HCL
    go_wp2_with (go_at_call 25; refine HCL.out.mono ?_; rintro e w6 ⟨s6, x6, rfl, hd6, hf6, hh6, hx6⟩; have HD6 := hide hd6; have HF6 := hide (HF5.out.trans hf6); have HX6 := hide (And.intro hh6 hx6); clear hd6 hf6 hh6 hx6)
    go_ret
    refine ⟨s6, x6, rfl, HD6.out.mono (by omega), HF6.out, ?_⟩
    obtain ⟨hh6, ⟨h4, h5, h6⟩ | ⟨h4, h5, h6, h7, h8⟩⟩ := HX6.out
    · exact .inl ⟨h4, h5, by by_cases hf : s.fall < 0; have := HS5.out.2.2 hf; omega; omega, hh6.either' HPP.out⟩
    · exact .inr (.inr ⟨h4, h5, h6, h7, fun hf => by have h9 := HS5.out.2.2 hf; rw [h8 (by omega)]; exact h9⟩)
end Go.Proofs.Ytclgiapmbmbknaa
