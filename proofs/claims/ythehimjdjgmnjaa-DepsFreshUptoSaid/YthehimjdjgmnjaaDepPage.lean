/- The page's digest, walked; no statement of the seat is proved here. -/
import Derived.Test.YthehimjdjgmnjaaDepStale
namespace Go.Proofs.Ythehimjdjgmnjaa
open Go.RowKit Go.Maps
set_option linter.unusedVariables false

theorem digM_nil (k : List UInt8) : digM [] k = Z32 := rfl
theorem digM_snoc (T : List Fc) (f : Fc) (k : List UInt8) : digM (T ++ [f]) k = if f.n = k then digF f.pl else digM T k := by
  unfold digM
  rw [get_snoc]
  by_cases h : f.n = k
  · rw [if_pos h, if_pos h]
  · rw [if_neg h, if_neg h]

set_option maxRecDepth 100000 in
set_option maxHeartbeats 4000000 in
theorem page_any (A : Option Addr) (n c : Nat) (T : List Fc) (k : List UInt8) (w : World) (h : FcsAt w (fun k => w.heap.size ≤ k) A n T) (hT : ∀ f ∈ T, (fcL f.pl).length ≤ 1099511627000) :
    Calls Try.prog 10 #[.slice A n c, S k] w (fun e w' => e = .returned (.agg (darr (digM T k))) ∧ Below w.heap.size w w') := by
  obtain ⟨hr, hl, hm, hok⟩ := h
  have HL := hide hl
  have HO := hide hok
  have HTL := hide hT
  clear hl hok hT
  obtain ⟨zc, hzc⟩ : ∃ z, z = ZC := ⟨_, rfl⟩
  have hzero : ∀ w, (zeroValue 35).run Try.prog w = .ok (.agg zc) w := fun w => by rw [hzc]; exact zero_dig w
  have HZS : Hid (zc.size = 32) := hide (by rw [hzc]; rfl)
  have HZD : Hid (∀ _ : Unit, zc = darr (digM (T.take 0) k)) := hide (fun _ => by rw [hzc, List.take_zero, digM_nil]; exact ZC_is)
  have HZO : Hid (zc.all (·.oneCell') = true) := hide (by rw [hzc, ZC_is]; exact darr_one _)
  have HBU : Hid (Try.prog.built 35 [] = some zc) := hide (by rw [hzc]; kernel_rfl)
  clear hzc
  obtain ⟨w1, hw1⟩ : ∃ w1, w1 = ((w.alloc (.cells zc 35)).alloc (.cells zc 35)).setCells (w.heap.size + 1) 0 zc.toList := ⟨_, rfl⟩
  have HBX := hide (box_any (w.alloc (.cells zc 35)) 35 zc zc rfl)
  rw [World.size_alloc, ← hw1] at HBX
  have HZT : Hid (((w.alloc (.cells zc 35)).alloc (.cells zc 35)).there (w.heap.size + 1) 0 zc.size) := hide (by have := (Blk.new (w.alloc (.cells zc 35)) 35 zc).there_ (n := zc.size) rfl; rwa [World.size_alloc] at this)
  go_enter Try.func10, Try.ntmps10
  go_upto_region 2 with (first
    | (refine Go.wpList_buildTo rfl 35 #[] rfl (some 8) rfl zc HBU.out ?_)
    | (refine wpList_store_mid rfl 35 (.tmp 5) (.tmp 8) rfl (w.heap.size + 1) 0 zc rfl rfl HZT.out (by rw [HZS.out]; exact dig_info) HZO.out ?_))
  rw [← hw1]
  have HB1 : Hid (Below w.heap.size w w1) := hide (((Below.refl _ w).alloc (Nat.le_refl _) _).trans (HBX.out.2.mono (by omega)))
  have HQ1 : Hid (Blk w1 (w.heap.size + 1) 35 zc) := hide HBX.out.1
  have HQ0 : Hid (Blk w1 w.heap.size 35 zc) := hide (by rw [hw1]; exact ((Blk.new w 35 zc).alloc _).keep (Keep.setCells (F := fun b => b = w.heap.size + 1) (fun _ => rfl) _ _ (Keep.refl _ _)) (by omega))
  clear hw1 HBX HZT
  simp only [show ∀ (x : Act), x.put none undef = x from fun _ => rfl]
  go_wp2_with fail
  go_loopw [11] (fun i wr => ∃ t : Nat, t ≤ n ∧ i = .int .i64 t ∧ Hid (Below w.heap.size w wr) ∧ Hid (Blk wr w.heap.size 35 zc) ∧ Hid (Blk wr (w.heap.size + 1) 35 (darr (digM (T.take t) k)))) (fun i _ => n - (intOf i).toNat)
  case atStart => exact ⟨0, Nat.zero_le _, rfl, HB1, HQ0, hide (by rw [← HZD.out ()]; exact HQ1.out)⟩
  case round =>
    obtain ⟨t, ht, rfl, HBR, HQR, HDR⟩ := hrel
    obtain ⟨da, hda⟩ : ∃ d, d = darr (digM (T.take t) k) := ⟨_, rfl⟩
    rw [← hda] at HDR
    have HDA : Hid (da.size = 32 ∧ da.all (·.oneCell') = true) := hide ⟨by rw [hda, darr_size, digM_len], by rw [hda]; exact darr_one _⟩
    by_cases hlt : t < n
    · obtain ⟨x, o, rfl, hx1, _, hcell⟩ := Rd.rec_ (size := 4) (fun _ => rfl) (hr.below HBR.out) HL.out t hlt
      have hlk : t < T.length := by have := HL.out; omega
      have hfr := (HO.out _ (List.getElem_mem hlk)).below HBR.out
      have hfl := HTL.out _ (List.getElem_mem hlk)
      have HSN : Hid (digM (T.take (t + 1)) k = if (T[t]).n = k then digF (T[t]).pl else digM (T.take t) k) := hide (by rw [List.take_add_one, List.getElem?_eq_getElem hlk]; exact digM_snoc _ _ _)
      obtain ⟨f, hf⟩ : ∃ f, f = T[t] := ⟨_, rfl⟩
      rw [← hf] at hcell hfr hfl HSN
      have HDX : Hid (∀ _ : Unit, da = darr (digM (T.take t) k)) := hide (fun _ => hda)
      clear hf hda
      have q0 : wr.cell? ⟨x, o + t * 4, none⟩ = some (S f.n) := hcell 0 _ rfl
      have q1 : wr.cell? ⟨x, o + t * 4 + 1, none⟩ = some (S f.su) := hcell 1 _ rfl
      have q2 : wr.cell? ⟨x, o + t * 4 + 2, none⟩ = some (.slice f.fA f.fl f.fc) := hcell 2 _ rfl
      have q3 : wr.cell? ⟨x, o + t * 4 + 3, none⟩ = some (.slice f.mA f.ml f.mc) := hcell 3 _ rfl
      clear hcell
      go_upto_region 5 with fail
      refine name_world ?_
      intro w2 hw2
      have HF2 : Hid (Blk w2 wr.heap.size 47 #[S f.n, S f.su, .slice f.fA f.fl f.fc, .slice f.mA f.ml f.mc]) := hide (by rw [hw2]; exact Blk.new _ _ _)
      have HB2 : Hid (Below wr.heap.size wr w2) := hide (by rw [hw2]; exact (Below.refl _ _).alloc (Nat.le_refl _) _)
      clear hw2 q0 q1 q2 q3
      have HBW : Hid (Below w.heap.size w w2) := hide (HBR.out.trans (HB2.out.mono HBR.out.size))
      have HQ2 := hide (HQR.out.below HB2.out HQR.out.lt)
      have HD2 := hide (HDR.out.below HB2.out HDR.out.lt)
      obtain ⟨q, hq⟩ : ∃ q, q = wr.heap.size := ⟨_, rfl⟩
      rw [← hq] at HF2 ⊢
      clear hq
      have c0 : w2.cell? ⟨q, 0, none⟩ = some (S f.n) := HF2.out.cell 0
      have c1 : w2.cell? ⟨q, 1, none⟩ = some (S f.su) := HF2.out.cell 1
      have c2 : w2.cell? ⟨q, 2, none⟩ = some (.slice f.fA f.fl f.fc) := HF2.out.cell 2
      have c3 : w2.cell? ⟨q, 3, none⟩ = some (.slice f.mA f.ml f.mc) := HF2.out.cell 3
      by_cases he : f.n = k
      · have HDG := hide (dig_any f w2 ((hfr.below (HB2.out.mono HBR.out.size)).weak (fun k hk => Nat.le_trans HBW.out.size hk)) hfl)
        simp only [Fc.val] at HDG
        obtain ⟨dz, hdz⟩ : ∃ z, z = darr (digF f.pl) := ⟨_, rfl⟩
        have HNX : Hid (∀ _ : Unit, dz = darr (digM (T.take (t + 1)) k)) := hide (fun _ => by rw [HSN.out, if_pos he]; exact hdz)
        have HDZ : Hid (dz.size = 32 ∧ dz.all (·.oneCell') = true) := hide ⟨by rw [hdz, darr_size]; simp [digF, sumM_len], by rw [hdz]; exact darr_one _⟩
        rw [← hdz] at HDG
        clear hdz hfr hfl
        have hek : (f.n == k) = true := by simpa using he
        clear he
        go_upto_region 7 with (first
          | (go_at_call 13; refine HDG.out.mono ?_; rintro e w3 ⟨rfl, hb3⟩; have HB3 := hide hb3; have HD3 := hide (HD2.out.below hb3 HD2.out.lt); clear hb3)
          | (refine wpList_store_mid rfl 35 (.tmp 5) (.tmp 20) rfl (w.heap.size + 1) 0 dz rfl rfl (HD3.out.there_ (by rw [HDZ.out.1, HDA.out.1])) (by rw [HDZ.out.1]; exact dig_info) HDZ.out.2 ?_))
        try simp only [show ∀ (x : Act), x.put none undef = x from fun _ => rfl]
        refine name_world ?_
        intro w4 hw4
        have HD4 : Hid (Blk w4 (w.heap.size + 1) 35 (darr (digM (T.take (t + 1)) k))) := hide (by
          rw [hw4, ← HNX.out ()]
          have := HD3.out.cells_all dz.toList (by rw [Array.length_toList, HDZ.out.1, HDA.out.1])
          rwa [Array.toArray_toList] at this)
        have HB4 : Hid (Below w.heap.size w w4) := hide (by rw [hw4]; exact bcells (by omega) _ _ (HBW.out.trans (HB3.out.mono HBW.out.size)))
        have HQ4 : Hid (Blk w4 w.heap.size 35 zc) := hide (by
          rw [hw4]
          exact (HQ2.out.below HB3.out HQ2.out.lt).keep (Keep.setCells (F := fun b => b = w.heap.size + 1) (fun _ => rfl) _ _ (Keep.refl _ _)) (by omega))
        clear hw4
        go_wp2_with fail
        go_roundw
        · exact ⟨t + 1, by omega, by go_num, HB4, HQ4, HD4⟩
        · simp [intOf]; omega
      · have hek : (f.n == k) = false := by simpa using he
        have HD5 : Hid (Blk w2 (w.heap.size + 1) 35 (darr (digM (T.take (t + 1)) k))) := hide (by rw [HSN.out, if_neg he, ← HDX.out ()]; exact HD2.out)
        clear he
        go_wp2_with fail
        go_roundw
        · exact ⟨t + 1, by omega, by go_num, HBW, HQ2, HD5⟩
        · simp [intOf]; omega
    · obtain rfl : t = n := by omega
      have HDX : Hid (∀ _ : Unit, da = darr (digM T k)) := hide (fun _ => by rw [hda, List.take_of_length_le (by have := HL.out; omega)])
      clear hlt hda
      go_wp2_with (first
        | (refine wpList_load_mid rfl 35 (.tmp 5) rfl (w.heap.size + 1) 0 rfl da.toList _ HDR.out.range Try.underlying35 rfl (by rw [Array.length_toList, HDA.out.1]; exact dig_info) ?_; rw [Array.toArray_toList])
        | (refine wpList_store_mid rfl 35 (.tmp 4) (.tmp 22) rfl w.heap.size 0 da rfl rfl (HQR.out.there_ (by rw [HDA.out.1, HZS.out])) (by rw [HDA.out.1]; exact dig_info) HDA.out.2 ?_))
      have HFF := HQR.out.cells_all da.toList (by rw [Array.length_toList, HDA.out.1, HZS.out])
      rw [Array.toArray_toList] at HFF
      refine bodyPost_ret (results_cell1 rfl _ _ ⟨w.heap.size, 0, none⟩ (.agg da) rfl (HFF.loads Try.underlying35 rfl (by rw [HDA.out.1]; exact dig_info))) rfl ⟨by rw [HDX.out ()], bcells (Nat.le_refl _) _ _ HBR.out⟩
end Go.Proofs.Ythehimjdjgmnjaa
