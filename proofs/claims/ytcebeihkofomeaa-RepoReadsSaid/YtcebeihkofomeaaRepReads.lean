/- RepoReads returns true for whatever bytes: the walk; no statement of the seat is proved here. -/
import Derived.Test.YtcebeihkofomeaaRepHead
namespace Go.Proofs.Ytcebeihkofomeaa
open Go.RowKit
set_option linter.unusedVariables false

set_option maxRecDepth 100000 in
set_option maxHeartbeats 8000000 in
theorem rreads_walk (l : List UInt8) (sum : Bool) (w : World) (hl : l.length ≤ 9223372036854775807) : Calls Try.prog 3 #[S l, .bool sum] w (Gives w (.bool true)) := by
  have HH := hide (head_any w)
  cases hb : decide (600 < (l.length : Int)) with
  | true =>
    go_enter Try.func3, Try.ntmps3
    go_wp2_with (go_at_call 4; refine HH.out.mono ?_; rintro e w1 ⟨rfl, hb1⟩)
    go_ret
    exact ⟨rfl, hb1⟩
  | false =>
    have hlen : l.length ≤ 600 := by
      have h1 : (l.length : Int) ≤ 600 := by simpa using hb
      omega
    have HLEN := hide hlen
    obtain ⟨sm, hsm⟩ : ∃ s, s = sumM l := ⟨_, rfl⟩
    have HSL : Hid (sm.length = 32) := hide (by rw [hsm, sumM_len])
    have hsl : sm.length = 32 := HSL.out
    have HSUM : Hid (∀ w : World, Calls Try.prog 5 #[.slice (some ⟨w.heap.size, 0, none⟩) 1 1] (w.alloc (.cells #[S l] 9)) (fun e w' => e = .returned (.agg (darr sm)) ∧ Below w.heap.size (w.alloc (.cells #[S l] 9)) w')) := hide (fun w => by
      have := sum_any (w.alloc (.cells #[S l] 9)) (some ⟨w.heap.size, 0, none⟩) 1 1 [l] (Rd.blk (l := [l].map S) (Blk.new _ _ _) (by simp)) rfl (by simp; omega) (by decide)
      simp only [List.flatten_cons, List.flatten_nil, List.append_nil, ← hsm] at this
      exact this.mono fun _ _ ⟨h1, h2⟩ => ⟨h1, h2.mono (by simp)⟩)
    obtain ⟨dz, hdz⟩ : ∃ dz, dz = darr sm := ⟨_, rfl⟩
    rw [← hdz] at HSUM
    have HDZ := hide (fun _ : Unit => hdz)
    have HDS : Hid (dz.size = 32) := hide (by rw [hdz, darr_size, HSL.out])
    have HDO : Hid (dz.all (·.oneCell') = true) := hide (by rw [hdz]; exact darr_one _)
    clear hdz hsm
    obtain ⟨z4, hz4⟩ : ∃ z, z = ZC := ⟨_, rfl⟩
    have hzero : ∀ w, (zeroValue 24).run Try.prog w = .ok (.agg z4) w := fun w => by rw [hz4]; kernel_rfl
    have HZ4 : Hid (z4.size = 32) := hide (by rw [hz4]; rfl)
    clear hz4
    go_enter Try.func3, Try.ntmps3
    go_upto_region 5 with (go_at_call 4; refine HH.out.mono ?_; rintro e w1 ⟨rfl, hb1⟩)
    have HB1 := hide hb1
    clear hb hb1 HH
    cases sum
    case true =>
      go_upto_region 7 with (first
        | (go_at_call 5; refine (HSUM.out _).mono ?_; rintro e w5 ⟨rfl, hb5⟩; have HB5 := hide ((HB1.out.alloc HB1.out.size (.cells #[S l] 9)).trans (hb5.mono HB1.out.size)); clear hb5)
        | (refine wpList_store_mid rfl 24 (.tmp 5) (.tmp 19) rfl _ 0 dz rfl rfl ((Blk.new _ _ _).there_ (by rw [HDS.out, HZ4.out])) (by rw [HDS.out]; exact dig_info) HDO.out ?_))
      simp only [show ∀ (x : Act), x.put none undef = x from fun _ => rfl]
      refine name_world ?_
      intro w6 hw6
      have HX6 := hide (box_any w5 24 z4 dz (by rw [HDS.out, HZ4.out]))
      rw [← hw6] at HX6
      have HB6 : Hid (Below w.heap.size w w6) := hide (HB5.out.trans (HX6.out.2.mono HB5.out.size))
      have HBD6 : Hid (Blk w6 w5.heap.size 24 dz) := hide HX6.out.1
      clear hw6 HX6 HB5 HSUM hzero HZ4 HB1
      obtain ⟨g9, hg9⟩ : ∃ g, g = w5.heap.size := ⟨_, rfl⟩
      rw [← hg9] at HBD6 ⊢
      clear hg9
      have hcv : (convert 26 9 (.slice (some ⟨g9, 0, none⟩) 32 32)).run Try.prog w6 = .ok (S sm) w6 := conv_32 HSL.out (fun i hi => by
        have h := HBD6.out.cell (0 + i)
        rw [h, HDZ.out ()]
        have := HSL.out
        simp [darr, show i < sm.length by omega])
      go_upto_region 8 with fail
      clear hcv HDZ HDS HDO HBD6
      obtain ⟨s', hs'⟩ : ∃ s', s' = l ++ sm := ⟨_, rfl⟩
      have HSS : Hid (s'.length ≤ 632) := hide (by rw [hs', List.length_append]; omega)
      rw [← hs']
      clear hs' hl hlen hsl HLEN HSL
      have hs600 : s'.length ≤ 632 := HSS.out
      cases hdm : decM s' with
      | none =>
        have HD0 : Hid (Calls Try.prog 6 #[S s'] w6 (Gives w6 (.tuple #[.slice none 0 0, .int .i64 40]))) := hide (by
          refine (dec_any s' w6 (by omega)).mono ?_
          rintro e w'' ⟨hb, h | ⟨A, c, L, he, hd, _⟩⟩
          · exact ⟨h.2, hb⟩
          · rw [hdm] at hd; cases hd)
        go_wp2_with (go_at_call 6; refine HD0.out.mono ?_; rintro e w8 ⟨rfl, hb8⟩)
        go_ret
        exact ⟨rfl, HB6.out.trans (hb8.mono HB6.out.size)⟩
      | some Lp =>
        have HD1 : Hid (Calls Try.prog 6 #[S s'] w6 (fun e w'' => ∃ A c, ∃ L : List Enq, e = .returned (.tuple #[.slice A L.length c, .int .i64 0]) ∧ LiAt w'' (fun k => w''.heap.size ≤ k) A L.length L ∧ decM s' = some (L.map Enq.pl) ∧ Below w6.heap.size w6 w'')) := hide (by
          refine (dec_any s' w6 (by omega)).mono ?_
          rintro e w'' ⟨hb, h | ⟨A, c, L, he, hd, hla⟩⟩
          · rw [hdm] at h; cases h.1
          · exact ⟨A, c, L, he, hla, hd, hb⟩)
        clear hdm
        go_upto_region 9 with (go_at_call 6; refine HD1.out.mono ?_; rintro e w8 ⟨A, c, L, rfl, hla, hd, hb8⟩)
        obtain ⟨hd1, hd2, hd3, hd4⟩ := dec_enc hd
        have HB8 : Hid (Below w.heap.size w w8) := hide (HB6.out.trans (hb8.mono HB6.out.size))
        have HLA := hide hla
        have HEN := hide (enc_ok A L.length c L w8 hla hd2 (fun e he => hd3 _ (List.mem_map.2 ⟨e, he, rfl⟩)) (by omega))
        rw [hd1] at HEN
        have HRT : Hid (∀ w', Below w8.heap.size w8 w' → Calls Try.prog 8 #[.slice A L.length c] w' (Gives w' (.bool true))) := hide (fun w' hb => by
          have := right_any A L.length c L w' (HLA.out.on hb)
          rwa [hd2] at this)
        obtain ⟨nL, hnL⟩ : ∃ n, n = L.length := ⟨_, rfl⟩
        rw [← hnL] at HEN HRT ⊢
        clear hnL hla hd hb8 hd1 hd2 hd3 hd4 HD1 HLA
        go_upto_region 13 with (go_at_call 7; refine HEN.out.mono ?_; rintro e w9 ⟨rfl, hb9⟩)
        refine name_world ?_
        intro wX hwX
        have HBX : Hid (Below w8.heap.size w8 wX) := hide (by rw [hwX]; exact hb9.alloc hb9.size _)
        have HWR : Hid (Wr wX w9.heap.size (.slice none 0 0) []) := hide (by rw [hwX]; exact wr_new w9)
        clear hwX hb9 HEN
        obtain ⟨gw, hgw⟩ : ∃ g, g = w9.heap.size := ⟨_, rfl⟩
        rw [← hgw] at HWR ⊢
        clear hgw
        have hss : (s' == s') = true := beq_self_eq_true s'
        go_wp2_with (first
          | (go_at_call 8; refine (HRT.out _ HBX.out).mono ?_; rintro e w10 ⟨rfl, hb10⟩; have HST := hide (string_any gw (.slice none 0 0) [] w10 (HWR.out.keep (Keep.of_below (F := fun _ => False) hb10 (fun k h1 h2 => by omega)) id (fun _ _ h => h))); have HB10 := hide hb10; clear hb10)
          | (go_at_call 9; refine HST.out.mono ?_; rintro e w11 ⟨rfl, hw11⟩; subst w11))
        go_ret
        exact ⟨rfl, HB8.out.trans ((HBX.out.trans (HB10.out.mono HBX.out.size)).mono HB8.out.size)⟩
    case false =>
      clear hzero
      go_upto_region 8 with fail
      obtain ⟨s', hs'⟩ : ∃ s', s' = l := ⟨_, rfl⟩
      have HSS : Hid (s'.length ≤ 632) := hide (by rw [hs']; omega)
      rw [← hs']
      clear hs' hl hlen hsl HLEN HSL HSUM HDZ HDS HDO HZ4
      have hs600 : s'.length ≤ 632 := HSS.out
      cases hdm : decM s' with
      | none =>
        have HD0 : Hid (Calls Try.prog 6 #[S s'] w1 (Gives w1 (.tuple #[.slice none 0 0, .int .i64 40]))) := hide (by
          refine (dec_any s' w1 (by omega)).mono ?_
          rintro e w'' ⟨hb, h | ⟨A, c, L, he, hd, _⟩⟩
          · exact ⟨h.2, hb⟩
          · rw [hdm] at hd; cases hd)
        go_wp2_with (go_at_call 6; refine HD0.out.mono ?_; rintro e w8 ⟨rfl, hb8⟩)
        go_ret
        exact ⟨rfl, HB1.out.trans (hb8.mono HB1.out.size)⟩
      | some Lp =>
        have HD1 : Hid (Calls Try.prog 6 #[S s'] w1 (fun e w'' => ∃ A c, ∃ L : List Enq, e = .returned (.tuple #[.slice A L.length c, .int .i64 0]) ∧ LiAt w'' (fun k => w''.heap.size ≤ k) A L.length L ∧ decM s' = some (L.map Enq.pl) ∧ Below w1.heap.size w1 w'')) := hide (by
          refine (dec_any s' w1 (by omega)).mono ?_
          rintro e w'' ⟨hb, h | ⟨A, c, L, he, hd, hla⟩⟩
          · rw [hdm] at h; cases h.1
          · exact ⟨A, c, L, he, hla, hd, hb⟩)
        clear hdm
        go_upto_region 9 with (go_at_call 6; refine HD1.out.mono ?_; rintro e w8 ⟨A, c, L, rfl, hla, hd, hb8⟩)
        obtain ⟨hd1, hd2, hd3, hd4⟩ := dec_enc hd
        have HB8 : Hid (Below w.heap.size w w8) := hide (HB1.out.trans (hb8.mono HB1.out.size))
        have HLA := hide hla
        have HEN := hide (enc_ok A L.length c L w8 hla hd2 (fun e he => hd3 _ (List.mem_map.2 ⟨e, he, rfl⟩)) (by omega))
        rw [hd1] at HEN
        have HRT : Hid (∀ w', Below w8.heap.size w8 w' → Calls Try.prog 8 #[.slice A L.length c] w' (Gives w' (.bool true))) := hide (fun w' hb => by
          have := right_any A L.length c L w' (HLA.out.on hb)
          rwa [hd2] at this)
        obtain ⟨nL, hnL⟩ : ∃ n, n = L.length := ⟨_, rfl⟩
        rw [← hnL] at HEN HRT ⊢
        clear hnL hla hd hb8 hd1 hd2 hd3 hd4 HD1 HLA
        go_upto_region 13 with (go_at_call 7; refine HEN.out.mono ?_; rintro e w9 ⟨rfl, hb9⟩)
        refine name_world ?_
        intro wX hwX
        have HBX : Hid (Below w8.heap.size w8 wX) := hide (by rw [hwX]; exact hb9.alloc hb9.size _)
        have HWR : Hid (Wr wX w9.heap.size (.slice none 0 0) []) := hide (by rw [hwX]; exact wr_new w9)
        clear hwX hb9 HEN
        obtain ⟨gw, hgw⟩ : ∃ g, g = w9.heap.size := ⟨_, rfl⟩
        rw [← hgw] at HWR ⊢
        clear hgw
        have hss : (s' == s') = true := beq_self_eq_true s'
        go_wp2_with (first
          | (go_at_call 8; refine (HRT.out _ HBX.out).mono ?_; rintro e w10 ⟨rfl, hb10⟩; have HST := hide (string_any gw (.slice none 0 0) [] w10 (HWR.out.keep (Keep.of_below (F := fun _ => False) hb10 (fun k h1 h2 => by omega)) id (fun _ _ h => h))); have HB10 := hide hb10; clear hb10)
          | (go_at_call 9; refine HST.out.mono ?_; rintro e w11 ⟨rfl, hw11⟩; subst w11))
        go_ret
        exact ⟨rfl, HB8.out.trans ((HBX.out.trans (HB10.out.mono HBX.out.size)).mono HB8.out.size)⟩
end Go.Proofs.Ytcebeihkofomeaa
