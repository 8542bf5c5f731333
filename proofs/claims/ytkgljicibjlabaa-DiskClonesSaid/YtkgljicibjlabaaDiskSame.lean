/- A disk held against the page's model: the contract of the law's same; no statement of the seat is proved here. -/
import Derived.Test.YtkgljicibjlabaaDiskModel
import Derived.Sort.Walk0
namespace Go.Proofs.Ytkgljicibjlabaa
open Go.RowKit Go.Maps

set_option maxRecDepth 100000 in
set_option maxHeartbeats 4000000 in
theorem same_any (B g b N n c : Nat) (A : Option Addr) (cs : List Ch) (B2 h bm Nm nm cm : Nat) (Am : Option Addr) (ac : List Ac) (room : Nat) (fall falls : Int) (dn : Bool) (F F2 R : Fl) (tot : Nat) (w : World)
    (hd : Dk w B g b N n c A cs room fall dn F) (hm : Md w B2 h bm Nm nm cm Am ac room falls dn F2) (hR : cs.foldl chDo F = R) (hR2 : ac.foldl actDo F2 = R) (hn : n ≤ 90000) (hN : N ≤ 100000) (hnm : nm ≤ 90000) (hNm : Nm ≤ 100000)
    (hT : Tot R tot) (ht : tot ≤ 1000000000000) (hr : room ≤ 4194304) :
    Calls Try.prog 27 #[.pointer (some ⟨g, 0, none⟩), .pointer (some ⟨h, 0, none⟩)] w (fun e w' => e = .returned (.bool true) ∧ Below w.heap.size w w') := by
  have HFI := hide (mfiles_any B2 h bm Nm nm cm Am ac room falls dn F2 w hm (by omega) hNm)
  rw [hR2] at HFI
  have HD := hide hd
  have HM := hide hm
  have HRR := hide hR
  have HTT := hide hT
  clear hd hm hR hR2 hT
  go_enter Try.func27, Try.ntmps27
  go_wp2_with fail
  refine HFI.out.mono ?_
  rintro e w3 ⟨b3, rfl, ht3, hb3, hB3⟩
  have m3 := HM.out.below hb3
  have c2 : w3.cell? ⟨h, 2, none⟩ = some (.int .i64 room) := m3.blk.cell 2
  have HM3 := hide m3
  have HD3 := hide (HD.out.below hb3)
  have HB3 := hide hb3
  obtain ⟨D, hD, hRd⟩ := ht3
  clear m3 hb3 HFI HM HD
  go_wp2_with (first | (at_range; refine wpList_range_own _ rfl _ 54 rfl 9 9 klaw Try.underlying54 _ b3 _ D rfl hD ?_; intro w0 hrg0 hg0 hs0) | go_in)
  go_frame
  obtain ⟨l0, hn0, hm0, htl0⟩ := HTT.out
  have hb0 := below_grown (Below.refl w3.heap.size w3) (Nat.le_refl _) hg0 (fun j hj => by cases hj)
  have HB0 := hide hb0
  have htot1 : lens R l0 = tot := htl0.symm
  clear htl0 hb0 hg0
  go_loopw [6] (fun v wr => ∃ (left : Lit → Bool) (cnt : Nat) (l : List (List UInt8)), wr.ranges Try.prog 9 heldR b3 w3.heap.size (Nm + nm) D left cnt ∧ l.Nodup ∧ (∀ j, j ∈ l ↔ left (.string j) = true) ∧ (∀ j ∈ l, (R j).isSome = true) ∧ lens R l ≤ tot ∧
      v = .int .i64 ((room : Int) - tot + lens R l) ∧ Below w3.heap.size w3 wr) (fun _ wr => wr.rangeLeft b3 w3.heap.size)
  case atStart => exact ⟨_, _, l0, hrg0, hn0, fun j => by rw [hm0, (hRd.2 j).1], fun j hj => (hm0 j).1 hj, by omega, by rw [htot1]; congr 1; omega, HB0.out⟩
  case round =>
    obtain ⟨left, cnt, l, hrg, hnl, hml, hFl, hle, rfl, hBr⟩ := hrel
    have HLE := hide hle
    have HML := hide hml
    have HFL := hide hFl
    clear hle hml hFl
    go_wp2_with (first | (at_next; refine next_txt _ rfl _ rfl b3 w3.heap.size _ D R hRd left cnt l hnl HML.out HFL.out rfl hrg ?_ ?_) | go_in)
    · intro hnil
      subst hnil
      rw [show ((room : Int) - tot + (lens R [] : Nat)) = room - tot by rw [show lens R [] = 0 from rfl]; omega]
      have hD4 := hrg.owns
      have HT4 : Hid (wr.ownsMap Try.prog 9 heldR b3 (Nm + nm) D ∧ Reads D R) := hide ⟨hD4, hRd⟩
      obtain ⟨q1, q2, q3⟩ := keys_of hD4 hRd
      have HQ := hide (show ∀ l, IsNames R l → l.length = Maps.size D from fun l hl => by rw [q3]; exact names_len hl q1 q2)
      have HD4 := hide (HD3.out.below hBr)
      have HM4 := hide (HM3.out.below hBr)
      have HB4 := hide (HB3.out.trans (hBr.mono HB3.out.size))
      clear q1 q2 q3 hrg hD hD4 hRd hrg0 HD3 HM3 HB3 HB0 htot1 hn0 hm0 HML HFL hBr
      cases dn with
      | true =>
        have HDN : Hid (∀ t : After wr, Calls Try.prog 22 #[.pointer (some ⟨g, 0, none⟩)] t.val (Gives t.val (.bool true))) := hide (fun t => by
          have h1 := (HD4.out.below t.prop).blk
          exact (down_yes g b n c A room fall t.val h1).mono (by rintro e w' ⟨rfl, rfl⟩; exact ⟨rfl, Below.refl _ _⟩))
        have HRM : Hid (∀ t : After wr, Calls Try.prog 17 #[.pointer (some ⟨g, 0, none⟩)] t.val (Gives t.val (.int .i64 ((room : Int) - tot)))) := hide (fun t => by
          have h1 := HD4.out.below t.prop
          exact (room_any g b N n c cs A room fall true F R tot t.val h1.blk h1.txt h1.rd h1.len (by omega) hN h1.ok HRR.out HTT.out ht hr).mono (by rintro e w' ⟨rfl, hb⟩; exact ⟨rfl, hb⟩))
        have qd : ∀ t : After wr, t.val.cell? ⟨h, 4, none⟩ = some (.bool true) := fun t => (HM4.out.below t.prop).blk.cell 4
        go_wp2_with fail
        refine region_after (by kernel_rfl) (by kernel_rfl) ?_
        repeat (go_big_quiet_step ((first | (go_at_call 22; refine call_after (HDN.out _)) | (go_at_call 17; refine call_after (HRM.out _)))))
        refine wpQuiet_nil ?_
        rintro _ ⟨t, rfl⟩
        have qt := qd t
        have HD5 := hide (HD4.out.below t.prop)
        have HB5 := hide (HB4.out.trans (t.prop.mono HB4.out.size))
        have HT5 : Hid (TxtIs t.val b3 (Nm + nm) R) := hide ((show TxtIs wr b3 (Nm + nm) R from ⟨D, HT4.out⟩).of_block (t.prop.block b3 HT4.out.1.lt))
        have HD5' : Hid (t.val.ownsMap Try.prog 9 heldR b3 (Nm + nm) D) := hide (owns_of_block HT4.out.1 (t.prop.block b3 HT4.out.1.lt))
        have HM5 := hide (HM4.out.below t.prop)
        clear HDN HRM qd HD4 HM4 HB4
        have HNM := hide (names_down g b n c A room fall t.val HD5.out.blk)
        go_wp2_with fail
        refine HNM.out.mono ?_
        rintro e w6 ⟨rfl, hw6⟩
        subst hw6
        go_wp2_with fail
        go_ret
        exact ⟨rfl, HB5.out⟩
      | false =>
        have HDN : Hid (∀ t : After wr, Calls Try.prog 22 #[.pointer (some ⟨g, 0, none⟩)] t.val (Gives t.val (.bool false))) := hide (fun t => by
          have h1 := (HD4.out.below t.prop).blk
          exact (down_no g b n c A room fall t.val h1).mono (by rintro e w' ⟨rfl, rfl⟩; exact ⟨rfl, Below.refl _ _⟩))
        have HRM : Hid (∀ t : After wr, Calls Try.prog 17 #[.pointer (some ⟨g, 0, none⟩)] t.val (Gives t.val (.int .i64 ((room : Int) - tot)))) := hide (fun t => by
          have h1 := HD4.out.below t.prop
          exact (room_any g b N n c cs A room fall false F R tot t.val h1.blk h1.txt h1.rd h1.len (by omega) hN h1.ok HRR.out HTT.out ht hr).mono (by rintro e w' ⟨rfl, hb⟩; exact ⟨rfl, hb⟩))
        have qd : ∀ t : After wr, t.val.cell? ⟨h, 4, none⟩ = some (.bool false) := fun t => (HM4.out.below t.prop).blk.cell 4
        go_wp2_with fail
        refine region_after (by kernel_rfl) (by kernel_rfl) ?_
        repeat (go_big_quiet_step ((first | (go_at_call 22; refine call_after (HDN.out _)) | (go_at_call 17; refine call_after (HRM.out _)))))
        refine wpQuiet_nil ?_
        rintro _ ⟨t, rfl⟩
        have qt := qd t
        have HD5 := hide (HD4.out.below t.prop)
        have HB5 := hide (HB4.out.trans (t.prop.mono HB4.out.size))
        have HT5 : Hid (TxtIs t.val b3 (Nm + nm) R) := hide ((show TxtIs wr b3 (Nm + nm) R from ⟨D, HT4.out⟩).of_block (t.prop.block b3 HT4.out.1.lt))
        have HD5' : Hid (t.val.ownsMap Try.prog 9 heldR b3 (Nm + nm) D) := hide (owns_of_block HT4.out.1 (t.prop.block b3 HT4.out.1.lt))
        have HM5 := hide (HM4.out.below t.prop)
        clear HDN HRM qd HD4 HM4 HB4
        have HNM := hide (names_dk B g b N n c A cs room fall F R t.val HD5.out (by omega) hN HRR.out)
        go_wp2_with fail
        refine HNM.out.mono ?_
        rintro e w6 ⟨A6, c6, l6, rfl, hl6, hrd6, hb6⟩
        have HD6 := hide (HD5.out.below hb6)
        have HB6 := hide (HB5.out.trans (hb6.mono HB5.out.size))
        have HD6' := hide (owns_of_block HD5'.out (hb6.block b3 HD5'.out.lt))
        have qd6 : w6.cell? ⟨h, 4, none⟩ = some (.bool false) := (HM5.out.below hb6).blk.cell 4
        have HL6 := hide hl6
        have HR6 := hide hrd6.old
        have HLEN6 := hide (HQ.out l6 hl6)
        clear hb6 hrd6 HNM HM5 HD5 HB5 HD5' HT5 qt hl6
        go_wp2_with fail
        obtain ⟨wo, rfl⟩ : ∃ wo : World, wo = wr := ⟨_, rfl⟩
        go_loopw [54] (fun i wr => ∃ k, k ≤ l6.length ∧ i = .int .i64 k ∧ Below w6.heap.size w6 wr) (fun i _ => l6.length - (intOf i).toNat)
        case atStart => exact ⟨0, Nat.zero_le _, rfl, Below.refl _ _⟩
        case round =>
          obtain ⟨k, hk, rfl, hBr⟩ := hrel
          have HBR := hide hBr
          clear hBr
          by_cases hlt : k < l6.length
          · obtain ⟨x, o, u, rfl, hu, hcu⟩ := (HR6.out.below HBR.out).at_ k hlt
            obtain rfl : S l6[k] = u := by simpa [hlt] using hu
            have hsome : (R l6[k]).isSome = true := (HL6.out.2 _).1 (List.getElem_mem hlt)
            have HLT := hide (show ∀ (hj : 0 < k), l6[k - 1]'(by omega) < l6[k] from fun hj => List.pairwise_iff_getElem.1 HL6.out.1 (k - 1) k (by omega) hlt (by omega))
            obtain ⟨nm', hnm'⟩ : ∃ z, z = l6[k] := ⟨_, rfl⟩
            rw [← hnm'] at hcu hsome HLT
            obtain ⟨v, hv⟩ := Option.isSome_iff_exists.1 hsome
            have hkr := HD6'.out
            have hks : short nm' := by
              have := strKeys_le hkr Try.underlying9 nm' ((keys_of hkr HT4.out.2).2.1 nm' |>.2 hsome)
              unfold short
              simpa [maxLen] using this
            have hkn := key_S hks
            have HRE := hide (read_dk B g b N n c A cs room fall F R nm' hks wr (HD6.out.below HBR.out) (by omega) hN HRR.out)
            rw [hv] at HRE
            simp only [Option.getD_some, Option.isSome_some, if_true] at HRE
            have hV : D.atKey (.string nm') (.held (S [])) = .held (S v) := by rw [(HT4.out.2.2 nm').2 (S []), hv]; rfl
            clear hkr hnm' hu hsome hv
            go_wp2_with fail
            refine HRE.out.mono ?_
            rintro e w7 ⟨rfl, hb7⟩
            have hD7 := owns_of_block (owns_of_block HD6'.out (HBR.out.block b3 HD6'.out.lt)) (hb7.block b3 (by have := HD6'.out.lt; have := HBR.out.size; omega))
            have HB7 := hide (HBR.out.trans (hb7.mono HBR.out.size))
            have HRK7 := hide (show ∀ j (hj : j < l6.length), w7.cell? ⟨x, o + j, none⟩ = some (S l6[j]) from fun j hj => by
              obtain ⟨x', o', u', e', hu', hcu'⟩ := (HR6.out.below HB7.out).at_ j hj
              injection e' with e'
              injection e' with e1 e2
              subst e1 e2
              obtain rfl : S l6[j] = u' := by simpa [hj] using hu'
              exact hcu')
            obtain ⟨v', ps', hrun, hv'⟩ := hD7.lookup klaw Try.underlying54 (zero_str _) (zd := .held (S [])) (zp := []) rfl hkn
            rw [hV] at hv'
            obtain rfl := heldR_inv hv'
            clear hv' hD7
            by_cases hk0 : 0 < k
            · have d0 : decide ((0 : Int) < (k : Int)) = true := by simp; omega
              have hc1 := HRK7.out (k - 1) (by omega)
              have hlt1 := HLT.out hk0
              have hkle : k ≤ 200000 := by have := HLEN6.out; have := HD6'.out.size_le; omega
              have hw1 : wrap64 ((k : Int) - 1) = ((k - 1 : Nat) : Int) := by unfold wrap64; omega
              obtain ⟨pn, hpn⟩ : ∃ z, z = l6[k - 1]'(by omega) := ⟨_, rfl⟩
              rw [← hpn] at hc1 hlt1
              clear hpn hb7 HRE HRK7 HLT
              have hbl : Op.bytesLess pn nm' = true := by rw [bytesLess_eq]; simpa using hlt1
              go_wp2_with fail
              go_roundw
              case rel => exact ⟨k + 1, by omega, by go_num, HB7.out⟩
              case measure => simp [intOf]; omega
            · have d0 : decide ((0 : Int) < (k : Int)) = false := by simp; omega
              clear hb7 HRE HRK7 HLT
              go_wp2_with fail
              go_roundw
              case rel => exact ⟨k + 1, by omega, by go_num, HB7.out⟩
              case measure => simp [intOf]; omega
          · have hbB := HB6.out.trans (HBR.out.mono HB6.out.size)
            have HBB := hide hbB
            have hown9 := owns_of_block HD6'.out (HBR.out.block b3 HD6'.out.lt)
            have hsz9 : (Maps.size D : Int) = (l6.length : Int) := by rw [HLEN6.out]
            clear hbB
            go_wp2_with (at_len; refine wpList_len_own _ rfl _ 54 rfl 9 9 Try.underlying54 heldR b3 _ D rfl hown9 ?_)
            trace_state
            go_ret
            exact ⟨rfl, HBB.out⟩
    · intro kk v w4 left' cnt' hk hv hm' hrg' hlt hg2 hs2 hen
      have hB2 := below_grown hBr hBr.size hg2 (fun j hj => by cases hj; exact Nat.le_refl _)
      have hlen : Hid (lens R l = v.length + lens R (l.erase kk)) := hide (by rw [lens_erase hk, hv]; rfl)
      go_wp2_with fail
      go_roundw
      case rel =>
        refine ⟨left', cnt', l.erase kk, hrg', hnl.erase kk, hm', fun x hx => HFL.out x (List.mem_of_mem_erase hx), by have := hlen.out; have := HLE.out; omega, ?_, hB2⟩
        have := hlen.out
        have := HLE.out
        congr 1
        unfold wrap64
        omega
      case measure => rw [hrg'.left_eq, hrg.left_eq]; omega
end Go.Proofs.Ytkgljicibjlabaa
