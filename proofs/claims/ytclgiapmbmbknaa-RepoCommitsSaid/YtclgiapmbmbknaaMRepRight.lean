/- Whether a list is one: List.Right, walked; no statement of the seat is proved here. -/
import Derived.Test.YtclgiapmbmbknaaMRepBox
import Derived.Deep.DeepCutAuto
namespace Go.Proofs.Ytclgiapmbmbknaa
open Go.RowKit
set_option linter.unusedVariables false

theorem dec_le (n b : Nat) : decide (n ≤ b) = !decide ((b : Int) < (n : Int)) := by
  by_cases h : n ≤ b
  · have : ¬ (b : Int) < (n : Int) := by omega
    simp [h, this]
  · have : (b : Int) < (n : Int) := by omega
    simp [h, this]

set_option maxRecDepth 100000 in
set_option maxHeartbeats 16000000 in
theorem right_any (A : Option Addr) (n c : Nat) (L : List Enq) (w : World) (h : LiAt w (fun k => w.heap.size ≤ k) A n L) : Calls Try.prog 15 #[.slice A n c] w (Gives w (.bool (rightL (L.map Enq.pl)))) := by
  obtain ⟨R, hR⟩ : ∃ R, R = rightL (L.map Enq.pl) := ⟨_, rfl⟩
  rw [← hR]
  have hll := h.ll
  have hnb := h.lb
  obtain ⟨b0, d0⟩ : ∃ b, decide (200 < (n : Int)) = b := ⟨_, rfl⟩
  have HR0 : Hid (R = (!b0 && riseE [] (L.map Enq.pl))) := hide (by rw [hR, rightL, List.length_map, hll, dec_le n 200, ← d0]; rfl)
  have HL := hide h
  have HLL := hide hll
  clear hR h hll
  cases b0
  case true =>
    have HF : Hid (R = false) := hide (by rw [HR0.out]; rfl)
    go_enter Try.func15, Try.ntmps15
    go_wp2_with fail
    go_ret
    exact ⟨by rw [HF.out] <;> rfl, Below.refl _ _⟩
  have HR : Hid (R = riseE [] (L.map Enq.pl)) := hide (by rw [HR0.out]; rfl)
  clear HR0
  go_enter Try.func15, Try.ntmps15
  go_wp2_with fail
  have hn200 : n ≤ 200 := by have := of_decide_eq_false d0; omega
  clear d0
  go_loopw [14, 3] (fun i v wr => ∃ (j : Nat) (lst : List UInt8), j ≤ n ∧ i = .int .i64 j ∧ v = S lst ∧ Hid (Below w.heap.size w wr) ∧ Hid (R = riseE lst ((L.map Enq.pl).drop j))) (fun i _ _ => n - (intOf i).toNat)
  case atStart => exact ⟨0, [], Nat.zero_le _, rfl, rfl, hide (Below.refl _ _), HR⟩
  case round =>
    obtain ⟨j, lst, hj, rfl, rfl, HBR, HRS⟩ := hrel
    by_cases hlt : j < n
    case neg =>
      focus
        obtain rfl : n = j := by omega
        have HF : Hid (R = true) := hide (by rw [HRS.out, List.drop_of_length_le (by rw [List.length_map, HLL.out]; exact Nat.le_refl _)]; rfl)
        have hjk : ¬ (n : Int) < (n : Int) := by omega
        go_wp2_with fail
        go_ret
        exact ⟨by rw [HF.out] <;> rfl, HBR.out⟩
    case pos =>
      focus
        obtain ⟨wo, rfl⟩ : ∃ wo : World, wo = wr := ⟨_, rfl⟩
        obtain ⟨b, o, hA, _, hbl, hcs⟩ := Rd.rec_ (f := Enq.cells) (size := 66) Enq.cells_len (HL.out.lr.below HBR.out) HLL.out j hlt
        have hlk : j < L.length := by have := HLL.out; omega
        have hea := HL.out.la L[j] (List.getElem_mem hlk)
        have HD : Hid ((L.map Enq.pl).drop j = L[j].pl :: (L.map Enq.pl).drop (j + 1)) := hide (by rw [List.drop_eq_getElem_cons (by rw [List.length_map]; exact hlk), List.getElem_map])
        generalize L[j] = e at hcs hea HD
        have HV := hide (EnV.mk_ e)
        obtain ⟨ev, hev⟩ : ∃ ev, ev = e.cells.toArray := ⟨_, rfl⟩
        rw [← hev] at HV
        have HRG : Hid (wo.rangeAt b (o + j * 66) ev.toList) := hide (fun i v hv => hcs i v (by rw [hev] at hv; simpa using hv))
        clear hev hcs
        have HEA := hide hea
        have hnl : e.n.length ≤ 9223372036854775807 := hea.sn
        have hkb : e.k ≤ 9223372036854775807 := hea.rb
        clear hea
        obtain ⟨ze, hze⟩ : ∃ ze, ze = ZE := ⟨_, rfl⟩
        have hzero : ∀ w, (zeroValue 44).run Try.prog w = .ok (.agg ze) w := fun w => by rw [hze]; exact zero_en w
        obtain ⟨w1, hw1⟩ : ∃ w1, w1 = (wo.alloc (.cells ze 44)).setCells wo.heap.size 0 ev.toList := ⟨_, rfl⟩
        have HBX := hide (box_any wo 44 ze ev (by rw [HV.out.size, hze]; rfl))
        rw [← hw1] at HBX
        have HZT : Hid ((wo.alloc (.cells ze 44)).there wo.heap.size 0 ev.size) := hide ((Blk.new wo 44 ze).there_ (by rw [HV.out.size, hze]; rfl))
        clear hze
        replace hA : A = some ⟨b, o, none⟩ := hA
        rw [hA]
        have hjk : (j : Int) < (n : Int) := by omega
        go_upto_region 7 with (first
          | (refine wpList_load_mid rfl 44 (.tmp 16) rfl b (o + j * 66) rfl ev.toList _ HRG.out Try.underlying44 rfl (by rw [Array.length_toList, HV.out.size]; exact en_info) ?_; rw [Array.toArray_toList])
          | (refine wpList_store_mid rfl 44 (.tmp 5) (.tmp 17) rfl wo.heap.size 0 ev rfl rfl HZT.out (by rw [HV.out.size]; exact en_info) HV.out.one ?_))
        rw [← hw1]
        have HB6 : Hid (Blk w1 wo.heap.size 44 ev) := hide HBX.out.1
        have HW1 : Hid (Below w.heap.size w w1) := hide (HBR.out.trans (HBX.out.2.mono HBR.out.size))
        clear hw1 hzero HBX HZT hjk
        obtain ⟨g6, hg6⟩ : ∃ g, g = wo.heap.size := ⟨_, rfl⟩
        rw [← hg6] at HB6 ⊢
        clear hg6
        obtain ⟨en, es, eA, ek, ec, ers, eb⟩ := e
        have q0 := (HB6.out.cell 0).trans HV.out.c0
        have HG : Hid (∀ w, Calls Try.prog 36 #[.agg #[S en, .bool false]] w (Gives w (.bool (great en)))) := hide (fun w => by simpa [clsB] using class_any en false w)
        have HRS2 : Hid (R = (great en && decide (en.length ≤ 40) && !leqB en lst && decide (ek ≤ 200) && riseQ true [] ers && riseE en ((L.map Enq.pl).drop (j + 1)))) := hide (by rw [HRS.out, HD.out, ← show ers.length = ek from HEA.out.rl]; rfl)
        simp only at hnl hkb q0
        obtain ⟨G, hG⟩ : ∃ G, G = great en := ⟨_, rfl⟩
        rw [← hG] at HG HRS2
        obtain ⟨b1, d1⟩ : ∃ b, decide (40 < (en.length : Int)) = b := ⟨_, rfl⟩
        obtain ⟨b2, d2⟩ : ∃ b, (en == lst) = b := ⟨_, rfl⟩
        obtain ⟨b3, d3⟩ : ∃ b, Op.bytesLess en lst = b := ⟨_, rfl⟩
        obtain ⟨b4, d4⟩ : ∃ b, decide (200 < (ek : Int)) = b := ⟨_, rfl⟩
        have HRS3 : Hid (R = (G && !b1 && !(b3 || b2) && !b4 && riseQ true [] ers && riseE en ((L.map Enq.pl).drop (j + 1)))) := hide (by rw [HRS2.out, dec_le en.length 40, dec_le ek 200, ← d1, ← d2, ← d3, ← d4]; rfl)
        clear hG HRS2 HRS HD
        cases G
        case false =>
          have HF : Hid (R = false) := hide (by rw [HRS3.out]; simp)
          go_wp2_with (first | (go_at_call 35; refine (of_any en _).mono ?_; rintro e w2 ⟨rfl, hb2⟩) | (go_at_call 36; refine (HG.out _).mono ?_; rintro e w3 ⟨rfl, hb3⟩; have hW3 := HW1.out.trans ((hb2.trans (hb3.mono hb2.size)).mono HW1.out.size); have hB3 := HB6.out.below (hb2.trans (hb3.mono hb2.size)) HB6.out.lt; have HW3 := hide hW3; have HB3 := hide hB3; have k0 := (hB3.cell 0).trans HV.out.c0; have k2 := (hB3.cell 33).trans HV.out.cr; clear hW3 hB3 hb2 hb3))
          go_ret
          exact ⟨by rw [HF.out] <;> rfl, HW3.out⟩
        cases b1
        case true =>
          have HF : Hid (R = false) := hide (by rw [HRS3.out]; simp)
          go_wp2_with (first | (go_at_call 35; refine (of_any en _).mono ?_; rintro e w2 ⟨rfl, hb2⟩) | (go_at_call 36; refine (HG.out _).mono ?_; rintro e w3 ⟨rfl, hb3⟩; have hW3 := HW1.out.trans ((hb2.trans (hb3.mono hb2.size)).mono HW1.out.size); have hB3 := HB6.out.below (hb2.trans (hb3.mono hb2.size)) HB6.out.lt; have HW3 := hide hW3; have HB3 := hide hB3; have k0 := (hB3.cell 0).trans HV.out.c0; have k2 := (hB3.cell 33).trans HV.out.cr; clear hW3 hB3 hb2 hb3))
          go_ret
          exact ⟨by rw [HF.out] <;> rfl, HW3.out⟩
        cases b3
        case true =>
          have HF : Hid (R = false) := hide (by rw [HRS3.out]; simp)
          go_wp2_with (first | (go_at_call 35; refine (of_any en _).mono ?_; rintro e w2 ⟨rfl, hb2⟩) | (go_at_call 36; refine (HG.out _).mono ?_; rintro e w3 ⟨rfl, hb3⟩; have hW3 := HW1.out.trans ((hb2.trans (hb3.mono hb2.size)).mono HW1.out.size); have hB3 := HB6.out.below (hb2.trans (hb3.mono hb2.size)) HB6.out.lt; have HW3 := hide hW3; have HB3 := hide hB3; have k0 := (hB3.cell 0).trans HV.out.c0; have k2 := (hB3.cell 33).trans HV.out.cr; clear hW3 hB3 hb2 hb3))
          go_ret
          exact ⟨by rw [HF.out] <;> rfl, HW3.out⟩
        cases b2
        case true =>
          have HF : Hid (R = false) := hide (by rw [HRS3.out]; simp)
          obtain rfl : en = lst := eq_of_beq d2
          clear d2
          go_wp2_with (first | (go_at_call 35; refine (of_any en _).mono ?_; rintro e w2 ⟨rfl, hb2⟩) | (go_at_call 36; refine (HG.out _).mono ?_; rintro e w3 ⟨rfl, hb3⟩; have hW3 := HW1.out.trans ((hb2.trans (hb3.mono hb2.size)).mono HW1.out.size); have hB3 := HB6.out.below (hb2.trans (hb3.mono hb2.size)) HB6.out.lt; have HW3 := hide hW3; have HB3 := hide hB3; have k0 := (hB3.cell 0).trans HV.out.c0; have k2 := (hB3.cell 33).trans HV.out.cr; clear hW3 hB3 hb2 hb3))
          go_ret
          exact ⟨by rw [HF.out] <;> rfl, HW3.out⟩
        cases b4
        case true =>
          have HF : Hid (R = false) := hide (by rw [HRS3.out]; simp)
          go_wp2_with (first | (go_at_call 35; refine (of_any en _).mono ?_; rintro e w2 ⟨rfl, hb2⟩) | (go_at_call 36; refine (HG.out _).mono ?_; rintro e w3 ⟨rfl, hb3⟩; have hW3 := HW1.out.trans ((hb2.trans (hb3.mono hb2.size)).mono HW1.out.size); have hB3 := HB6.out.below (hb2.trans (hb3.mono hb2.size)) HB6.out.lt; have HW3 := hide hW3; have HB3 := hide hB3; have k0 := (hB3.cell 0).trans HV.out.c0; have k2 := (hB3.cell 33).trans HV.out.cr; clear hW3 hB3 hb2 hb3))
          go_ret
          exact ⟨by rw [HF.out] <;> rfl, HW3.out⟩
        have HRS4 : Hid (R = (riseQ true [] ers && riseE en ((L.map Enq.pl).drop (j + 1)))) := hide (by rw [HRS3.out]; simp)
        have HK200 : Hid (ek ≤ 200) := hide (by have := of_decide_eq_false d4; omega)
        clear HRS3
        go_wp2_with (first | (go_at_call 35; refine (of_any en _).mono ?_; rintro e w2 ⟨rfl, hb2⟩) | (go_at_call 36; refine (HG.out _).mono ?_; rintro e w3 ⟨rfl, hb3⟩; have hW3 := HW1.out.trans ((hb2.trans (hb3.mono hb2.size)).mono HW1.out.size); have hB3 := HB6.out.below (hb2.trans (hb3.mono hb2.size)) HB6.out.lt; have HW3 := hide hW3; have HB3 := hide hB3; have k0 := (hB3.cell 0).trans HV.out.c0; have k2 := (hB3.cell 33).trans HV.out.cr; clear hW3 hB3 hb2 hb3))
        clear d1 d2 d3 d4 k0 k2 q0 HB6 HW1 HG
        have hek : ek ≤ 200 := HK200.out
        go_loopw [46, 6] (fun i v wr => ∃ (t : Nat) (rd : List UInt8), t ≤ ek ∧ i = .int .i64 t ∧ v = S rd ∧ Hid (Below w.heap.size w wr) ∧ Hid (riseQ true [] ers = riseQ (t == 0) rd (ers.drop t))) (fun i _ _ => ek - (intOf i).toNat)
        case atStart => exact ⟨0, [], Nat.zero_le _, rfl, rfl, HW3, hide rfl⟩
        case round =>
          obtain ⟨t, rd, ht, rfl, rfl, HBT, HRT⟩ := hrel
          by_cases hltt : t < ek
          case neg =>
            obtain rfl : ek = t := by omega
            have HN : Hid (R = riseE en ((L.map Enq.pl).drop (j + 1))) := hide (by rw [HRS4.out, HRT.out, List.drop_of_length_le (by rw [HEA.out.rl]; exact Nat.le_refl _)]; simp [riseQ])
            have hjk : ¬ (ek : Int) < (ek : Int) := by omega
            go_wp2_with fail
            go_roundw
            case rel => first | exact ⟨j + 1, en, by omega, by go_num, rfl, HBT, HN⟩ | ((repeat apply Exists.intro); exact ⟨⟨j + 1, en, by omega, by go_num, rfl, HBT, HN⟩, rfl⟩)
            case measure => simp [intOf]; omega
          case pos =>
            obtain ⟨wi, rfl⟩ : ∃ wi : World, wi = wr := ⟨_, rfl⟩
            obtain ⟨b', o', hA', _, hbl', hcs'⟩ := Rd.rec_ (f := Rdq.cells) (size := 33) Rdq.cells_len (HEA.out.rr.below HBT.out) HEA.out.rl t hltt
            have hlk' : t < ers.length := by have : ers.length = ek := HEA.out.rl; omega
            have hxn : (ers[t]).n.length ≤ 9223372036854775807 := HEA.out.sr _ (List.getElem_mem hlk')
            have HD : Hid (ers.drop t = ers[t] :: ers.drop (t + 1)) := hide (List.drop_eq_getElem_cons hlk')
            generalize ers[t] = x at hcs' hxn HD
            have HV' := hide (RdV.mk_ x)
            obtain ⟨xv, hxv⟩ : ∃ xv, xv = x.cells.toArray := ⟨_, rfl⟩
            rw [← hxv] at HV'
            have HRG' : Hid (wi.rangeAt b' (o' + t * 33) xv.toList) := hide (fun i v hv => hcs' i v (by rw [hxv] at hv; simpa using hv))
            clear hxv hcs'
            obtain ⟨zr, hzr⟩ : ∃ zr, zr = ZR := ⟨_, rfl⟩
            have hzero : ∀ w, (zeroValue 87).run Try.prog w = .ok (.agg zr) w := fun w => by rw [hzr]; exact zero_rd w
            obtain ⟨w1, hw1⟩ : ∃ w1, w1 = (wi.alloc (.cells zr 87)).setCells wi.heap.size 0 xv.toList := ⟨_, rfl⟩
            have HBX := hide (box_any wi 87 zr xv (by rw [HV'.out.size, hzr]; rfl))
            rw [← hw1] at HBX
            have HZT : Hid ((wi.alloc (.cells zr 87)).there wi.heap.size 0 xv.size) := hide ((Blk.new wi 87 zr).there_ (by rw [HV'.out.size, hzr]; rfl))
            clear hzr
            replace hA' : eA = some ⟨b', o', none⟩ := hA'
            rw [hA']
            have hjk : (t : Int) < (ek : Int) := by omega
            go_upto_region 14 with (first
              | (refine wpList_load_mid rfl 87 (.tmp 49) rfl b' (o' + t * 33) rfl xv.toList _ HRG'.out Try.underlying87 rfl (by rw [Array.length_toList, HV'.out.size]; exact rd_info) ?_; rw [Array.toArray_toList])
              | (refine wpList_store_mid rfl 87 (.tmp 8) (.tmp 50) rfl wi.heap.size 0 xv rfl rfl HZT.out (by rw [HV'.out.size]; exact rd_info) HV'.out.one ?_))
            rw [← hw1]
            have HB7 : Hid (Blk w1 wi.heap.size 87 xv) := hide HBX.out.1
            have HW7 : Hid (Below w.heap.size w w1) := hide (HBT.out.trans (HBX.out.2.mono HBT.out.size))
            clear hw1 hzero HBX HZT hjk
            obtain ⟨g7, hg7⟩ : ∃ g, g = wi.heap.size := ⟨_, rfl⟩
            rw [← hg7] at HB7 ⊢
            clear hg7
            obtain ⟨xn, xd⟩ := x
            have q0 := (HB7.out.cell 0).trans HV'.out.c0
            simp only at q0 hxn
            obtain ⟨b5, d5⟩ : ∃ b, decide (40 < (xn.length : Int)) = b := ⟨_, rfl⟩
            have HRT2 : Hid (riseQ true [] ers = (!b5 && ((t == 0) || !leqB xn rd) && riseQ false xn (ers.drop (t + 1)))) := hide (by rw [HRT.out, HD.out, riseQ, dec_le xn.length 40, ← d5]; rfl)
            clear HRT HD
            cases b5
            case true =>
              have HF : Hid (R = false) := hide (by rw [HRS4.out, HRT2.out]; simp)
              go_wp2_with fail
              go_ret
              exact ⟨by rw [HF.out] <;> rfl, HW7.out⟩
            by_cases ht0 : t = 0
            case pos =>
              subst ht0
              have HQ : Hid (riseQ true [] ers = riseQ (0 + 1 == 0) xn (ers.drop (0 + 1))) := hide (by rw [HRT2.out]; simp)
              go_wp2_with fail
              go_roundw
              case rel => first | exact ⟨0 + 1, xn, by omega, by go_num, rfl, HW7, HQ⟩ | ((repeat apply Exists.intro); exact ⟨⟨0 + 1, xn, by omega, by go_num, rfl, HW7, HQ⟩, rfl⟩)
              case measure => simp [intOf]; omega
            case neg =>
              have hpos : decide (0 < (t : Int)) = true := by simp; omega
              obtain ⟨b6, d6⟩ : ∃ b, (xn == rd) = b := ⟨_, rfl⟩
              obtain ⟨b7, d7⟩ : ∃ b, Op.bytesLess xn rd = b := ⟨_, rfl⟩
              have HRT3 : Hid (riseQ true [] ers = (!(b7 || b6) && riseQ false xn (ers.drop (t + 1)))) := hide (by rw [HRT2.out, ← d6, ← d7, show (t == 0) = false by simpa using ht0]; simp [leqB])
              cases b7
              case true =>
                have HF : Hid (R = false) := hide (by rw [HRS4.out, HRT3.out]; simp)
                go_wp2_with fail
                go_ret
                exact ⟨by rw [HF.out] <;> rfl, HW7.out⟩
              cases b6
              case true =>
                have HF : Hid (R = false) := hide (by rw [HRS4.out, HRT3.out]; simp)
                obtain rfl : xn = rd := eq_of_beq d6
                clear d6
                go_wp2_with fail
                go_ret
                exact ⟨by rw [HF.out] <;> rfl, HW7.out⟩
              have HQ : Hid (riseQ true [] ers = riseQ (t + 1 == 0) xn (ers.drop (t + 1))) := hide (by rw [HRT3.out]; simp)
              go_wp2_with fail
              go_roundw
              case rel => first | exact ⟨t + 1, xn, by omega, by go_num, rfl, HW7, HQ⟩ | ((repeat apply Exists.intro); exact ⟨⟨t + 1, xn, by omega, by go_num, rfl, HW7, HQ⟩, rfl⟩)
              case measure => simp [intOf]; omega
end Go.Proofs.Ytclgiapmbmbknaa
