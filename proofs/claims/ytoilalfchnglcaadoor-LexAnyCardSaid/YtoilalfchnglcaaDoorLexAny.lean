/- Whatever text: its tokens stand where they say: the law's walk; no statement of the seat is proved here. -/
import Derived.Test.YtoilalfchnglcaaDoorLexAnyL
import Derived.Test.YtoilalfchnglcaaDoorLexAgain
namespace Go.Proofs.YtoilalfchnglcaaDoor
open Go.RowKit

theorem int_info : (Tryd.prog.info? 3).map (fun i => (i.zero, i.size, i.bytes)) = some (some (.int .i64 0), 1, 8) := by kernel_rfl
theorem lexM_count {s : List UInt8} {ts : List (Tk × Nat)} (hs : s.length ≤ 600) (h : lexM s = .ok ts) : ts.length ≤ 1201 := by
  rw [lexM, if_neg (by omega)] at h
  have hal := again_len _ _ _ _ h
  have h2 : ∀ ts : List (Tk × Nat), ts.length ≤ (againL ts).length := by
    intro ts
    induction ts with
    | nil => simp
    | cons t ts ih => rw [againL_cons]; simp; omega
  have := h2 ts
  omega
def I6 (n : Nat) : Value := .int .i64 (n : Int)

set_option maxRecDepth 100000 in
set_option maxHeartbeats 8000000 in
theorem lexany_any (s : List UInt8) (hsl : s.length ≤ maxLen) (w : World) (hm : Laid w) : Calls Tryd.prog 3 #[S s] w (Gives w (.bool true)) := by
  unfold maxLen at hsl
  have HH := hide (head_any w hm)
  have HM := hide hm
  clear hm
  by_cases hs6 : 600 < s.length
  · have d : decide (600 < (s.length : Int)) = true := by simp; omega
    go_enter Tryd.func3, Tryd.ntmps3
    go_wp2_with (go_at_call 9; refine HH.out.mono ?_; rintro e w1 ⟨rfl, hb1⟩)
    go_ret
    exact ⟨rfl, hb1⟩
  have ds : decide (600 < (s.length : Int)) = false := by simp; omega
  have hs : s.length ≤ 600 := by omega
  cases hl : lexM s with
  | error e =>
    obtain ⟨er, p⟩ := e
    obtain ⟨he, _⟩ := lexM_err (by omega) hl
    have HL := hide hl
    clear hl
    have hps := pos_le s p
    have HA := fun w' (h : Below w.heap.size w w') => hide (all_err (w := w') (s := s) (by omega) (HM.out.below h (Nat.le_refl _)) HL.out)
    generalize pos s p = q at hps HA
    obtain ⟨q1, q2⟩ := q
    simp only at hps HA
    have hd1 : decide ((1 : Int) ≤ (q1 : Int)) = true := by simp; omega
    have hd2 : decide ((1 : Int) ≤ (q2 : Int)) = true := by simp; omega
    clear hps
    rcases he with rfl | rfl | rfl
    all_goals
      go_enter Tryd.func3, Tryd.ntmps3
      go_upto_region 5 with (go_at_call 9; refine HH.out.mono ?_; rintro e w1 ⟨rfl, hb1⟩)
      have HB1 := hide hb1
      clear hb1
      have HA1 := hide (HA _ HB1.out).out
      go_upto_region 6 with (go_at_call 10; refine HA1.out.mono ?_; rintro e v1 ⟨hb1, rfl⟩)
      refine name_world ?_
      intro w4 hw4
      have HB4 : Hid (Below w.heap.size w w4) := hide (by rw [hw4]; exact (HB1.out.trans (hb1.mono HB1.out.size)).alloc (Nat.le_trans HB1.out.size hb1.size) _)
      have HF1 : Hid (Blk w4 v1.heap.size 28 #[.int .i64 _, .int .i64 q1, .int .i64 q2]) := hide (by rw [hw4]; exact Blk.new _ _ _)
      clear hw4 hb1 HA1 HB1
      generalize v1.heap.size = g1 at HF1 ⊢
      have z0 := HF1.out.cell 0
      have z1 := HF1.out.cell 1
      have z2 := HF1.out.cell 2
      simp at z0 z1 z2
      go_wp2_with fail
      go_ret
      exact ⟨rfl, HB4.out⟩
  | ok ts =>
    have HL := hide hl
    have HTK : Hid (∀ i (hi : i < ts.length), TokAt s (lastN 0 ts i) ts[i] (i + 1 = ts.length)) := hide (fun i hi => lexM_tok hl (by omega) i hi)
    have hn := lexM_count hs hl
    clear hl
    go_enter Tryd.func3, Tryd.ntmps3
    go_upto_region 5 with (go_at_call 9; refine HH.out.mono ?_; rintro e w1 ⟨rfl, hb1⟩)
    have HA := hide (all_ok (w := w1) (s := s) (by omega) (HM.out.below hb1 (Nat.le_refl _)) HL.out)
    have HB1 := hide hb1
    clear hb1 HH
    go_upto_region 6 with (go_at_call 10; refine HA.out.mono ?_; rintro e v2 ⟨hb2, A, c, rfl, hr2⟩)
    refine name_world ?_
    intro w4 hw4
    have HB4 : Hid (Below w.heap.size w w4) := hide (by rw [hw4]; exact (HB1.out.trans (hb2.mono HB1.out.size)).alloc (Nat.le_trans HB1.out.size hb2.size) _)
    have HR : Hid (Rd w4 (fun k => k < w1.heap.size) 5 A ts.length (ts.flatMap (tkL s))) := hide (by rw [hw4]; exact hr2.alloc _)
    have hF2 : Blk w4 v2.heap.size 28 #[.int .i64 0, .int .i64 0, .int .i64 0] := by rw [hw4]; exact Blk.new _ _ _
    have f0 := hF2.cell 0
    simp at f0
    clear hw4 hb2 hr2 HA hF2
    go_upto_region 10 with fail
    go_wp2_with fail
    go_loopw [5, 6] (fun v i wr => ∃ (k : Nat) (A : Option Addr) (c : Nat), k ≤ s.length ∧ v = .slice A (stN s k).length c ∧ i = .int .i64 (k : Int) ∧ Hid (Below w4.heap.size w4 wr) ∧ Hid (wr.ownsRow w4.heap.size 3 1 (.slice A (stN s k).length c) (stN s k).length ((stN s k).map I6))) (fun _ i _ => s.length - (intOf i).toNat)
    case atStart => exact ⟨0, _, _, by omega, rfl, rfl, hide ((Below.refl _ _).alloc (Nat.le_refl _) _), hide (World.ownsRow_lit w4 #[.int .i64 0] 1 (Nat.le_refl _) (by decide) rfl)⟩
    case round =>
      obtain ⟨k, B, c2, hk, rfl, rfl, HBR, HO⟩ := hrel
      by_cases hlt : k < s.length
      · obtain ⟨ch, hc⟩ : ∃ ch, s[k]? = some ch := ⟨_, List.getElem?_eq_getElem hlt⟩
        have hix : ∀ w, (Instr.index 9 (S s) (.int .i64 (k : Int))).run Tryd.prog w = .ok (B8 ch) w := fun w => run_index_str (P := Tryd.prog) Tryd.underlying9 .i64 s k ch hc w
        have hsl2 := (stN_len s k).2
        by_cases h10 : ch = 10
        · subst h10
          have HST : Hid (stN s (k + 1) = stN s k ++ [k + 1]) := hide (by rw [stN, hc, if_pos rfl])
          clear hc
          generalize stN s k = L at HO hsl2 HST ⊢
          have hown := HO.out
          have hbw := HBR.out.size
          go_wp2_with (at_builtin; refine app1 rfl (.tmp 66) (.tmp 69) 31 rfl w4.heap.size 3 (.int .i64 0) 8 Tryd.underlying31 int_info rfl (.slice B L.length c2) L.length (L.map I6) rfl hown (I6 (k + 1)) rfl rfl (by omega) (by omega) hbw ?_)
          intro a3 c3 w3 hown3 hg3 _
          have HB3 : Hid (Below w4.heap.size w4 w3) := hide (HBR.out.grown hg3 (by omega) (fun k hk => (HO.out.lt k hk).1))
          have HO3 := hide hown3
          clear hg3 hown hown3
          go_wp2_with fail
          go_roundw
          case rel => exact ⟨k + 1, a3, c3, by omega, by rw [HST.out]; simp, by go_num, HB3, hide (by rw [HST.out, List.map_append]; simpa using HO3.out)⟩
          case measure => simp [intOf]; omega
        · have HST : Hid (stN s (k + 1) = stN s k) := hide (by rw [stN, hc, if_neg (by simp [h10])])
          have hne := u8_ne (d := 10) h10
          simp only [show ((10 : UInt8).toNat : Int) = 10 from rfl] at hne
          go_wp2_with fail
          go_roundw
          case rel => exact ⟨k + 1, B, c2, by omega, by rw [HST.out], by go_num, HBR, hide (by rw [HST.out]; exact HO.out)⟩
          case measure => simp [intOf]; omega
      · obtain rfl : k = s.length := by omega
        obtain ⟨g, rfl, HC⟩ : ∃ g, B = some ⟨g, 0, none⟩ ∧ Hid (∀ (j x : Nat), (stN s s.length)[j]? = some x → wr.cell? ⟨g, j, none⟩ = some (I6 x)) := by
          rcases HO.out.2 with ⟨_, h0⟩ | ⟨g, cap, cur, hv, _⟩
          · have := (stN_len s s.length).1; omega
          · injection hv with e1 e2 e3
            subst e1
            exact ⟨g, rfl, hide (fun j x hx => by
              have hj := (List.getElem?_eq_some_iff.1 hx).1
              rw [HO.out.cellAt j (by omega), List.getElem?_map, hx]; rfl)⟩
        have HGL : Hid (g < wr.heap.size) := hide (HO.out.lt g rfl).2
        have HST := hide (fun n h => st_at s n h)
        have hsl2 := (stN_len s s.length).2
        clear HO
        generalize stN s s.length = L at HC HST hsl2 ⊢
        have HR2 := hide (HR.out.keep (Keep.of_below (F := fun k => k < w1.heap.size) HBR.out (fun k h1 h2 => absurd h1 (by omega))))
        have HBW : Hid (Below w.heap.size w wr) := hide (HB4.out.trans (HBR.out.mono HB4.out.size))
        clear HR HBR HB4
        obtain ⟨wo, hwo⟩ : ∃ wo : World, wo = wr := ⟨_, rfl⟩
        subst hwo
        go_upto_region 16 with fail
        go_wp2_with fail
        go_loopw [7, 73] (fun v i wr => ∃ k : Nat, k ≤ ts.length ∧ v = .int .i64 (lastN 0 ts k : Nat) ∧ i = .int .i64 (k : Int) ∧ Hid (Below wo.heap.size wo wr)) (fun _ i _ => ts.length - (intOf i).toNat)
        case atStart => exact ⟨0, by omega, rfl, rfl, hide (Below.refl _ _)⟩
        case round =>
          obtain ⟨k, hk, rfl, rfl, HBR⟩ := hrel
          by_cases hlt : k < ts.length
          · obtain ⟨b, o, rfl, _, _, c0, c1, c2, c3, c4⟩ := rd_tok (HR2.out.keep (Keep.of_below (F := fun k => k < w1.heap.size) HBR.out (fun k h1 h2 => absurd h1 (by omega)))) k hlt
            obtain ⟨hle, hfit, htx, hskip, hk0, hend, hword, hne⟩ := HTK.out k hlt
            have HLS := hide (lastN_succ 0 ts k hlt)
            generalize ts[k] = t at c0 c1 c2 c3 c4 hle hfit htx hskip hk0 hend hword hne HLS
            obtain ⟨⟨tk, tx, tn⟩, ta⟩ := t
            simp only at c0 c1 c2 c3 c4 hle hfit htx hskip hk0 hend hword hne HLS
            obtain ⟨hp1, hp2, x, hx, hxa⟩ := HST.out ta (by omega)
            generalize pos s ta = q at c3 c4 hp1 hp2 hx hxa
            obtain ⟨q1, q2⟩ := q
            simp only at c3 c4 hp1 hp2 hx hxa
            generalize lastN 0 ts k = la at hle hskip ⊢
            go_upto_region 18 with fail
            refine name_world ?_
            intro wB hwB
            have HBB : Hid (Below wo.heap.size wo wB) := hide (by rw [hwB]; exact HBR.out.alloc HBR.out.size _)
            have HT : Hid (Blk wB wr.heap.size 34 #[.int .i64 (tk : Int), S tx, .int .i64 tn, .int .i64 (q1 : Int), .int .i64 (q2 : Int)]) := hide (by rw [hwB]; exact Blk.new _ _ _)
            have hst : wB.cell? ⟨g, q1 - 1, none⟩ = some (I6 x) := by
              rw [HBB.out.cell (p := ⟨g, q1 - 1, none⟩) HGL.out]
              exact HC.out _ _ hx
            clear hwB c0 c1 c2 c3 c4 HBR
            generalize wr.heap.size = h at HT ⊢
            have c0 := HT.out.cell 0
            have c1 := HT.out.cell 1
            have c3 := HT.out.cell 3
            have c4 := HT.out.cell 4
            simp at c0 c1 c3 c4
            have hd1 : decide ((q1 : Int) < 1) = false := by simp; omega
            have hd2 : decide ((L.length : Int) < (q1 : Int)) = false := by simp; omega
            go_upto_region 20 with fail
            have hqi : (q1 : Int) - 1 = ((q1 - 1 : Nat) : Int) := by omega
            have hxi : (x : Int) + (q2 : Int) - 1 = (ta : Int) := by omega
            clear hd1 hd2 f0
            unfold I6 at hst
            go_quiet (fail)
            go_upto_region 21 with fail
            clear hst hqi hxi
            obtain ⟨z, hz1, hz2, hz3⟩ : ∃ z : Bool, ((tk : Int) == 0) = z ∧ ((k : Int) == (ts.length : Int) - 1) = z ∧ (z = true ↔ tk = 0) := by
              by_cases h0 : tk = 0
              · have := hk0.1 h0
                exact ⟨true, by simp; omega, by simp; omega, by simp [h0]⟩
              · have := fun h => h0 (hk0.2 h)
                exact ⟨false, by simp; omega, by simp; omega, by simp [h0]⟩
            have HZ := hide hz3
            have HN := hide hne
            have HE := hide hend
            have HW := hide hword
            have HS := hide hskip
            clear hk0 hend hword hne hskip hz3
            have hd1 : ¬ ta < la := by omega
            have hd2 : decide ((s.length : Int) < (ta : Int) + (tx.length : Int)) = false := by simp; omega
            go_quiet (fail)
            go_upto_region 23 with fail
            refine name_world ?_
            intro wX hwX
            have HBX : Hid (Below wo.heap.size wo wX) := hide (by rw [hwX]; first | exact bdrewN HBB.out _ | exact bdrewN (bdrewN HBB.out _) _)
            have HT2 : Hid (Blk wX h 34 #[.int .i64 (tk : Int), S tx, .int .i64 tn, .int .i64 (q1 : Int), .int .i64 (q2 : Int)]) := hide (by rw [hwX]; first | exact HT.out.drewN _ | exact (HT.out.drewN _).drewN _)
            clear hwX c0 c1 c3 c4 hd1 hd2 hz2 HT htx
            have t0 : ∀ t : After wX, t.val.cell? ⟨h, 0, none⟩ = some (.int .i64 (tk : Int)) := fun t => (HT2.out.below t.prop HT2.out.lt).cell 0
            have t1 : ∀ t : After wX, t.val.cell? ⟨h, 1, none⟩ = some (S tx) := fun t => (HT2.out.below t.prop HT2.out.lt).cell 1
            obtain ⟨y, hy1, hy2⟩ : ∃ y : Bool, ((tk : Int) == 1) = y ∧ wordsL.contains tx = y := by
              refine ⟨_, ?_, rfl⟩
              cases hcw : wordsL.contains tx with
              | true => have := HW.out.2 hcw; simp; omega
              | false =>
                have : tk ≠ 1 := fun h => by have := HW.out.1 h; rw [hcw] at this; cases this
                simp; omega
            have HWD : ∀ w, Hid (Calls Tryd.prog 11 #[S tx] w (Gives w (.bool y))) := fun w => hide (by have := word_any tx w; rw [hy2] at this; exact this)
            clear hy2
            have hz4 : ((tk : Int) != 0) = !z := by rw [bne, hz1]
            have hta : z = true → ((ta : Int) != (s.length : Int)) = false := fun h => by have := HE.out (HZ.out.1 h); simp; omega
            have htn : z = false → (tx == []) = false := fun h => by
              have := HN.out (fun h2 => by have := HZ.out.2 h2; rw [h] at this; cases this)
              cases tx with
              | nil => exact absurd rfl this
              | cons _ _ => rfl
            cases z
            case' true => have hta' := hta rfl
            case' false => have htn' := htn rfl
            all_goals
              clear hta htn
              refine region_after (by kernel_rfl) (by kernel_rfl) ?_
              repeat (go_big_quiet_step ((go_at_call 11; with_reducible refine call_after (HWD _).out)))
              refine wpQuiet_nil ?_
              rintro _ ⟨t, rfl⟩
              obtain ⟨wB, hwB⟩ : ∃ wB, wB = t.val := ⟨_, rfl⟩
              have HBB : Hid (Below wo.heap.size wo wB) := hide (by rw [hwB]; exact HBX.out.trans (t.prop.mono HBX.out.size))
              have t1' := t1 t
              rw [← hwB] at t1' ⊢
              clear hwB t1 t0 hz1 hz4 hy1
              go_upto_region 26 with fail
              go_wp2_with fail
              go_loopw [11] (fun v wx => ∃ m : Nat, v = .int .i64 (m : Int) ∧ wx = wB ∧ ((m ≤ ta ∧ Hid (skipR false (s.drop m) = s.drop ta)) ∨ m = ta + 1)) (fun v _ => ta + 1 - (intOf v).toNat)
              case atStart => exact ⟨la, rfl, rfl, .inl ⟨hle, HS⟩⟩
              case round =>
                obtain ⟨m, rfl, hw, hor⟩ := hrel
                subst hw
                by_cases hlt2 : m < ta
                · have HG : Hid (skipR false (s.drop m) = s.drop ta) := hor.elim (fun h => h.2) (fun h => by omega)
                  obtain ⟨ch, hc⟩ : ∃ ch, s[m]? = some ch := ⟨_, List.getElem?_eq_getElem (by omega)⟩
                  have hix : ∀ w, (Instr.index 9 (S s) (.int .i64 (m : Int))).run Tryd.prog w = .ok (B8 ch) w := fun w => run_index_str (P := Tryd.prog) Tryd.underlying9 .i64 s m ch hc w
                  rcases gap_step hlt2 (by omega) hc HG.out with ⟨rfl, hm1, hc1, hsk⟩ | ⟨_, hbl, hsk⟩
                  · have hix1 : ∀ w, (Instr.index 9 (S s) (.int .i64 ((m : Int) + 1))).run Tryd.prog w = .ok (B8 47) w := fun w => run_index_str (P := Tryd.prog) Tryd.underlying9 .i64 s (m + 1) 47 hc1 w
                    have hd : (m : Int) + 1 < (ta : Int) := by omega
                    have HSK := hide hsk
                    clear hor HG hc hc1 hsk
                    go_wp2_with fail
                    go_loopw [11] (fun v wx => ∃ j : Nat, v = .int .i64 (j : Int) ∧ wx = wr ∧ m ≤ j ∧ j ≤ ta ∧ Hid (skipR true (s.drop j) = s.drop ta)) (fun v _ => ta - (intOf v).toNat)
                    case atStart => exact ⟨m, rfl, rfl, by omega, by omega, HSK⟩
                    case round =>
                      obtain ⟨j, rfl, hw, hmj, hj, HJ⟩ := hrel
                      subst hw
                      clear hix hix1
                      by_cases hlt3 : j < ta
                      · obtain ⟨ch, hc⟩ : ∃ ch, s[j]? = some ch := ⟨_, List.getElem?_eq_getElem (by omega)⟩
                        have hix : ∀ w, (Instr.index 9 (S s) (.int .i64 (j : Int))).run Tryd.prog w = .ok (B8 ch) w := fun w => run_index_str (P := Tryd.prog) Tryd.underlying9 .i64 s j ch hc w
                        obtain ⟨hr1, hr2⟩ := rem_step hc HJ.out
                        have HR1 := hide hr1
                        have HR3 := hide hr2
                        clear hr1 hr2 hc
                        by_cases h10 : ch = 10
                        · subst h10
                          go_wp2_with fail
                          go_roundw
                          case rel => exact ⟨j + 1, by go_num, trivial, .inl ⟨by omega, hide (HR1.out rfl)⟩⟩
                          case measure => simp [intOf]; omega
                        · have hne := u8_ne (d := 10) h10
                          simp only [show ((10 : UInt8).toNat : Int) = 10 from rfl] at hne
                          go_wp2_with fail
                          go_roundw
                          case rel => exact ⟨j + 1, by go_num, trivial, by omega, by omega, hide (HR3.out h10)⟩
                          case measure => simp [intOf]; omega
                      · obtain rfl : j = ta := by omega
                        go_wp2_with fail
                        go_roundw
                        case rel => exact ⟨j + 1, by go_num, trivial, .inr rfl⟩
                        case measure => simp [intOf]; omega
                  · have HSK := hide hsk
                    clear hor HG hc hsk
                    simp only [blankB, Bool.or_eq_true, beq_iff_eq] at hbl
                    rcases hbl with ((rfl | rfl) | rfl) | rfl
                    all_goals
                      go_wp2_with fail
                      go_roundw
                      case rel => exact ⟨m + 1, by go_num, trivial, .inl ⟨by omega, HSK⟩⟩
                      case measure => simp [intOf]; omega
                · go_wp2_with fail
                  go_roundw
                  case rel => exact ⟨k + 1, by omega, by rw [HLS.out]; simp, by go_num, HBB⟩
                  case measure => simp [intOf]; omega
          · go_wp2_with fail
            go_ret
            exact ⟨rfl, HBW.out.trans (HBR.out.mono HBW.out.size)⟩
end Go.Proofs.YtoilalfchnglcaaDoor
