/- ShaHexes, walked; no statement of the seat is proved here. -/
import Derived.Test.YtdnpcpeibjckmaaShaEq
import Derived.Test.YtdnpcpeibjckmaaShaOpen
namespace Go.Proofs.Ytdnpcpeibjckmaa
open Go.RowKit

theorem dig32 : (Try.prog.info? 24).map (·.size) = some 32 := by kernel_rfl

/-- A load of a whole array, under a guard that is struck. -/
theorem wpList_load_g {P : Program} {ops : Array Oper} {rest : List Oper} {op : Oper} {a : Act} {w : World} {Q : Exit → Act → World → Prop} (ty : TypeId) (x : Operand) (ho : op.op = .load ty x) (hw : Region.wanted op (yielded ops a.tmps) = true)
    (b o : Nat) (hx : a.eval x = .pointer (some ⟨b, o, none⟩)) (cs : Array Value) (d : TypeDesc) (hc : w.rangeAt b o cs.toList)
    (hu : P.underlying ty = some d) (hd : d.isRow = true) (hi : (P.info? ty).map (·.size) = some cs.toList.length)
    (h : wpList P ops Q rest (a.put op.dst (.agg cs)) w) : wpList P ops Q (op :: rest) a w :=
  wpList_step fun K hK => by
    rw [if_pos hw]
    refine wp_load_mid ty x ho b o hx cs.toList d hc hu hd hi ?_
    rw [Array.toArray_toList]
    exact hK _ _ h
/-- A new digest, written whole. -/
theorem put_new {w : World} {t : TypeId} {cs : Array Value} (dz : Array Value) (h : dz.size = cs.size) : ∃ W, W = ((w.alloc (.cells cs t)).setCells w.heap.size 0 dz.toList) ∧ Blk W w.heap.size t dz ∧ Keep (fun _ => False) w W ∧ w.heap.size < W.heap.size := by
  have hb := (Blk.new w t cs).cells_all dz.toList (by simpa using h)
  rw [Array.toArray_toList] at hb
  exact ⟨_, rfl, hb, Keep.setCells (fun h => by omega) _ _ ((Keep.refl _ _).alloc _), hb.lt⟩
theorem put_there {w : World} {t : TypeId} {cs : Array Value} {dz : Array Value} (h : dz.size = cs.size) : (w.alloc (.cells cs t)).there w.heap.size 0 dz.size := (Blk.new w t cs).there_ h

set_option maxRecDepth 100000 in
set_option maxHeartbeats 4000000 in
theorem hexes_any (w : World) (D l : List UInt8) (hD : D.length = 32) (hl : l.length ≤ 9223372036854775807) : Calls Try.prog 7 #[.agg (darr D), S l] w (Gives w (.bool true)) := by
  have HX := fun w => hide (hex_any w D hD)
  have HP := fun w => hide (parse_any w (hexM D))
  rw [parse_hex D hD] at HP
  have HL2 : Hid ((hexM D).length = 64) := hide (by rw [hexM_len, hD])
  have HNE := fun w => hide (run_neq_darr D D hD hD w)
  obtain ⟨dz, hdz⟩ : ∃ dz, dz = darr D := ⟨_, rfl⟩
  have hsz : dz.size = 32 := by rw [hdz]; simp [darr, hD]
  have hone : dz.all (·.oneCell') = true := by rw [hdz]; simp [darr, Value.oneCell']
  simp only [← hdz] at HX HP HNE ⊢
  have HSZ : Hid (∀ _ : Unit, dz.size = 32) := hide (fun _ => hsz)
  have HON := hide hone
  generalize hexM D = H at HX HP HL2
  have HQ := fun w => hide (parse_any w l)
  have HG := hide (parse_is l)
  have HPL := hide (parse_len l)
  have HY : Hid ((parseM l).2 = true → ∀ w, Calls Try.prog 11 #[.agg (darr (parseM l).1)] w (Gives w (S l))) := hide (fun h w => by
    have := hex_any w (parseM l).1 (parse_len l)
    rwa [hex_parse l h] at this)
  have HN : Hid ((parseM l).2 = false → (parseM l).1 = Z32) := hide (parse_none l)
  generalize (parseM l).1 = pl at HQ HPL HY HN
  generalize (parseM l).2 = pb at HQ HG HY HN
  clear hdz hsz hone
  go_enter Try.func7, Try.ntmps7
  by_cases hlong : l.length ≤ 100
  · go_upto_region 5 with (first | (go_at_call 8; refine (head_any _).mono ?_; rintro e w1 ⟨rfl, hb1⟩; have HB1 := hide hb1; clear hb1))
    have hb0 : Blk w1 w.heap.size 24 dz := (Blk.new w 24 dz).below HB1.out (by simp)
    have K1 := hide (((Below.refl _ _).alloc (Nat.le_refl _) (.cells dz 24)).trans (HB1.out.mono (by simp)))
    have HR1 := hide hb0.range
    have H0 := hide hb0
    clear HB1 hb0
    have LD : ∀ {g : Nat} {wr : World} {cs : Array Value}, cs.size = 32 → (Try.prog.info? 24).map (·.size) = some cs.toList.length := fun h => by rw [Array.length_toList, h]; exact dig32
    have HLD := fun (cs : Array Value) (h : cs.size = 32) => hide (show (Try.prog.info? 24).map (·.size) = some cs.toList.length by rw [Array.length_toList, h]; exact dig32)
    have HLS := fun (cs : Array Value) (h : cs.size = 32) => hide (show (Try.prog.info? 24).map (·.size) = some cs.size by rw [h]; exact dig32)
    clear LD
    go_upto_region 6 with (first | (refine wpList_load_mid rfl 24 (.tmp 2) rfl w.heap.size 0 rfl dz.toList _ HR1.out Try.underlying24 rfl (HLD dz (HSZ.out ())).out ?_; rw [Array.toArray_toList]) | (go_at_call 11; (refine (HX _).out.mono ?_); rintro e w2 ⟨rfl, hb2⟩; have HB2 := hide hb2; clear hb2))
    have H1 := hide (H0.out.below HB2.out H0.out.lt)
    have K2 := hide (K1.out.trans (HB2.out.mono K1.out.size))
    clear H0 K1 HR1 HB2
    go_upto_region 7 with (first | (go_at_call 12; (refine (HP _).out.mono ?_); rintro e w3 ⟨rfl, hb3⟩; have HB3 := hide hb3; clear hb3) | (refine wpList_store_mid rfl 24 (.tmp 6) (.tmp 22) rfl w3.heap.size 0 dz rfl rfl (put_there (cs := ZC) (HSZ.out ())) (HLS dz (HSZ.out ())).out HON.out ?_; obtain ⟨W, hW, h0, hk, hs⟩ := put_new (w := w3) (t := 24) (cs := ZC) dz (HSZ.out ()); refine wpList_world (w' := W) hW ?_; have HW0 := hide h0; have HWK := hide hk; clear hW h0 hk))
    have H6 := hide HW0.out.range
    have hBW : Blk W w.heap.size 24 dz := (H1.out.below HB3.out H1.out.lt).keep HWK.out (fun h => h)
    have H2 := hide hBW.range
    have hne : ∀ w, (binOp .neq 24 (.agg dz) (.agg dz)).run Try.prog w = .ok (.bool false) w := fun w => by
      have := (HNE w).out
      rwa [show (D != D) = false by simp] at this
    have hHl : H.length = 64 := HL2.out
    have K4 : Hid (Below w.heap.size w W) := hide ((K2.out.trans (HB3.out.mono K2.out.size)).trans (Keep.below (HWK.out.mono (G := fun k => w.heap.size ≤ k) (fun _ _ h => h.elim)) (Nat.le_trans K2.out.size HB3.out.size) (fun _ h => h)))
    clear hBW H1 HB3 HW0 HWK K2
    go_upto_region 9 with (first | (refine wpList_load_g 24 (.tmp 6) rfl rfl w3.heap.size 0 rfl dz _ H6.out Try.underlying24 rfl (HLD dz (HSZ.out ())).out ?_) | (refine wpList_load_g 24 (.tmp 2) rfl rfl w.heap.size 0 rfl dz _ H2.out Try.underlying24 rfl (HLD dz (HSZ.out ())).out ?_))
    clear H6 H2 hne hHl HX HP HL2 HNE
    obtain ⟨gl, hgl⟩ : ∃ gl, ((l.length : Int) == 64) = gl := ⟨_, rfl⟩
    have HGL := hide hgl
    go_upto_region 10 with fail
    clear hgl
    go_wp2_with fail
    go_loopw [8, 9] (fun g i wr => ∃ k : Nat, k ≤ l.length ∧ i = .int .i64 (k : Int) ∧ g = .bool (gl && (l.take k).all goodB) ∧ wr = W) (fun _ i _ => l.length - (intOf i).toNat)
    case atStart => exact ⟨0, by omega, rfl, by simp, rfl⟩
    case round =>
      obtain ⟨k, hk, rfl, rfl, hw⟩ := hrel
      have HW := hide hw
      clear hw
      by_cases hlt : k < l.length
      · obtain ⟨c, hc⟩ : ∃ c, c = l.getD k 0 := ⟨_, rfl⟩
        have hix : ∀ w, (Instr.index 9 (S l) (.int .i64 (k : Int))).run Try.prog w = .ok (B8 c) w := fun w => run_index_str Try.underlying9 .i64 l k _ (by simp [hlt, hc]) w
        have HS : Hid (∀ _ : Unit, (gl && (l.take (k + 1)).all goodB) = ((gl && (l.take k).all goodB) && goodB c)) := hide (fun _ => by
          rw [List.take_succ_eq_append_getElem hlt, List.all_append, hc]
          simp [hlt, Bool.and_assoc])
        generalize (gl && (l.take k).all goodB) = g at HS ⊢
        clear hc
        have hcl := c.toNat_lt
        cases g
        · go_wp2_with fail
          go_roundw
          case rel => exact ⟨k + 1, by omega, by go_num, by rw [HS.out ()]; rfl, HW.out⟩
          case measure => simp [intOf]; omega
        · by_cases hdg : 48 ≤ c.toNat ∧ c.toNat ≤ 57
          · obtain ⟨h1, h2⟩ := hdg
            have HG1 : Hid (goodB c = true) := hide (by simp [goodB, digB, h1, h2])
            go_wp2_with fail
            go_roundw
            case rel => exact ⟨k + 1, by omega, by go_num, by rw [HS.out (), HG1.out]; rfl, HW.out⟩
            case measure => simp [intOf]; omega
          · by_cases hlo : 97 ≤ c.toNat ∧ c.toNat ≤ 102
            · obtain ⟨h1, h2⟩ := hlo
              clear hdg
              have t1 : decide ((c.toNat : Int) ≤ 57) = false := by simp; omega
              have t2 : decide (48 ≤ (c.toNat : Int)) = true := by simp; omega
              have HG1 : Hid (goodB c = true) := hide (by simp [goodB, lowB, h1, h2])
              have t3 : decide (97 ≤ (c.toNat : Int)) = true := by simp; omega
              have t4 : decide ((c.toNat : Int) ≤ 102) = true := by simp; omega
              go_wp2_with fail
              go_roundw
              case rel => exact ⟨k + 1, by omega, by go_num, by rw [HS.out (), HG1.out]; rfl, HW.out⟩
              case measure => simp [intOf]; omega
            · have HG1 : Hid (goodB c = false) := hide (by unfold goodB lowB digB; rw [Bool.or_eq_false_iff, Bool.and_eq_false_iff, Bool.and_eq_false_iff]; simp only [decide_eq_false_iff_not]; omega)
              have hd2 : decide (48 ≤ (c.toNat : Int)) = false ∨ (decide (48 ≤ (c.toNat : Int)) = true ∧ decide ((c.toNat : Int) ≤ 57) = false) := by simp only [decide_eq_false_iff_not, decide_eq_true_eq]; omega
              have hl2 : decide (97 ≤ (c.toNat : Int)) = false ∨ (decide (97 ≤ (c.toNat : Int)) = true ∧ decide ((c.toNat : Int) ≤ 102) = false) := by simp only [decide_eq_false_iff_not, decide_eq_true_eq]; omega
              clear hdg hlo
              rcases hd2 with t1 | ⟨t1, t2⟩ <;> rcases hl2 with t3 | ⟨t3, t4⟩
              all_goals
                go_wp2_with fail
                go_roundw
                case rel => exact ⟨k + 1, by omega, by go_num, by rw [HS.out (), HG1.out]; rfl, HW.out⟩
                case measure => simp [intOf]; omega
      · obtain rfl : k = l.length := by omega
        rw [List.take_length]
        have hpb : (gl && l.all goodB) = pb := by
          rw [HG.out, ← HGL.out]
          congr 1
          rw [Bool.eq_iff_iff]
          simp
          omega
        rw [hpb]
        clear hpb HGL hk hlt
        have HKW : Hid (Below w.heap.size w wr) := hide (by rw [HW.out]; exact K4.out)
        clear HW K4
        obtain ⟨pz, hpz⟩ : ∃ pz, pz = darr pl := ⟨_, rfl⟩
        rw [← hpz] at HQ HY
        have hsz : pz.size = 32 := by rw [hpz]; simp [darr, HPL.out]
        have hone : pz.all (·.oneCell') = true := by rw [hpz]; simp [darr, Value.oneCell']
        have HSP : Hid (∀ _ : Unit, pz.size = 32) := hide (fun _ => hsz)
        have HOP := hide hone
        have HPZ : Hid (∀ _ : Unit, pz = darr pl) := hide (fun _ => hpz)
        clear hpz hsz hone
        go_upto_region 15 with (first | (go_at_call 12; (refine (HQ _).out.mono ?_); rintro e w5 ⟨rfl, hb5⟩; have HB5 := hide hb5; clear hb5) | (refine wpList_store_mid rfl 24 (.tmp 10) (.tmp 73) rfl w5.heap.size 0 pz rfl rfl (put_there (cs := ZC) (HSP.out ())) (HLS pz (HSP.out ())).out HOP.out ?_; obtain ⟨W2, hW2, h0, hk, hs2⟩ := put_new (w := w5) (t := 24) (cs := ZC) pz (HSP.out ()); refine wpList_world (w' := W2) hW2 ?_; have HW0 := hide h0; have HWK := hide hk; clear hW2 h0 hk))
        have HRG := hide HW0.out.range
        have K5 : Hid (Below w.heap.size w W2) := hide ((HKW.out.trans (HB5.out.mono HKW.out.size)).trans (Keep.below (HWK.out.mono (G := fun k => w.heap.size ≤ k) (fun _ _ h => h.elim)) (Nat.le_trans HKW.out.size HB5.out.size) (fun _ h => h)))
        clear HW0 HB5 HKW HWK
        cases pb
        · have heq : ∀ w, (binOp .eql 24 (.agg pz) (.agg ZC)).run Try.prog w = .ok (.bool true) w := fun w => by
            have := run_eql_darr pl Z32 HPL.out rfl w
            rw [HN.out rfl] at this
            rw [HPZ.out (), HN.out rfl, ZC_is]
            exact this
          simp only [ZC] at heq
          go_wp2_with (refine wpList_load_g 24 (.tmp 10) rfl rfl w5.heap.size 0 rfl pz _ HRG.out Try.underlying24 rfl (HLD pz (HSP.out ())).out ?_)
          go_ret
          exact ⟨rfl, K5.out⟩
        · go_wp2_with (first | (refine wpList_load_g 24 (.tmp 10) rfl rfl w5.heap.size 0 rfl pz _ HRG.out Try.underlying24 rfl (HLD pz (HSP.out ())).out ?_) | (go_at_call 11; (refine (HY.out rfl _).mono ?_); rintro e w6 ⟨rfl, hb6⟩; have HB6 := hide hb6; clear hb6))
          go_ret
          exact ⟨by simp, K5.out.trans (HB6.out.mono K5.out.size)⟩
  · go_wp2_with (first | (go_at_call 8; refine (head_any _).mono ?_; rintro e w1 ⟨rfl, hb1⟩; have HB1 := hide hb1; clear hb1))
    go_ret
    exact ⟨rfl, ((Below.refl _ _).alloc (Nat.le_refl _) _).trans (HB1.out.mono (by simp))⟩
end Go.Proofs.Ytdnpcpeibjckmaa
