/- Marks, alone and two with a blank between: the law's walk; no statement of the seat is proved here. -/
import Derived.Test.YtoilalfchnglcaaDoorLexMarkT
import Derived.Test.YtoilalfchnglcaaDoorLexLaid2
namespace Go.Proofs.YtoilalfchnglcaaDoor
open Go.RowKit

set_option maxRecDepth 100000 in
set_option maxHeartbeats 4000000 in
theorem lexmarks_any (n1 n2 : Int) (w : World) (hm : Laid w) : Calls Tryd.prog 8 #[.int .i64 n1, .int .i64 n2] w (Gives w (.bool true)) := by
  have HH := hide (head_any w hm)
  have HM := hide hm
  clear hm
  obtain ⟨i, hi, ht1⟩ := text_mark n1
  obtain ⟨j, hj, ht2⟩ := text_mark n2
  have HT1 := fun w => hide (ht1 w)
  have HT2 := fun w => hide (ht2 w)
  clear ht1 ht2
  have hL := okB_iff (marks_law ⟨i, hi⟩ ⟨j, hj⟩)
  have hP := marks_pos ⟨i, hi⟩ ⟨j, hj⟩
  have hx := marks_len ⟨i, hi⟩
  have hy := marks_len ⟨j, hj⟩
  simp only [List.append_assoc, List.singleton_append] at hL hP hx hy
  have HL := hide (fun _ : Unit => hL)
  have HP := hide (fun _ : Unit => hP)
  clear hL hP
  generalize markOf i = x at HL HP hx HT1
  generalize markOf j = y at HL HP hy HT2
  clear hi hj
  have HXL := hide hx
  have HYL := hide hy
  go_enter Tryd.func8, Tryd.ntmps8
  go_upto_region 3 with (go_at_call 9; refine HH.out.mono ?_; rintro e w1 ⟨rfl, hb1⟩)
  have HB1 := hide hb1
  clear HH hb1
  go_upto_region 4 with (go_at_call 13; refine (HT1 _).out.mono ?_; rintro e w2 ⟨rfl, hb2⟩)
  have HB2 : Hid (Below w.heap.size w w2) := hide (HB1.out.trans (hb2.mono HB1.out.size))
  clear hb2 HB1 HT1
  go_upto_region 5 with (go_at_call 13; refine (HT2 _).out.mono ?_; rintro e w3 ⟨rfl, hb3⟩)
  have HB3 : Hid (Below w.heap.size w w3) := hide (HB2.out.trans (hb3.mono HB2.out.size))
  clear hb3 HB2 HT2
  have HA := hide (all_ok (w := w3) (s := x ++ 32 :: y) (by simp; omega) (HM.out.below HB3.out (Nat.le_refl _)) (HL.out ()))
  go_upto_region 6 with (go_at_call 10; refine HA.out.mono ?_; rintro e v1 ⟨hb1, A1, k1, rfl, hr1⟩)
  refine name_world ?_
  intro w4 hw4
  have HB4 : Hid (Below w.heap.size w w4) := hide (by rw [hw4]; exact (HB3.out.trans (hb1.mono HB3.out.size)).alloc (Nat.le_trans HB3.out.size hb1.size) _)
  have HR1 : Hid (Rd w4 (fun k => k < w3.heap.size) 5 A1 3 _) := hide (by rw [hw4]; exact hr1.alloc _)
  have HF1 : Hid (Blk w4 v1.heap.size 28 #[.int .i64 0, .int .i64 0, .int .i64 0]) := hide (by rw [hw4]; exact Blk.new _ _ _)
  clear hw4 hb1 hr1 HA HB3
  generalize v1.heap.size = g1 at HF1 ⊢
  obtain ⟨b1, o1, rfl, _, _, c0, c1, _⟩ := rd_tok HR1.out 0 (by simp)
  obtain ⟨b2, o2, he, _, _, _, d1, _, _, d4⟩ := rd_tok HR1.out 1 (by simp)
  injection he with he
  injection he with e1 e2
  subst e1 e2
  simp only [List.getElem_cons_succ, List.getElem_cons_zero, HP.out ()] at c0 c1 d1 d4
  have z0 := HF1.out.cell 0
  have z1 := HF1.out.cell 1
  have z2 := HF1.out.cell 2
  simp at z0 z1 z2 c0 c1 d1 d4
  clear HR1 HF1 HL HP
  go_wp2_with fail
  go_ret
  exact ⟨rfl, HB4.out⟩
end Go.Proofs.YtoilalfchnglcaaDoor
