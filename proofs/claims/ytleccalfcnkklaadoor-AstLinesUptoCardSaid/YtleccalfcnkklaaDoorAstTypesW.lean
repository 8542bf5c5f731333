/- AstTypes returns true for whatever type: the walk. -/
import Derived.Test.YtleccalfcnkklaaDoorAstTy
import Derived.Test.YtleccalfcnkklaaDoorAstAhead
namespace Go.Proofs.YtleccalfcnkklaaDoor
open Go.RowKit

set_option maxRecDepth 100000 in
set_option maxHeartbeats 8000000 in
theorem types_rest (G a Z : Bool) (n : List UInt8) (w : World) (hG : great n = G) (hZ : (n == [110, 117, 108, 108]) = Z) : Calls Tryd.prog 4 #[.agg #[S n, .bool a]] w (Gives w (.bool true)) := by
  obtain ⟨wA, hwA⟩ : ∃ wA, wA = w.alloc (.cells #[S n, .bool a] 26) := ⟨_, rfl⟩
  have hB : Below w.heap.size w wA := by rw [hwA]; exact (Below.refl _ _).alloc (Nat.le_refl _) _
  have hblk : Blk wA w.heap.size 26 #[S n, .bool a] := by rw [hwA]; exact Blk.new _ _ _
  have HBK := hide hblk
  have HB := hide hB
  have HC : Hid (∀ w', Calls Tryd.prog 15 #[.agg #[S n, .bool a]] w' (Gives w' (.bool (!a && G)))) := hide (fun w' => by rw [← hG]; exact class_any n a w')
  have HO : Hid (∀ w', Calls Tryd.prog 16 #[.agg #[S n, .bool a]] w' (Gives w' (.bool (a || G || Z)))) := hide (fun w' => by rw [← hG, ← hZ]; exact object_any n a w')
  have HE : Hid (∀ w', Calls Tryd.prog 17 #[.agg #[S n, .bool a]] w' (Gives w' (.agg #[S n, .bool false]))) := hide (fun w' => elem_any n a w')
  have HH := hide (fun w => ahead_any w)
  have HI := hide tint_any
  have HBO := hide tbool_any
  have HNO := hide tnone_any
  have HOF := hide (fun w => of_any [65] w)
  have HOI : Hid (∀ w', Calls Tryd.prog 16 #[.agg #[S [105, 110, 116], .bool false]] w' (Gives w' (.bool false))) := hide (fun w' => object_any _ _ w')
  have HOB : Hid (∀ w', Calls Tryd.prog 16 #[.agg #[S [98, 111, 111, 108], .bool false]] w' (Gives w' (.bool false))) := hide (fun w' => object_any _ _ w')
  have HON : Hid (∀ w', Calls Tryd.prog 16 #[.agg #[S [110, 117, 108, 108], .bool false]] w' (Gives w' (.bool true))) := hide (fun w' => object_any _ _ w')
  have HCN : Hid (∀ w', Calls Tryd.prog 15 #[.agg #[S [110, 117, 108, 108], .bool false]] w' (Gives w' (.bool false))) := hide (fun w' => class_any _ _ w')
  have hnn : (n == n) = true := by simp
  have HNN := hide hnn
  clear hB hblk hnn
  have HG : Hid (∀ _ : Unit, great n = G) := hide (fun _ => hG)
  clear hG
  go_enter Tryd.func4, Tryd.ntmps4
  go_upto_region 1 with fail
  rw [← hwA]
  clear hwA
  go_upto_region 3 with (go_at_call 10; refine (HH.out _).mono ?_; rintro e w1 ⟨rfl, hb1⟩)
  have HK1 := hide (HBK.out.below hb1 HBK.out.lt)
  have HB1 : Hid (Below w.heap.size w w1) := hide (HB.out.trans (hb1.mono HB.out.size))
  clear hb1
  go_cut [3] (fun v wx => v = .bool G ∧ wx = w1)
  case first =>
    have q0 := HK1.out.cell 0
    have q1 := HK1.out.cell 1
    simp at q0 q1
    clear hZ HNN
    rcases n with _ | ⟨c, r⟩
    · obtain rfl : false = G := HG.out ()
      go_wp2_with fail
      go_meet
      exact ⟨rfl, rfl⟩
    · obtain ⟨b1, d1⟩ : ∃ b, decide (65 ≤ (c.toNat : Int)) = b := ⟨_, rfl⟩
      obtain ⟨b2, d2⟩ : ∃ b, decide ((c.toNat : Int) ≤ 90) = b := ⟨_, rfl⟩
      obtain rfl : (b1 && b2) = G := by rw [← HG.out (), ← d1, ← d2]; rfl
      cases b1 <;> cases b2
      all_goals
        go_wp2_with fail
        go_meet
        exact ⟨rfl, rfl⟩
  case rest =>
  obtain ⟨rfl, hw1⟩ := hcut
  subst hw1
  go_upto_region 4 with fail
  go_cut [52] (fun v wx => v = .bool false ∧ Hid (Below w.heap.size w wx))
  case first =>
    have p0 : ∀ t : After wc, t.val.cell? ⟨w.heap.size, 0, none⟩ = some (S n) := fun t => (HK1.out.below t.prop HK1.out.lt).cell 0
    have p1 : ∀ t : After wc, t.val.cell? ⟨w.heap.size, 1, none⟩ = some (.bool a) := fun t => (HK1.out.below t.prop HK1.out.lt).cell 1
    have hnn := HNN.out
    clear HG
    by_cases e : n = [110, 117, 108, 108]
    · subst e
      obtain rfl : true = Z := hZ
      cases a <;> cases G
      all_goals
        refine region_after (by kernel_rfl) (by kernel_rfl) ?_
        repeat (go_big_quiet_step (first | (go_at_call 15; refine call_after (HC.out _)) | (go_at_call 16; refine call_after (HO.out _)) | (go_at_call 17; refine call_after (HE.out _))))
        refine wpQuiet_nil ?_
        rintro _ ⟨t, rfl⟩
        go_wp2_with fail
        go_meet
        exact ⟨rfl, hide (HB1.out.trans (t.prop.mono HB1.out.size))⟩
    · obtain rfl : false = Z := by rw [← hZ]; simp [e]
      clear e
      cases a <;> cases G
      all_goals
        refine region_after (by kernel_rfl) (by kernel_rfl) ?_
        repeat (go_big_quiet_step (first | (go_at_call 15; refine call_after (HC.out _)) | (go_at_call 16; refine call_after (HO.out _)) | (go_at_call 17; refine call_after (HE.out _))))
        refine wpQuiet_nil ?_
        rintro _ ⟨t, rfl⟩
        go_wp2_with fail
        go_meet
        exact ⟨rfl, hide (HB1.out.trans (t.prop.mono HB1.out.size))⟩
  case rest =>
  obtain ⟨rfl, HB2⟩ := hcut
  clear HC HO HE hZ HNN
  have hfd : ∀ w : World, (Instr.field 26 (.agg #[S [105, 110, 116], .bool false]) 0).run Tryd.prog w = .ok (S [105, 110, 116]) w := fun _ => by kernel_rfl
  have hfe : ∀ w : World, (Instr.field 26 (.agg #[S [98, 111, 111, 108], .bool false]) 0).run Tryd.prog w = .ok (S [98, 111, 111, 108]) w := fun _ => by kernel_rfl
  go_wp2_with fail
  refine (HI.out _).mono ?_
  rintro e w3 ⟨rfl, hb3⟩
  have HB3 : Hid (Below w.heap.size w w3) := hide (HB2.out.trans (hb3.mono HB2.out.size))
  clear hb3
  go_wp2_with fail
  refine (HBO.out _).mono ?_
  rintro e w4 ⟨rfl, hb4⟩
  have HB4 : Hid (Below w.heap.size w w4) := hide (HB3.out.trans (hb4.mono HB3.out.size))
  clear hb4
  go_wp2_with fail
  refine (HI.out _).mono ?_
  rintro e w5 ⟨rfl, hb5⟩
  have HB5 : Hid (Below w.heap.size w w5) := hide (HB4.out.trans (hb5.mono HB4.out.size))
  clear hb5
  go_wp2_with fail
  refine (HOI.out _).mono ?_
  rintro e w6 ⟨rfl, hb6⟩
  have HB6 : Hid (Below w.heap.size w w6) := hide (HB5.out.trans (hb6.mono HB5.out.size))
  clear hb6
  go_wp2_with fail
  refine (HBO.out _).mono ?_
  rintro e w7 ⟨rfl, hb7⟩
  have HB7 : Hid (Below w.heap.size w w7) := hide (HB6.out.trans (hb7.mono HB6.out.size))
  clear hb7
  go_wp2_with fail
  refine (HOB.out _).mono ?_
  rintro e w8 ⟨rfl, hb8⟩
  have HB8 : Hid (Below w.heap.size w w8) := hide (HB7.out.trans (hb8.mono HB7.out.size))
  clear hb8
  go_wp2_with fail
  refine (HNO.out _).mono ?_
  rintro e w9 ⟨rfl, hb9⟩
  have HB9 : Hid (Below w.heap.size w w9) := hide (HB8.out.trans (hb9.mono HB8.out.size))
  clear hb9
  go_wp2_with fail
  refine (HON.out _).mono ?_
  rintro e w10 ⟨rfl, hb10⟩
  have HB10 : Hid (Below w.heap.size w w10) := hide (HB9.out.trans (hb10.mono HB9.out.size))
  clear hb10
  go_wp2_with fail
  refine (HNO.out _).mono ?_
  rintro e w11 ⟨rfl, hb11⟩
  have HB11 : Hid (Below w.heap.size w w11) := hide (HB10.out.trans (hb11.mono HB10.out.size))
  clear hb11
  go_wp2_with fail
  refine (HCN.out _).mono ?_
  rintro e w12 ⟨rfl, hb12⟩
  have HB12 : Hid (Below w.heap.size w w12) := hide (HB11.out.trans (hb12.mono HB11.out.size))
  clear hb12
  go_wp2_with fail
  refine (HOF.out _).mono ?_
  rintro e w13 ⟨rfl, hb13⟩
  have HB13 : Hid (Below w.heap.size w w13) := hide (HB12.out.trans (hb13.mono HB12.out.size))
  clear hb13
  go_wp2_with fail
  go_ret
  exact ⟨rfl, HB13.out⟩
theorem types_walk (n : List UInt8) (a : Bool) (w : World) : Calls Tryd.prog 4 #[.agg #[S n, .bool a]] w (Gives w (.bool true)) := types_rest _ a _ n w rfl rfl
end Go.Proofs.YtleccalfcnkklaaDoor
