/- ClassApart returns true for whatever two files: the walk. The condition: the listed package-level variable holds what the program's text lays. -/
import Derived.Test.YtkldfbacagnhoaaDoorClsSame
import Derived.Test.YtkldfbacagnhoaaDoorClsEnc
import Derived.Test.YtkldfbacagnhoaaDoorClsHead
import Derived.Test.YtkldfbacagnhoaaDoorClsOpen
import Derived.Lib.MinMax
namespace Go.Proofs.YtkldfbacagnhoaaDoor
open Go.RowKit

def encE (F : FileP) : Int := if F.right = true then 0 else 1
def encS (F : FileP) : List UInt8 := if F.right = true then fileL F else []
theorem enc_any (f : Fl) (w : World) (hm : Laid w) (h : f.at_ w (fun k => w.heap.size ≤ k)) : Calls Tryd.prog 11 #[f.val] w (Gives w (.tuple #[S (encS f.pl), .int .i64 (encE f.pl)])) := by
  by_cases hr : f.pl.right = true
  · simp only [encS, encE, if_pos hr]; exact enc_ok f w hm h hr
  · simp only [encS, encE, if_neg hr]; exact enc_bad f w hm h (by simpa using hr)
theorem fileL_bd2 (f : Fl) {w : World} {F : Nat → Prop} (h : f.at_ w F) : (encS f.pl).length ≤ 140737488355328 := by
  unfold encS
  split
  · rename_i hr
    have := fileL_bd (right_fit h.nok hr)
    omega
  · simp

set_option maxRecDepth 100000 in
set_option maxHeartbeats 16000000 in
theorem apart_walk (f f' : Fl) (w : World) (hm : Laid w) (h : f.at_ w (fun k => w.heap.size ≤ k)) (h' : f'.at_ w (fun k => w.heap.size ≤ k)) : Calls Tryd.prog 8 #[f.val, f'.val] w (Gives w (.bool true)) := by
  obtain ⟨R, hR⟩ : ∃ R : Bool, R = true ↔ f.pl = f'.pl := by
    by_cases e : f.pl = f'.pl
    · exact ⟨true, by simp [e]⟩
    · exact ⟨false, by simp [e]⟩
  obtain ⟨X, hX⟩ : ∃ X, X = encS f.pl := ⟨_, rfl⟩
  obtain ⟨Y, hY⟩ : ∃ Y, Y = encS f'.pl := ⟨_, rfl⟩
  obtain ⟨m, hmn⟩ : ∃ m, m = min X.length Y.length := ⟨_, rfl⟩
  have HXl : X.length ≤ 140737488355328 := by rw [hX]; exact fileL_bd2 f h
  have HYl : Y.length ≤ 140737488355328 := by rw [hY]; exact fileL_bd2 f' h'
  have HEQ : encE f.pl = 0 → encE f'.pl = 0 → ((X == Y) = R ∧ (X.take m == Y.take m) = R) := by
    intro e1 e2
    have r1 : f.pl.right = true := by unfold encE at e1; split at e1 <;> simp_all
    have r2 : f'.pl.right = true := by unfold encE at e2; split at e2 <;> simp_all
    have x1 : X = fileL f.pl := by rw [hX, encS, if_pos r1]
    have y1 : Y = fileL f'.pl := by rw [hY, encS, if_pos r2]
    cases R with
    | true =>
      have e := hR.1 rfl
      have : X = Y := by rw [x1, y1, e]
      subst this
      simp
    | false =>
      have hne : f.pl ≠ f'.pl := fun e => Bool.false_ne_true (hR.2 e)
      constructor
      · rw [beq_eq_false_iff_ne]
        intro e
        exact hne (file_inj h.nok h'.nok r1 r2 (by rw [← x1, ← y1, e]))
      · rw [beq_eq_false_iff_ne]
        intro e
        refine hne (file_pre h.nok h'.nok r1 r2 (n := m) ?_ (by rw [← x1, ← y1, e]) (by rw [← x1, hmn]; exact Nat.min_le_left _ _) (by rw [← y1, hmn]; exact Nat.min_le_right _ _))
        rw [← x1, ← y1, hmn]
        omega
  obtain ⟨wA, hwA⟩ : ∃ wA, wA = (w.alloc (.cells f.cells.toArray 36)).alloc (.cells f'.cells.toArray 36) := ⟨_, rfl⟩
  have hbA : Below w.heap.size w wA := by rw [hwA]; exact ((Below.refl _ _).alloc (Nat.le_refl _) _).alloc (by simp) _
  have HBA := hide hbA
  have hbk : Blk wA w.heap.size 36 f.cells.toArray := by rw [hwA]; exact (Blk.new _ _ _).alloc _
  have hbk' : Blk wA (w.heap.size + 1) 36 f'.cells.toArray := by
    rw [hwA]
    have := Blk.new (w.alloc (.cells f.cells.toArray 36)) 36 f'.cells.toArray
    rwa [World.size_alloc] at this
  have HK : Hid (∀ w', Below wA.heap.size wA w' → Blk w' w.heap.size 36 f.cells.toArray) := hide (fun w' hb => hbk.below hb hbk.lt)
  have HK' : Hid (∀ w', Below wA.heap.size wA w' → Blk w' (w.heap.size + 1) 36 f'.cells.toArray) := hide (fun w' hb => hbk'.below hb hbk'.lt)
  have HA : Hid (∀ w', Below wA.heap.size wA w' → f.at_ w' (fun k => w'.heap.size ≤ k)) := hide (fun w' hb => (h.below (hbA.trans (hb.mono hbA.size))).weak (fun k hk => Nat.le_trans (hbA.trans (hb.mono hbA.size)).size hk))
  have HA' : Hid (∀ w', Below wA.heap.size wA w' → f'.at_ w' (fun k => w'.heap.size ≤ k)) := hide (fun w' hb => (h'.below (hbA.trans (hb.mono hbA.size))).weak (fun k hk => Nat.le_trans (hbA.trans (hb.mono hbA.size)).size hk))
  have HM : Hid (∀ w', Below wA.heap.size wA w' → Laid w') := hide (fun w' hb => hm.below (hbA.trans (hb.mono hbA.size)) (Nat.le_refl _))
  have HS : Hid (∀ w', Below wA.heap.size wA w' → Calls Tryd.prog 21 #[f.val, f'.val] w' (Gives w' (.bool R))) := hide (fun w' hb => csame_any R f f' w' (HA.out w' hb) (HA'.out w' hb) hR)
  have HE1 : Hid (∀ w', Below wA.heap.size wA w' → Calls Tryd.prog 11 #[f.val] w' (Gives w' (.tuple #[S X, .int .i64 (encE f.pl)]))) := hide (fun w' hb => by rw [hX]; exact enc_any f w' (HM.out w' hb) (HA.out w' hb))
  have HE2 : Hid (∀ w', Below wA.heap.size wA w' → Calls Tryd.prog 11 #[f'.val] w' (Gives w' (.tuple #[S Y, .int .i64 (encE f'.pl)]))) := hide (fun w' hb => by rw [hY]; exact enc_any f' w' (HM.out w' hb) (HA'.out w' hb))
  have HF1 : Hid (∀ w', Below wA.heap.size wA w' → Calls Tryd.prog 18 #[f.val] w' (Asks w' f.few)) := hide (fun w' hb => cfew_any f w' (HA.out w' hb))
  have HF2 : Hid (∀ w', Below wA.heap.size wA w' → Calls Tryd.prog 18 #[f'.val] w' (Asks w' f'.few)) := hide (fun w' hb => cfew_any f' w' (HA'.out w' hb))
  obtain ⟨E1, hE1⟩ : ∃ E, E = encE f.pl := ⟨_, rfl⟩
  obtain ⟨E2, hE2⟩ : ∃ E, E = encE f'.pl := ⟨_, rfl⟩
  rw [← hE1] at HE1 HEQ
  rw [← hE2] at HE2 HEQ
  have HEQ := hide HEQ
  have HEa : E1 = 0 ∨ E1 = 1 := by rw [hE1]; unfold encE; split <;> simp
  have HEb : E2 = 0 ∨ E2 = 1 := by rw [hE2]; unfold encE; split <;> simp
  have HMM : Hid (m = min X.length Y.length) := hide hmn
  have HH := hide (head_any wA)
  clear hE1 hE2 hX hY hR h h' hm hmn HM HA HA' hbk hbk' hbA
  go_enter Tryd.func8, Tryd.ntmps8
  go_upto_region 1 with fail
  rw [← hwA]
  clear hwA
  go_upto_region 3 with (go_at_call 9; refine HH.out.mono ?_; rintro e w1 ⟨rfl, hb1⟩)
  have HB1 := hide hb1
  clear hb1 HH
  have k0 := (HK.out w1 HB1.out).cell 0
  have k1 := (HK.out w1 HB1.out).cell 1
  have k2 := (HK.out w1 HB1.out).cell 2
  have k3 := (HK.out w1 HB1.out).cell 3
  have k4 := (HK.out w1 HB1.out).cell 4
  have k5 := (HK.out w1 HB1.out).cell 5
  have k6 := (HK.out w1 HB1.out).cell 6
  have k7 := (HK.out w1 HB1.out).cell 7
  have k8 := (HK.out w1 HB1.out).cell 8
  have k9 := (HK.out w1 HB1.out).cell 9
  simp at k0 k1 k2 k3 k4 k5 k6 k7 k8 k9
  go_wp2_with fail
  refine (HF1.out w1 HB1.out).mono ?_
  rintro e w2 ⟨R1, rfl, hb2, -⟩
  clear k0 k1 k2 k3 k4 k5 k6 k7 k8 k9
  have HB2 : Hid (Below wA.heap.size wA w2) := hide (HB1.out.trans (hb2.mono HB1.out.size))
  clear hb2 HB1
  cases R1 with
  | false =>
    go_wp2_with fail
    go_ret
    exact ⟨rfl, HBA.out.trans (HB2.out.mono HBA.out.size)⟩
  | true =>
  have k0 := (HK'.out w2 HB2.out).cell 0
  have k1 := (HK'.out w2 HB2.out).cell 1
  have k2 := (HK'.out w2 HB2.out).cell 2
  have k3 := (HK'.out w2 HB2.out).cell 3
  have k4 := (HK'.out w2 HB2.out).cell 4
  have k5 := (HK'.out w2 HB2.out).cell 5
  have k6 := (HK'.out w2 HB2.out).cell 6
  have k7 := (HK'.out w2 HB2.out).cell 7
  have k8 := (HK'.out w2 HB2.out).cell 8
  have k9 := (HK'.out w2 HB2.out).cell 9
  simp at k0 k1 k2 k3 k4 k5 k6 k7 k8 k9
  go_wp2_with fail
  refine (HF2.out w2 HB2.out).mono ?_
  rintro e w3 ⟨R2, rfl, hb3, -⟩
  clear k0 k1 k2 k3 k4 k5 k6 k7 k8 k9
  have HB3 : Hid (Below wA.heap.size wA w3) := hide (HB2.out.trans (hb3.mono HB2.out.size))
  clear hb3 HB2
  cases R2 with
  | false =>
    go_wp2_with fail
    go_ret
    exact ⟨rfl, HBA.out.trans (HB3.out.mono HBA.out.size)⟩
  | true =>
  have k0 := (HK.out w3 HB3.out).cell 0
  have k1 := (HK.out w3 HB3.out).cell 1
  have k2 := (HK.out w3 HB3.out).cell 2
  have k3 := (HK.out w3 HB3.out).cell 3
  have k4 := (HK.out w3 HB3.out).cell 4
  have k5 := (HK.out w3 HB3.out).cell 5
  have k6 := (HK.out w3 HB3.out).cell 6
  have k7 := (HK.out w3 HB3.out).cell 7
  have k8 := (HK.out w3 HB3.out).cell 8
  have k9 := (HK.out w3 HB3.out).cell 9
  simp at k0 k1 k2 k3 k4 k5 k6 k7 k8 k9
  go_wp2_with fail
  refine (HE1.out w3 HB3.out).mono ?_
  rintro e w4 ⟨rfl, hb4⟩
  clear k0 k1 k2 k3 k4 k5 k6 k7 k8 k9
  have HB4 : Hid (Below wA.heap.size wA w4) := hide (HB3.out.trans (hb4.mono HB3.out.size))
  clear hb4 HB3
  have k0 := (HK'.out w4 HB4.out).cell 0
  have k1 := (HK'.out w4 HB4.out).cell 1
  have k2 := (HK'.out w4 HB4.out).cell 2
  have k3 := (HK'.out w4 HB4.out).cell 3
  have k4 := (HK'.out w4 HB4.out).cell 4
  have k5 := (HK'.out w4 HB4.out).cell 5
  have k6 := (HK'.out w4 HB4.out).cell 6
  have k7 := (HK'.out w4 HB4.out).cell 7
  have k8 := (HK'.out w4 HB4.out).cell 8
  have k9 := (HK'.out w4 HB4.out).cell 9
  simp at k0 k1 k2 k3 k4 k5 k6 k7 k8 k9
  go_wp2_with fail
  refine (HE2.out w4 HB4.out).mono ?_
  rintro e w5 ⟨rfl, hb5⟩
  clear k0 k1 k2 k3 k4 k5 k6 k7 k8 k9
  have HB5 : Hid (Below wA.heap.size wA w5) := hide (HB4.out.trans (hb5.mono HB4.out.size))
  clear hb5 HB4
  rcases HEa with rfl | rfl
  case inr =>
    go_wp2_with fail
    go_ret
    exact ⟨rfl, HBA.out.trans (HB5.out.mono HBA.out.size)⟩
  rcases HEb with rfl | rfl
  case inr =>
    go_wp2_with fail
    go_ret
    exact ⟨rfl, HBA.out.trans (HB5.out.mono HBA.out.size)⟩
  obtain ⟨d1, d2⟩ := HEQ.out rfl rfl
  have dm : min (X.length : Int) (Y.length : Int) = (m : Int) := by rw [HMM.out]; omega
  have hm1 : m ≤ X.length := by rw [HMM.out]; exact Nat.min_le_left _ _
  have hm2 : m ≤ Y.length := by rw [HMM.out]; exact Nat.min_le_right _ _
  have k0 : ∀ t : After w5, t.val.cell? ⟨w.heap.size, 0, none⟩ = f.cells.toArray[0]? := fun t => (HK.out t.val (HB5.out.trans (t.prop.mono HB5.out.size))).cell 0
  have k1 : ∀ t : After w5, t.val.cell? ⟨w.heap.size, 1, none⟩ = f.cells.toArray[1]? := fun t => (HK.out t.val (HB5.out.trans (t.prop.mono HB5.out.size))).cell 1
  have k2 : ∀ t : After w5, t.val.cell? ⟨w.heap.size, 2, none⟩ = f.cells.toArray[2]? := fun t => (HK.out t.val (HB5.out.trans (t.prop.mono HB5.out.size))).cell 2
  have k3 : ∀ t : After w5, t.val.cell? ⟨w.heap.size, 3, none⟩ = f.cells.toArray[3]? := fun t => (HK.out t.val (HB5.out.trans (t.prop.mono HB5.out.size))).cell 3
  have k4 : ∀ t : After w5, t.val.cell? ⟨w.heap.size, 4, none⟩ = f.cells.toArray[4]? := fun t => (HK.out t.val (HB5.out.trans (t.prop.mono HB5.out.size))).cell 4
  have k5 : ∀ t : After w5, t.val.cell? ⟨w.heap.size, 5, none⟩ = f.cells.toArray[5]? := fun t => (HK.out t.val (HB5.out.trans (t.prop.mono HB5.out.size))).cell 5
  have k6 : ∀ t : After w5, t.val.cell? ⟨w.heap.size, 6, none⟩ = f.cells.toArray[6]? := fun t => (HK.out t.val (HB5.out.trans (t.prop.mono HB5.out.size))).cell 6
  have k7 : ∀ t : After w5, t.val.cell? ⟨w.heap.size, 7, none⟩ = f.cells.toArray[7]? := fun t => (HK.out t.val (HB5.out.trans (t.prop.mono HB5.out.size))).cell 7
  have k8 : ∀ t : After w5, t.val.cell? ⟨w.heap.size, 8, none⟩ = f.cells.toArray[8]? := fun t => (HK.out t.val (HB5.out.trans (t.prop.mono HB5.out.size))).cell 8
  have k9 : ∀ t : After w5, t.val.cell? ⟨w.heap.size, 9, none⟩ = f.cells.toArray[9]? := fun t => (HK.out t.val (HB5.out.trans (t.prop.mono HB5.out.size))).cell 9
  have k0' : ∀ t : After w5, t.val.cell? ⟨w.heap.size + 1, 0, none⟩ = f'.cells.toArray[0]? := fun t => (HK'.out t.val (HB5.out.trans (t.prop.mono HB5.out.size))).cell 0
  have k1' : ∀ t : After w5, t.val.cell? ⟨w.heap.size + 1, 1, none⟩ = f'.cells.toArray[1]? := fun t => (HK'.out t.val (HB5.out.trans (t.prop.mono HB5.out.size))).cell 1
  have k2' : ∀ t : After w5, t.val.cell? ⟨w.heap.size + 1, 2, none⟩ = f'.cells.toArray[2]? := fun t => (HK'.out t.val (HB5.out.trans (t.prop.mono HB5.out.size))).cell 2
  have k3' : ∀ t : After w5, t.val.cell? ⟨w.heap.size + 1, 3, none⟩ = f'.cells.toArray[3]? := fun t => (HK'.out t.val (HB5.out.trans (t.prop.mono HB5.out.size))).cell 3
  have k4' : ∀ t : After w5, t.val.cell? ⟨w.heap.size + 1, 4, none⟩ = f'.cells.toArray[4]? := fun t => (HK'.out t.val (HB5.out.trans (t.prop.mono HB5.out.size))).cell 4
  have k5' : ∀ t : After w5, t.val.cell? ⟨w.heap.size + 1, 5, none⟩ = f'.cells.toArray[5]? := fun t => (HK'.out t.val (HB5.out.trans (t.prop.mono HB5.out.size))).cell 5
  have k6' : ∀ t : After w5, t.val.cell? ⟨w.heap.size + 1, 6, none⟩ = f'.cells.toArray[6]? := fun t => (HK'.out t.val (HB5.out.trans (t.prop.mono HB5.out.size))).cell 6
  have k7' : ∀ t : After w5, t.val.cell? ⟨w.heap.size + 1, 7, none⟩ = f'.cells.toArray[7]? := fun t => (HK'.out t.val (HB5.out.trans (t.prop.mono HB5.out.size))).cell 7
  have k8' : ∀ t : After w5, t.val.cell? ⟨w.heap.size + 1, 8, none⟩ = f'.cells.toArray[8]? := fun t => (HK'.out t.val (HB5.out.trans (t.prop.mono HB5.out.size))).cell 8
  have k9' : ∀ t : After w5, t.val.cell? ⟨w.heap.size + 1, 9, none⟩ = f'.cells.toArray[9]? := fun t => (HK'.out t.val (HB5.out.trans (t.prop.mono HB5.out.size))).cell 9
  simp at k0 k0' k1 k1' k2 k2' k3 k3' k4 k4' k5 k5' k6 k6' k7 k7' k8 k8' k9 k9'
  have HS5 : Hid (∀ t : After w5, Calls Tryd.prog 21 #[f.val, f'.val] t.val (Gives t.val (.bool R))) := hide (fun t => HS.out t.val (HB5.out.trans (t.prop.mono HB5.out.size)))
  clear HEQ HMM HF1 HF2 HE1 HE2 HS
  cases R
  all_goals
    go_upto_region 10 with fail
    refine region_after (by kernel_rfl) (by kernel_rfl) ?_
    repeat (go_big_quiet_step ((go_at_call 21; refine call_after (HS5.out _))))
    refine wpQuiet_nil ?_
    rintro _ ⟨t, rfl⟩
    go_wp2_with fail
    go_ret
    exact ⟨rfl, HBA.out.trans (HB5.out.mono HBA.out.size |>.trans (t.prop.mono (Nat.le_trans HBA.out.size HB5.out.size)))⟩
end Go.Proofs.YtkldfbacagnhoaaDoor
