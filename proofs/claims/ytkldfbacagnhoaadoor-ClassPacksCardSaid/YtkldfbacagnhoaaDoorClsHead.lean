/- The document's example of archives, walked; no statement of the seat is proved here. -/
import Derived.Test.YtkldfbacagnhoaaDoorClsRight
import Derived.Test.YtkldfbacagnhoaaDoorWriter2
import Derived.Test.YtkldfbacagnhoaaDoorReader2
namespace Go.Proofs.YtkldfbacagnhoaaDoor
open Go.RowKit

theorem pread_any (l : List UInt8) (w : World) : Calls Tryd.prog 25 #[S l] w fun e w' => e = .returned (.pointer (some ⟨w.heap.size, 0, none⟩)) ∧ w.alloc (.cells #[S l, .bool false] 104) = w' := by
  go_enter Tryd.func25, Tryd.ntmps25
  go_wp2
  go_ret
  exact ⟨rfl, rfl⟩

set_option maxRecDepth 100000 in
theorem arch_nil (w : World) : Calls Tryd.prog 14 #[.slice none 0 0] w (Gives w (.tuple #[S [0], .int .i64 0])) := by
  go_enter Tryd.func14, Tryd.ntmps14
  go_upto_region 2 with fail
  refine name_world ?_
  intro wA hwA
  have HB : Hid (Below w.heap.size w wA) := hide (by rw [hwA]; exact (Below.refl _ _).alloc (Nat.le_refl _) _)
  have HW : Hid (Wr wA w.heap.size (.slice none 0 0) []) := hide (by rw [hwA]; exact wr_new w)
  clear hwA
  have HN := hide (num_one w.heap.size (.slice none 0 0) [] 0 wA wA.heap.size rfl HW.out (by omega) (by simp))
  go_wp2_with (go_at_call 22; refine HN.out.mono ?_; rintro e w1 ⟨v1, rfl, h1⟩)
  have hB1 : Hid (Below w.heap.size w w1) := hide (HB.out.trans (h1.below HB.out.size (Nat.le_refl _) (fun k hk => by cases hk)))
  have HS := hide (string_any _ _ _ _ h1.1)
  clear h1
  have HV : Hid ([] ++ vi (0 : Int).toNat = [0]) := hide (by rw [List.nil_append, show (0 : Int).toNat = 0 from rfl, vi_small (by omega)]; rfl)
  rw [HV.out] at HS
  go_wp2_with fail
  go_loopw [18] (fun i wr => i = .int .i64 0 ∧ wr = w1) (fun _ _ => 0)
  case atStart => exact ⟨rfl, rfl⟩
  case round =>
    obtain ⟨rfl, hw⟩ := hrel
    subst hw
    go_wp2_with (go_at_call 24; refine HS.out.mono ?_; rintro e w2 ⟨rfl, hw2⟩; subst w2)
    go_ret2
    exact ⟨rfl, hB1.out⟩

set_option maxRecDepth 100000 in
theorem unpack_zero (w : World) : Calls Tryd.prog 13 #[S [0]] w (Gives w (.tuple #[.slice none 0 0, .int .i64 0])) := by
  have HR : Hid (Rl (w.alloc (.cells #[S [0], .bool false] 104)) w.heap.size (some [0])) := hide (Rl.new w [0] (by simp))
  have HB : Hid (Below w.heap.size w (w.alloc (.cells #[S [0], .bool false] 104))) := hide ((Below.refl _ _).alloc (Nat.le_refl _) _)
  have HP := hide (pread_any [0] w)
  obtain ⟨wA, hwA⟩ : ∃ wA, wA = w.alloc (.cells #[S [0], .bool false] 104) := ⟨_, rfl⟩
  rw [← hwA] at HR HB HP
  clear hwA
  have HM := hide (rmany_any w.heap.size 200 (some [0]) wA HR.out (by omega))
  have e1 : manyR (200 : Int).toNat (some [0]) = (0, some []) := by decide
  rw [e1] at HM
  go_enter Tryd.func13, Tryd.ntmps13
  go_wp2_with (first
    | (go_at_call 25; refine HP.out.mono ?_; rintro e w1 ⟨rfl, hw1⟩; subst w1)
    | (go_at_call 29; refine HM.out.mono ?_; rintro e w2 ⟨rfl, h2, k2⟩))
  have HB2 : Hid (Below w.heap.size w w2) := hide (HB.out.trans (Keep.below k2 HB.out.size (fun k hk => by omega)))
  have HD := hide (rdone_any w.heap.size (some []) w2 h2)
  clear h2 k2
  have e2 : doneR (some []) = 0 := rfl
  rw [e2] at HD
  go_loopw [5, 12] (fun v i wr => v = .slice none 0 0 ∧ i = .int .i64 0 ∧ wr = w2) (fun _ _ _ => 0)
  case atStart => exact ⟨rfl, rfl, rfl⟩
  case round =>
    obtain ⟨rfl, rfl, hw⟩ := hrel
    subst hw
    go_wp2_with (go_at_call 30; refine HD.out.mono ?_; rintro e w3 ⟨rfl, hw3⟩; subst w3)
    go_ret2
    exact ⟨rfl, HB2.out⟩

theorem head_any (w : World) : Calls Tryd.prog 9 #[] w (Gives w (.bool true)) := by
  have HA := fun w => hide (arch_nil w)
  have HU := fun w => hide (unpack_zero w)
  go_enter Tryd.func9, Tryd.ntmps9
  go_wp2_with (first
    | (go_at_call 14; refine (HA _).out.mono ?_; rintro e w1 ⟨rfl, hb1⟩; have HB1 := hide hb1; clear hb1)
    | (go_at_call 13; refine (HU _).out.mono ?_; rintro e w2 ⟨rfl, hb2⟩; have HB2 := hide (HB1.out.trans (hb2.mono HB1.out.size)); clear hb2))
  go_ret
  exact ⟨rfl, HB2.out⟩
end Go.Proofs.YtkldfbacagnhoaaDoor
