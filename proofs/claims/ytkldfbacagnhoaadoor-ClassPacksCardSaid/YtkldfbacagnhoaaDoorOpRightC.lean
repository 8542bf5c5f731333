/- Whether an instruction is right, where a file's closure counts, walked; no statement of the seat is proved here. -/
import Derived.Test.YtkldfbacagnhoaaDoorOpCodeC
import Derived.Test.YtkldfbacagnhoaaDoorClsData
namespace Go.Proofs.YtkldfbacagnhoaaDoor
open Go.RowKit

/-- Is an instruction right, where there are v of its kind? -/
def rt (c a v : Int) : Bool := kn c && (if pl c == 0 then a == 0 else decide (0 ≤ a) && decide (a < v))
theorem pl_kn {c : Int} (h : kn c = false) : pl c = 0 := by unfold pl; rw [h]; rfl

set_option maxRecDepth 100000 in
set_option maxHeartbeats 4000000 in
theorem oright_any (c a v : Int) (p1 p2 : Value) (w : World) (h : Laid w) (hc : ∀ w', Below w.heap.size w w' → Calls Tryd.prog 60 #[.int .i32 (pl c), p1, p2] w' fun e w'' => e = .returned (.int .i64 v) ∧ w'' = w') :
    Calls Tryd.prog 35 #[.agg #[.int .i64 c, .int .i64 a], .func (.func 60) #[] #[p1, p2]] w (Gives w (.bool (rt c a v))) := by
  obtain ⟨wB, hwB⟩ : ∃ wB, wB = w.alloc (.cells #[.int .i64 c, .int .i64 a] 55) := ⟨_, rfl⟩
  have hB : Below w.heap.size w wB := by rw [hwB]; exact (Below.refl _ _).alloc (Nat.le_refl _) _
  have hL : Laid wB := h.below hB (Nat.le_refl _)
  have hblk : Blk wB w.heap.size 55 #[.int .i64 c, .int .i64 a] := by rw [hwB]; exact Blk.new _ _ _
  have c0 : wB.cell? ⟨w.heap.size, 0, none⟩ = some (.int .i64 c) := hblk.cell 0
  have c1 : wB.cell? ⟨w.heap.size, 1, none⟩ = some (.int .i64 a) := hblk.cell 1
  have qt1 : ∀ t : After wB, t.val.cell? ⟨w.heap.size, 1, none⟩ = some (.int .i64 a) := fun t => (hblk.below t.prop hblk.lt).cell 1
  have HCT : Hid (∀ t : After wB, Calls Tryd.prog 60 #[.int .i32 (pl c), p1, p2] t.val (Gives t.val (.int .i64 v))) := hide (fun t => (hc t.val (hB.trans (t.prop.mono hB.size))).mono (by rintro e w' ⟨rfl, rfl⟩; exact ⟨rfl, Below.refl _ _⟩))
  have HK := hide (known_any c wB)
  have HP := hide (pool_any c wB hL)
  have HB := hide hB
  obtain ⟨R, hR⟩ : ∃ R, R = rt c a v := ⟨_, rfl⟩
  rw [← hR]
  unfold rt at hR
  have hpk : kn c = false → pl c = 0 := pl_kn
  obtain ⟨kk, hkk⟩ : ∃ kk, kk = kn c := ⟨_, rfl⟩
  rw [← hkk] at hR HK hpk
  obtain ⟨p, hp⟩ : ∃ p, p = pl c := ⟨_, rfl⟩
  rw [← hp] at hR HP HCT hpk
  clear hp hkk h hB hL hblk hc
  cases kk with
  | false =>
    have HR : Hid (R = false) := hide (by rw [hR]; rfl)
    clear hR hpk
    go_enter Tryd.func35, Tryd.ntmps35
    go_wp2_with fail
    rw [← hwB]
    clear hwB
    refine HK.out.mono ?_
    rintro e w' ⟨rfl, hw'⟩
    subst w'
    go_wp2_with fail
    go_ret
    exact ⟨by rw [HR.out]; rfl, HB.out⟩
  | true =>
    clear hpk
    cases hz : (p == 0) with
    | true =>
      have HR : Hid (R = (a == 0)) := hide (by rw [hR, hz]; rfl)
      clear hR
      go_enter Tryd.func35, Tryd.ntmps35
      go_wp2_with fail
      rw [← hwB]
      clear hwB
      refine HK.out.mono ?_
      rintro e w' ⟨rfl, hw'⟩
      subst w'
      go_wp2_with fail
      refine HP.out.mono ?_
      rintro e w' ⟨rfl, hw'⟩
      subst w'
      go_wp2_with fail
      go_ret
      exact ⟨by rw [HR.out]; rfl, HB.out⟩
    | false =>
      cases ha : decide (0 ≤ a) with
      | false =>
        have HR : Hid (R = false) := hide (by rw [hR, hz, ha]; rfl)
        clear hR
        go_enter Tryd.func35, Tryd.ntmps35
        go_wp2_with fail
        rw [← hwB]
        clear hwB
        refine HK.out.mono ?_
        rintro e w' ⟨rfl, hw'⟩
        subst w'
        go_wp2_with fail
        refine HP.out.mono ?_
        rintro e w' ⟨rfl, hw'⟩
        subst w'
        go_wp2_with fail
        refine region_after (by kernel_rfl) (by kernel_rfl) ?_
        repeat (go_big_quiet_step (fail))
        refine wpQuiet_nil ?_
        rintro _ ⟨t, rfl⟩
        have HB2 := hide (HB.out.trans (t.prop.mono HB.out.size))
        clear qt1 HCT
        go_wp2_with fail
        go_ret
        exact ⟨by rw [HR.out]; rfl, HB2.out⟩
      | true =>
        have HR : Hid (R = decide (a < v)) := hide (by rw [hR, hz, ha]; simp)
        clear hR
        go_enter Tryd.func35, Tryd.ntmps35
        go_wp2_with fail
        rw [← hwB]
        clear hwB
        refine HK.out.mono ?_
        rintro e w' ⟨rfl, hw'⟩
        subst w'
        go_wp2_with fail
        refine HP.out.mono ?_
        rintro e w' ⟨rfl, hw'⟩
        subst w'
        go_wp2_with fail
        refine region_after (by kernel_rfl) (by kernel_rfl) ?_
        repeat (go_big_quiet_step ((refine call_after (HCT.out _))))
        refine wpQuiet_nil ?_
        rintro _ ⟨t, rfl⟩
        have HB2 := hide (HB.out.trans (t.prop.mono HB.out.size))
        clear qt1 HCT
        go_wp2_with fail
        go_ret
        exact ⟨by rw [HR.out]; rfl, HB2.out⟩
end Go.Proofs.YtkldfbacagnhoaaDoor
