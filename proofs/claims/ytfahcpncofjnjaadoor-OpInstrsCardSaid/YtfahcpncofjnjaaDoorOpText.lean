/- An instruction's text, a code found by its name, walked; no statement of the seat is proved here. -/
import Derived.Test.YtfahcpncofjnjaaDoorOpCode
import Derived.Test.YtfahcpncofjnjaaDoorOpShelf
import Derived.Lib.AppendIntMem
import Derived.Lib.ItoaLen
namespace Go.Proofs.YtfahcpncofjnjaaDoor
open Go.RowKit

/-- An instruction's text. -/
def tx (c a : Int) : List UInt8 := if pl c == 0 then nm c else nm c ++ [32] ++ Lib.itoa a

theorem itoa_gives (n : Int) (h0 : -9223372036854775808 ≤ n) (h1 : n ≤ 9223372036854775807) (w : World) (h : Laid w) : Calls Tryd.prog 17 #[.int .i64 n] w (Gives w (S (Lib.itoa n))) := by
  refine (Tryd.strconv_Itoa n h0 h1 w h.tab).mono ?_
  rintro e w' ⟨rfl, k, os, rfl⟩
  exact ⟨rfl, Lib.below_grow _ _ (Nat.le_refl _) _ _⟩

set_option maxRecDepth 100000 in
theorem text_any (c a : Int) (h0 : -9223372036854775808 ≤ a) (h1 : a ≤ 9223372036854775807) (w : World) (h : Laid w) : Calls Tryd.prog 9 #[.agg #[.int .i64 c, .int .i64 a]] w (Gives w (S (tx c a))) := by
  obtain ⟨wB, hwB⟩ : ∃ wB, wB = w.alloc (.cells #[.int .i64 c, .int .i64 a] 26) := ⟨_, rfl⟩
  have hB : Below w.heap.size w wB := by rw [hwB]; exact (Below.refl _ _).alloc (Nat.le_refl _) _
  have hL : Laid wB := h.below hB (Nat.le_refl _)
  have hblk : Blk wB w.heap.size 26 #[.int .i64 c, .int .i64 a] := by rw [hwB]; exact Blk.new _ _ _
  have HP := hide (pool_any c wB hL)
  have HN := hide (name_any c wB hL)
  have HNT : Hid (∀ t : After wB, Calls Tryd.prog 13 #[.int .i64 c] t.val (Gives t.val (S (nm c)))) := hide (fun t => (name_any c t.val (hL.below t.prop (Nat.le_refl _))).mono (by rintro e w' ⟨rfl, rfl⟩; exact ⟨rfl, Below.refl _ _⟩))
  have HIT : Hid (∀ t : After wB, Calls Tryd.prog 17 #[.int .i64 a] t.val (Gives t.val (S (Lib.itoa a)))) := hide (fun t => itoa_gives a h0 h1 t.val (hL.below t.prop (Nat.le_refl _)))
  have c0 : wB.cell? ⟨w.heap.size, 0, none⟩ = some (.int .i64 c) := hblk.cell 0
  have qt0 : ∀ t : After wB, t.val.cell? ⟨w.heap.size, 0, none⟩ = some (.int .i64 c) := fun t => (hblk.below t.prop hblk.lt).cell 0
  have qt1 : ∀ t : After wB, t.val.cell? ⟨w.heap.size, 1, none⟩ = some (.int .i64 a) := fun t => (hblk.below t.prop hblk.lt).cell 1
  obtain ⟨T, hT⟩ : ∃ T, T = tx c a := ⟨_, rfl⟩
  rw [← hT]
  unfold tx at hT
  obtain ⟨p, hp⟩ : ∃ p, p = pl c := ⟨_, rfl⟩
  rw [← hp] at hT HP
  have kN := nm_short c
  have kI := Lib.itoa_length_le a h0 h1
  obtain ⟨N, hN⟩ : ∃ N, N = nm c := ⟨_, rfl⟩
  rw [← hN] at hT HN HNT kN
  obtain ⟨I, hI⟩ : ∃ I, I = Lib.itoa a := ⟨_, rfl⟩
  rw [← hI] at hT HIT kI
  have HB := hide hB
  clear hp hN hI hblk hL h
  have m1 : ¬ 9223372036854775807 < N.length + 1 := by omega
  have m2 : ¬ 9223372036854775807 < N.length + 1 + I.length := by omega
  cases hz : (p == 0) <;> rw [hz] at hT
  · have HT := hide (show T = N ++ [32] ++ I from hT)
    clear hT hB
    go_enter Tryd.func9, Tryd.ntmps9
    go_wp2_with fail
    rw [← hwB]
    clear hwB
    refine HP.out.mono ?_
    rintro e w' ⟨rfl, hw'⟩
    subst hw'
    go_wp2_with fail
    refine region_after (by kernel_rfl) (by kernel_rfl) ?_
    repeat (go_big_quiet_step ((first | (go_at_call 13; refine call_after (HNT.out _)) | (go_at_call 17; refine call_after (HIT.out _)))))
    refine wpQuiet_nil ?_
    rintro _ ⟨t, rfl⟩
    have HB2 := hide (HB.out.trans (t.prop.mono HB.out.size))
    clear qt0 qt1 c0 HNT HIT
    go_wp2_with fail
    go_ret
    exact ⟨by rw [HT.out]; simp [go_sem], HB2.out⟩
  · have HT := hide (show T = N from hT)
    clear hT hB
    go_enter Tryd.func9, Tryd.ntmps9
    go_wp2_with fail
    rw [← hwB]
    clear hwB
    refine HP.out.mono ?_
    rintro e w' ⟨rfl, hw'⟩
    subst hw'
    go_wp2_with fail
    refine HN.out.mono ?_
    rintro e w' ⟨rfl, hw'⟩
    subst hw'
    go_wp2_with fail
    go_ret
    exact ⟨by rw [HT.out]; rfl, HB.out⟩
end Go.Proofs.YtfahcpncofjnjaaDoor
