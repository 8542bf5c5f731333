/- The document's example of layer 8, walked. -/
import Derived.Test.YtmhnfilingebfaaHierUp
namespace Go.Proofs.Ytmhnfilingebfaa
open Go.RowKit

def T0 : List Fc := [⟨[65], [], none, 0, 0, [], none, 0, 0, []⟩, ⟨[66], [65], none, 0, 0, [], none, 0, 0, []⟩, ⟨[67], [65], none, 0, 0, [], none, 0, 0, []⟩]

theorem T0_common : common T0 [66] [67] = [65] := by decide +kernel
theorem T0_ba : decide (([65] : List UInt8) ∈ (up T0 20 [] [66]).1) = true := by decide +kernel
theorem T0_ab : decide (([66] : List UInt8) ∈ (up T0 20 [] [65]).1) = false := by decide +kernel

theorem T0_at (w : World) (A : Addr) (F : Nat → Prop) (h : Rd w F 4 (some A) 3 (T0.flatMap Fc.cells)) : FcsAt w F (some A) 3 T0 := by
  refine ⟨h, rfl, by omega, fun f hf => ?_⟩
  simp only [T0, List.mem_cons, List.not_mem_nil, or_false] at hf
  rcases hf with rfl | rfl | rfl
  all_goals exact ⟨⟨Rd.nil _ _ _ _, rfl, by simp, by simp⟩, ⟨Rd.nil _ _ _ _, rfl, by simp, by simp⟩, by simp [short], by simp [short]⟩

theorem Rd.of_blk {w : World} {g : Nat} {t : TypeId} {cs : Array Value} {F : Nat → Prop} {size n : Nat} (h : Blk w g t cs) (hF : ¬ F g) (hl : cs.size = n * size) : Rd w F size (some ⟨g, 0, none⟩) n cs.toList := by
  refine ⟨by simpa using hl, fun _ => ⟨g, 0, rfl, hF, h.lt, fun j u hu => ?_⟩⟩
  have := h.cell (0 + j)
  rw [this]
  simpa using hu

set_option maxRecDepth 100000 in
set_option maxHeartbeats 1000000 in
theorem head_any (w : World) : Calls Try.prog 9 #[] w (Gives w (.bool true)) := by
  have hc := T0_common
  have hba := T0_ba
  have hab := T0_ab
  have hso : ∀ f ∈ T0, short f.su := by
    intro f hf
    simp only [T0, List.mem_cons, List.not_mem_nil, or_false] at hf
    rcases hf with rfl | rfl | rfl <;> simp [short]
  have HS := hide hso
  have HC := hide hc
  have HBA := hide hba
  have HAB := hide hab
  clear hso hc hba hab
  obtain ⟨wA, hwA⟩ : ∃ wA, wA = w.alloc (.cells #[.string { data := #[65] }, .string { data := #[] }, .slice none 0 0, .slice none 0 0, .string { data := #[66] }, .string { data := #[65] }, .slice none 0 0, .slice none 0 0, .string { data := #[67] }, .string { data := #[65] }, .slice none 0 0, .slice none 0 0] 38) := ⟨_, rfl⟩
  have hbA : Below w.heap.size w wA := by rw [hwA]; exact (Below.refl _ _).alloc (Nat.le_refl _) _
  have hsz : wA.heap.size = w.heap.size + 1 := by rw [hwA]; simp
  have hrd : Rd wA (fun k => wA.heap.size ≤ k) 4 (some ⟨w.heap.size, 0, none⟩) 3 (T0.flatMap Fc.cells) := by
    refine Rd.of_blk (t := 38) (cs := #[.string { data := #[65] }, .string { data := #[] }, .slice none 0 0, .slice none 0 0, .string { data := #[66] }, .string { data := #[65] }, .slice none 0 0, .slice none 0 0, .string { data := #[67] }, .string { data := #[65] }, .slice none 0 0, .slice none 0 0]) ?_ (by omega) rfl
    rw [hwA]
    exact Blk.new _ _ _
  go_enter Try.func9, Try.ntmps9
  go_wp2_with fail
  rw [← hwA]
  clear hwA
  refine (new_any _ 3 3 T0 wA (T0_at _ _ _ hrd) (by omega)).mono ?_
  rintro e w2 ⟨g, m, s, rfl, ht, hb, hg, hm, hs⟩
  have hb2 := hbA.trans (hb.mono hbA.size)
  have HT := hide ht
  clear ht hrd hb hbA
  go_wp2_with fail
  refine (common_any g m s 0 T0 [66] [67] w2 HT.out (by omega) (by decide) HS.out (by simp [short]) (by simp [short])).mono ?_
  rintro e w3 ⟨rfl, ht3, hk3⟩
  rw [HC.out]
  have HT3 := hide ht3
  have HK3 := hide hk3
  clear ht3 hk3
  go_wp2_with fail
  refine (below_any g m s _ T0 [66] [65] w3 HT3.out (by omega) (by decide) HS.out (by simp [short])).mono ?_
  rintro e w4 ⟨rfl, ht4, hk4⟩
  rw [HBA.out]
  have HT4 := hide ht4
  have HK4 := hide (HK3.out.trans' hk4 (fun _ _ h => h))
  clear ht4 hk4
  go_wp2_with fail
  refine (below_any g m s _ T0 [65] [66] w4 HT4.out (by omega) (by decide) HS.out (by simp [short])).mono ?_
  rintro e w5 ⟨rfl, ht5, hk5⟩
  rw [HAB.out]
  have HK5 := hide (HK4.out.trans' hk5 (fun _ _ h => h))
  clear ht5 hk5
  go_wp2
  go_ret
  exact ⟨rfl, hb2.trans (HK5.out.below (by have := hb2.size; omega) (by intro k hk; omega))⟩
end Go.Proofs.Ytmhnfilingebfaa
