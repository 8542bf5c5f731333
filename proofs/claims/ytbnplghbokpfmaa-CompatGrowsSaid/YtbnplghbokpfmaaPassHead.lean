/- The document's example of layer 20, walked. -/
import Derived.Test.YtbnplghbokpfmaaPasses2
namespace Go.Proofs.Ytbnplghbokpfmaa
open Go.RowKit

set_option maxRecDepth 100000 in
theorem int_any (w : World) : Calls Try.prog 9 #[] w (Gives w (.agg #[S [105, 110, 116], .bool false])) := by
  have hb : ∀ o, Below w.heap.size w (w.alloc o) := fun o => (Below.refl _ _).alloc (Nat.le_refl _) o
  go_enter Try.func9, Try.ntmps9
  go_wp2_with fail
  refine bodyPost_ret (v := .agg #[S [105, 110, 116], .bool false]) ?_ rfl ?_
  · simp [results, Try.results9, go_sem]
  · first
      | exact ⟨rfl, hb _⟩
      | exact ⟨rfl, set_below' (hb _) (Nat.le_refl _) _⟩
      | exact ⟨rfl, set_below' (set_below' (hb _) (Nat.le_refl _) _) (Nat.le_refl _) _⟩

def hfa : Fc := ⟨[65], [], none, 0, 0, [], none, 0, 0, []⟩
def hfb (b : Nat) : Fc := ⟨[65], [], none, 0, 0, [], some ⟨b, 0, none⟩, 1, 1, [⟨[109], true, none, 0, 0, [], ⟨[105, 110, 116], false⟩⟩]⟩
def hfc (b : Nat) : Fc := ⟨[65], [], some ⟨b, 0, none⟩, 1, 1, [⟨[102], ⟨[105, 110, 116], false⟩⟩], none, 0, 0, []⟩
theorem head_ab (b : Nat) : passB hfa (hfb b) = true := by kernel_rfl
theorem head_ac (b : Nat) : passB hfa (hfc b) = false := by kernel_rfl
theorem head_ba (b : Nat) : passB (hfb b) hfa = false := by kernel_rfl

theorem Rd.of_blk {w : World} {g : Nat} {t : TypeId} {cs : Array Value} {F : Nat → Prop} {size n : Nat} (h : Blk w g t cs) (hF : ¬ F g) (hl : cs.size = n * size) : Rd w F size (some ⟨g, 0, none⟩) n cs.toList := by
  refine ⟨by simpa using hl, fun _ => ⟨g, 0, rfl, hF, h.lt, fun j u hu => ?_⟩⟩
  have := h.cell (0 + j)
  rw [this]
  simpa using hu

theorem hfa_at (w : World) (F : Nat → Prop) : hfa.at_ w F := by
  refine ⟨⟨Rd.nil _ _ _ _, rfl, by simp [hfa], by simp [hfa]⟩, ⟨Rd.nil _ _ _ _, rfl, by simp [hfa], by simp [hfa]⟩, by simp [hfa, short], by simp [hfa, short]⟩
theorem hfb_at {w : World} {b : Nat} (h : Blk w b 34 #[S [109], .bool true, .slice none 0 0, S [105, 110, 116], .bool false]) : (hfb b).at_ w (fun k => w.heap.size ≤ k) := by
  refine ⟨⟨Rd.nil _ _ _ _, rfl, by simp [hfb], by simp [hfb]⟩, ⟨Rd.of_blk h (by have := h.lt; omega) rfl, rfl, by simp [hfb], fun m hm => ?_⟩, by simp [hfb, short], by simp [hfb, short]⟩
  obtain rfl : m = ⟨[109], true, none, 0, 0, [], ⟨[105, 110, 116], false⟩⟩ := by simpa [hfb] using hm
  exact ⟨Rd.nil _ _ _ _, rfl, by simp, by simp [short], by simp [Ty.ok, short], by simp⟩
theorem hfc_at {w : World} {b : Nat} (h : Blk w b 43 #[S [102], S [105, 110, 116], .bool false]) : (hfc b).at_ w (fun k => w.heap.size ≤ k) := by
  refine ⟨⟨Rd.of_blk h (by have := h.lt; omega) rfl, rfl, by simp [hfc], fun v hv => ?_⟩, ⟨Rd.nil _ _ _ _, rfl, by simp [hfc], by simp [hfc]⟩, by simp [hfc, short], by simp [hfc, short]⟩
  obtain rfl : v = ⟨[102], ⟨[105, 110, 116], false⟩⟩ := by simpa [hfc] using hv
  exact ⟨by simp [short], by simp [Ty.ok, short]⟩

set_option maxRecDepth 100000 in
set_option maxHeartbeats 2000000 in
theorem head_any (w : World) : Calls Try.prog 6 #[] w (Gives w (.bool true)) := by
  have HI : Hid (∀ w, Calls Try.prog 9 #[] w (Gives w (.agg #[S [105, 110, 116], .bool false]))) := hide int_any
  have hab : ∀ b w', (hfb b).at_ w' (fun k => w'.heap.size ≤ k) → Calls Try.prog 10 #[hfa.val, (hfb b).val] w' (Gives w' (.bool true)) := fun b w' h => by rw [← head_ab b]; exact pass_any _ _ w' (hfa_at _ _) h
  have hac : ∀ b w', (hfc b).at_ w' (fun k => w'.heap.size ≤ k) → Calls Try.prog 10 #[hfa.val, (hfc b).val] w' (Gives w' (.bool false)) := fun b w' h => by rw [← head_ac b]; exact pass_any _ _ w' (hfa_at _ _) h
  have hba : ∀ b w', (hfb b).at_ w' (fun k => w'.heap.size ≤ k) → Calls Try.prog 10 #[(hfb b).val, hfa.val] w' (Gives w' (.bool false)) := fun b w' h => by rw [← head_ba b]; exact pass_any _ _ w' h (hfa_at _ _)
  have HAB := hide hab
  have HAC := hide hac
  have HBA := hide hba
  clear hab hac hba
  go_enter Try.func6, Try.ntmps6
  go_wp2_with fail
  obtain ⟨wA, hwA⟩ : ∃ wA, wA = w.alloc (.cells #[.string { data := #[65] }, .string { data := #[] }, .slice none 0 0, .slice none 0 0] 25) := ⟨_, rfl⟩
  have hA : Blk wA w.heap.size 25 #[S [65], S [], .slice none 0 0, .slice none 0 0] := by rw [hwA]; exact Blk.new _ _ _
  have hbA : Below w.heap.size w wA := by rw [hwA]; exact (Below.refl _ _).alloc (Nat.le_refl _) _
  rw [← hwA]
  clear hwA
  refine (HI.out wA).mono ?_
  rintro e w2 ⟨rfl, hb2⟩
  have hA2 := hA.below hb2 hA.lt
  have hB2 := hbA.trans (hb2.mono hbA.size)
  obtain ⟨w3, hw3⟩ : ∃ w3, w3 = (w2.alloc (.cells #[.string { data := #[109] }, .bool true, .slice none 0 0, .string { data := #[105, 110, 116] }, .bool false] 34)).alloc
    (.cells #[.string { data := #[65] }, .string { data := #[] }, .slice none 0 0, .slice (some ⟨w2.heap.size, 0, none⟩) 1 1] 25) := ⟨_, rfl⟩
  have hS3 : Blk w3 w2.heap.size 34 #[S [109], .bool true, .slice none 0 0, S [105, 110, 116], .bool false] := by rw [hw3]; exact (Blk.new _ _ _).alloc _
  have hF3 : Blk w3 (w2.heap.size + 1) 25 #[S [65], S [], .slice none 0 0, .slice (some ⟨w2.heap.size, 0, none⟩) 1 1] := by
    rw [hw3]
    have := Blk.new (w2.alloc (.cells #[.string { data := #[109] }, .bool true, .slice none 0 0, .string { data := #[105, 110, 116] }, .bool false] 34)) 25 #[S [65], S [], .slice none 0 0, .slice (some ⟨w2.heap.size, 0, none⟩) 1 1]
    rwa [World.size_alloc] at this
  have hA3 : Blk w3 w.heap.size 25 #[S [65], S [], .slice none 0 0, .slice none 0 0] := by rw [hw3]; exact (hA2.alloc _).alloc _
  have hB3 : Below w.heap.size w w3 := by rw [hw3]; exact (hB2.alloc hB2.size _).alloc (by have := hB2.size; simp; omega) _
  clear hA hbA hb2 hA2 hB2
  go_wp2_with fail
  rw [← hw3]
  clear hw3
  refine (HI.out w3).mono ?_
  rintro e w4 ⟨rfl, hb4⟩
  have hA4 := hA3.below hb4 hA3.lt
  have hS4 := hS3.below hb4 hS3.lt
  have hF4 := hF3.below hb4 hF3.lt
  have hB4 := hB3.trans (hb4.mono hB3.size)
  have hV5 : Blk ((w4.alloc (.cells #[.string { data := #[102] }, .string { data := #[105, 110, 116] }, .bool false] 43)).alloc
    (.cells #[.string { data := #[65] }, .string { data := #[] }, .slice (some ⟨w4.heap.size, 0, none⟩) 1 1, .slice none 0 0] 25)) w4.heap.size 43 #[S [102], S [105, 110, 116], .bool false] := (Blk.new _ _ _).alloc _
  have hC5 : Blk ((w4.alloc (.cells #[.string { data := #[102] }, .string { data := #[105, 110, 116] }, .bool false] 43)).alloc
    (.cells #[.string { data := #[65] }, .string { data := #[] }, .slice (some ⟨w4.heap.size, 0, none⟩) 1 1, .slice none 0 0] 25)) (w4.heap.size + 1) 25 #[S [65], S [], .slice (some ⟨w4.heap.size, 0, none⟩) 1 1, .slice none 0 0] := by
    have := Blk.new (w4.alloc (.cells #[.string { data := #[102] }, .string { data := #[105, 110, 116] }, .bool false] 43)) 25 #[S [65], S [], .slice (some ⟨w4.heap.size, 0, none⟩) 1 1, .slice none 0 0]
    rwa [World.size_alloc] at this
  obtain ⟨w5, hw5⟩ : ∃ w5, w5 = (w4.alloc (.cells #[.string { data := #[102] }, .string { data := #[105, 110, 116] }, .bool false] 43)).alloc
    (.cells #[.string { data := #[65] }, .string { data := #[] }, .slice (some ⟨w4.heap.size, 0, none⟩) 1 1, .slice none 0 0] 25) := ⟨_, rfl⟩
  have hA5 : Blk w5 w.heap.size 25 #[S [65], S [], .slice none 0 0, .slice none 0 0] := by rw [hw5]; exact (hA4.alloc _).alloc _
  have hS5 : Blk w5 w2.heap.size 34 #[S [109], .bool true, .slice none 0 0, S [105, 110, 116], .bool false] := by rw [hw5]; exact (hS4.alloc _).alloc _
  have hF5 : Blk w5 (w2.heap.size + 1) 25 #[S [65], S [], .slice none 0 0, .slice (some ⟨w2.heap.size, 0, none⟩) 1 1] := by rw [hw5]; exact (hF4.alloc _).alloc _
  have hB5 : Below w.heap.size w w5 := by rw [hw5]; exact (hB4.alloc hB4.size _).alloc (by have := hB4.size; simp; omega) _
  rw [← hw5] at hV5 hC5
  have a0 : w5.cell? ⟨w.heap.size, 0, none⟩ = some (.string { data := #[65] }) := hA5.cell 0
  have a1 : w5.cell? ⟨w.heap.size, 1, none⟩ = some (.string { data := #[] }) := hA5.cell 1
  have a2 : w5.cell? ⟨w.heap.size, 2, none⟩ = some (.slice none 0 0) := hA5.cell 2
  have a3 : w5.cell? ⟨w.heap.size, 3, none⟩ = some (.slice none 0 0) := hA5.cell 3
  have b0 : w5.cell? ⟨w2.heap.size + 1, 0, none⟩ = some (.string { data := #[65] }) := hF5.cell 0
  have b1 : w5.cell? ⟨w2.heap.size + 1, 1, none⟩ = some (.string { data := #[] }) := hF5.cell 1
  have b2 : w5.cell? ⟨w2.heap.size + 1, 2, none⟩ = some (.slice none 0 0) := hF5.cell 2
  have b3 : w5.cell? ⟨w2.heap.size + 1, 3, none⟩ = some (.slice (some ⟨w2.heap.size, 0, none⟩) 1 1) := hF5.cell 3
  have hcab := HAB.out w2.heap.size w5 (hfb_at hS5)
  subst hw5
  clear hA3 hS3 hF3 hb4 hA4 hS4 hF4
  go_wp2_with fail
  refine hcab.mono ?_
  rintro e w6 ⟨rfl, hb6⟩
  have hA6 := hA5.below hb6 hA5.lt
  have hS6 := hS5.below hb6 hS5.lt
  have hF6 := hF5.below hb6 hF5.lt
  have hV6 := hV5.below hb6 hV5.lt
  have hC6 := hC5.below hb6 hC5.lt
  have hB6 := hB5.trans (hb6.mono hB5.size)
  have a0 : w6.cell? ⟨w.heap.size, 0, none⟩ = some (.string { data := #[65] }) := hA6.cell 0
  have a1 : w6.cell? ⟨w.heap.size, 1, none⟩ = some (.string { data := #[] }) := hA6.cell 1
  have a2 : w6.cell? ⟨w.heap.size, 2, none⟩ = some (.slice none 0 0) := hA6.cell 2
  have a3 : w6.cell? ⟨w.heap.size, 3, none⟩ = some (.slice none 0 0) := hA6.cell 3
  have b0 : w6.cell? ⟨w4.heap.size + 1, 0, none⟩ = some (.string { data := #[65] }) := hC6.cell 0
  have b1 : w6.cell? ⟨w4.heap.size + 1, 1, none⟩ = some (.string { data := #[] }) := hC6.cell 1
  have b2 : w6.cell? ⟨w4.heap.size + 1, 2, none⟩ = some (.slice (some ⟨w4.heap.size, 0, none⟩) 1 1) := hC6.cell 2
  have b3 : w6.cell? ⟨w4.heap.size + 1, 3, none⟩ = some (.slice none 0 0) := hC6.cell 3
  clear hb6 hA5 hS5 hF5 hV5 hC5 hB5
  go_wp2_with fail
  refine (HAC.out w4.heap.size w6 (hfc_at hV6)).mono ?_
  rintro e w7 ⟨rfl, hb7⟩
  have hA7 := hA6.below hb7 hA6.lt
  have hS7 := hS6.below hb7 hS6.lt
  have hF7 := hF6.below hb7 hF6.lt
  have hB7 := hB6.trans (hb7.mono hB6.size)
  clear a0 a1 a2 a3 b0 b1 b2 b3 hb7 hA6 hS6 hF6 hV6 hC6
  have a0 : w7.cell? ⟨w.heap.size, 0, none⟩ = some (.string { data := #[65] }) := hA7.cell 0
  have a1 : w7.cell? ⟨w.heap.size, 1, none⟩ = some (.string { data := #[] }) := hA7.cell 1
  have a2 : w7.cell? ⟨w.heap.size, 2, none⟩ = some (.slice none 0 0) := hA7.cell 2
  have a3 : w7.cell? ⟨w.heap.size, 3, none⟩ = some (.slice none 0 0) := hA7.cell 3
  have b0 : w7.cell? ⟨w2.heap.size + 1, 0, none⟩ = some (.string { data := #[65] }) := hF7.cell 0
  have b1 : w7.cell? ⟨w2.heap.size + 1, 1, none⟩ = some (.string { data := #[] }) := hF7.cell 1
  have b2 : w7.cell? ⟨w2.heap.size + 1, 2, none⟩ = some (.slice none 0 0) := hF7.cell 2
  have b3 : w7.cell? ⟨w2.heap.size + 1, 3, none⟩ = some (.slice (some ⟨w2.heap.size, 0, none⟩) 1 1) := hF7.cell 3
  go_wp2_with fail
  refine (HBA.out w2.heap.size w7 (hfb_at hS7)).mono ?_
  rintro e w8 ⟨rfl, hb8⟩
  have hB8 := hB7.trans (hb8.mono hB7.size)
  go_wp2_with fail
  go_ret
  exact ⟨rfl, hB8⟩
end Go.Proofs.Ytbnplghbokpfmaa
