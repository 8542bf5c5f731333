/- An expression of two parts, as text; no statement of the seat is proved here. -/
import Derived.Test.YtleccalfcnkklaaDoorAstHead
import Derived.Deep.DeepCutAuto
namespace Go.Proofs.YtleccalfcnkklaaDoor
open Go.RowKit

section
variable (w : World)
set_option maxRecDepth 100000 in
set_option maxHeartbeats 16000000 in
theorem text_bin (g : Nat) (op : List UInt8) (k1 n1 : Int) (m1 : List UInt8) (A1 : Option Addr) (l1 c1 : Nat) (k2 n2 : Int) (m2 : List UInt8) (A2 : Option Addr) (l2 c2 : Nat) (a b : List UInt8) (ha : a.length ≤ 100) (hb2 : b.length ≤ 100) (ho : op.length ≤ 100)
    (hB : Blk w g 29 #[.int .i64 k1, .int .i64 0, .int .i64 0, .int .i64 n1, S m1, S [], .bool false, .slice A1 l1 c1, S [], .bool false, S [], .int .i64 k2, .int .i64 0, .int .i64 0, .int .i64 n2, S m2, S [], .bool false, .slice A2 l2 c2, S [], .bool false, S []])
    (hC1 : ∀ w', Below w.heap.size w w' → Calls Tryd.prog 13 #[.agg #[.int .i64 k1, .int .i64 0, .int .i64 0, .int .i64 n1, S m1, S [], .bool false, .slice A1 l1 c1, S [], .bool false, S []]] w' (Gives w' (S a)))
    (hC2 : ∀ w', Below w.heap.size w w' → Calls Tryd.prog 13 #[.agg #[.int .i64 k2, .int .i64 0, .int .i64 0, .int .i64 n2, S m2, S [], .bool false, .slice A2 l2 c2, S [], .bool false, S []]] w' (Gives w' (S b))) :
    Calls Tryd.prog 13 #[.agg #[.int .i64 16, .int .i64 0, .int .i64 0, .int .i64 0, S op, S [], .bool false, .slice (some ⟨g, 0, none⟩) 2 2, S [], .bool false, S []]] w (Gives w (S ([40] ++ a ++ [32] ++ op ++ [32] ++ b ++ [41]))) := by
  have K : Hid (∀ w', Below w.heap.size w w' → Calls Tryd.prog 35 #[.agg #[.int .i64 16, .int .i64 0, .int .i64 0, .int .i64 0, S op, S [], .bool false, .slice (some ⟨g, 0, none⟩) 2 2, S [], .bool false, S []], .int .i64 0] w' (Gives w' (S a))) := hide (by
    intro w' h
    have hk := hide (hB.below h hB.lt)
    have hn := hide (fun o => (Below.refl w'.heap.size w').alloc (Nat.le_refl _) o)
    have HC := hide (fun o => hC1 _ (h.alloc h.size o))
    clear hC1 hC2 hB h
    have c0 := (hk.out.alloc (.cells #[.int .i64 16, .int .i64 0, .int .i64 0, .int .i64 0, S op, S [], .bool false, .slice (some ⟨g, 0, none⟩) 2 2, S [], .bool false, S []] 29)).cell 0
    have c1 := (hk.out.alloc (.cells #[.int .i64 16, .int .i64 0, .int .i64 0, .int .i64 0, S op, S [], .bool false, .slice (some ⟨g, 0, none⟩) 2 2, S [], .bool false, S []] 29)).cell 1
    have c2 := (hk.out.alloc (.cells #[.int .i64 16, .int .i64 0, .int .i64 0, .int .i64 0, S op, S [], .bool false, .slice (some ⟨g, 0, none⟩) 2 2, S [], .bool false, S []] 29)).cell 2
    have c3 := (hk.out.alloc (.cells #[.int .i64 16, .int .i64 0, .int .i64 0, .int .i64 0, S op, S [], .bool false, .slice (some ⟨g, 0, none⟩) 2 2, S [], .bool false, S []] 29)).cell 3
    have c4 := (hk.out.alloc (.cells #[.int .i64 16, .int .i64 0, .int .i64 0, .int .i64 0, S op, S [], .bool false, .slice (some ⟨g, 0, none⟩) 2 2, S [], .bool false, S []] 29)).cell 4
    have c5 := (hk.out.alloc (.cells #[.int .i64 16, .int .i64 0, .int .i64 0, .int .i64 0, S op, S [], .bool false, .slice (some ⟨g, 0, none⟩) 2 2, S [], .bool false, S []] 29)).cell 5
    have c6 := (hk.out.alloc (.cells #[.int .i64 16, .int .i64 0, .int .i64 0, .int .i64 0, S op, S [], .bool false, .slice (some ⟨g, 0, none⟩) 2 2, S [], .bool false, S []] 29)).cell 6
    have c7 := (hk.out.alloc (.cells #[.int .i64 16, .int .i64 0, .int .i64 0, .int .i64 0, S op, S [], .bool false, .slice (some ⟨g, 0, none⟩) 2 2, S [], .bool false, S []] 29)).cell 7
    have c8 := (hk.out.alloc (.cells #[.int .i64 16, .int .i64 0, .int .i64 0, .int .i64 0, S op, S [], .bool false, .slice (some ⟨g, 0, none⟩) 2 2, S [], .bool false, S []] 29)).cell 8
    have c9 := (hk.out.alloc (.cells #[.int .i64 16, .int .i64 0, .int .i64 0, .int .i64 0, S op, S [], .bool false, .slice (some ⟨g, 0, none⟩) 2 2, S [], .bool false, S []] 29)).cell 9
    have c10 := (hk.out.alloc (.cells #[.int .i64 16, .int .i64 0, .int .i64 0, .int .i64 0, S op, S [], .bool false, .slice (some ⟨g, 0, none⟩) 2 2, S [], .bool false, S []] 29)).cell 10
    simp at c0 c1 c2 c3 c4 c5 c6 c7 c8 c9 c10
    go_enter Tryd.func35, Tryd.ntmps35
    go_wp2_with (go_at_call 13; refine (HC.out _).mono ?_; rintro e w2 ⟨rfl, hb⟩)
    go_ret
    exact ⟨rfl, (hn.out _).trans (hb.mono (hn.out _).size)⟩)
  have K1 : Hid (∀ w', Below w.heap.size w w' → Calls Tryd.prog 35 #[.agg #[.int .i64 16, .int .i64 0, .int .i64 0, .int .i64 0, S op, S [], .bool false, .slice (some ⟨g, 0, none⟩) 2 2, S [], .bool false, S []], .int .i64 1] w' (Gives w' (S b))) := hide (by
    intro w' h
    have hk := hide (hB.below h hB.lt)
    have hn := hide (fun o => (Below.refl w'.heap.size w').alloc (Nat.le_refl _) o)
    have HC := hide (fun o => hC2 _ (h.alloc h.size o))
    clear hC1 hC2 hB h
    have c11 := (hk.out.alloc (.cells #[.int .i64 16, .int .i64 0, .int .i64 0, .int .i64 0, S op, S [], .bool false, .slice (some ⟨g, 0, none⟩) 2 2, S [], .bool false, S []] 29)).cell 11
    have c12 := (hk.out.alloc (.cells #[.int .i64 16, .int .i64 0, .int .i64 0, .int .i64 0, S op, S [], .bool false, .slice (some ⟨g, 0, none⟩) 2 2, S [], .bool false, S []] 29)).cell 12
    have c13 := (hk.out.alloc (.cells #[.int .i64 16, .int .i64 0, .int .i64 0, .int .i64 0, S op, S [], .bool false, .slice (some ⟨g, 0, none⟩) 2 2, S [], .bool false, S []] 29)).cell 13
    have c14 := (hk.out.alloc (.cells #[.int .i64 16, .int .i64 0, .int .i64 0, .int .i64 0, S op, S [], .bool false, .slice (some ⟨g, 0, none⟩) 2 2, S [], .bool false, S []] 29)).cell 14
    have c15 := (hk.out.alloc (.cells #[.int .i64 16, .int .i64 0, .int .i64 0, .int .i64 0, S op, S [], .bool false, .slice (some ⟨g, 0, none⟩) 2 2, S [], .bool false, S []] 29)).cell 15
    have c16 := (hk.out.alloc (.cells #[.int .i64 16, .int .i64 0, .int .i64 0, .int .i64 0, S op, S [], .bool false, .slice (some ⟨g, 0, none⟩) 2 2, S [], .bool false, S []] 29)).cell 16
    have c17 := (hk.out.alloc (.cells #[.int .i64 16, .int .i64 0, .int .i64 0, .int .i64 0, S op, S [], .bool false, .slice (some ⟨g, 0, none⟩) 2 2, S [], .bool false, S []] 29)).cell 17
    have c18 := (hk.out.alloc (.cells #[.int .i64 16, .int .i64 0, .int .i64 0, .int .i64 0, S op, S [], .bool false, .slice (some ⟨g, 0, none⟩) 2 2, S [], .bool false, S []] 29)).cell 18
    have c19 := (hk.out.alloc (.cells #[.int .i64 16, .int .i64 0, .int .i64 0, .int .i64 0, S op, S [], .bool false, .slice (some ⟨g, 0, none⟩) 2 2, S [], .bool false, S []] 29)).cell 19
    have c20 := (hk.out.alloc (.cells #[.int .i64 16, .int .i64 0, .int .i64 0, .int .i64 0, S op, S [], .bool false, .slice (some ⟨g, 0, none⟩) 2 2, S [], .bool false, S []] 29)).cell 20
    have c21 := (hk.out.alloc (.cells #[.int .i64 16, .int .i64 0, .int .i64 0, .int .i64 0, S op, S [], .bool false, .slice (some ⟨g, 0, none⟩) 2 2, S [], .bool false, S []] 29)).cell 21
    simp at c11 c12 c13 c14 c15 c16 c17 c18 c19 c20 c21
    go_enter Tryd.func35, Tryd.ntmps35
    go_wp2_with (go_at_call 13; refine (HC.out _).mono ?_; rintro e w2 ⟨rfl, hb⟩)
    go_ret
    exact ⟨rfl, (hn.out _).trans (hb.mono (hn.out _).size)⟩)
  have hn := hide (fun o => (Below.refl w.heap.size w).alloc (Nat.le_refl _) o)
  clear hC1 hC2 hB
  obtain ⟨wA, hwA⟩ : ∃ wA, wA = w.alloc (.cells #[.int .i64 16, .int .i64 0, .int .i64 0, .int .i64 0, S op, S [], .bool false, .slice (some ⟨g, 0, none⟩) 2 2, S [], .bool false, S []] 29) := ⟨_, rfl⟩
  have hbA : Below w.heap.size w wA := by rw [hwA]; exact hn.out _
  have hbk : Blk wA w.heap.size 29 #[.int .i64 16, .int .i64 0, .int .i64 0, .int .i64 0, S op, S [], .bool false, .slice (some ⟨g, 0, none⟩) 2 2, S [], .bool false, S []] := by rw [hwA]; exact Blk.new _ _ _
  have K0 := hide (fun t : After wA => K.out t.val (hbA.trans (t.prop.mono hbA.size)))
  have K2 := hide (fun t : After wA => K1.out t.val (hbA.trans (t.prop.mono hbA.size)))
  have c0 : ∀ t : After wA, t.val.cell? ⟨w.heap.size, 0, none⟩ = some (.int .i64 16) := fun t => by
    have h := (hbk.below t.prop hbk.lt).cell 0
    simpa using h
  have c1 : ∀ t : After wA, t.val.cell? ⟨w.heap.size, 1, none⟩ = some (.int .i64 0) := fun t => by
    have h := (hbk.below t.prop hbk.lt).cell 1
    simpa using h
  have c2 : ∀ t : After wA, t.val.cell? ⟨w.heap.size, 2, none⟩ = some (.int .i64 0) := fun t => by
    have h := (hbk.below t.prop hbk.lt).cell 2
    simpa using h
  have c3 : ∀ t : After wA, t.val.cell? ⟨w.heap.size, 3, none⟩ = some (.int .i64 0) := fun t => by
    have h := (hbk.below t.prop hbk.lt).cell 3
    simpa using h
  have c4 : ∀ t : After wA, t.val.cell? ⟨w.heap.size, 4, none⟩ = some (S op) := fun t => by
    have h := (hbk.below t.prop hbk.lt).cell 4
    simpa using h
  have c5 : ∀ t : After wA, t.val.cell? ⟨w.heap.size, 5, none⟩ = some (S []) := fun t => by
    have h := (hbk.below t.prop hbk.lt).cell 5
    simpa using h
  have c6 : ∀ t : After wA, t.val.cell? ⟨w.heap.size, 6, none⟩ = some (.bool false) := fun t => by
    have h := (hbk.below t.prop hbk.lt).cell 6
    simpa using h
  have c7 : ∀ t : After wA, t.val.cell? ⟨w.heap.size, 7, none⟩ = some (.slice (some ⟨g, 0, none⟩) 2 2) := fun t => by
    have h := (hbk.below t.prop hbk.lt).cell 7
    simpa using h
  have c8 : ∀ t : After wA, t.val.cell? ⟨w.heap.size, 8, none⟩ = some (S []) := fun t => by
    have h := (hbk.below t.prop hbk.lt).cell 8
    simpa using h
  have c9 : ∀ t : After wA, t.val.cell? ⟨w.heap.size, 9, none⟩ = some (.bool false) := fun t => by
    have h := (hbk.below t.prop hbk.lt).cell 9
    simpa using h
  have c10 : ∀ t : After wA, t.val.cell? ⟨w.heap.size, 10, none⟩ = some (S []) := fun t => by
    have h := (hbk.below t.prop hbk.lt).cell 10
    simpa using h
  have HBA := hide hbA
  clear hbA hbk K K1 hn
  go_enter Tryd.func13, Tryd.ntmps13
  go_upto_region 31 with fail
  rw [← hwA]
  clear hwA
  refine region_after (by kernel_rfl) (by kernel_rfl) ?_
  repeat (go_big_quiet_step (first | (go_at_call 35; with_reducible refine call_after (K0.out _)) | (go_at_call 35; with_reducible refine call_after (K2.out _))))
  refine wpQuiet_nil ?_
  rintro _ ⟨t, rfl⟩
  go_wp2_with fail
  go_ret
  exact ⟨by simp [go_sem], HBA.out.trans (t.prop.mono HBA.out.size)⟩
end
end Go.Proofs.YtleccalfcnkklaaDoor
