/- An expression's text, walked, by the tree; no statement of the seat is proved here. -/
import Derived.Test.YtleccalfcnkklaaDoorTreeKid
namespace Go.Proofs.YtleccalfcnkklaaDoor
open Go.RowKit
set_option linter.unusedVariables false

theorem kid_bd {ts : List (List UInt8)} {B : Nat} (h : (ts.map List.length).sum ≤ B) (hB : 4 ≤ B) (i : Nat) : (kidT ts i).length ≤ B := by
  unfold kidT
  rcases Nat.lt_or_ge i ts.length with hi | hi
  · have : ts.getD i nul = ts[i] := by simp [List.getD, hi]
    rw [this]
    have := sum_mem (f := List.length) (List.getElem_mem hi)
    omega
  · have : ts.getD i nul = nul := by simp [List.getD, hi]
    rw [this]
    exact hB
theorem joinC_bd {ts : List (List UInt8)} {B : Nat} (h : (ts.map List.length).sum + 4 * ts.length ≤ B) : (joinC ts).length ≤ B := by
  have := join_len ts [44, 32]
  unfold joinC
  simp at this
  omega
set_option maxRecDepth 100000 in
set_option maxHeartbeats 4000000 in
theorem tk_2 (ln co nu : Int) (n tn : List UInt8) (ta : Bool) (A : Option Addr) (k c : Nat) (on : List UInt8) (oa : Bool) (ow : List UInt8) (ks : List Ex) (w : World) (h : Had w A k c ks 13) (hn : n.length ≤ 140737488351232) (htn : tn.length ≤ 140737488351232) :
    Calls Tryd.prog 13 #[.agg #[.int .i64 2, .int .i64 ln, .int .i64 co, .int .i64 nu, S n, S tn, .bool ta, .slice A k c, S on, .bool oa, S ow]] w (Gives w (S ([116, 114, 117, 101]))) := by
  obtain ⟨wA, hwA⟩ : ∃ wA, wA = w.alloc (.cells #[.int .i64 2, .int .i64 ln, .int .i64 co, .int .i64 nu, S n, S tn, .bool ta, .slice A k c, S on, .bool oa, S ow] 29) := ⟨_, rfl⟩
  have hbA : Below w.heap.size w wA := by rw [hwA]; exact (Below.refl _ _).alloc (Nat.le_refl _) _
  have hbk : Blk wA w.heap.size 29 #[.int .i64 2, .int .i64 ln, .int .i64 co, .int .i64 nu, S n, S tn, .bool ta, .slice A k c, S on, .bool oa, S ow] := by rw [hwA]; exact Blk.new _ _ _
  have HBA := hide hbA
  have HBK := hide hbk
  clear h
  have c0 := HBK.out.cell 0
  have c3 := HBK.out.cell 3
  have c4 := HBK.out.cell 4
  have c5 := HBK.out.cell 5
  simp at c0 c3 c4 c5
  go_enter Tryd.func13, Tryd.ntmps13
  go_upto_region 1 with fail
  rw [← hwA]
  clear hwA hbA hbk
  go_wp2_with fail
  go_ret
  exact ⟨by simp [go_sem], HBA.out⟩
set_option maxRecDepth 100000 in
set_option maxHeartbeats 4000000 in
theorem tk_3 (ln co nu : Int) (n tn : List UInt8) (ta : Bool) (A : Option Addr) (k c : Nat) (on : List UInt8) (oa : Bool) (ow : List UInt8) (ks : List Ex) (w : World) (h : Had w A k c ks 13) (hn : n.length ≤ 140737488351232) (htn : tn.length ≤ 140737488351232) :
    Calls Tryd.prog 13 #[.agg #[.int .i64 3, .int .i64 ln, .int .i64 co, .int .i64 nu, S n, S tn, .bool ta, .slice A k c, S on, .bool oa, S ow]] w (Gives w (S ([102, 97, 108, 115, 101]))) := by
  obtain ⟨wA, hwA⟩ : ∃ wA, wA = w.alloc (.cells #[.int .i64 3, .int .i64 ln, .int .i64 co, .int .i64 nu, S n, S tn, .bool ta, .slice A k c, S on, .bool oa, S ow] 29) := ⟨_, rfl⟩
  have hbA : Below w.heap.size w wA := by rw [hwA]; exact (Below.refl _ _).alloc (Nat.le_refl _) _
  have hbk : Blk wA w.heap.size 29 #[.int .i64 3, .int .i64 ln, .int .i64 co, .int .i64 nu, S n, S tn, .bool ta, .slice A k c, S on, .bool oa, S ow] := by rw [hwA]; exact Blk.new _ _ _
  have HBA := hide hbA
  have HBK := hide hbk
  clear h
  have c0 := HBK.out.cell 0
  have c3 := HBK.out.cell 3
  have c4 := HBK.out.cell 4
  have c5 := HBK.out.cell 5
  simp at c0 c3 c4 c5
  go_enter Tryd.func13, Tryd.ntmps13
  go_upto_region 1 with fail
  rw [← hwA]
  clear hwA hbA hbk
  go_wp2_with fail
  go_ret
  exact ⟨by simp [go_sem], HBA.out⟩
set_option maxRecDepth 100000 in
set_option maxHeartbeats 4000000 in
theorem tk_5 (ln co nu : Int) (n tn : List UInt8) (ta : Bool) (A : Option Addr) (k c : Nat) (on : List UInt8) (oa : Bool) (ow : List UInt8) (ks : List Ex) (w : World) (h : Had w A k c ks 13) (hn : n.length ≤ 140737488351232) (htn : tn.length ≤ 140737488351232) :
    Calls Tryd.prog 13 #[.agg #[.int .i64 5, .int .i64 ln, .int .i64 co, .int .i64 nu, S n, S tn, .bool ta, .slice A k c, S on, .bool oa, S ow]] w (Gives w (S ([116, 104, 105, 115]))) := by
  obtain ⟨wA, hwA⟩ : ∃ wA, wA = w.alloc (.cells #[.int .i64 5, .int .i64 ln, .int .i64 co, .int .i64 nu, S n, S tn, .bool ta, .slice A k c, S on, .bool oa, S ow] 29) := ⟨_, rfl⟩
  have hbA : Below w.heap.size w wA := by rw [hwA]; exact (Below.refl _ _).alloc (Nat.le_refl _) _
  have hbk : Blk wA w.heap.size 29 #[.int .i64 5, .int .i64 ln, .int .i64 co, .int .i64 nu, S n, S tn, .bool ta, .slice A k c, S on, .bool oa, S ow] := by rw [hwA]; exact Blk.new _ _ _
  have HBA := hide hbA
  have HBK := hide hbk
  clear h
  have c0 := HBK.out.cell 0
  have c3 := HBK.out.cell 3
  have c4 := HBK.out.cell 4
  have c5 := HBK.out.cell 5
  simp at c0 c3 c4 c5
  go_enter Tryd.func13, Tryd.ntmps13
  go_upto_region 1 with fail
  rw [← hwA]
  clear hwA hbA hbk
  go_wp2_with fail
  go_ret
  exact ⟨by simp [go_sem], HBA.out⟩
set_option maxRecDepth 100000 in
set_option maxHeartbeats 4000000 in
theorem tk_6 (ln co nu : Int) (n tn : List UInt8) (ta : Bool) (A : Option Addr) (k c : Nat) (on : List UInt8) (oa : Bool) (ow : List UInt8) (ks : List Ex) (w : World) (h : Had w A k c ks 13) (hn : n.length ≤ 140737488351232) (htn : tn.length ≤ 140737488351232) :
    Calls Tryd.prog 13 #[.agg #[.int .i64 6, .int .i64 ln, .int .i64 co, .int .i64 nu, S n, S tn, .bool ta, .slice A k c, S on, .bool oa, S ow]] w (Gives w (S (n))) := by
  obtain ⟨wA, hwA⟩ : ∃ wA, wA = w.alloc (.cells #[.int .i64 6, .int .i64 ln, .int .i64 co, .int .i64 nu, S n, S tn, .bool ta, .slice A k c, S on, .bool oa, S ow] 29) := ⟨_, rfl⟩
  have hbA : Below w.heap.size w wA := by rw [hwA]; exact (Below.refl _ _).alloc (Nat.le_refl _) _
  have hbk : Blk wA w.heap.size 29 #[.int .i64 6, .int .i64 ln, .int .i64 co, .int .i64 nu, S n, S tn, .bool ta, .slice A k c, S on, .bool oa, S ow] := by rw [hwA]; exact Blk.new _ _ _
  have HBA := hide hbA
  have HBK := hide hbk
  clear h
  have c0 := HBK.out.cell 0
  have c3 := HBK.out.cell 3
  have c4 := HBK.out.cell 4
  have c5 := HBK.out.cell 5
  simp at c0 c3 c4 c5
  go_enter Tryd.func13, Tryd.ntmps13
  go_upto_region 1 with fail
  rw [← hwA]
  clear hwA hbA hbk
  go_wp2_with fail
  go_ret
  exact ⟨by simp [go_sem], HBA.out⟩
set_option maxRecDepth 100000 in
set_option maxHeartbeats 4000000 in
theorem tk_7 (ln co nu : Int) (n tn : List UInt8) (ta : Bool) (A : Option Addr) (k c : Nat) (on : List UInt8) (oa : Bool) (ow : List UInt8) (ks : List Ex) (w : World) (h : Had w A k c ks 13) (hn : n.length ≤ 140737488351232) (htn : tn.length ≤ 140737488351232) :
    Calls Tryd.prog 13 #[.agg #[.int .i64 7, .int .i64 ln, .int .i64 co, .int .i64 nu, S n, S tn, .bool ta, .slice A k c, S on, .bool oa, S ow]] w (Gives w (S ((kidT (ks.map Ex.text) 0) ++ [46] ++ n))) := by
  obtain ⟨wA, hwA⟩ : ∃ wA, wA = w.alloc (.cells #[.int .i64 7, .int .i64 ln, .int .i64 co, .int .i64 nu, S n, S tn, .bool ta, .slice A k c, S on, .bool oa, S ow] 29) := ⟨_, rfl⟩
  have hbA : Below w.heap.size w wA := by rw [hwA]; exact (Below.refl _ _).alloc (Nat.le_refl _) _
  have hbk : Blk wA w.heap.size 29 #[.int .i64 7, .int .i64 ln, .int .i64 co, .int .i64 nu, S n, S tn, .bool ta, .slice A k c, S on, .bool oa, S ow] := by rw [hwA]; exact Blk.new _ _ _
  have HBA := hide hbA
  have HBK := hide hbk
  have hall : ((ks.map Ex.text).map List.length).sum + 4 * (ks.map Ex.text).length ≤ 1099511627776 := by rw [List.map_map, List.length_map]; exact h.bd
  have hall1 : (((ks.map Ex.text).drop 1).map List.length).sum + 4 * ((ks.map Ex.text).drop 1).length ≤ 1099511627776 := by
    have := h.rest.bd
    rw [← List.map_drop, List.map_map, List.length_map]
    exact this
  have hsum : ((ks.map Ex.text).map List.length).sum ≤ 1099511627776 := by omega
  have C0 : ∀ t : After wA, Calls Tryd.prog 35 #[.agg #[.int .i64 7, .int .i64 ln, .int .i64 co, .int .i64 nu, S n, S tn, .bool ta, .slice A k c, S on, .bool oa, S ow], .int .i64 0] t.val (Gives t.val (S (kidT (ks.map Ex.text) 0))) := fun t => kid_any _ _ _ _ _ _ _ _ _ _ _ _ _ ks 0 t.val (h.on (hbA.trans (t.prop.mono hbA.size))) (by omega)
  have bK0 : (kidT (ks.map Ex.text) 0).length ≤ 1099511627776 := kid_bd (B := 1099511627776) hsum (by omega) 0
  generalize kidT (ks.map Ex.text) 0 = XK0 at bK0 C0 ⊢
  have HC0 := hide C0
  clear hall hall1 hsum C0 h
  have c0 := HBK.out.cell 0
  have c3 := HBK.out.cell 3
  have c4 := HBK.out.cell 4
  have c5 := HBK.out.cell 5
  simp at c0 c3 c4 c5
  go_enter Tryd.func13, Tryd.ntmps13
  go_upto_region 1 with fail
  rw [← hwA]
  clear hwA hbA hbk
  go_upto_region 13 with fail
  clear c0 c3 c4 c5
  have p0 : ∀ t : After wA, t.val.cell? ⟨w.heap.size, 0, none⟩ = some (.int .i64 7) := fun t => (HBK.out.below t.prop HBK.out.lt).cell 0
  have p1 : ∀ t : After wA, t.val.cell? ⟨w.heap.size, 1, none⟩ = some (.int .i64 ln) := fun t => (HBK.out.below t.prop HBK.out.lt).cell 1
  have p2 : ∀ t : After wA, t.val.cell? ⟨w.heap.size, 2, none⟩ = some (.int .i64 co) := fun t => (HBK.out.below t.prop HBK.out.lt).cell 2
  have p3 : ∀ t : After wA, t.val.cell? ⟨w.heap.size, 3, none⟩ = some (.int .i64 nu) := fun t => (HBK.out.below t.prop HBK.out.lt).cell 3
  have p4 : ∀ t : After wA, t.val.cell? ⟨w.heap.size, 4, none⟩ = some (S n) := fun t => (HBK.out.below t.prop HBK.out.lt).cell 4
  have p5 : ∀ t : After wA, t.val.cell? ⟨w.heap.size, 5, none⟩ = some (S tn) := fun t => (HBK.out.below t.prop HBK.out.lt).cell 5
  have p6 : ∀ t : After wA, t.val.cell? ⟨w.heap.size, 6, none⟩ = some (.bool ta) := fun t => (HBK.out.below t.prop HBK.out.lt).cell 6
  have p7 : ∀ t : After wA, t.val.cell? ⟨w.heap.size, 7, none⟩ = some (.slice A k c) := fun t => (HBK.out.below t.prop HBK.out.lt).cell 7
  have p8 : ∀ t : After wA, t.val.cell? ⟨w.heap.size, 8, none⟩ = some (S on) := fun t => (HBK.out.below t.prop HBK.out.lt).cell 8
  have p9 : ∀ t : After wA, t.val.cell? ⟨w.heap.size, 9, none⟩ = some (.bool oa) := fun t => (HBK.out.below t.prop HBK.out.lt).cell 9
  have p10 : ∀ t : After wA, t.val.cell? ⟨w.heap.size, 10, none⟩ = some (S ow) := fun t => (HBK.out.below t.prop HBK.out.lt).cell 10
  refine region_after (by kernel_rfl) (by kernel_rfl) ?_
  repeat (go_big_quiet_step (first | (go_at_call 35; with_reducible refine call_after (HC0.out _))))
  refine wpQuiet_nil ?_
  rintro _ ⟨t, rfl⟩
  go_wp2_with fail
  go_ret
  exact ⟨by simp [go_sem], HBA.out.trans (t.prop.mono HBA.out.size)⟩
set_option maxRecDepth 100000 in
set_option maxHeartbeats 4000000 in
theorem tk_8 (ln co nu : Int) (n tn : List UInt8) (ta : Bool) (A : Option Addr) (k c : Nat) (on : List UInt8) (oa : Bool) (ow : List UInt8) (ks : List Ex) (w : World) (h : Had w A k c ks 13) (hn : n.length ≤ 140737488351232) (htn : tn.length ≤ 140737488351232) :
    Calls Tryd.prog 13 #[.agg #[.int .i64 8, .int .i64 ln, .int .i64 co, .int .i64 nu, S n, S tn, .bool ta, .slice A k c, S on, .bool oa, S ow]] w (Gives w (S ((kidT (ks.map Ex.text) 0) ++ [46] ++ n ++ [40] ++ (joinC ((ks.map Ex.text).drop 1)) ++ [41]))) := by
  obtain ⟨wA, hwA⟩ : ∃ wA, wA = w.alloc (.cells #[.int .i64 8, .int .i64 ln, .int .i64 co, .int .i64 nu, S n, S tn, .bool ta, .slice A k c, S on, .bool oa, S ow] 29) := ⟨_, rfl⟩
  have hbA : Below w.heap.size w wA := by rw [hwA]; exact (Below.refl _ _).alloc (Nat.le_refl _) _
  have hbk : Blk wA w.heap.size 29 #[.int .i64 8, .int .i64 ln, .int .i64 co, .int .i64 nu, S n, S tn, .bool ta, .slice A k c, S on, .bool oa, S ow] := by rw [hwA]; exact Blk.new _ _ _
  have HBA := hide hbA
  have HBK := hide hbk
  have hall : ((ks.map Ex.text).map List.length).sum + 4 * (ks.map Ex.text).length ≤ 1099511627776 := by rw [List.map_map, List.length_map]; exact h.bd
  have hall1 : (((ks.map Ex.text).drop 1).map List.length).sum + 4 * ((ks.map Ex.text).drop 1).length ≤ 1099511627776 := by
    have := h.rest.bd
    rw [← List.map_drop, List.map_map, List.length_map]
    exact this
  have hsum : ((ks.map Ex.text).map List.length).sum ≤ 1099511627776 := by omega
  have C0 : ∀ t : After wA, Calls Tryd.prog 35 #[.agg #[.int .i64 8, .int .i64 ln, .int .i64 co, .int .i64 nu, S n, S tn, .bool ta, .slice A k c, S on, .bool oa, S ow], .int .i64 0] t.val (Gives t.val (S (kidT (ks.map Ex.text) 0))) := fun t => kid_any _ _ _ _ _ _ _ _ _ _ _ _ _ ks 0 t.val (h.on (hbA.trans (t.prop.mono hbA.size))) (by omega)
  have R1 : ∀ t : After wA, Calls Tryd.prog 37 #[.agg #[.int .i64 8, .int .i64 ln, .int .i64 co, .int .i64 nu, S n, S tn, .bool ta, .slice A k c, S on, .bool oa, S ow]] t.val (Gives t.val (.slice (rA A k c) (k - 1) (rC k c))) := fun t => rest_any _ _ _ _ _ _ _ _ _ _ _ _ _ ks t.val (h.on (hbA.trans (t.prop.mono hbA.size)))
  have D1 : ∀ t : After wA, Calls Tryd.prog 36 #[.slice (rA A k c) (k - 1) (rC k c)] t.val (Gives t.val (S (joinC ((ks.map Ex.text).drop 1)))) := fun t => by rw [← List.map_drop]; exact list_any _ _ _ (ks.drop 1) t.val (h.on (hbA.trans (t.prop.mono hbA.size))).rest
  generalize rA A k c = A2 at R1 D1
  generalize k - 1 = k2 at R1 D1
  generalize rC k c = c2 at R1 D1
  have HR1 := hide R1
  have bK0 : (kidT (ks.map Ex.text) 0).length ≤ 1099511627776 := kid_bd (B := 1099511627776) hsum (by omega) 0
  generalize kidT (ks.map Ex.text) 0 = XK0 at bK0 C0 ⊢
  have HC0 := hide C0
  have bL1 : (joinC ((ks.map Ex.text).drop 1)).length ≤ 1099511627776 := joinC_bd (B := 1099511627776) hall1
  generalize joinC ((ks.map Ex.text).drop 1) = XL1 at bL1 D1 ⊢
  have HD1 := hide D1
  clear hall hall1 hsum C0 D1 R1 h
  have c0 := HBK.out.cell 0
  have c3 := HBK.out.cell 3
  have c4 := HBK.out.cell 4
  have c5 := HBK.out.cell 5
  simp at c0 c3 c4 c5
  go_enter Tryd.func13, Tryd.ntmps13
  go_upto_region 1 with fail
  rw [← hwA]
  clear hwA hbA hbk
  go_upto_region 15 with fail
  clear c0 c3 c4 c5
  have p0 : ∀ t : After wA, t.val.cell? ⟨w.heap.size, 0, none⟩ = some (.int .i64 8) := fun t => (HBK.out.below t.prop HBK.out.lt).cell 0
  have p1 : ∀ t : After wA, t.val.cell? ⟨w.heap.size, 1, none⟩ = some (.int .i64 ln) := fun t => (HBK.out.below t.prop HBK.out.lt).cell 1
  have p2 : ∀ t : After wA, t.val.cell? ⟨w.heap.size, 2, none⟩ = some (.int .i64 co) := fun t => (HBK.out.below t.prop HBK.out.lt).cell 2
  have p3 : ∀ t : After wA, t.val.cell? ⟨w.heap.size, 3, none⟩ = some (.int .i64 nu) := fun t => (HBK.out.below t.prop HBK.out.lt).cell 3
  have p4 : ∀ t : After wA, t.val.cell? ⟨w.heap.size, 4, none⟩ = some (S n) := fun t => (HBK.out.below t.prop HBK.out.lt).cell 4
  have p5 : ∀ t : After wA, t.val.cell? ⟨w.heap.size, 5, none⟩ = some (S tn) := fun t => (HBK.out.below t.prop HBK.out.lt).cell 5
  have p6 : ∀ t : After wA, t.val.cell? ⟨w.heap.size, 6, none⟩ = some (.bool ta) := fun t => (HBK.out.below t.prop HBK.out.lt).cell 6
  have p7 : ∀ t : After wA, t.val.cell? ⟨w.heap.size, 7, none⟩ = some (.slice A k c) := fun t => (HBK.out.below t.prop HBK.out.lt).cell 7
  have p8 : ∀ t : After wA, t.val.cell? ⟨w.heap.size, 8, none⟩ = some (S on) := fun t => (HBK.out.below t.prop HBK.out.lt).cell 8
  have p9 : ∀ t : After wA, t.val.cell? ⟨w.heap.size, 9, none⟩ = some (.bool oa) := fun t => (HBK.out.below t.prop HBK.out.lt).cell 9
  have p10 : ∀ t : After wA, t.val.cell? ⟨w.heap.size, 10, none⟩ = some (S ow) := fun t => (HBK.out.below t.prop HBK.out.lt).cell 10
  refine region_after (by kernel_rfl) (by kernel_rfl) ?_
  repeat (go_big_quiet_step (first | (go_at_call 35; with_reducible refine call_after (HC0.out _)) | (go_at_call 37; with_reducible refine call_after (HR1.out _)) | (go_at_call 36; with_reducible refine call_after (HD1.out _))))
  refine wpQuiet_nil ?_
  rintro _ ⟨t, rfl⟩
  go_wp2_with fail
  go_ret
  exact ⟨by simp [go_sem], HBA.out.trans (t.prop.mono HBA.out.size)⟩
set_option maxRecDepth 100000 in
set_option maxHeartbeats 4000000 in
theorem tk_9 (ln co nu : Int) (n tn : List UInt8) (ta : Bool) (A : Option Addr) (k c : Nat) (on : List UInt8) (oa : Bool) (ow : List UInt8) (ks : List Ex) (w : World) (h : Had w A k c ks 13) (hn : n.length ≤ 140737488351232) (htn : tn.length ≤ 140737488351232) :
    Calls Tryd.prog 13 #[.agg #[.int .i64 9, .int .i64 ln, .int .i64 co, .int .i64 nu, S n, S tn, .bool ta, .slice A k c, S on, .bool oa, S ow]] w (Gives w (S (tn ++ [46] ++ n ++ [40] ++ (joinC (ks.map Ex.text)) ++ [41]))) := by
  obtain ⟨wA, hwA⟩ : ∃ wA, wA = w.alloc (.cells #[.int .i64 9, .int .i64 ln, .int .i64 co, .int .i64 nu, S n, S tn, .bool ta, .slice A k c, S on, .bool oa, S ow] 29) := ⟨_, rfl⟩
  have hbA : Below w.heap.size w wA := by rw [hwA]; exact (Below.refl _ _).alloc (Nat.le_refl _) _
  have hbk : Blk wA w.heap.size 29 #[.int .i64 9, .int .i64 ln, .int .i64 co, .int .i64 nu, S n, S tn, .bool ta, .slice A k c, S on, .bool oa, S ow] := by rw [hwA]; exact Blk.new _ _ _
  have HBA := hide hbA
  have HBK := hide hbk
  have hall : ((ks.map Ex.text).map List.length).sum + 4 * (ks.map Ex.text).length ≤ 1099511627776 := by rw [List.map_map, List.length_map]; exact h.bd
  have hall1 : (((ks.map Ex.text).drop 1).map List.length).sum + 4 * ((ks.map Ex.text).drop 1).length ≤ 1099511627776 := by
    have := h.rest.bd
    rw [← List.map_drop, List.map_map, List.length_map]
    exact this
  have hsum : ((ks.map Ex.text).map List.length).sum ≤ 1099511627776 := by omega
  have D0 : ∀ t : After wA, Calls Tryd.prog 36 #[.slice A k c] t.val (Gives t.val (S (joinC (ks.map Ex.text)))) := fun t => list_any A k c ks t.val (h.on (hbA.trans (t.prop.mono hbA.size)))
  have bL0 : (joinC (ks.map Ex.text)).length ≤ 1099511627776 := joinC_bd (B := 1099511627776) hall
  generalize joinC (ks.map Ex.text) = XL0 at bL0 D0 ⊢
  have HD0 := hide D0
  clear hall hall1 hsum D0 h
  have c0 := HBK.out.cell 0
  have c3 := HBK.out.cell 3
  have c4 := HBK.out.cell 4
  have c5 := HBK.out.cell 5
  simp at c0 c3 c4 c5
  go_enter Tryd.func13, Tryd.ntmps13
  go_upto_region 1 with fail
  rw [← hwA]
  clear hwA hbA hbk
  go_upto_region 17 with fail
  clear c0 c3 c4 c5
  have p0 : ∀ t : After wA, t.val.cell? ⟨w.heap.size, 0, none⟩ = some (.int .i64 9) := fun t => (HBK.out.below t.prop HBK.out.lt).cell 0
  have p1 : ∀ t : After wA, t.val.cell? ⟨w.heap.size, 1, none⟩ = some (.int .i64 ln) := fun t => (HBK.out.below t.prop HBK.out.lt).cell 1
  have p2 : ∀ t : After wA, t.val.cell? ⟨w.heap.size, 2, none⟩ = some (.int .i64 co) := fun t => (HBK.out.below t.prop HBK.out.lt).cell 2
  have p3 : ∀ t : After wA, t.val.cell? ⟨w.heap.size, 3, none⟩ = some (.int .i64 nu) := fun t => (HBK.out.below t.prop HBK.out.lt).cell 3
  have p4 : ∀ t : After wA, t.val.cell? ⟨w.heap.size, 4, none⟩ = some (S n) := fun t => (HBK.out.below t.prop HBK.out.lt).cell 4
  have p5 : ∀ t : After wA, t.val.cell? ⟨w.heap.size, 5, none⟩ = some (S tn) := fun t => (HBK.out.below t.prop HBK.out.lt).cell 5
  have p6 : ∀ t : After wA, t.val.cell? ⟨w.heap.size, 6, none⟩ = some (.bool ta) := fun t => (HBK.out.below t.prop HBK.out.lt).cell 6
  have p7 : ∀ t : After wA, t.val.cell? ⟨w.heap.size, 7, none⟩ = some (.slice A k c) := fun t => (HBK.out.below t.prop HBK.out.lt).cell 7
  have p8 : ∀ t : After wA, t.val.cell? ⟨w.heap.size, 8, none⟩ = some (S on) := fun t => (HBK.out.below t.prop HBK.out.lt).cell 8
  have p9 : ∀ t : After wA, t.val.cell? ⟨w.heap.size, 9, none⟩ = some (.bool oa) := fun t => (HBK.out.below t.prop HBK.out.lt).cell 9
  have p10 : ∀ t : After wA, t.val.cell? ⟨w.heap.size, 10, none⟩ = some (S ow) := fun t => (HBK.out.below t.prop HBK.out.lt).cell 10
  refine region_after (by kernel_rfl) (by kernel_rfl) ?_
  repeat (go_big_quiet_step (first | (go_at_call 36; with_reducible refine call_after (HD0.out _))))
  refine wpQuiet_nil ?_
  rintro _ ⟨t, rfl⟩
  go_wp2_with fail
  go_ret
  exact ⟨by simp [go_sem], HBA.out.trans (t.prop.mono HBA.out.size)⟩
set_option maxRecDepth 100000 in
set_option maxHeartbeats 4000000 in
theorem tk_10 (ln co nu : Int) (n tn : List UInt8) (ta : Bool) (A : Option Addr) (k c : Nat) (on : List UInt8) (oa : Bool) (ow : List UInt8) (ks : List Ex) (w : World) (h : Had w A k c ks 13) (hn : n.length ≤ 140737488351232) (htn : tn.length ≤ 140737488351232) :
    Calls Tryd.prog 13 #[.agg #[.int .i64 10, .int .i64 ln, .int .i64 co, .int .i64 nu, S n, S tn, .bool ta, .slice A k c, S on, .bool oa, S ow]] w (Gives w (S ([40, 110, 101, 119, 32] ++ tn ++ [41]))) := by
  obtain ⟨wA, hwA⟩ : ∃ wA, wA = w.alloc (.cells #[.int .i64 10, .int .i64 ln, .int .i64 co, .int .i64 nu, S n, S tn, .bool ta, .slice A k c, S on, .bool oa, S ow] 29) := ⟨_, rfl⟩
  have hbA : Below w.heap.size w wA := by rw [hwA]; exact (Below.refl _ _).alloc (Nat.le_refl _) _
  have hbk : Blk wA w.heap.size 29 #[.int .i64 10, .int .i64 ln, .int .i64 co, .int .i64 nu, S n, S tn, .bool ta, .slice A k c, S on, .bool oa, S ow] := by rw [hwA]; exact Blk.new _ _ _
  have HBA := hide hbA
  have HBK := hide hbk
  clear h
  have c0 := HBK.out.cell 0
  have c3 := HBK.out.cell 3
  have c4 := HBK.out.cell 4
  have c5 := HBK.out.cell 5
  simp at c0 c3 c4 c5
  go_enter Tryd.func13, Tryd.ntmps13
  go_upto_region 1 with fail
  rw [← hwA]
  clear hwA hbA hbk
  go_wp2_with fail
  go_ret
  exact ⟨by simp [go_sem], HBA.out⟩
set_option maxRecDepth 100000 in
set_option maxHeartbeats 4000000 in
theorem tk_11 (ln co nu : Int) (n tn : List UInt8) (ta : Bool) (A : Option Addr) (k c : Nat) (on : List UInt8) (oa : Bool) (ow : List UInt8) (ks : List Ex) (w : World) (h : Had w A k c ks 13) (hn : n.length ≤ 140737488351232) (htn : tn.length ≤ 140737488351232) :
    Calls Tryd.prog 13 #[.agg #[.int .i64 11, .int .i64 ln, .int .i64 co, .int .i64 nu, S n, S tn, .bool ta, .slice A k c, S on, .bool oa, S ow]] w (Gives w (S ([110, 101, 119, 32] ++ tn ++ [91] ++ (kidT (ks.map Ex.text) 0) ++ [93]))) := by
  obtain ⟨wA, hwA⟩ : ∃ wA, wA = w.alloc (.cells #[.int .i64 11, .int .i64 ln, .int .i64 co, .int .i64 nu, S n, S tn, .bool ta, .slice A k c, S on, .bool oa, S ow] 29) := ⟨_, rfl⟩
  have hbA : Below w.heap.size w wA := by rw [hwA]; exact (Below.refl _ _).alloc (Nat.le_refl _) _
  have hbk : Blk wA w.heap.size 29 #[.int .i64 11, .int .i64 ln, .int .i64 co, .int .i64 nu, S n, S tn, .bool ta, .slice A k c, S on, .bool oa, S ow] := by rw [hwA]; exact Blk.new _ _ _
  have HBA := hide hbA
  have HBK := hide hbk
  have hall : ((ks.map Ex.text).map List.length).sum + 4 * (ks.map Ex.text).length ≤ 1099511627776 := by rw [List.map_map, List.length_map]; exact h.bd
  have hall1 : (((ks.map Ex.text).drop 1).map List.length).sum + 4 * ((ks.map Ex.text).drop 1).length ≤ 1099511627776 := by
    have := h.rest.bd
    rw [← List.map_drop, List.map_map, List.length_map]
    exact this
  have hsum : ((ks.map Ex.text).map List.length).sum ≤ 1099511627776 := by omega
  have C0 : ∀ t : After wA, Calls Tryd.prog 35 #[.agg #[.int .i64 11, .int .i64 ln, .int .i64 co, .int .i64 nu, S n, S tn, .bool ta, .slice A k c, S on, .bool oa, S ow], .int .i64 0] t.val (Gives t.val (S (kidT (ks.map Ex.text) 0))) := fun t => kid_any _ _ _ _ _ _ _ _ _ _ _ _ _ ks 0 t.val (h.on (hbA.trans (t.prop.mono hbA.size))) (by omega)
  have bK0 : (kidT (ks.map Ex.text) 0).length ≤ 1099511627776 := kid_bd (B := 1099511627776) hsum (by omega) 0
  generalize kidT (ks.map Ex.text) 0 = XK0 at bK0 C0 ⊢
  have HC0 := hide C0
  clear hall hall1 hsum C0 h
  have c0 := HBK.out.cell 0
  have c3 := HBK.out.cell 3
  have c4 := HBK.out.cell 4
  have c5 := HBK.out.cell 5
  simp at c0 c3 c4 c5
  go_enter Tryd.func13, Tryd.ntmps13
  go_upto_region 1 with fail
  rw [← hwA]
  clear hwA hbA hbk
  go_upto_region 21 with fail
  clear c0 c3 c4 c5
  have p0 : ∀ t : After wA, t.val.cell? ⟨w.heap.size, 0, none⟩ = some (.int .i64 11) := fun t => (HBK.out.below t.prop HBK.out.lt).cell 0
  have p1 : ∀ t : After wA, t.val.cell? ⟨w.heap.size, 1, none⟩ = some (.int .i64 ln) := fun t => (HBK.out.below t.prop HBK.out.lt).cell 1
  have p2 : ∀ t : After wA, t.val.cell? ⟨w.heap.size, 2, none⟩ = some (.int .i64 co) := fun t => (HBK.out.below t.prop HBK.out.lt).cell 2
  have p3 : ∀ t : After wA, t.val.cell? ⟨w.heap.size, 3, none⟩ = some (.int .i64 nu) := fun t => (HBK.out.below t.prop HBK.out.lt).cell 3
  have p4 : ∀ t : After wA, t.val.cell? ⟨w.heap.size, 4, none⟩ = some (S n) := fun t => (HBK.out.below t.prop HBK.out.lt).cell 4
  have p5 : ∀ t : After wA, t.val.cell? ⟨w.heap.size, 5, none⟩ = some (S tn) := fun t => (HBK.out.below t.prop HBK.out.lt).cell 5
  have p6 : ∀ t : After wA, t.val.cell? ⟨w.heap.size, 6, none⟩ = some (.bool ta) := fun t => (HBK.out.below t.prop HBK.out.lt).cell 6
  have p7 : ∀ t : After wA, t.val.cell? ⟨w.heap.size, 7, none⟩ = some (.slice A k c) := fun t => (HBK.out.below t.prop HBK.out.lt).cell 7
  have p8 : ∀ t : After wA, t.val.cell? ⟨w.heap.size, 8, none⟩ = some (S on) := fun t => (HBK.out.below t.prop HBK.out.lt).cell 8
  have p9 : ∀ t : After wA, t.val.cell? ⟨w.heap.size, 9, none⟩ = some (.bool oa) := fun t => (HBK.out.below t.prop HBK.out.lt).cell 9
  have p10 : ∀ t : After wA, t.val.cell? ⟨w.heap.size, 10, none⟩ = some (S ow) := fun t => (HBK.out.below t.prop HBK.out.lt).cell 10
  refine region_after (by kernel_rfl) (by kernel_rfl) ?_
  repeat (go_big_quiet_step (first | (go_at_call 35; with_reducible refine call_after (HC0.out _))))
  refine wpQuiet_nil ?_
  rintro _ ⟨t, rfl⟩
  go_wp2_with fail
  go_ret
  exact ⟨by simp [go_sem], HBA.out.trans (t.prop.mono HBA.out.size)⟩
set_option maxRecDepth 100000 in
set_option maxHeartbeats 4000000 in
theorem tk_12 (ln co nu : Int) (n tn : List UInt8) (ta : Bool) (A : Option Addr) (k c : Nat) (on : List UInt8) (oa : Bool) (ow : List UInt8) (ks : List Ex) (w : World) (h : Had w A k c ks 13) (hn : n.length ≤ 140737488351232) (htn : tn.length ≤ 140737488351232) :
    Calls Tryd.prog 13 #[.agg #[.int .i64 12, .int .i64 ln, .int .i64 co, .int .i64 nu, S n, S tn, .bool ta, .slice A k c, S on, .bool oa, S ow]] w (Gives w (S ((kidT (ks.map Ex.text) 0) ++ [91] ++ (kidT (ks.map Ex.text) 1) ++ [93]))) := by
  obtain ⟨wA, hwA⟩ : ∃ wA, wA = w.alloc (.cells #[.int .i64 12, .int .i64 ln, .int .i64 co, .int .i64 nu, S n, S tn, .bool ta, .slice A k c, S on, .bool oa, S ow] 29) := ⟨_, rfl⟩
  have hbA : Below w.heap.size w wA := by rw [hwA]; exact (Below.refl _ _).alloc (Nat.le_refl _) _
  have hbk : Blk wA w.heap.size 29 #[.int .i64 12, .int .i64 ln, .int .i64 co, .int .i64 nu, S n, S tn, .bool ta, .slice A k c, S on, .bool oa, S ow] := by rw [hwA]; exact Blk.new _ _ _
  have HBA := hide hbA
  have HBK := hide hbk
  have hall : ((ks.map Ex.text).map List.length).sum + 4 * (ks.map Ex.text).length ≤ 1099511627776 := by rw [List.map_map, List.length_map]; exact h.bd
  have hall1 : (((ks.map Ex.text).drop 1).map List.length).sum + 4 * ((ks.map Ex.text).drop 1).length ≤ 1099511627776 := by
    have := h.rest.bd
    rw [← List.map_drop, List.map_map, List.length_map]
    exact this
  have hsum : ((ks.map Ex.text).map List.length).sum ≤ 1099511627776 := by omega
  have C0 : ∀ t : After wA, Calls Tryd.prog 35 #[.agg #[.int .i64 12, .int .i64 ln, .int .i64 co, .int .i64 nu, S n, S tn, .bool ta, .slice A k c, S on, .bool oa, S ow], .int .i64 0] t.val (Gives t.val (S (kidT (ks.map Ex.text) 0))) := fun t => kid_any _ _ _ _ _ _ _ _ _ _ _ _ _ ks 0 t.val (h.on (hbA.trans (t.prop.mono hbA.size))) (by omega)
  have C1 : ∀ t : After wA, Calls Tryd.prog 35 #[.agg #[.int .i64 12, .int .i64 ln, .int .i64 co, .int .i64 nu, S n, S tn, .bool ta, .slice A k c, S on, .bool oa, S ow], .int .i64 1] t.val (Gives t.val (S (kidT (ks.map Ex.text) 1))) := fun t => kid_any _ _ _ _ _ _ _ _ _ _ _ _ _ ks 1 t.val (h.on (hbA.trans (t.prop.mono hbA.size))) (by omega)
  have bK0 : (kidT (ks.map Ex.text) 0).length ≤ 1099511627776 := kid_bd (B := 1099511627776) hsum (by omega) 0
  generalize kidT (ks.map Ex.text) 0 = XK0 at bK0 C0 ⊢
  have HC0 := hide C0
  have bK1 : (kidT (ks.map Ex.text) 1).length ≤ 1099511627776 := kid_bd (B := 1099511627776) hsum (by omega) 1
  generalize kidT (ks.map Ex.text) 1 = XK1 at bK1 C1 ⊢
  have HC1 := hide C1
  clear hall hall1 hsum C0 C1 h
  have c0 := HBK.out.cell 0
  have c3 := HBK.out.cell 3
  have c4 := HBK.out.cell 4
  have c5 := HBK.out.cell 5
  simp at c0 c3 c4 c5
  go_enter Tryd.func13, Tryd.ntmps13
  go_upto_region 1 with fail
  rw [← hwA]
  clear hwA hbA hbk
  go_upto_region 23 with fail
  clear c0 c3 c4 c5
  have p0 : ∀ t : After wA, t.val.cell? ⟨w.heap.size, 0, none⟩ = some (.int .i64 12) := fun t => (HBK.out.below t.prop HBK.out.lt).cell 0
  have p1 : ∀ t : After wA, t.val.cell? ⟨w.heap.size, 1, none⟩ = some (.int .i64 ln) := fun t => (HBK.out.below t.prop HBK.out.lt).cell 1
  have p2 : ∀ t : After wA, t.val.cell? ⟨w.heap.size, 2, none⟩ = some (.int .i64 co) := fun t => (HBK.out.below t.prop HBK.out.lt).cell 2
  have p3 : ∀ t : After wA, t.val.cell? ⟨w.heap.size, 3, none⟩ = some (.int .i64 nu) := fun t => (HBK.out.below t.prop HBK.out.lt).cell 3
  have p4 : ∀ t : After wA, t.val.cell? ⟨w.heap.size, 4, none⟩ = some (S n) := fun t => (HBK.out.below t.prop HBK.out.lt).cell 4
  have p5 : ∀ t : After wA, t.val.cell? ⟨w.heap.size, 5, none⟩ = some (S tn) := fun t => (HBK.out.below t.prop HBK.out.lt).cell 5
  have p6 : ∀ t : After wA, t.val.cell? ⟨w.heap.size, 6, none⟩ = some (.bool ta) := fun t => (HBK.out.below t.prop HBK.out.lt).cell 6
  have p7 : ∀ t : After wA, t.val.cell? ⟨w.heap.size, 7, none⟩ = some (.slice A k c) := fun t => (HBK.out.below t.prop HBK.out.lt).cell 7
  have p8 : ∀ t : After wA, t.val.cell? ⟨w.heap.size, 8, none⟩ = some (S on) := fun t => (HBK.out.below t.prop HBK.out.lt).cell 8
  have p9 : ∀ t : After wA, t.val.cell? ⟨w.heap.size, 9, none⟩ = some (.bool oa) := fun t => (HBK.out.below t.prop HBK.out.lt).cell 9
  have p10 : ∀ t : After wA, t.val.cell? ⟨w.heap.size, 10, none⟩ = some (S ow) := fun t => (HBK.out.below t.prop HBK.out.lt).cell 10
  refine region_after (by kernel_rfl) (by kernel_rfl) ?_
  repeat (go_big_quiet_step (first | (go_at_call 35; with_reducible refine call_after (HC0.out _)) | (go_at_call 35; with_reducible refine call_after (HC1.out _))))
  refine wpQuiet_nil ?_
  rintro _ ⟨t, rfl⟩
  go_wp2_with fail
  go_ret
  exact ⟨by simp [go_sem], HBA.out.trans (t.prop.mono HBA.out.size)⟩
set_option maxRecDepth 100000 in
set_option maxHeartbeats 4000000 in
theorem tk_13 (ln co nu : Int) (n tn : List UInt8) (ta : Bool) (A : Option Addr) (k c : Nat) (on : List UInt8) (oa : Bool) (ow : List UInt8) (ks : List Ex) (w : World) (h : Had w A k c ks 13) (hn : n.length ≤ 140737488351232) (htn : tn.length ≤ 140737488351232) :
    Calls Tryd.prog 13 #[.agg #[.int .i64 13, .int .i64 ln, .int .i64 co, .int .i64 nu, S n, S tn, .bool ta, .slice A k c, S on, .bool oa, S ow]] w (Gives w (S ((kidT (ks.map Ex.text) 0) ++ [46, 108, 101, 110, 103, 116, 104]))) := by
  obtain ⟨wA, hwA⟩ : ∃ wA, wA = w.alloc (.cells #[.int .i64 13, .int .i64 ln, .int .i64 co, .int .i64 nu, S n, S tn, .bool ta, .slice A k c, S on, .bool oa, S ow] 29) := ⟨_, rfl⟩
  have hbA : Below w.heap.size w wA := by rw [hwA]; exact (Below.refl _ _).alloc (Nat.le_refl _) _
  have hbk : Blk wA w.heap.size 29 #[.int .i64 13, .int .i64 ln, .int .i64 co, .int .i64 nu, S n, S tn, .bool ta, .slice A k c, S on, .bool oa, S ow] := by rw [hwA]; exact Blk.new _ _ _
  have HBA := hide hbA
  have HBK := hide hbk
  have hall : ((ks.map Ex.text).map List.length).sum + 4 * (ks.map Ex.text).length ≤ 1099511627776 := by rw [List.map_map, List.length_map]; exact h.bd
  have hall1 : (((ks.map Ex.text).drop 1).map List.length).sum + 4 * ((ks.map Ex.text).drop 1).length ≤ 1099511627776 := by
    have := h.rest.bd
    rw [← List.map_drop, List.map_map, List.length_map]
    exact this
  have hsum : ((ks.map Ex.text).map List.length).sum ≤ 1099511627776 := by omega
  have C0 : ∀ t : After wA, Calls Tryd.prog 35 #[.agg #[.int .i64 13, .int .i64 ln, .int .i64 co, .int .i64 nu, S n, S tn, .bool ta, .slice A k c, S on, .bool oa, S ow], .int .i64 0] t.val (Gives t.val (S (kidT (ks.map Ex.text) 0))) := fun t => kid_any _ _ _ _ _ _ _ _ _ _ _ _ _ ks 0 t.val (h.on (hbA.trans (t.prop.mono hbA.size))) (by omega)
  have bK0 : (kidT (ks.map Ex.text) 0).length ≤ 1099511627776 := kid_bd (B := 1099511627776) hsum (by omega) 0
  generalize kidT (ks.map Ex.text) 0 = XK0 at bK0 C0 ⊢
  have HC0 := hide C0
  clear hall hall1 hsum C0 h
  have c0 := HBK.out.cell 0
  have c3 := HBK.out.cell 3
  have c4 := HBK.out.cell 4
  have c5 := HBK.out.cell 5
  simp at c0 c3 c4 c5
  go_enter Tryd.func13, Tryd.ntmps13
  go_upto_region 1 with fail
  rw [← hwA]
  clear hwA hbA hbk
  have c1 := HBK.out.cell 1
  have c2 := HBK.out.cell 2
  have c6 := HBK.out.cell 6
  have c7 := HBK.out.cell 7
  have c8 := HBK.out.cell 8
  have c9 := HBK.out.cell 9
  have c10 := HBK.out.cell 10
  simp at c1 c2 c6 c7 c8 c9 c10
  have HZ : Hid (Calls Tryd.prog 35 #[.agg #[.int .i64 13, .int .i64 ln, .int .i64 co, .int .i64 nu, S n, S tn, .bool ta, .slice A k c, S on, .bool oa, S ow], .int .i64 0] wA (Gives wA (S XK0))) := hide (HC0.out ⟨wA, Below.refl _ _⟩)
  go_wp2_with fail
  refine HZ.out.mono ?_
  rintro e w2 ⟨rfl, hb2⟩
  go_wp2_with fail
  go_ret
  exact ⟨by simp [go_sem], HBA.out.trans (hb2.mono HBA.out.size)⟩
set_option maxRecDepth 100000 in
set_option maxHeartbeats 4000000 in
theorem tk_14 (ln co nu : Int) (n tn : List UInt8) (ta : Bool) (A : Option Addr) (k c : Nat) (on : List UInt8) (oa : Bool) (ow : List UInt8) (ks : List Ex) (w : World) (h : Had w A k c ks 13) (hn : n.length ≤ 140737488351232) (htn : tn.length ≤ 140737488351232) :
    Calls Tryd.prog 13 #[.agg #[.int .i64 14, .int .i64 ln, .int .i64 co, .int .i64 nu, S n, S tn, .bool ta, .slice A k c, S on, .bool oa, S ow]] w (Gives w (S ([40, 45] ++ (kidT (ks.map Ex.text) 0) ++ [41]))) := by
  obtain ⟨wA, hwA⟩ : ∃ wA, wA = w.alloc (.cells #[.int .i64 14, .int .i64 ln, .int .i64 co, .int .i64 nu, S n, S tn, .bool ta, .slice A k c, S on, .bool oa, S ow] 29) := ⟨_, rfl⟩
  have hbA : Below w.heap.size w wA := by rw [hwA]; exact (Below.refl _ _).alloc (Nat.le_refl _) _
  have hbk : Blk wA w.heap.size 29 #[.int .i64 14, .int .i64 ln, .int .i64 co, .int .i64 nu, S n, S tn, .bool ta, .slice A k c, S on, .bool oa, S ow] := by rw [hwA]; exact Blk.new _ _ _
  have HBA := hide hbA
  have HBK := hide hbk
  have hall : ((ks.map Ex.text).map List.length).sum + 4 * (ks.map Ex.text).length ≤ 1099511627776 := by rw [List.map_map, List.length_map]; exact h.bd
  have hall1 : (((ks.map Ex.text).drop 1).map List.length).sum + 4 * ((ks.map Ex.text).drop 1).length ≤ 1099511627776 := by
    have := h.rest.bd
    rw [← List.map_drop, List.map_map, List.length_map]
    exact this
  have hsum : ((ks.map Ex.text).map List.length).sum ≤ 1099511627776 := by omega
  have C0 : ∀ t : After wA, Calls Tryd.prog 35 #[.agg #[.int .i64 14, .int .i64 ln, .int .i64 co, .int .i64 nu, S n, S tn, .bool ta, .slice A k c, S on, .bool oa, S ow], .int .i64 0] t.val (Gives t.val (S (kidT (ks.map Ex.text) 0))) := fun t => kid_any _ _ _ _ _ _ _ _ _ _ _ _ _ ks 0 t.val (h.on (hbA.trans (t.prop.mono hbA.size))) (by omega)
  have bK0 : (kidT (ks.map Ex.text) 0).length ≤ 1099511627776 := kid_bd (B := 1099511627776) hsum (by omega) 0
  generalize kidT (ks.map Ex.text) 0 = XK0 at bK0 C0 ⊢
  have HC0 := hide C0
  clear hall hall1 hsum C0 h
  have c0 := HBK.out.cell 0
  have c3 := HBK.out.cell 3
  have c4 := HBK.out.cell 4
  have c5 := HBK.out.cell 5
  simp at c0 c3 c4 c5
  go_enter Tryd.func13, Tryd.ntmps13
  go_upto_region 1 with fail
  rw [← hwA]
  clear hwA hbA hbk
  have c1 := HBK.out.cell 1
  have c2 := HBK.out.cell 2
  have c6 := HBK.out.cell 6
  have c7 := HBK.out.cell 7
  have c8 := HBK.out.cell 8
  have c9 := HBK.out.cell 9
  have c10 := HBK.out.cell 10
  simp at c1 c2 c6 c7 c8 c9 c10
  have HZ : Hid (Calls Tryd.prog 35 #[.agg #[.int .i64 14, .int .i64 ln, .int .i64 co, .int .i64 nu, S n, S tn, .bool ta, .slice A k c, S on, .bool oa, S ow], .int .i64 0] wA (Gives wA (S XK0))) := hide (HC0.out ⟨wA, Below.refl _ _⟩)
  go_wp2_with fail
  refine HZ.out.mono ?_
  rintro e w2 ⟨rfl, hb2⟩
  go_wp2_with fail
  go_ret
  exact ⟨by simp [go_sem], HBA.out.trans (hb2.mono HBA.out.size)⟩
set_option maxRecDepth 100000 in
set_option maxHeartbeats 4000000 in
theorem tk_15 (ln co nu : Int) (n tn : List UInt8) (ta : Bool) (A : Option Addr) (k c : Nat) (on : List UInt8) (oa : Bool) (ow : List UInt8) (ks : List Ex) (w : World) (h : Had w A k c ks 13) (hn : n.length ≤ 140737488351232) (htn : tn.length ≤ 140737488351232) :
    Calls Tryd.prog 13 #[.agg #[.int .i64 15, .int .i64 ln, .int .i64 co, .int .i64 nu, S n, S tn, .bool ta, .slice A k c, S on, .bool oa, S ow]] w (Gives w (S ([40, 33] ++ (kidT (ks.map Ex.text) 0) ++ [41]))) := by
  obtain ⟨wA, hwA⟩ : ∃ wA, wA = w.alloc (.cells #[.int .i64 15, .int .i64 ln, .int .i64 co, .int .i64 nu, S n, S tn, .bool ta, .slice A k c, S on, .bool oa, S ow] 29) := ⟨_, rfl⟩
  have hbA : Below w.heap.size w wA := by rw [hwA]; exact (Below.refl _ _).alloc (Nat.le_refl _) _
  have hbk : Blk wA w.heap.size 29 #[.int .i64 15, .int .i64 ln, .int .i64 co, .int .i64 nu, S n, S tn, .bool ta, .slice A k c, S on, .bool oa, S ow] := by rw [hwA]; exact Blk.new _ _ _
  have HBA := hide hbA
  have HBK := hide hbk
  have hall : ((ks.map Ex.text).map List.length).sum + 4 * (ks.map Ex.text).length ≤ 1099511627776 := by rw [List.map_map, List.length_map]; exact h.bd
  have hall1 : (((ks.map Ex.text).drop 1).map List.length).sum + 4 * ((ks.map Ex.text).drop 1).length ≤ 1099511627776 := by
    have := h.rest.bd
    rw [← List.map_drop, List.map_map, List.length_map]
    exact this
  have hsum : ((ks.map Ex.text).map List.length).sum ≤ 1099511627776 := by omega
  have C0 : ∀ t : After wA, Calls Tryd.prog 35 #[.agg #[.int .i64 15, .int .i64 ln, .int .i64 co, .int .i64 nu, S n, S tn, .bool ta, .slice A k c, S on, .bool oa, S ow], .int .i64 0] t.val (Gives t.val (S (kidT (ks.map Ex.text) 0))) := fun t => kid_any _ _ _ _ _ _ _ _ _ _ _ _ _ ks 0 t.val (h.on (hbA.trans (t.prop.mono hbA.size))) (by omega)
  have bK0 : (kidT (ks.map Ex.text) 0).length ≤ 1099511627776 := kid_bd (B := 1099511627776) hsum (by omega) 0
  generalize kidT (ks.map Ex.text) 0 = XK0 at bK0 C0 ⊢
  have HC0 := hide C0
  clear hall hall1 hsum C0 h
  have c0 := HBK.out.cell 0
  have c3 := HBK.out.cell 3
  have c4 := HBK.out.cell 4
  have c5 := HBK.out.cell 5
  simp at c0 c3 c4 c5
  go_enter Tryd.func13, Tryd.ntmps13
  go_upto_region 1 with fail
  rw [← hwA]
  clear hwA hbA hbk
  have c1 := HBK.out.cell 1
  have c2 := HBK.out.cell 2
  have c6 := HBK.out.cell 6
  have c7 := HBK.out.cell 7
  have c8 := HBK.out.cell 8
  have c9 := HBK.out.cell 9
  have c10 := HBK.out.cell 10
  simp at c1 c2 c6 c7 c8 c9 c10
  have HZ : Hid (Calls Tryd.prog 35 #[.agg #[.int .i64 15, .int .i64 ln, .int .i64 co, .int .i64 nu, S n, S tn, .bool ta, .slice A k c, S on, .bool oa, S ow], .int .i64 0] wA (Gives wA (S XK0))) := hide (HC0.out ⟨wA, Below.refl _ _⟩)
  go_wp2_with fail
  refine HZ.out.mono ?_
  rintro e w2 ⟨rfl, hb2⟩
  go_wp2_with fail
  go_ret
  exact ⟨by simp [go_sem], HBA.out.trans (hb2.mono HBA.out.size)⟩
set_option maxRecDepth 100000 in
set_option maxHeartbeats 4000000 in
theorem tk_16 (ln co nu : Int) (n tn : List UInt8) (ta : Bool) (A : Option Addr) (k c : Nat) (on : List UInt8) (oa : Bool) (ow : List UInt8) (ks : List Ex) (w : World) (h : Had w A k c ks 13) (hn : n.length ≤ 140737488351232) (htn : tn.length ≤ 140737488351232) :
    Calls Tryd.prog 13 #[.agg #[.int .i64 16, .int .i64 ln, .int .i64 co, .int .i64 nu, S n, S tn, .bool ta, .slice A k c, S on, .bool oa, S ow]] w (Gives w (S ([40] ++ (kidT (ks.map Ex.text) 0) ++ [32] ++ n ++ [32] ++ (kidT (ks.map Ex.text) 1) ++ [41]))) := by
  obtain ⟨wA, hwA⟩ : ∃ wA, wA = w.alloc (.cells #[.int .i64 16, .int .i64 ln, .int .i64 co, .int .i64 nu, S n, S tn, .bool ta, .slice A k c, S on, .bool oa, S ow] 29) := ⟨_, rfl⟩
  have hbA : Below w.heap.size w wA := by rw [hwA]; exact (Below.refl _ _).alloc (Nat.le_refl _) _
  have hbk : Blk wA w.heap.size 29 #[.int .i64 16, .int .i64 ln, .int .i64 co, .int .i64 nu, S n, S tn, .bool ta, .slice A k c, S on, .bool oa, S ow] := by rw [hwA]; exact Blk.new _ _ _
  have HBA := hide hbA
  have HBK := hide hbk
  have hall : ((ks.map Ex.text).map List.length).sum + 4 * (ks.map Ex.text).length ≤ 1099511627776 := by rw [List.map_map, List.length_map]; exact h.bd
  have hall1 : (((ks.map Ex.text).drop 1).map List.length).sum + 4 * ((ks.map Ex.text).drop 1).length ≤ 1099511627776 := by
    have := h.rest.bd
    rw [← List.map_drop, List.map_map, List.length_map]
    exact this
  have hsum : ((ks.map Ex.text).map List.length).sum ≤ 1099511627776 := by omega
  have C0 : ∀ t : After wA, Calls Tryd.prog 35 #[.agg #[.int .i64 16, .int .i64 ln, .int .i64 co, .int .i64 nu, S n, S tn, .bool ta, .slice A k c, S on, .bool oa, S ow], .int .i64 0] t.val (Gives t.val (S (kidT (ks.map Ex.text) 0))) := fun t => kid_any _ _ _ _ _ _ _ _ _ _ _ _ _ ks 0 t.val (h.on (hbA.trans (t.prop.mono hbA.size))) (by omega)
  have C1 : ∀ t : After wA, Calls Tryd.prog 35 #[.agg #[.int .i64 16, .int .i64 ln, .int .i64 co, .int .i64 nu, S n, S tn, .bool ta, .slice A k c, S on, .bool oa, S ow], .int .i64 1] t.val (Gives t.val (S (kidT (ks.map Ex.text) 1))) := fun t => kid_any _ _ _ _ _ _ _ _ _ _ _ _ _ ks 1 t.val (h.on (hbA.trans (t.prop.mono hbA.size))) (by omega)
  have bK0 : (kidT (ks.map Ex.text) 0).length ≤ 1099511627776 := kid_bd (B := 1099511627776) hsum (by omega) 0
  generalize kidT (ks.map Ex.text) 0 = XK0 at bK0 C0 ⊢
  have HC0 := hide C0
  have bK1 : (kidT (ks.map Ex.text) 1).length ≤ 1099511627776 := kid_bd (B := 1099511627776) hsum (by omega) 1
  generalize kidT (ks.map Ex.text) 1 = XK1 at bK1 C1 ⊢
  have HC1 := hide C1
  clear hall hall1 hsum C0 C1 h
  have c0 := HBK.out.cell 0
  have c3 := HBK.out.cell 3
  have c4 := HBK.out.cell 4
  have c5 := HBK.out.cell 5
  simp at c0 c3 c4 c5
  go_enter Tryd.func13, Tryd.ntmps13
  go_upto_region 1 with fail
  rw [← hwA]
  clear hwA hbA hbk
  go_upto_region 31 with fail
  clear c0 c3 c4 c5
  have p0 : ∀ t : After wA, t.val.cell? ⟨w.heap.size, 0, none⟩ = some (.int .i64 16) := fun t => (HBK.out.below t.prop HBK.out.lt).cell 0
  have p1 : ∀ t : After wA, t.val.cell? ⟨w.heap.size, 1, none⟩ = some (.int .i64 ln) := fun t => (HBK.out.below t.prop HBK.out.lt).cell 1
  have p2 : ∀ t : After wA, t.val.cell? ⟨w.heap.size, 2, none⟩ = some (.int .i64 co) := fun t => (HBK.out.below t.prop HBK.out.lt).cell 2
  have p3 : ∀ t : After wA, t.val.cell? ⟨w.heap.size, 3, none⟩ = some (.int .i64 nu) := fun t => (HBK.out.below t.prop HBK.out.lt).cell 3
  have p4 : ∀ t : After wA, t.val.cell? ⟨w.heap.size, 4, none⟩ = some (S n) := fun t => (HBK.out.below t.prop HBK.out.lt).cell 4
  have p5 : ∀ t : After wA, t.val.cell? ⟨w.heap.size, 5, none⟩ = some (S tn) := fun t => (HBK.out.below t.prop HBK.out.lt).cell 5
  have p6 : ∀ t : After wA, t.val.cell? ⟨w.heap.size, 6, none⟩ = some (.bool ta) := fun t => (HBK.out.below t.prop HBK.out.lt).cell 6
  have p7 : ∀ t : After wA, t.val.cell? ⟨w.heap.size, 7, none⟩ = some (.slice A k c) := fun t => (HBK.out.below t.prop HBK.out.lt).cell 7
  have p8 : ∀ t : After wA, t.val.cell? ⟨w.heap.size, 8, none⟩ = some (S on) := fun t => (HBK.out.below t.prop HBK.out.lt).cell 8
  have p9 : ∀ t : After wA, t.val.cell? ⟨w.heap.size, 9, none⟩ = some (.bool oa) := fun t => (HBK.out.below t.prop HBK.out.lt).cell 9
  have p10 : ∀ t : After wA, t.val.cell? ⟨w.heap.size, 10, none⟩ = some (S ow) := fun t => (HBK.out.below t.prop HBK.out.lt).cell 10
  refine region_after (by kernel_rfl) (by kernel_rfl) ?_
  repeat (go_big_quiet_step (first | (go_at_call 35; with_reducible refine call_after (HC0.out _)) | (go_at_call 35; with_reducible refine call_after (HC1.out _))))
  refine wpQuiet_nil ?_
  rintro _ ⟨t, rfl⟩
  go_wp2_with fail
  go_ret
  exact ⟨by simp [go_sem], HBA.out.trans (t.prop.mono HBA.out.size)⟩
set_option maxRecDepth 100000 in
set_option maxHeartbeats 4000000 in
theorem tk_17 (ln co nu : Int) (n tn : List UInt8) (ta : Bool) (A : Option Addr) (k c : Nat) (on : List UInt8) (oa : Bool) (ow : List UInt8) (ks : List Ex) (w : World) (h : Had w A k c ks 13) (hn : n.length ≤ 140737488351232) (htn : tn.length ≤ 140737488351232) :
    Calls Tryd.prog 13 #[.agg #[.int .i64 17, .int .i64 ln, .int .i64 co, .int .i64 nu, S n, S tn, .bool ta, .slice A k c, S on, .bool oa, S ow]] w (Gives w (S ([40] ++ (kidT (ks.map Ex.text) 0) ++ [32, 38, 38, 32] ++ (kidT (ks.map Ex.text) 1) ++ [41]))) := by
  obtain ⟨wA, hwA⟩ : ∃ wA, wA = w.alloc (.cells #[.int .i64 17, .int .i64 ln, .int .i64 co, .int .i64 nu, S n, S tn, .bool ta, .slice A k c, S on, .bool oa, S ow] 29) := ⟨_, rfl⟩
  have hbA : Below w.heap.size w wA := by rw [hwA]; exact (Below.refl _ _).alloc (Nat.le_refl _) _
  have hbk : Blk wA w.heap.size 29 #[.int .i64 17, .int .i64 ln, .int .i64 co, .int .i64 nu, S n, S tn, .bool ta, .slice A k c, S on, .bool oa, S ow] := by rw [hwA]; exact Blk.new _ _ _
  have HBA := hide hbA
  have HBK := hide hbk
  have hall : ((ks.map Ex.text).map List.length).sum + 4 * (ks.map Ex.text).length ≤ 1099511627776 := by rw [List.map_map, List.length_map]; exact h.bd
  have hall1 : (((ks.map Ex.text).drop 1).map List.length).sum + 4 * ((ks.map Ex.text).drop 1).length ≤ 1099511627776 := by
    have := h.rest.bd
    rw [← List.map_drop, List.map_map, List.length_map]
    exact this
  have hsum : ((ks.map Ex.text).map List.length).sum ≤ 1099511627776 := by omega
  have C0 : ∀ t : After wA, Calls Tryd.prog 35 #[.agg #[.int .i64 17, .int .i64 ln, .int .i64 co, .int .i64 nu, S n, S tn, .bool ta, .slice A k c, S on, .bool oa, S ow], .int .i64 0] t.val (Gives t.val (S (kidT (ks.map Ex.text) 0))) := fun t => kid_any _ _ _ _ _ _ _ _ _ _ _ _ _ ks 0 t.val (h.on (hbA.trans (t.prop.mono hbA.size))) (by omega)
  have C1 : ∀ t : After wA, Calls Tryd.prog 35 #[.agg #[.int .i64 17, .int .i64 ln, .int .i64 co, .int .i64 nu, S n, S tn, .bool ta, .slice A k c, S on, .bool oa, S ow], .int .i64 1] t.val (Gives t.val (S (kidT (ks.map Ex.text) 1))) := fun t => kid_any _ _ _ _ _ _ _ _ _ _ _ _ _ ks 1 t.val (h.on (hbA.trans (t.prop.mono hbA.size))) (by omega)
  have bK0 : (kidT (ks.map Ex.text) 0).length ≤ 1099511627776 := kid_bd (B := 1099511627776) hsum (by omega) 0
  generalize kidT (ks.map Ex.text) 0 = XK0 at bK0 C0 ⊢
  have HC0 := hide C0
  have bK1 : (kidT (ks.map Ex.text) 1).length ≤ 1099511627776 := kid_bd (B := 1099511627776) hsum (by omega) 1
  generalize kidT (ks.map Ex.text) 1 = XK1 at bK1 C1 ⊢
  have HC1 := hide C1
  clear hall hall1 hsum C0 C1 h
  have c0 := HBK.out.cell 0
  have c3 := HBK.out.cell 3
  have c4 := HBK.out.cell 4
  have c5 := HBK.out.cell 5
  simp at c0 c3 c4 c5
  go_enter Tryd.func13, Tryd.ntmps13
  go_upto_region 1 with fail
  rw [← hwA]
  clear hwA hbA hbk
  go_upto_region 33 with fail
  clear c0 c3 c4 c5
  have p0 : ∀ t : After wA, t.val.cell? ⟨w.heap.size, 0, none⟩ = some (.int .i64 17) := fun t => (HBK.out.below t.prop HBK.out.lt).cell 0
  have p1 : ∀ t : After wA, t.val.cell? ⟨w.heap.size, 1, none⟩ = some (.int .i64 ln) := fun t => (HBK.out.below t.prop HBK.out.lt).cell 1
  have p2 : ∀ t : After wA, t.val.cell? ⟨w.heap.size, 2, none⟩ = some (.int .i64 co) := fun t => (HBK.out.below t.prop HBK.out.lt).cell 2
  have p3 : ∀ t : After wA, t.val.cell? ⟨w.heap.size, 3, none⟩ = some (.int .i64 nu) := fun t => (HBK.out.below t.prop HBK.out.lt).cell 3
  have p4 : ∀ t : After wA, t.val.cell? ⟨w.heap.size, 4, none⟩ = some (S n) := fun t => (HBK.out.below t.prop HBK.out.lt).cell 4
  have p5 : ∀ t : After wA, t.val.cell? ⟨w.heap.size, 5, none⟩ = some (S tn) := fun t => (HBK.out.below t.prop HBK.out.lt).cell 5
  have p6 : ∀ t : After wA, t.val.cell? ⟨w.heap.size, 6, none⟩ = some (.bool ta) := fun t => (HBK.out.below t.prop HBK.out.lt).cell 6
  have p7 : ∀ t : After wA, t.val.cell? ⟨w.heap.size, 7, none⟩ = some (.slice A k c) := fun t => (HBK.out.below t.prop HBK.out.lt).cell 7
  have p8 : ∀ t : After wA, t.val.cell? ⟨w.heap.size, 8, none⟩ = some (S on) := fun t => (HBK.out.below t.prop HBK.out.lt).cell 8
  have p9 : ∀ t : After wA, t.val.cell? ⟨w.heap.size, 9, none⟩ = some (.bool oa) := fun t => (HBK.out.below t.prop HBK.out.lt).cell 9
  have p10 : ∀ t : After wA, t.val.cell? ⟨w.heap.size, 10, none⟩ = some (S ow) := fun t => (HBK.out.below t.prop HBK.out.lt).cell 10
  refine region_after (by kernel_rfl) (by kernel_rfl) ?_
  repeat (go_big_quiet_step (first | (go_at_call 35; with_reducible refine call_after (HC0.out _)) | (go_at_call 35; with_reducible refine call_after (HC1.out _))))
  refine wpQuiet_nil ?_
  rintro _ ⟨t, rfl⟩
  go_wp2_with fail
  go_ret
  exact ⟨by simp [go_sem], HBA.out.trans (t.prop.mono HBA.out.size)⟩
set_option maxRecDepth 100000 in
set_option maxHeartbeats 4000000 in
theorem tk_18 (ln co nu : Int) (n tn : List UInt8) (ta : Bool) (A : Option Addr) (k c : Nat) (on : List UInt8) (oa : Bool) (ow : List UInt8) (ks : List Ex) (w : World) (h : Had w A k c ks 13) (hn : n.length ≤ 140737488351232) (htn : tn.length ≤ 140737488351232) :
    Calls Tryd.prog 13 #[.agg #[.int .i64 18, .int .i64 ln, .int .i64 co, .int .i64 nu, S n, S tn, .bool ta, .slice A k c, S on, .bool oa, S ow]] w (Gives w (S ([40] ++ (kidT (ks.map Ex.text) 0) ++ [32, 124, 124, 32] ++ (kidT (ks.map Ex.text) 1) ++ [41]))) := by
  obtain ⟨wA, hwA⟩ : ∃ wA, wA = w.alloc (.cells #[.int .i64 18, .int .i64 ln, .int .i64 co, .int .i64 nu, S n, S tn, .bool ta, .slice A k c, S on, .bool oa, S ow] 29) := ⟨_, rfl⟩
  have hbA : Below w.heap.size w wA := by rw [hwA]; exact (Below.refl _ _).alloc (Nat.le_refl _) _
  have hbk : Blk wA w.heap.size 29 #[.int .i64 18, .int .i64 ln, .int .i64 co, .int .i64 nu, S n, S tn, .bool ta, .slice A k c, S on, .bool oa, S ow] := by rw [hwA]; exact Blk.new _ _ _
  have HBA := hide hbA
  have HBK := hide hbk
  have hall : ((ks.map Ex.text).map List.length).sum + 4 * (ks.map Ex.text).length ≤ 1099511627776 := by rw [List.map_map, List.length_map]; exact h.bd
  have hall1 : (((ks.map Ex.text).drop 1).map List.length).sum + 4 * ((ks.map Ex.text).drop 1).length ≤ 1099511627776 := by
    have := h.rest.bd
    rw [← List.map_drop, List.map_map, List.length_map]
    exact this
  have hsum : ((ks.map Ex.text).map List.length).sum ≤ 1099511627776 := by omega
  have C0 : ∀ t : After wA, Calls Tryd.prog 35 #[.agg #[.int .i64 18, .int .i64 ln, .int .i64 co, .int .i64 nu, S n, S tn, .bool ta, .slice A k c, S on, .bool oa, S ow], .int .i64 0] t.val (Gives t.val (S (kidT (ks.map Ex.text) 0))) := fun t => kid_any _ _ _ _ _ _ _ _ _ _ _ _ _ ks 0 t.val (h.on (hbA.trans (t.prop.mono hbA.size))) (by omega)
  have C1 : ∀ t : After wA, Calls Tryd.prog 35 #[.agg #[.int .i64 18, .int .i64 ln, .int .i64 co, .int .i64 nu, S n, S tn, .bool ta, .slice A k c, S on, .bool oa, S ow], .int .i64 1] t.val (Gives t.val (S (kidT (ks.map Ex.text) 1))) := fun t => kid_any _ _ _ _ _ _ _ _ _ _ _ _ _ ks 1 t.val (h.on (hbA.trans (t.prop.mono hbA.size))) (by omega)
  have bK0 : (kidT (ks.map Ex.text) 0).length ≤ 1099511627776 := kid_bd (B := 1099511627776) hsum (by omega) 0
  generalize kidT (ks.map Ex.text) 0 = XK0 at bK0 C0 ⊢
  have HC0 := hide C0
  have bK1 : (kidT (ks.map Ex.text) 1).length ≤ 1099511627776 := kid_bd (B := 1099511627776) hsum (by omega) 1
  generalize kidT (ks.map Ex.text) 1 = XK1 at bK1 C1 ⊢
  have HC1 := hide C1
  clear hall hall1 hsum C0 C1 h
  have c0 := HBK.out.cell 0
  have c3 := HBK.out.cell 3
  have c4 := HBK.out.cell 4
  have c5 := HBK.out.cell 5
  simp at c0 c3 c4 c5
  go_enter Tryd.func13, Tryd.ntmps13
  go_upto_region 1 with fail
  rw [← hwA]
  clear hwA hbA hbk
  go_upto_region 35 with fail
  clear c0 c3 c4 c5
  have p0 : ∀ t : After wA, t.val.cell? ⟨w.heap.size, 0, none⟩ = some (.int .i64 18) := fun t => (HBK.out.below t.prop HBK.out.lt).cell 0
  have p1 : ∀ t : After wA, t.val.cell? ⟨w.heap.size, 1, none⟩ = some (.int .i64 ln) := fun t => (HBK.out.below t.prop HBK.out.lt).cell 1
  have p2 : ∀ t : After wA, t.val.cell? ⟨w.heap.size, 2, none⟩ = some (.int .i64 co) := fun t => (HBK.out.below t.prop HBK.out.lt).cell 2
  have p3 : ∀ t : After wA, t.val.cell? ⟨w.heap.size, 3, none⟩ = some (.int .i64 nu) := fun t => (HBK.out.below t.prop HBK.out.lt).cell 3
  have p4 : ∀ t : After wA, t.val.cell? ⟨w.heap.size, 4, none⟩ = some (S n) := fun t => (HBK.out.below t.prop HBK.out.lt).cell 4
  have p5 : ∀ t : After wA, t.val.cell? ⟨w.heap.size, 5, none⟩ = some (S tn) := fun t => (HBK.out.below t.prop HBK.out.lt).cell 5
  have p6 : ∀ t : After wA, t.val.cell? ⟨w.heap.size, 6, none⟩ = some (.bool ta) := fun t => (HBK.out.below t.prop HBK.out.lt).cell 6
  have p7 : ∀ t : After wA, t.val.cell? ⟨w.heap.size, 7, none⟩ = some (.slice A k c) := fun t => (HBK.out.below t.prop HBK.out.lt).cell 7
  have p8 : ∀ t : After wA, t.val.cell? ⟨w.heap.size, 8, none⟩ = some (S on) := fun t => (HBK.out.below t.prop HBK.out.lt).cell 8
  have p9 : ∀ t : After wA, t.val.cell? ⟨w.heap.size, 9, none⟩ = some (.bool oa) := fun t => (HBK.out.below t.prop HBK.out.lt).cell 9
  have p10 : ∀ t : After wA, t.val.cell? ⟨w.heap.size, 10, none⟩ = some (S ow) := fun t => (HBK.out.below t.prop HBK.out.lt).cell 10
  refine region_after (by kernel_rfl) (by kernel_rfl) ?_
  repeat (go_big_quiet_step (first | (go_at_call 35; with_reducible refine call_after (HC0.out _)) | (go_at_call 35; with_reducible refine call_after (HC1.out _))))
  refine wpQuiet_nil ?_
  rintro _ ⟨t, rfl⟩
  go_wp2_with fail
  go_ret
  exact ⟨by simp [go_sem], HBA.out.trans (t.prop.mono HBA.out.size)⟩
set_option maxRecDepth 100000 in
set_option maxHeartbeats 4000000 in
theorem tk_19 (ln co nu : Int) (n tn : List UInt8) (ta : Bool) (A : Option Addr) (k c : Nat) (on : List UInt8) (oa : Bool) (ow : List UInt8) (ks : List Ex) (w : World) (h : Had w A k c ks 13) (hn : n.length ≤ 140737488351232) (htn : tn.length ≤ 140737488351232) :
    Calls Tryd.prog 13 #[.agg #[.int .i64 19, .int .i64 ln, .int .i64 co, .int .i64 nu, S n, S tn, .bool ta, .slice A k c, S on, .bool oa, S ow]] w (Gives w (S ([40] ++ (kidT (ks.map Ex.text) 0) ++ [32, 97, 115, 32] ++ tn ++ [41]))) := by
  obtain ⟨wA, hwA⟩ : ∃ wA, wA = w.alloc (.cells #[.int .i64 19, .int .i64 ln, .int .i64 co, .int .i64 nu, S n, S tn, .bool ta, .slice A k c, S on, .bool oa, S ow] 29) := ⟨_, rfl⟩
  have hbA : Below w.heap.size w wA := by rw [hwA]; exact (Below.refl _ _).alloc (Nat.le_refl _) _
  have hbk : Blk wA w.heap.size 29 #[.int .i64 19, .int .i64 ln, .int .i64 co, .int .i64 nu, S n, S tn, .bool ta, .slice A k c, S on, .bool oa, S ow] := by rw [hwA]; exact Blk.new _ _ _
  have HBA := hide hbA
  have HBK := hide hbk
  have hall : ((ks.map Ex.text).map List.length).sum + 4 * (ks.map Ex.text).length ≤ 1099511627776 := by rw [List.map_map, List.length_map]; exact h.bd
  have hall1 : (((ks.map Ex.text).drop 1).map List.length).sum + 4 * ((ks.map Ex.text).drop 1).length ≤ 1099511627776 := by
    have := h.rest.bd
    rw [← List.map_drop, List.map_map, List.length_map]
    exact this
  have hsum : ((ks.map Ex.text).map List.length).sum ≤ 1099511627776 := by omega
  have C0 : ∀ t : After wA, Calls Tryd.prog 35 #[.agg #[.int .i64 19, .int .i64 ln, .int .i64 co, .int .i64 nu, S n, S tn, .bool ta, .slice A k c, S on, .bool oa, S ow], .int .i64 0] t.val (Gives t.val (S (kidT (ks.map Ex.text) 0))) := fun t => kid_any _ _ _ _ _ _ _ _ _ _ _ _ _ ks 0 t.val (h.on (hbA.trans (t.prop.mono hbA.size))) (by omega)
  have bK0 : (kidT (ks.map Ex.text) 0).length ≤ 1099511627776 := kid_bd (B := 1099511627776) hsum (by omega) 0
  generalize kidT (ks.map Ex.text) 0 = XK0 at bK0 C0 ⊢
  have HC0 := hide C0
  clear hall hall1 hsum C0 h
  have c0 := HBK.out.cell 0
  have c3 := HBK.out.cell 3
  have c4 := HBK.out.cell 4
  have c5 := HBK.out.cell 5
  simp at c0 c3 c4 c5
  go_enter Tryd.func13, Tryd.ntmps13
  go_upto_region 1 with fail
  rw [← hwA]
  clear hwA hbA hbk
  go_upto_region 37 with fail
  clear c0 c3 c4 c5
  have p0 : ∀ t : After wA, t.val.cell? ⟨w.heap.size, 0, none⟩ = some (.int .i64 19) := fun t => (HBK.out.below t.prop HBK.out.lt).cell 0
  have p1 : ∀ t : After wA, t.val.cell? ⟨w.heap.size, 1, none⟩ = some (.int .i64 ln) := fun t => (HBK.out.below t.prop HBK.out.lt).cell 1
  have p2 : ∀ t : After wA, t.val.cell? ⟨w.heap.size, 2, none⟩ = some (.int .i64 co) := fun t => (HBK.out.below t.prop HBK.out.lt).cell 2
  have p3 : ∀ t : After wA, t.val.cell? ⟨w.heap.size, 3, none⟩ = some (.int .i64 nu) := fun t => (HBK.out.below t.prop HBK.out.lt).cell 3
  have p4 : ∀ t : After wA, t.val.cell? ⟨w.heap.size, 4, none⟩ = some (S n) := fun t => (HBK.out.below t.prop HBK.out.lt).cell 4
  have p5 : ∀ t : After wA, t.val.cell? ⟨w.heap.size, 5, none⟩ = some (S tn) := fun t => (HBK.out.below t.prop HBK.out.lt).cell 5
  have p6 : ∀ t : After wA, t.val.cell? ⟨w.heap.size, 6, none⟩ = some (.bool ta) := fun t => (HBK.out.below t.prop HBK.out.lt).cell 6
  have p7 : ∀ t : After wA, t.val.cell? ⟨w.heap.size, 7, none⟩ = some (.slice A k c) := fun t => (HBK.out.below t.prop HBK.out.lt).cell 7
  have p8 : ∀ t : After wA, t.val.cell? ⟨w.heap.size, 8, none⟩ = some (S on) := fun t => (HBK.out.below t.prop HBK.out.lt).cell 8
  have p9 : ∀ t : After wA, t.val.cell? ⟨w.heap.size, 9, none⟩ = some (.bool oa) := fun t => (HBK.out.below t.prop HBK.out.lt).cell 9
  have p10 : ∀ t : After wA, t.val.cell? ⟨w.heap.size, 10, none⟩ = some (S ow) := fun t => (HBK.out.below t.prop HBK.out.lt).cell 10
  refine region_after (by kernel_rfl) (by kernel_rfl) ?_
  repeat (go_big_quiet_step (first | (go_at_call 35; with_reducible refine call_after (HC0.out _))))
  refine wpQuiet_nil ?_
  rintro _ ⟨t, rfl⟩
  go_wp2_with fail
  go_ret
  exact ⟨by simp [go_sem], HBA.out.trans (t.prop.mono HBA.out.size)⟩
set_option maxRecDepth 100000 in
set_option maxHeartbeats 4000000 in
theorem tk_20 (ln co nu : Int) (n tn : List UInt8) (ta : Bool) (A : Option Addr) (k c : Nat) (on : List UInt8) (oa : Bool) (ow : List UInt8) (ks : List Ex) (w : World) (h : Had w A k c ks 13) (hn : n.length ≤ 140737488351232) (htn : tn.length ≤ 140737488351232) :
    Calls Tryd.prog 13 #[.agg #[.int .i64 20, .int .i64 ln, .int .i64 co, .int .i64 nu, S n, S tn, .bool ta, .slice A k c, S on, .bool oa, S ow]] w (Gives w (S ([40] ++ (kidT (ks.map Ex.text) 0) ++ [32, 105, 115, 32] ++ tn ++ [41]))) := by
  obtain ⟨wA, hwA⟩ : ∃ wA, wA = w.alloc (.cells #[.int .i64 20, .int .i64 ln, .int .i64 co, .int .i64 nu, S n, S tn, .bool ta, .slice A k c, S on, .bool oa, S ow] 29) := ⟨_, rfl⟩
  have hbA : Below w.heap.size w wA := by rw [hwA]; exact (Below.refl _ _).alloc (Nat.le_refl _) _
  have hbk : Blk wA w.heap.size 29 #[.int .i64 20, .int .i64 ln, .int .i64 co, .int .i64 nu, S n, S tn, .bool ta, .slice A k c, S on, .bool oa, S ow] := by rw [hwA]; exact Blk.new _ _ _
  have HBA := hide hbA
  have HBK := hide hbk
  have hall : ((ks.map Ex.text).map List.length).sum + 4 * (ks.map Ex.text).length ≤ 1099511627776 := by rw [List.map_map, List.length_map]; exact h.bd
  have hall1 : (((ks.map Ex.text).drop 1).map List.length).sum + 4 * ((ks.map Ex.text).drop 1).length ≤ 1099511627776 := by
    have := h.rest.bd
    rw [← List.map_drop, List.map_map, List.length_map]
    exact this
  have hsum : ((ks.map Ex.text).map List.length).sum ≤ 1099511627776 := by omega
  have C0 : ∀ t : After wA, Calls Tryd.prog 35 #[.agg #[.int .i64 20, .int .i64 ln, .int .i64 co, .int .i64 nu, S n, S tn, .bool ta, .slice A k c, S on, .bool oa, S ow], .int .i64 0] t.val (Gives t.val (S (kidT (ks.map Ex.text) 0))) := fun t => kid_any _ _ _ _ _ _ _ _ _ _ _ _ _ ks 0 t.val (h.on (hbA.trans (t.prop.mono hbA.size))) (by omega)
  have bK0 : (kidT (ks.map Ex.text) 0).length ≤ 1099511627776 := kid_bd (B := 1099511627776) hsum (by omega) 0
  generalize kidT (ks.map Ex.text) 0 = XK0 at bK0 C0 ⊢
  have HC0 := hide C0
  clear hall hall1 hsum C0 h
  have c0 := HBK.out.cell 0
  have c3 := HBK.out.cell 3
  have c4 := HBK.out.cell 4
  have c5 := HBK.out.cell 5
  simp at c0 c3 c4 c5
  go_enter Tryd.func13, Tryd.ntmps13
  go_upto_region 1 with fail
  rw [← hwA]
  clear hwA hbA hbk
  go_upto_region 39 with fail
  clear c0 c3 c4 c5
  have p0 : ∀ t : After wA, t.val.cell? ⟨w.heap.size, 0, none⟩ = some (.int .i64 20) := fun t => (HBK.out.below t.prop HBK.out.lt).cell 0
  have p1 : ∀ t : After wA, t.val.cell? ⟨w.heap.size, 1, none⟩ = some (.int .i64 ln) := fun t => (HBK.out.below t.prop HBK.out.lt).cell 1
  have p2 : ∀ t : After wA, t.val.cell? ⟨w.heap.size, 2, none⟩ = some (.int .i64 co) := fun t => (HBK.out.below t.prop HBK.out.lt).cell 2
  have p3 : ∀ t : After wA, t.val.cell? ⟨w.heap.size, 3, none⟩ = some (.int .i64 nu) := fun t => (HBK.out.below t.prop HBK.out.lt).cell 3
  have p4 : ∀ t : After wA, t.val.cell? ⟨w.heap.size, 4, none⟩ = some (S n) := fun t => (HBK.out.below t.prop HBK.out.lt).cell 4
  have p5 : ∀ t : After wA, t.val.cell? ⟨w.heap.size, 5, none⟩ = some (S tn) := fun t => (HBK.out.below t.prop HBK.out.lt).cell 5
  have p6 : ∀ t : After wA, t.val.cell? ⟨w.heap.size, 6, none⟩ = some (.bool ta) := fun t => (HBK.out.below t.prop HBK.out.lt).cell 6
  have p7 : ∀ t : After wA, t.val.cell? ⟨w.heap.size, 7, none⟩ = some (.slice A k c) := fun t => (HBK.out.below t.prop HBK.out.lt).cell 7
  have p8 : ∀ t : After wA, t.val.cell? ⟨w.heap.size, 8, none⟩ = some (S on) := fun t => (HBK.out.below t.prop HBK.out.lt).cell 8
  have p9 : ∀ t : After wA, t.val.cell? ⟨w.heap.size, 9, none⟩ = some (.bool oa) := fun t => (HBK.out.below t.prop HBK.out.lt).cell 9
  have p10 : ∀ t : After wA, t.val.cell? ⟨w.heap.size, 10, none⟩ = some (S ow) := fun t => (HBK.out.below t.prop HBK.out.lt).cell 10
  refine region_after (by kernel_rfl) (by kernel_rfl) ?_
  repeat (go_big_quiet_step (first | (go_at_call 35; with_reducible refine call_after (HC0.out _))))
  refine wpQuiet_nil ?_
  rintro _ ⟨t, rfl⟩
  go_wp2_with fail
  go_ret
  exact ⟨by simp [go_sem], HBA.out.trans (t.prop.mono HBA.out.size)⟩
set_option maxRecDepth 100000 in
set_option maxHeartbeats 4000000 in
theorem tk_1 (ln co nu : Int) (n tn : List UInt8) (ta : Bool) (A : Option Addr) (k c : Nat) (on : List UInt8) (oa : Bool) (ow : List UInt8) (w : World) (hL : Laid w) (hnu : i64B nu) :
    Calls Tryd.prog 13 #[.agg #[.int .i64 1, .int .i64 ln, .int .i64 co, .int .i64 nu, S n, S tn, .bool ta, .slice A k c, S on, .bool oa, S ow]] w (Gives w (S (Lib.itoa nu))) := by
  obtain ⟨wA, hwA⟩ : ∃ wA, wA = w.alloc (.cells #[.int .i64 1, .int .i64 ln, .int .i64 co, .int .i64 nu, S n, S tn, .bool ta, .slice A k c, S on, .bool oa, S ow] 29) := ⟨_, rfl⟩
  have hbA : Below w.heap.size w wA := by rw [hwA]; exact (Below.refl _ _).alloc (Nat.le_refl _) _
  have hbk : Blk wA w.heap.size 29 #[.int .i64 1, .int .i64 ln, .int .i64 co, .int .i64 nu, S n, S tn, .bool ta, .slice A k c, S on, .bool oa, S ow] := by rw [hwA]; exact Blk.new _ _ _
  have HBA := hide hbA
  have HBK := hide hbk
  have HF := hide (form_any nu hnu wA (hL.on hbA))
  have c0 := HBK.out.cell 0
  have c3 := HBK.out.cell 3
  simp at c0 c3
  go_enter Tryd.func13, Tryd.ntmps13
  go_upto_region 1 with fail
  rw [← hwA]
  clear hwA hbA hbk hL
  go_wp2_with fail
  refine HF.out.mono ?_
  rintro e w2 ⟨rfl, hb2⟩
  go_wp2_with fail
  go_ret
  exact ⟨rfl, HBA.out.trans (hb2.mono HBA.out.size)⟩
set_option maxRecDepth 100000 in
set_option maxHeartbeats 4000000 in
theorem tk_no (kd ln co nu : Int) (n tn : List UInt8) (ta : Bool) (A : Option Addr) (k c : Nat) (on : List UInt8) (oa : Bool) (ow : List UInt8) (w : World) (e1 : (kd == 1) = false) (e2 : (kd == 2) = false) (e3 : (kd == 3) = false) (e5 : (kd == 5) = false) (e6 : (kd == 6) = false) (e7 : (kd == 7) = false) (e8 : (kd == 8) = false) (e9 : (kd == 9) = false) (e10 : (kd == 10) = false) (e11 : (kd == 11) = false) (e12 : (kd == 12) = false) (e13 : (kd == 13) = false) (e14 : (kd == 14) = false) (e15 : (kd == 15) = false) (e16 : (kd == 16) = false) (e17 : (kd == 17) = false) (e18 : (kd == 18) = false) (e19 : (kd == 19) = false) (e20 : (kd == 20) = false) :
    Calls Tryd.prog 13 #[.agg #[.int .i64 kd, .int .i64 ln, .int .i64 co, .int .i64 nu, S n, S tn, .bool ta, .slice A k c, S on, .bool oa, S ow]] w (Gives w (S nul)) := by
  obtain ⟨wA, hwA⟩ : ∃ wA, wA = w.alloc (.cells #[.int .i64 kd, .int .i64 ln, .int .i64 co, .int .i64 nu, S n, S tn, .bool ta, .slice A k c, S on, .bool oa, S ow] 29) := ⟨_, rfl⟩
  have hbA : Below w.heap.size w wA := by rw [hwA]; exact (Below.refl _ _).alloc (Nat.le_refl _) _
  have hbk : Blk wA w.heap.size 29 #[.int .i64 kd, .int .i64 ln, .int .i64 co, .int .i64 nu, S n, S tn, .bool ta, .slice A k c, S on, .bool oa, S ow] := by rw [hwA]; exact Blk.new _ _ _
  have HBA := hide hbA
  have HBK := hide hbk
  have c0 := HBK.out.cell 0
  simp at c0
  go_enter Tryd.func13, Tryd.ntmps13
  go_upto_region 1 with fail
  rw [← hwA]
  clear hwA hbA hbk
  go_wp2_with fail
  go_ret
  exact ⟨rfl, HBA.out⟩
  end Go.Proofs.YtleccalfcnkklaaDoor
