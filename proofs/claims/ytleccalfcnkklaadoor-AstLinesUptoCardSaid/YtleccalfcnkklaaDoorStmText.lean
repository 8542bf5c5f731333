/- A statement's text, walked, by the tree; no statement of the seat is proved here. -/
import Derived.Test.YtleccalfcnkklaaDoorStmKid
import Derived.Lib.MinMax
namespace Go.Proofs.YtleccalfcnkklaaDoor
open Go.RowKit
set_option linter.unusedVariables false
set_option maxRecDepth 100000 in
set_option maxHeartbeats 8000000 in
theorem st_1 (ln co : Int) (n tn : List UInt8) (ta : Bool) (eA : Option Addr) (ek ec : Nat) (es : List Ex) (tA : Option Addr) (tk tc : Nat) (ts : List St) (lA : Option Addr) (lk lc : Nat) (ls : List St) (z : Int) (d : Nat) (hz : max 0 z = (d : Int)) (hd : d ≤ 1000) (w : World)
    (hE : HadE w eA ek es 13) (hT : HadS w tA tk ts d) (hLs : HadS w lA lk ls d) (hn : n.length ≤ 1099511627776) (htn : tn.length ≤ 1099511627776) :
    Calls Tryd.prog 27 #[.agg #[.int .i64 1, .int .i64 ln, .int .i64 co, S n, S tn, .bool ta, .slice eA ek ec, .slice tA tk tc, .slice lA lk lc], .int .i64 z] w (Gives w (S ((tabs d) ++ [108, 101, 116, 32] ++ (tyT tn ta) ++ [32] ++ n ++ [32, 61, 32] ++ (kidT (es.map Ex.text) 0) ++ [59, 10]))) := by
  obtain ⟨wA, hwA⟩ : ∃ wA, wA = w.alloc (.cells #[.int .i64 1, .int .i64 ln, .int .i64 co, S n, S tn, .bool ta, .slice eA ek ec, .slice tA tk tc, .slice lA lk lc] 53) := ⟨_, rfl⟩
  have hbA : Below w.heap.size w wA := by rw [hwA]; exact (Below.refl _ _).alloc (Nat.le_refl _) _
  have hbk : Blk wA w.heap.size 53 #[.int .i64 1, .int .i64 ln, .int .i64 co, S n, S tn, .bool ta, .slice eA ek ec, .slice tA tk tc, .slice lA lk lc] := by rw [hwA]; exact Blk.new _ _ _
  have HBA := hide hbA
  have HBK := hide hbk
  have hTB : (tabs d).length ≤ 1000 := by unfold tabs; simp; exact hd
  have hRP : ∀ w', Calls Tryd.prog 45 #[S [9], .int .i64 (d : Int)] w' (Gives w' (S (tabs d))) := fun w' => rep_any d (by omega) w'
  have hX0 : ∀ w', Below wA.heap.size wA w' → Calls Tryd.prog 47 #[.agg #[.int .i64 1, .int .i64 ln, .int .i64 co, S n, S tn, .bool ta, .slice eA ek ec, .slice tA tk tc, .slice lA lk lc], .int .i64 0] w' (Gives w' (S (kidT (es.map Ex.text) 0))) := fun w' hb' => sexpr_any _ _ _ _ _ _ _ _ _ _ _ _ _ _ _ es 0 w' (hE.on (hbA.trans (hb'.mono hbA.size))) (by omega)
  have bX0 := hE.kid 0
  have hTY : ∀ w', Below wA.heap.size wA w' → Calls Tryd.prog 46 #[.agg #[S tn, .bool ta]] w' (Gives w' (S (tyT tn ta))) := fun w' _ => tytext_any tn ta (by omega) w'
  have bTY : (tyT tn ta).length ≤ 2199023255552 := by unfold tyT; split <;> (try rw [List.length_append]) <;> (try simp only [List.length_cons, List.length_nil]) <;> omega
  generalize tabs d = LTB at hRP hTB ⊢
  have HTB := hide hRP
  clear hRP
  generalize kidT (es.map Ex.text) 0 = LX0 at hX0 bX0 ⊢
  have HX0 := hide hX0
  clear hX0
  generalize tyT tn ta = LTY at hTY bTY ⊢
  have HTY := hide hTY
  clear hTY
  clear hE hT hLs
  go_enter Tryd.func27, Tryd.ntmps27
  go_upto_region 1 with fail
  rw [← hwA]
  clear hwA hbA hbk
  go_upto_region 2 with (go_at_call 45; refine (HTB.out _).mono ?_; rintro e w1 ⟨rfl, hb1⟩)
  have HB1 : Hid (Below w.heap.size w w1) := hide (HBA.out.trans (hb1.mono HBA.out.size))
  have HK1 := hide (HBK.out.below hb1 HBK.out.lt)
  have HB01 := hide hb1
  clear hb1
  have q0 := HK1.out.cell 0
  simp at q0
  go_upto_region 4 with fail
  clear q0
  have p0 : ∀ t : After w1, t.val.cell? ⟨w.heap.size, 0, none⟩ = some (.int .i64 1) := fun t => (HK1.out.below t.prop HK1.out.lt).cell 0
  have p1 : ∀ t : After w1, t.val.cell? ⟨w.heap.size, 1, none⟩ = some (.int .i64 ln) := fun t => (HK1.out.below t.prop HK1.out.lt).cell 1
  have p2 : ∀ t : After w1, t.val.cell? ⟨w.heap.size, 2, none⟩ = some (.int .i64 co) := fun t => (HK1.out.below t.prop HK1.out.lt).cell 2
  have p3 : ∀ t : After w1, t.val.cell? ⟨w.heap.size, 3, none⟩ = some (S n) := fun t => (HK1.out.below t.prop HK1.out.lt).cell 3
  have p4 : ∀ t : After w1, t.val.cell? ⟨w.heap.size, 4, none⟩ = some (S tn) := fun t => (HK1.out.below t.prop HK1.out.lt).cell 4
  have p5 : ∀ t : After w1, t.val.cell? ⟨w.heap.size, 5, none⟩ = some (.bool ta) := fun t => (HK1.out.below t.prop HK1.out.lt).cell 5
  have p6 : ∀ t : After w1, t.val.cell? ⟨w.heap.size, 6, none⟩ = some (.slice eA ek ec) := fun t => (HK1.out.below t.prop HK1.out.lt).cell 6
  have p7 : ∀ t : After w1, t.val.cell? ⟨w.heap.size, 7, none⟩ = some (.slice tA tk tc) := fun t => (HK1.out.below t.prop HK1.out.lt).cell 7
  have p8 : ∀ t : After w1, t.val.cell? ⟨w.heap.size, 8, none⟩ = some (.slice lA lk lc) := fun t => (HK1.out.below t.prop HK1.out.lt).cell 8
  have GX0 : Hid (∀ t : After w1, Calls Tryd.prog 47 #[.agg #[.int .i64 1, .int .i64 ln, .int .i64 co, S n, S tn, .bool ta, .slice eA ek ec, .slice tA tk tc, .slice lA lk lc], .int .i64 0] t.val (Gives t.val (S LX0))) := hide (fun t => HX0.out t.val (HB01.out.trans (t.prop.mono HB01.out.size)))
  clear HX0
  have GTY : Hid (∀ t : After w1, Calls Tryd.prog 46 #[.agg #[S tn, .bool ta]] t.val (Gives t.val (S LTY))) := hide (fun t => HTY.out t.val (HB01.out.trans (t.prop.mono HB01.out.size)))
  clear HTY
  refine region_after (by kernel_rfl) (by kernel_rfl) ?_
  repeat (go_big_quiet_step (first | (go_at_call 47; with_reducible refine call_after (GX0.out _)) | (go_at_call 46; with_reducible refine call_after (GTY.out _))))
  refine wpQuiet_nil ?_
  rintro _ ⟨t, rfl⟩
  go_wp2_with fail
  go_ret
  exact ⟨by simp [go_sem], HB1.out.trans (t.prop.mono HB1.out.size)⟩
set_option maxRecDepth 100000 in
set_option maxHeartbeats 8000000 in
theorem st_2 (ln co : Int) (n tn : List UInt8) (ta : Bool) (eA : Option Addr) (ek ec : Nat) (es : List Ex) (tA : Option Addr) (tk tc : Nat) (ts : List St) (lA : Option Addr) (lk lc : Nat) (ls : List St) (z : Int) (d : Nat) (hz : max 0 z = (d : Int)) (hd : d ≤ 1000) (w : World)
    (hE : HadE w eA ek es 13) (hT : HadS w tA tk ts d) (hLs : HadS w lA lk ls d) (hn : n.length ≤ 1099511627776) (htn : tn.length ≤ 1099511627776) :
    Calls Tryd.prog 27 #[.agg #[.int .i64 2, .int .i64 ln, .int .i64 co, S n, S tn, .bool ta, .slice eA ek ec, .slice tA tk tc, .slice lA lk lc], .int .i64 z] w (Gives w (S ((tabs d) ++ (kidT (es.map Ex.text) 0) ++ [32, 61, 32] ++ (kidT (es.map Ex.text) 1) ++ [59, 10]))) := by
  obtain ⟨wA, hwA⟩ : ∃ wA, wA = w.alloc (.cells #[.int .i64 2, .int .i64 ln, .int .i64 co, S n, S tn, .bool ta, .slice eA ek ec, .slice tA tk tc, .slice lA lk lc] 53) := ⟨_, rfl⟩
  have hbA : Below w.heap.size w wA := by rw [hwA]; exact (Below.refl _ _).alloc (Nat.le_refl _) _
  have hbk : Blk wA w.heap.size 53 #[.int .i64 2, .int .i64 ln, .int .i64 co, S n, S tn, .bool ta, .slice eA ek ec, .slice tA tk tc, .slice lA lk lc] := by rw [hwA]; exact Blk.new _ _ _
  have HBA := hide hbA
  have HBK := hide hbk
  have hTB : (tabs d).length ≤ 1000 := by unfold tabs; simp; exact hd
  have hRP : ∀ w', Calls Tryd.prog 45 #[S [9], .int .i64 (d : Int)] w' (Gives w' (S (tabs d))) := fun w' => rep_any d (by omega) w'
  have hX0 : ∀ w', Below wA.heap.size wA w' → Calls Tryd.prog 47 #[.agg #[.int .i64 2, .int .i64 ln, .int .i64 co, S n, S tn, .bool ta, .slice eA ek ec, .slice tA tk tc, .slice lA lk lc], .int .i64 0] w' (Gives w' (S (kidT (es.map Ex.text) 0))) := fun w' hb' => sexpr_any _ _ _ _ _ _ _ _ _ _ _ _ _ _ _ es 0 w' (hE.on (hbA.trans (hb'.mono hbA.size))) (by omega)
  have bX0 := hE.kid 0
  have hX1 : ∀ w', Below wA.heap.size wA w' → Calls Tryd.prog 47 #[.agg #[.int .i64 2, .int .i64 ln, .int .i64 co, S n, S tn, .bool ta, .slice eA ek ec, .slice tA tk tc, .slice lA lk lc], .int .i64 1] w' (Gives w' (S (kidT (es.map Ex.text) 1))) := fun w' hb' => sexpr_any _ _ _ _ _ _ _ _ _ _ _ _ _ _ _ es 1 w' (hE.on (hbA.trans (hb'.mono hbA.size))) (by omega)
  have bX1 := hE.kid 1
  generalize tabs d = LTB at hRP hTB ⊢
  have HTB := hide hRP
  clear hRP
  generalize kidT (es.map Ex.text) 0 = LX0 at hX0 bX0 ⊢
  have HX0 := hide hX0
  clear hX0
  generalize kidT (es.map Ex.text) 1 = LX1 at hX1 bX1 ⊢
  have HX1 := hide hX1
  clear hX1
  clear hE hT hLs
  go_enter Tryd.func27, Tryd.ntmps27
  go_upto_region 1 with fail
  rw [← hwA]
  clear hwA hbA hbk
  go_upto_region 2 with (go_at_call 45; refine (HTB.out _).mono ?_; rintro e w1 ⟨rfl, hb1⟩)
  have HB1 : Hid (Below w.heap.size w w1) := hide (HBA.out.trans (hb1.mono HBA.out.size))
  have HK1 := hide (HBK.out.below hb1 HBK.out.lt)
  have HB01 := hide hb1
  clear hb1
  have q0 := HK1.out.cell 0
  simp at q0
  go_upto_region 6 with fail
  clear q0
  have p0 : ∀ t : After w1, t.val.cell? ⟨w.heap.size, 0, none⟩ = some (.int .i64 2) := fun t => (HK1.out.below t.prop HK1.out.lt).cell 0
  have p1 : ∀ t : After w1, t.val.cell? ⟨w.heap.size, 1, none⟩ = some (.int .i64 ln) := fun t => (HK1.out.below t.prop HK1.out.lt).cell 1
  have p2 : ∀ t : After w1, t.val.cell? ⟨w.heap.size, 2, none⟩ = some (.int .i64 co) := fun t => (HK1.out.below t.prop HK1.out.lt).cell 2
  have p3 : ∀ t : After w1, t.val.cell? ⟨w.heap.size, 3, none⟩ = some (S n) := fun t => (HK1.out.below t.prop HK1.out.lt).cell 3
  have p4 : ∀ t : After w1, t.val.cell? ⟨w.heap.size, 4, none⟩ = some (S tn) := fun t => (HK1.out.below t.prop HK1.out.lt).cell 4
  have p5 : ∀ t : After w1, t.val.cell? ⟨w.heap.size, 5, none⟩ = some (.bool ta) := fun t => (HK1.out.below t.prop HK1.out.lt).cell 5
  have p6 : ∀ t : After w1, t.val.cell? ⟨w.heap.size, 6, none⟩ = some (.slice eA ek ec) := fun t => (HK1.out.below t.prop HK1.out.lt).cell 6
  have p7 : ∀ t : After w1, t.val.cell? ⟨w.heap.size, 7, none⟩ = some (.slice tA tk tc) := fun t => (HK1.out.below t.prop HK1.out.lt).cell 7
  have p8 : ∀ t : After w1, t.val.cell? ⟨w.heap.size, 8, none⟩ = some (.slice lA lk lc) := fun t => (HK1.out.below t.prop HK1.out.lt).cell 8
  have GX0 : Hid (∀ t : After w1, Calls Tryd.prog 47 #[.agg #[.int .i64 2, .int .i64 ln, .int .i64 co, S n, S tn, .bool ta, .slice eA ek ec, .slice tA tk tc, .slice lA lk lc], .int .i64 0] t.val (Gives t.val (S LX0))) := hide (fun t => HX0.out t.val (HB01.out.trans (t.prop.mono HB01.out.size)))
  clear HX0
  have GX1 : Hid (∀ t : After w1, Calls Tryd.prog 47 #[.agg #[.int .i64 2, .int .i64 ln, .int .i64 co, S n, S tn, .bool ta, .slice eA ek ec, .slice tA tk tc, .slice lA lk lc], .int .i64 1] t.val (Gives t.val (S LX1))) := hide (fun t => HX1.out t.val (HB01.out.trans (t.prop.mono HB01.out.size)))
  clear HX1
  refine region_after (by kernel_rfl) (by kernel_rfl) ?_
  repeat (go_big_quiet_step (first | (go_at_call 47; with_reducible refine call_after (GX0.out _)) | (go_at_call 47; with_reducible refine call_after (GX1.out _))))
  refine wpQuiet_nil ?_
  rintro _ ⟨t, rfl⟩
  go_wp2_with fail
  go_ret
  exact ⟨by simp [go_sem], HB1.out.trans (t.prop.mono HB1.out.size)⟩
set_option maxRecDepth 100000 in
set_option maxHeartbeats 8000000 in
theorem st_4 (ln co : Int) (n tn : List UInt8) (ta : Bool) (eA : Option Addr) (ek ec : Nat) (es : List Ex) (tA : Option Addr) (tk tc : Nat) (ts : List St) (lA : Option Addr) (lk lc : Nat) (ls : List St) (z : Int) (d : Nat) (hz : max 0 z = (d : Int)) (hd : d ≤ 1000) (w : World)
    (hE : HadE w eA ek es 13) (hT : HadS w tA tk ts d) (hLs : HadS w lA lk ls d) (hn : n.length ≤ 1099511627776) (htn : tn.length ≤ 1099511627776) :
    Calls Tryd.prog 27 #[.agg #[.int .i64 4, .int .i64 ln, .int .i64 co, S n, S tn, .bool ta, .slice eA ek ec, .slice tA tk tc, .slice lA lk lc], .int .i64 z] w (Gives w (S ((tabs d) ++ [105, 102, 32] ++ (kidT (es.map Ex.text) 0) ++ [32] ++ (blockT d (ts.map fun x => x.text (d + 1))) ++ (elseT d ls.length (ls.map fun x => x.text (d + 1))) ++ [10]))) := by
  obtain ⟨wA, hwA⟩ : ∃ wA, wA = w.alloc (.cells #[.int .i64 4, .int .i64 ln, .int .i64 co, S n, S tn, .bool ta, .slice eA ek ec, .slice tA tk tc, .slice lA lk lc] 53) := ⟨_, rfl⟩
  have hbA : Below w.heap.size w wA := by rw [hwA]; exact (Below.refl _ _).alloc (Nat.le_refl _) _
  have hbk : Blk wA w.heap.size 53 #[.int .i64 4, .int .i64 ln, .int .i64 co, S n, S tn, .bool ta, .slice eA ek ec, .slice tA tk tc, .slice lA lk lc] := by rw [hwA]; exact Blk.new _ _ _
  have HBA := hide hbA
  have HBK := hide hbk
  have hTB : (tabs d).length ≤ 1000 := by unfold tabs; simp; exact hd
  have hRP : ∀ w', Calls Tryd.prog 45 #[S [9], .int .i64 (d : Int)] w' (Gives w' (S (tabs d))) := fun w' => rep_any d (by omega) w'
  have hX0 : ∀ w', Below wA.heap.size wA w' → Calls Tryd.prog 47 #[.agg #[.int .i64 4, .int .i64 ln, .int .i64 co, S n, S tn, .bool ta, .slice eA ek ec, .slice tA tk tc, .slice lA lk lc], .int .i64 0] w' (Gives w' (S (kidT (es.map Ex.text) 0))) := fun w' hb' => sexpr_any _ _ _ _ _ _ _ _ _ _ _ _ _ _ _ es 0 w' (hE.on (hbA.trans (hb'.mono hbA.size))) (by omega)
  have bX0 := hE.kid 0
  have hBT : ∀ w', Below wA.heap.size wA w' → Calls Tryd.prog 48 #[.slice tA tk tc, .int .i64 (d : Int)] w' (Gives w' (S (blockT d (ts.map fun x => x.text (d + 1))))) := fun w' hb' => block_any _ _ _ ts d w' (hT.on (hbA.trans (hb'.mono hbA.size))) hd
  have bBT := hT.bd
  have hBL : ∀ w', Below wA.heap.size wA w' → Calls Tryd.prog 48 #[.slice lA lk lc, .int .i64 (d : Int)] w' (Gives w' (S (blockT d (ls.map fun x => x.text (d + 1))))) := fun w' hb' => block_any _ _ _ ls d w' (hLs.on (hbA.trans (hb'.mono hbA.size))) hd
  have bBL := hLs.bd
  have hLL := hLs.len
  generalize tabs d = LTB at hRP hTB ⊢
  have HTB := hide hRP
  clear hRP
  generalize kidT (es.map Ex.text) 0 = LX0 at hX0 bX0 ⊢
  have HX0 := hide hX0
  clear hX0
  generalize blockT d (ts.map fun x => x.text (d + 1)) = LBT at hBT bBT ⊢
  have HBT := hide hBT
  clear hBT
  unfold elseT
  rw [hLL]
  generalize blockT d (ls.map fun x => x.text (d + 1)) = LBL at hBL bBL ⊢
  have HBL := hide hBL
  clear hBL
  clear hE hT hLs
  go_enter Tryd.func27, Tryd.ntmps27
  go_upto_region 1 with fail
  rw [← hwA]
  clear hwA hbA hbk
  go_upto_region 2 with (go_at_call 45; refine (HTB.out _).mono ?_; rintro e w1 ⟨rfl, hb1⟩)
  have HB1 : Hid (Below w.heap.size w w1) := hide (HBA.out.trans (hb1.mono HBA.out.size))
  have HK1 := hide (HBK.out.below hb1 HBK.out.lt)
  have HB01 := hide hb1
  clear hb1
  have q0 := HK1.out.cell 0
  simp at q0
  go_upto_region 8 with fail
  clear q0
  have p0 : ∀ t : After w1, t.val.cell? ⟨w.heap.size, 0, none⟩ = some (.int .i64 4) := fun t => (HK1.out.below t.prop HK1.out.lt).cell 0
  have p1 : ∀ t : After w1, t.val.cell? ⟨w.heap.size, 1, none⟩ = some (.int .i64 ln) := fun t => (HK1.out.below t.prop HK1.out.lt).cell 1
  have p2 : ∀ t : After w1, t.val.cell? ⟨w.heap.size, 2, none⟩ = some (.int .i64 co) := fun t => (HK1.out.below t.prop HK1.out.lt).cell 2
  have p3 : ∀ t : After w1, t.val.cell? ⟨w.heap.size, 3, none⟩ = some (S n) := fun t => (HK1.out.below t.prop HK1.out.lt).cell 3
  have p4 : ∀ t : After w1, t.val.cell? ⟨w.heap.size, 4, none⟩ = some (S tn) := fun t => (HK1.out.below t.prop HK1.out.lt).cell 4
  have p5 : ∀ t : After w1, t.val.cell? ⟨w.heap.size, 5, none⟩ = some (.bool ta) := fun t => (HK1.out.below t.prop HK1.out.lt).cell 5
  have p6 : ∀ t : After w1, t.val.cell? ⟨w.heap.size, 6, none⟩ = some (.slice eA ek ec) := fun t => (HK1.out.below t.prop HK1.out.lt).cell 6
  have p7 : ∀ t : After w1, t.val.cell? ⟨w.heap.size, 7, none⟩ = some (.slice tA tk tc) := fun t => (HK1.out.below t.prop HK1.out.lt).cell 7
  have p8 : ∀ t : After w1, t.val.cell? ⟨w.heap.size, 8, none⟩ = some (.slice lA lk lc) := fun t => (HK1.out.below t.prop HK1.out.lt).cell 8
  have GX0 : Hid (∀ t : After w1, Calls Tryd.prog 47 #[.agg #[.int .i64 4, .int .i64 ln, .int .i64 co, S n, S tn, .bool ta, .slice eA ek ec, .slice tA tk tc, .slice lA lk lc], .int .i64 0] t.val (Gives t.val (S LX0))) := hide (fun t => HX0.out t.val (HB01.out.trans (t.prop.mono HB01.out.size)))
  clear HX0
  have GBT : Hid (∀ t : After w1, Calls Tryd.prog 48 #[.slice tA tk tc, .int .i64 (d : Int)] t.val (Gives t.val (S LBT))) := hide (fun t => HBT.out t.val (HB01.out.trans (t.prop.mono HB01.out.size)))
  clear HBT
  have GBL : Hid (∀ t : After w1, Calls Tryd.prog 48 #[.slice lA lk lc, .int .i64 (d : Int)] t.val (Gives t.val (S LBL))) := hide (fun t => HBL.out t.val (HB01.out.trans (t.prop.mono HB01.out.size)))
  clear HBL
  refine region_after (by kernel_rfl) (by kernel_rfl) ?_
  repeat (go_big_quiet_step (first | (go_at_call 47; with_reducible refine call_after (GX0.out _)) | (go_at_call 48; with_reducible refine call_after (GBT.out _)) | (go_at_call 48; with_reducible refine call_after (GBL.out _))))
  refine wpQuiet_nil ?_
  rintro _ ⟨t, rfl⟩
  clear p0 p1 p2 p3 p4 p5 p6 p7
  by_cases hlk : lk = 0
  · subst hlk
    have h0 : ¬ (0 : Int) < ((0 : Nat) : Int) := by omega
    go_wp2_with fail
    go_ret
    exact ⟨by simp [go_sem], HB1.out.trans (t.prop.mono HB1.out.size)⟩
  · have h0 : (0 : Int) < (lk : Int) := by omega
    go_wp2_with (go_at_call 48; refine (GBL.out t).mono ?_; rintro e w3 ⟨rfl, hb3⟩)
    go_ret
    exact ⟨by simp [go_sem], (HB1.out.trans (t.prop.mono HB1.out.size)).trans (hb3.mono (HB1.out.trans (t.prop.mono HB1.out.size)).size)⟩
set_option maxRecDepth 100000 in
set_option maxHeartbeats 8000000 in
theorem st_5 (ln co : Int) (n tn : List UInt8) (ta : Bool) (eA : Option Addr) (ek ec : Nat) (es : List Ex) (tA : Option Addr) (tk tc : Nat) (ts : List St) (lA : Option Addr) (lk lc : Nat) (ls : List St) (z : Int) (d : Nat) (hz : max 0 z = (d : Int)) (hd : d ≤ 1000) (w : World)
    (hE : HadE w eA ek es 13) (hT : HadS w tA tk ts d) (hLs : HadS w lA lk ls d) (hn : n.length ≤ 1099511627776) (htn : tn.length ≤ 1099511627776) :
    Calls Tryd.prog 27 #[.agg #[.int .i64 5, .int .i64 ln, .int .i64 co, S n, S tn, .bool ta, .slice eA ek ec, .slice tA tk tc, .slice lA lk lc], .int .i64 z] w (Gives w (S ((tabs d) ++ [119, 104, 105, 108, 101, 32] ++ (kidT (es.map Ex.text) 0) ++ [32] ++ (blockT d (ts.map fun x => x.text (d + 1))) ++ [10]))) := by
  obtain ⟨wA, hwA⟩ : ∃ wA, wA = w.alloc (.cells #[.int .i64 5, .int .i64 ln, .int .i64 co, S n, S tn, .bool ta, .slice eA ek ec, .slice tA tk tc, .slice lA lk lc] 53) := ⟨_, rfl⟩
  have hbA : Below w.heap.size w wA := by rw [hwA]; exact (Below.refl _ _).alloc (Nat.le_refl _) _
  have hbk : Blk wA w.heap.size 53 #[.int .i64 5, .int .i64 ln, .int .i64 co, S n, S tn, .bool ta, .slice eA ek ec, .slice tA tk tc, .slice lA lk lc] := by rw [hwA]; exact Blk.new _ _ _
  have HBA := hide hbA
  have HBK := hide hbk
  have hTB : (tabs d).length ≤ 1000 := by unfold tabs; simp; exact hd
  have hRP : ∀ w', Calls Tryd.prog 45 #[S [9], .int .i64 (d : Int)] w' (Gives w' (S (tabs d))) := fun w' => rep_any d (by omega) w'
  have hX0 : ∀ w', Below wA.heap.size wA w' → Calls Tryd.prog 47 #[.agg #[.int .i64 5, .int .i64 ln, .int .i64 co, S n, S tn, .bool ta, .slice eA ek ec, .slice tA tk tc, .slice lA lk lc], .int .i64 0] w' (Gives w' (S (kidT (es.map Ex.text) 0))) := fun w' hb' => sexpr_any _ _ _ _ _ _ _ _ _ _ _ _ _ _ _ es 0 w' (hE.on (hbA.trans (hb'.mono hbA.size))) (by omega)
  have bX0 := hE.kid 0
  have hBT : ∀ w', Below wA.heap.size wA w' → Calls Tryd.prog 48 #[.slice tA tk tc, .int .i64 (d : Int)] w' (Gives w' (S (blockT d (ts.map fun x => x.text (d + 1))))) := fun w' hb' => block_any _ _ _ ts d w' (hT.on (hbA.trans (hb'.mono hbA.size))) hd
  have bBT := hT.bd
  generalize tabs d = LTB at hRP hTB ⊢
  have HTB := hide hRP
  clear hRP
  generalize kidT (es.map Ex.text) 0 = LX0 at hX0 bX0 ⊢
  have HX0 := hide hX0
  clear hX0
  generalize blockT d (ts.map fun x => x.text (d + 1)) = LBT at hBT bBT ⊢
  have HBT := hide hBT
  clear hBT
  clear hE hT hLs
  go_enter Tryd.func27, Tryd.ntmps27
  go_upto_region 1 with fail
  rw [← hwA]
  clear hwA hbA hbk
  go_upto_region 2 with (go_at_call 45; refine (HTB.out _).mono ?_; rintro e w1 ⟨rfl, hb1⟩)
  have HB1 : Hid (Below w.heap.size w w1) := hide (HBA.out.trans (hb1.mono HBA.out.size))
  have HK1 := hide (HBK.out.below hb1 HBK.out.lt)
  have HB01 := hide hb1
  clear hb1
  have q0 := HK1.out.cell 0
  simp at q0
  go_upto_region 13 with fail
  clear q0
  have p0 : ∀ t : After w1, t.val.cell? ⟨w.heap.size, 0, none⟩ = some (.int .i64 5) := fun t => (HK1.out.below t.prop HK1.out.lt).cell 0
  have p1 : ∀ t : After w1, t.val.cell? ⟨w.heap.size, 1, none⟩ = some (.int .i64 ln) := fun t => (HK1.out.below t.prop HK1.out.lt).cell 1
  have p2 : ∀ t : After w1, t.val.cell? ⟨w.heap.size, 2, none⟩ = some (.int .i64 co) := fun t => (HK1.out.below t.prop HK1.out.lt).cell 2
  have p3 : ∀ t : After w1, t.val.cell? ⟨w.heap.size, 3, none⟩ = some (S n) := fun t => (HK1.out.below t.prop HK1.out.lt).cell 3
  have p4 : ∀ t : After w1, t.val.cell? ⟨w.heap.size, 4, none⟩ = some (S tn) := fun t => (HK1.out.below t.prop HK1.out.lt).cell 4
  have p5 : ∀ t : After w1, t.val.cell? ⟨w.heap.size, 5, none⟩ = some (.bool ta) := fun t => (HK1.out.below t.prop HK1.out.lt).cell 5
  have p6 : ∀ t : After w1, t.val.cell? ⟨w.heap.size, 6, none⟩ = some (.slice eA ek ec) := fun t => (HK1.out.below t.prop HK1.out.lt).cell 6
  have p7 : ∀ t : After w1, t.val.cell? ⟨w.heap.size, 7, none⟩ = some (.slice tA tk tc) := fun t => (HK1.out.below t.prop HK1.out.lt).cell 7
  have p8 : ∀ t : After w1, t.val.cell? ⟨w.heap.size, 8, none⟩ = some (.slice lA lk lc) := fun t => (HK1.out.below t.prop HK1.out.lt).cell 8
  have GX0 : Hid (∀ t : After w1, Calls Tryd.prog 47 #[.agg #[.int .i64 5, .int .i64 ln, .int .i64 co, S n, S tn, .bool ta, .slice eA ek ec, .slice tA tk tc, .slice lA lk lc], .int .i64 0] t.val (Gives t.val (S LX0))) := hide (fun t => HX0.out t.val (HB01.out.trans (t.prop.mono HB01.out.size)))
  clear HX0
  have GBT : Hid (∀ t : After w1, Calls Tryd.prog 48 #[.slice tA tk tc, .int .i64 (d : Int)] t.val (Gives t.val (S LBT))) := hide (fun t => HBT.out t.val (HB01.out.trans (t.prop.mono HB01.out.size)))
  clear HBT
  refine region_after (by kernel_rfl) (by kernel_rfl) ?_
  repeat (go_big_quiet_step (first | (go_at_call 47; with_reducible refine call_after (GX0.out _)) | (go_at_call 48; with_reducible refine call_after (GBT.out _))))
  refine wpQuiet_nil ?_
  rintro _ ⟨t, rfl⟩
  go_wp2_with fail
  go_ret
  exact ⟨by simp [go_sem], HB1.out.trans (t.prop.mono HB1.out.size)⟩
set_option maxRecDepth 100000 in
set_option maxHeartbeats 8000000 in
theorem st_6 (ln co : Int) (n tn : List UInt8) (ta : Bool) (eA : Option Addr) (ek ec : Nat) (es : List Ex) (tA : Option Addr) (tk tc : Nat) (ts : List St) (lA : Option Addr) (lk lc : Nat) (ls : List St) (z : Int) (d : Nat) (hz : max 0 z = (d : Int)) (hd : d ≤ 1000) (w : World)
    (hE : HadE w eA ek es 13) (hT : HadS w tA tk ts d) (hLs : HadS w lA lk ls d) (hn : n.length ≤ 1099511627776) (htn : tn.length ≤ 1099511627776) :
    Calls Tryd.prog 27 #[.agg #[.int .i64 6, .int .i64 ln, .int .i64 co, S n, S tn, .bool ta, .slice eA ek ec, .slice tA tk tc, .slice lA lk lc], .int .i64 z] w (Gives w (S ((tabs d) ++ [114, 101, 116, 117, 114, 110, 32] ++ (kidT (es.map Ex.text) 0) ++ [59, 10]))) := by
  obtain ⟨wA, hwA⟩ : ∃ wA, wA = w.alloc (.cells #[.int .i64 6, .int .i64 ln, .int .i64 co, S n, S tn, .bool ta, .slice eA ek ec, .slice tA tk tc, .slice lA lk lc] 53) := ⟨_, rfl⟩
  have hbA : Below w.heap.size w wA := by rw [hwA]; exact (Below.refl _ _).alloc (Nat.le_refl _) _
  have hbk : Blk wA w.heap.size 53 #[.int .i64 6, .int .i64 ln, .int .i64 co, S n, S tn, .bool ta, .slice eA ek ec, .slice tA tk tc, .slice lA lk lc] := by rw [hwA]; exact Blk.new _ _ _
  have HBA := hide hbA
  have HBK := hide hbk
  have hTB : (tabs d).length ≤ 1000 := by unfold tabs; simp; exact hd
  have hRP : ∀ w', Calls Tryd.prog 45 #[S [9], .int .i64 (d : Int)] w' (Gives w' (S (tabs d))) := fun w' => rep_any d (by omega) w'
  have hX0 : ∀ w', Below wA.heap.size wA w' → Calls Tryd.prog 47 #[.agg #[.int .i64 6, .int .i64 ln, .int .i64 co, S n, S tn, .bool ta, .slice eA ek ec, .slice tA tk tc, .slice lA lk lc], .int .i64 0] w' (Gives w' (S (kidT (es.map Ex.text) 0))) := fun w' hb' => sexpr_any _ _ _ _ _ _ _ _ _ _ _ _ _ _ _ es 0 w' (hE.on (hbA.trans (hb'.mono hbA.size))) (by omega)
  have bX0 := hE.kid 0
  generalize tabs d = LTB at hRP hTB ⊢
  have HTB := hide hRP
  clear hRP
  generalize kidT (es.map Ex.text) 0 = LX0 at hX0 bX0 ⊢
  have HX0 := hide hX0
  clear hX0
  clear hE hT hLs
  go_enter Tryd.func27, Tryd.ntmps27
  go_upto_region 1 with fail
  rw [← hwA]
  clear hwA hbA hbk
  go_upto_region 2 with (go_at_call 45; refine (HTB.out _).mono ?_; rintro e w1 ⟨rfl, hb1⟩)
  have HB1 : Hid (Below w.heap.size w w1) := hide (HBA.out.trans (hb1.mono HBA.out.size))
  have HK1 := hide (HBK.out.below hb1 HBK.out.lt)
  have HB01 := hide hb1
  clear hb1
  have q0 := HK1.out.cell 0
  have q1 := HK1.out.cell 1
  have q2 := HK1.out.cell 2
  have q3 := HK1.out.cell 3
  have q4 := HK1.out.cell 4
  have q5 := HK1.out.cell 5
  have q6 := HK1.out.cell 6
  have q7 := HK1.out.cell 7
  have q8 := HK1.out.cell 8
  simp at q0 q1 q2 q3 q4 q5 q6 q7 q8
  have HX2 := hide (HX0.out w1 HB01.out)
  clear HX0 HBK HBA
  go_wp2_with fail
  refine HX2.out.mono ?_
  rintro e w2 ⟨rfl, hb2⟩
  clear q0 q1 q2 q3 q4 q5 q6 q7 q8
  go_wp2_with fail
  go_ret
  exact ⟨by simp [go_sem], HB1.out.trans (hb2.mono HB1.out.size)⟩
set_option maxRecDepth 100000 in
set_option maxHeartbeats 8000000 in
theorem st_7 (ln co : Int) (n tn : List UInt8) (ta : Bool) (eA : Option Addr) (ek ec : Nat) (es : List Ex) (tA : Option Addr) (tk tc : Nat) (ts : List St) (lA : Option Addr) (lk lc : Nat) (ls : List St) (z : Int) (d : Nat) (hz : max 0 z = (d : Int)) (hd : d ≤ 1000) (w : World)
    (hE : HadE w eA ek es 13) (hT : HadS w tA tk ts d) (hLs : HadS w lA lk ls d) (hn : n.length ≤ 1099511627776) (htn : tn.length ≤ 1099511627776) :
    Calls Tryd.prog 27 #[.agg #[.int .i64 7, .int .i64 ln, .int .i64 co, S n, S tn, .bool ta, .slice eA ek ec, .slice tA tk tc, .slice lA lk lc], .int .i64 z] w (Gives w (S ((tabs d) ++ [112, 114, 105, 110, 116, 32] ++ (kidT (es.map Ex.text) 0) ++ [59, 10]))) := by
  obtain ⟨wA, hwA⟩ : ∃ wA, wA = w.alloc (.cells #[.int .i64 7, .int .i64 ln, .int .i64 co, S n, S tn, .bool ta, .slice eA ek ec, .slice tA tk tc, .slice lA lk lc] 53) := ⟨_, rfl⟩
  have hbA : Below w.heap.size w wA := by rw [hwA]; exact (Below.refl _ _).alloc (Nat.le_refl _) _
  have hbk : Blk wA w.heap.size 53 #[.int .i64 7, .int .i64 ln, .int .i64 co, S n, S tn, .bool ta, .slice eA ek ec, .slice tA tk tc, .slice lA lk lc] := by rw [hwA]; exact Blk.new _ _ _
  have HBA := hide hbA
  have HBK := hide hbk
  have hTB : (tabs d).length ≤ 1000 := by unfold tabs; simp; exact hd
  have hRP : ∀ w', Calls Tryd.prog 45 #[S [9], .int .i64 (d : Int)] w' (Gives w' (S (tabs d))) := fun w' => rep_any d (by omega) w'
  have hX0 : ∀ w', Below wA.heap.size wA w' → Calls Tryd.prog 47 #[.agg #[.int .i64 7, .int .i64 ln, .int .i64 co, S n, S tn, .bool ta, .slice eA ek ec, .slice tA tk tc, .slice lA lk lc], .int .i64 0] w' (Gives w' (S (kidT (es.map Ex.text) 0))) := fun w' hb' => sexpr_any _ _ _ _ _ _ _ _ _ _ _ _ _ _ _ es 0 w' (hE.on (hbA.trans (hb'.mono hbA.size))) (by omega)
  have bX0 := hE.kid 0
  generalize tabs d = LTB at hRP hTB ⊢
  have HTB := hide hRP
  clear hRP
  generalize kidT (es.map Ex.text) 0 = LX0 at hX0 bX0 ⊢
  have HX0 := hide hX0
  clear hX0
  clear hE hT hLs
  go_enter Tryd.func27, Tryd.ntmps27
  go_upto_region 1 with fail
  rw [← hwA]
  clear hwA hbA hbk
  go_upto_region 2 with (go_at_call 45; refine (HTB.out _).mono ?_; rintro e w1 ⟨rfl, hb1⟩)
  have HB1 : Hid (Below w.heap.size w w1) := hide (HBA.out.trans (hb1.mono HBA.out.size))
  have HK1 := hide (HBK.out.below hb1 HBK.out.lt)
  have HB01 := hide hb1
  clear hb1
  have q0 := HK1.out.cell 0
  have q1 := HK1.out.cell 1
  have q2 := HK1.out.cell 2
  have q3 := HK1.out.cell 3
  have q4 := HK1.out.cell 4
  have q5 := HK1.out.cell 5
  have q6 := HK1.out.cell 6
  have q7 := HK1.out.cell 7
  have q8 := HK1.out.cell 8
  simp at q0 q1 q2 q3 q4 q5 q6 q7 q8
  have HX2 := hide (HX0.out w1 HB01.out)
  clear HX0 HBK HBA
  go_wp2_with fail
  refine HX2.out.mono ?_
  rintro e w2 ⟨rfl, hb2⟩
  clear q0 q1 q2 q3 q4 q5 q6 q7 q8
  go_wp2_with fail
  go_ret
  exact ⟨by simp [go_sem], HB1.out.trans (hb2.mono HB1.out.size)⟩
set_option maxRecDepth 100000 in
set_option maxHeartbeats 8000000 in
theorem st_no (ds : Int) (ln co : Int) (n tn : List UInt8) (ta : Bool) (eA : Option Addr) (ek ec : Nat) (es : List Ex) (tA : Option Addr) (tk tc : Nat) (ts : List St) (lA : Option Addr) (lk lc : Nat) (ls : List St) (z : Int) (d : Nat) (hz : max 0 z = (d : Int)) (hd : d ≤ 1000) (w : World)
    (hE : HadE w eA ek es 13) (hT : HadS w tA tk ts d) (hLs : HadS w lA lk ls d) (hn : n.length ≤ 1099511627776) (htn : tn.length ≤ 1099511627776) (e1 : (ds == 1) = false) (e2 : (ds == 2) = false) (e4 : (ds == 4) = false) (e5 : (ds == 5) = false) (e6 : (ds == 6) = false) (e7 : (ds == 7) = false) :
    Calls Tryd.prog 27 #[.agg #[.int .i64 ds, .int .i64 ln, .int .i64 co, S n, S tn, .bool ta, .slice eA ek ec, .slice tA tk tc, .slice lA lk lc], .int .i64 z] w (Gives w (S ((tabs d) ++ (kidT (es.map Ex.text) 0) ++ [59, 10]))) := by
  obtain ⟨wA, hwA⟩ : ∃ wA, wA = w.alloc (.cells #[.int .i64 ds, .int .i64 ln, .int .i64 co, S n, S tn, .bool ta, .slice eA ek ec, .slice tA tk tc, .slice lA lk lc] 53) := ⟨_, rfl⟩
  have hbA : Below w.heap.size w wA := by rw [hwA]; exact (Below.refl _ _).alloc (Nat.le_refl _) _
  have hbk : Blk wA w.heap.size 53 #[.int .i64 ds, .int .i64 ln, .int .i64 co, S n, S tn, .bool ta, .slice eA ek ec, .slice tA tk tc, .slice lA lk lc] := by rw [hwA]; exact Blk.new _ _ _
  have HBA := hide hbA
  have HBK := hide hbk
  have hTB : (tabs d).length ≤ 1000 := by unfold tabs; simp; exact hd
  have hRP : ∀ w', Calls Tryd.prog 45 #[S [9], .int .i64 (d : Int)] w' (Gives w' (S (tabs d))) := fun w' => rep_any d (by omega) w'
  have hX0 : ∀ w', Below wA.heap.size wA w' → Calls Tryd.prog 47 #[.agg #[.int .i64 ds, .int .i64 ln, .int .i64 co, S n, S tn, .bool ta, .slice eA ek ec, .slice tA tk tc, .slice lA lk lc], .int .i64 0] w' (Gives w' (S (kidT (es.map Ex.text) 0))) := fun w' hb' => sexpr_any _ _ _ _ _ _ _ _ _ _ _ _ _ _ _ es 0 w' (hE.on (hbA.trans (hb'.mono hbA.size))) (by omega)
  have bX0 := hE.kid 0
  generalize tabs d = LTB at hRP hTB ⊢
  have HTB := hide hRP
  clear hRP
  generalize kidT (es.map Ex.text) 0 = LX0 at hX0 bX0 ⊢
  have HX0 := hide hX0
  clear hX0
  clear hE hT hLs
  go_enter Tryd.func27, Tryd.ntmps27
  go_upto_region 1 with fail
  rw [← hwA]
  clear hwA hbA hbk
  go_upto_region 2 with (go_at_call 45; refine (HTB.out _).mono ?_; rintro e w1 ⟨rfl, hb1⟩)
  have HB1 : Hid (Below w.heap.size w w1) := hide (HBA.out.trans (hb1.mono HBA.out.size))
  have HK1 := hide (HBK.out.below hb1 HBK.out.lt)
  have HB01 := hide hb1
  clear hb1
  have q0 := HK1.out.cell 0
  have q1 := HK1.out.cell 1
  have q2 := HK1.out.cell 2
  have q3 := HK1.out.cell 3
  have q4 := HK1.out.cell 4
  have q5 := HK1.out.cell 5
  have q6 := HK1.out.cell 6
  have q7 := HK1.out.cell 7
  have q8 := HK1.out.cell 8
  simp at q0 q1 q2 q3 q4 q5 q6 q7 q8
  have HX2 := hide (HX0.out w1 HB01.out)
  clear HX0 HBK HBA
  go_wp2_with fail
  refine HX2.out.mono ?_
  rintro e w2 ⟨rfl, hb2⟩
  clear q0 q1 q2 q3 q4 q5 q6 q7 q8
  go_wp2_with fail
  go_ret
  exact ⟨by simp [go_sem], HB1.out.trans (hb2.mono HB1.out.size)⟩
/-- Whatever statement: its text, so far to the right. -/
theorem stext_any (s : St) : ∀ (z : Int) (d : Nat) (w : World), max 0 z = (d : Int) → Laid w → s.At w (fun b => w.heap.size ≤ b) → s.Fits d → Calls Tryd.prog 27 #[s.val, .int .i64 z] w (Gives w (S (s.text d))) := by
  induction s using St.ind with
  | h s iht ihl =>
    intro z d w hz hL hat hf
    obtain ⟨ds, ln, co, n, tn, ta, eA, ek, ec, es, tA, tk, tc, ts, lA, lk, lc, ls⟩ := s
    cases hf with
    | mk hd he hn htn hb hlb hft hfl =>
    cases hat with
    | mk hr hl hkc hk hea tr tl tkc tk' hta lr ll lkc lk' hla hi hs =>
    have hE : HadE w eA ek es 13 := ⟨hr, hl, Nat.le_trans hkc hk, fun x hx w' hw => text_any x w' (hL.on hw) ((hea x hx).on hw) (he x hx), fun x hx => by have := Ex.text_len (hea x hx); have := he x hx; omega⟩
    have hT : HadS w tA tk ts d := ⟨tr, tl, Nat.le_trans tkc tk', fun x hx w' hw => iht x hx _ (d + 1) w' (by omega) (hL.on hw) ((hta x hx).on hw) (hft x hx), hb⟩
    have hLs : HadS w lA lk ls d := ⟨lr, ll, Nat.le_trans lkc lk', fun x hx w' hw => ihl x hx _ (d + 1) w' (by omega) (hL.on hw) ((hla x hx).on hw) (hfl x hx), hlb⟩
    rw [St.text_mk]
    show Calls Tryd.prog _ #[.agg #[.int .i64 ds, .int .i64 ln, .int .i64 co, S n, S tn, .bool ta, .slice eA ek ec, .slice tA tk tc, .slice lA lk lc], .int .i64 z] w _
    by_cases h1 : ds = 1
    · subst h1
      exact st_1 ln co n tn ta eA ek ec es tA tk tc ts lA lk lc ls z d hz hd w hE hT hLs hn htn
    by_cases h2 : ds = 2
    · subst h2
      exact st_2 ln co n tn ta eA ek ec es tA tk tc ts lA lk lc ls z d hz hd w hE hT hLs hn htn
    by_cases h4 : ds = 4
    · subst h4
      exact st_4 ln co n tn ta eA ek ec es tA tk tc ts lA lk lc ls z d hz hd w hE hT hLs hn htn
    by_cases h5 : ds = 5
    · subst h5
      exact st_5 ln co n tn ta eA ek ec es tA tk tc ts lA lk lc ls z d hz hd w hE hT hLs hn htn
    by_cases h6 : ds = 6
    · subst h6
      exact st_6 ln co n tn ta eA ek ec es tA tk tc ts lA lk lc ls z d hz hd w hE hT hLs hn htn
    by_cases h7 : ds = 7
    · subst h7
      exact st_7 ln co n tn ta eA ek ec es tA tk tc ts lA lk lc ls z d hz hd w hE hT hLs hn htn
    have e : ∀ a b c e f g h, stK ds a b c e f g h = a ++ e ++ [59, 10] := by intro a b c e f g h; simp [stK, h1, h2, h4, h5, h6, h7]
    rw [e]
    exact st_no ds ln co n tn ta eA ek ec es tA tk tc ts lA lk lc ls z d hz hd w hE hT hLs hn htn (by simpa using h1) (by simpa using h2) (by simpa using h4) (by simpa using h5) (by simpa using h6) (by simpa using h7)
end Go.Proofs.YtleccalfcnkklaaDoor
