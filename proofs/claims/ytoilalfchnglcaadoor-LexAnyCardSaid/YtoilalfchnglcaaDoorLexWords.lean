/- Words of the language: the plain law and the law's walk; no statement of the seat is proved here. -/
import Derived.Test.YtoilalfchnglcaaDoorLexHead
import Derived.Lib.ConvBytes
namespace Go.Proofs.YtoilalfchnglcaaDoor
open Go.RowKit

def okB (x : Except (Nat × Nat) (List (Tk × Nat))) (ts : List (Tk × Nat)) : Bool :=
  match x with
  | .error _ => false
  | .ok l => l == ts
theorem okB_iff {x : Except (Nat × Nat) (List (Tk × Nat))} {ts : List (Tk × Nat)} (h : okB x ts = true) : x = .ok ts := by
  unfold okB at h
  split at h
  · cases h
  · simpa using h
theorem words_law : ∀ i : Fin 21, okB (lexM (wordsL.getD i.val [])) [(⟨1, wordsL.getD i.val [], 0⟩, 0), (⟨0, [], 0⟩, (wordsL.getD i.val []).length)] = true := by decide +kernel
theorem words_more : ∀ i : Fin 21, ∀ k : Fin 8, okB (lexM (wordsL.getD i.val [] ++ [UInt8.ofNat (113 + k.val)])) [(⟨3, wordsL.getD i.val [] ++ [UInt8.ofNat (113 + k.val)], 0⟩, 0), (⟨0, [], 0⟩, (wordsL.getD i.val []).length + 1)] = true := by decide +kernel
theorem words_not : ∀ i : Fin 21, ∀ k : Fin 8, wordsL.contains (wordsL.getD i.val [] ++ [UInt8.ofNat (113 + k.val)]) = false := by decide +kernel
theorem words_x : ∀ i : Fin 21, okB (lexM ([88] ++ wordsL.getD i.val [])) [(⟨2, [88] ++ wordsL.getD i.val [], 0⟩, 0), (⟨0, [], 0⟩, (wordsL.getD i.val []).length + 1)] = true := by decide +kernel
theorem words_len : ∀ i : Fin 21, (wordsL.getD i.val []).length ≤ 10 := by decide +kernel

theorem u8_and_7 (m : Nat) (h : m < 256) : bits .and .u8 (m : Int) 7 = ((m % 8 : Nat) : Int) := by
  have e := u8_and_nat m 7 h (by omega)
  rw [show ((7 : Nat) : Int) = (7 : Int) from rfl] at e
  rw [e, show m &&& 7 = m % 8 from Nat.and_two_pow_sub_one_eq_mod m 3]

theorem u64_wrap (n : Int) : IntKind.u64.wrap n = n % 18446744073709551616 := by simp [IntKind.wrap, IntKind.bits, IntKind.signed]
theorem wrap21 (n : Int) : ∃ i : Nat, i < 21 ∧ wrap64 ((IntKind.u64.wrap n).tmod 21) = (i : Int) := by
  refine ⟨((n % 18446744073709551616) % 21).toNat, by omega, ?_⟩
  rw [u64_wrap, Int.tmod_eq_emod_of_nonneg (by omega)]
  unfold wrap64
  omega
/-- A slice of one byte as a text. -/
theorem conv_one (w : World) (b : UInt8) : (convert 39 9 (.slice (some ⟨w.heap.size, 0, none⟩) 1 1)).run Tryd.prog (w.alloc (.cells #[B8 b] 5)) = .ok (S [b]) (w.alloc (.cells #[B8 b] 5)) :=
  run_convert_bytes_back _ _ _ _ ⟨w.heap.size, 0, none⟩ 1 [b] Tryd.underlying39 Tryd.underlying5 Tryd.underlying9 fun j hj => by
    obtain rfl : j = 0 := by simpa using hj
    exact (Blk.new w 5 #[B8 b]).cell 0
/-- The first tokens' cells in what All laid. -/
theorem rd_tok {w : World} {F : Nat → Prop} {A : Option Addr} {s : List UInt8} {ts : List (Tk × Nat)} (h : Rd w F 5 A ts.length (ts.flatMap (tkL s))) (k : Nat) (hk : k < ts.length) :
    ∃ b o, A = some ⟨b, o, none⟩ ∧ ¬ F b ∧ b < w.heap.size ∧ w.cell? ⟨b, o + k * 5, none⟩ = some (.int .i64 (ts[k].1.kind : Int)) ∧ w.cell? ⟨b, o + k * 5 + 1, none⟩ = some (S ts[k].1.text) ∧ w.cell? ⟨b, o + k * 5 + 2, none⟩ = some (.int .i64 (ts[k].1.num : Int)) ∧
      w.cell? ⟨b, o + k * 5 + 3, none⟩ = some (.int .i64 ((pos s ts[k].2).1 : Int)) ∧ w.cell? ⟨b, o + k * 5 + 4, none⟩ = some (.int .i64 ((pos s ts[k].2).2 : Int)) := by
  obtain ⟨b, o, hA, hF, hb, hc⟩ := Rd.rec_ (f := tkL s) (size := 5) (fun _ => rfl) h rfl k hk
  exact ⟨b, o, hA, hF, hb, hc 0 _ rfl, hc 1 _ rfl, hc 2 _ rfl, hc 3 _ rfl, hc 4 _ rfl⟩

set_option maxRecDepth 100000 in
set_option maxHeartbeats 4000000 in
theorem lexwords_any (n : Int) (c : UInt8) (w : World) (hm : Laid w) : Calls Tryd.prog 6 #[.int .i64 n, B8 c] w (Gives w (.bool true)) := by
  have HH := hide (head_any w hm)
  have HM := hide hm
  clear hm
  have hand := u8_and_7 c.toNat c.toNat_lt
  have hc8 : c.toNat % 8 < 8 := Nat.mod_lt _ (by decide)
  obtain ⟨k, hk⟩ : ∃ k, k = c.toNat % 8 := ⟨_, rfl⟩
  rw [← hk] at hand hc8
  clear hk
  obtain ⟨i, hi, hwr⟩ := wrap21 n
  obtain ⟨x, hx⟩ : ∃ x, x = wordsL.getD i [] := ⟨_, rfl⟩
  obtain ⟨y, hy⟩ : ∃ y, y = UInt8.ofNat (113 + k) := ⟨_, rfl⟩
  have hyn : (113 : Int) + (k : Int) = (y.toNat : Int) := by
    have : ∀ k : Fin 8, (UInt8.ofNat (113 + k.val)).toNat = 113 + k.val := by decide
    have h2 := this ⟨k, hc8⟩
    simp only at h2
    rw [hy, h2]
    omega
  have HL1 : Hid (lexM x = .ok [(⟨1, x, 0⟩, 0), (⟨0, [], 0⟩, x.length)]) := hide (by rw [hx]; exact okB_iff (words_law ⟨i, hi⟩))
  have HL2 : Hid (lexM (x ++ [y]) = .ok [(⟨3, x ++ [y], 0⟩, 0), (⟨0, [], 0⟩, x.length + 1)]) := hide (by rw [hx, hy]; exact okB_iff (words_more ⟨i, hi⟩ ⟨k, hc8⟩))
  have HL3 : Hid (lexM ([88] ++ x) = .ok [(⟨2, [88] ++ x, 0⟩, 0), (⟨0, [], 0⟩, x.length + 1)]) := hide (by rw [hx]; exact okB_iff (words_x ⟨i, hi⟩))
  have HNW : Hid (wordsL.contains (x ++ [y]) = false) := hide (by rw [hx, hy]; exact words_not ⟨i, hi⟩ ⟨k, hc8⟩)
  have HXL : Hid (x.length ≤ 10) := hide (by rw [hx]; exact words_len ⟨i, hi⟩)
  have HXI : Hid (wordsL[i]? = some x) := hide (by rw [hx, List.getD_eq_getElem?_getD, List.getElem?_eq_getElem (by exact hi)]; rfl)
  clear hx hy
  go_enter Tryd.func6, Tryd.ntmps6
  go_upto_region 3 with (go_at_call 9; refine HH.out.mono ?_; rintro e w1 ⟨rfl, hb1⟩)
  have HM1 := hide (HM.out.below hb1 (Nat.le_refl _))
  have HB1 := hide hb1
  clear HH hb1
  go_upto_region 4 with fail
  refine name_world ?_
  intro w2 hw2
  have HB2 : Hid (Below w.heap.size w w2) := hide (by rw [hw2]; exact HB1.out.alloc HB1.out.size _)
  have hW : Blk w2 w1.heap.size 9 (wordsL.map S).toArray := by rw [hw2]; exact Blk.new _ _ _
  have HM2 := hide (HM.out.below HB2.out (Nat.le_refl _))
  have c0 : w2.cell? ⟨w1.heap.size, i, none⟩ = some (S x) := by rw [hW.cell i]; simp [HXI.out]
  clear hw2 hW
  generalize w1.heap.size = g1 at c0 ⊢
  have hcv := fun w => conv_one w y
  have hxl := HXL.out
  go_upto_region 6 with fail
  refine name_world ?_
  intro w3 hw3
  have HB3 : Hid (Below w.heap.size w w3) := hide (by rw [hw3]; exact HB2.out.alloc HB2.out.size _)
  have HM3 := HM.out.below HB3.out (Nat.le_refl _)
  clear hw3 c0 hcv hwr hyn hand hc8 hi HM1 HM2
  have HA := hide (all_ok (w := w3) (s := x) (by omega) HM3 HL1.out)
  clear HM3
  go_upto_region 7 with (go_at_call 10; refine HA.out.mono ?_; rintro e v1 ⟨hb1, A1, k1, rfl, hr1⟩)
  refine name_world ?_
  intro w4 hw4
  have HB4 : Hid (Below w.heap.size w w4) := hide (by rw [hw4]; exact (HB3.out.trans (hb1.mono HB3.out.size)).alloc (Nat.le_trans HB3.out.size hb1.size) _)
  have HD4 : Hid (Below w3.heap.size w3 w4) := hide (by rw [hw4]; exact hb1.alloc hb1.size _)
  have HM4 := HM.out.below HB4.out (Nat.le_refl _)
  have HR1 : Hid (Rd w4 (fun k => k < w3.heap.size) 5 A1 2 _) := hide (by rw [hw4]; exact hr1.alloc _)
  have HF1 : Hid (Blk w4 v1.heap.size 28 #[.int .i64 0, .int .i64 0, .int .i64 0]) := hide (by rw [hw4]; exact Blk.new _ _ _)
  clear hw4 hb1 hr1 HA
  generalize v1.heap.size = g1x at HF1 ⊢
  have HA2 := hide (all_ok (w := w4) (s := x ++ [y]) (by simp; omega) HM4 HL2.out)
  go_upto_region 8 with (go_at_call 10; refine HA2.out.mono ?_; rintro e v2 ⟨hb2, A2, k2, rfl, hr2⟩)
  refine name_world ?_
  intro w5 hw5
  have HB5 : Hid (Below w.heap.size w w5) := hide (by rw [hw5]; exact (HB4.out.trans (hb2.mono HB4.out.size)).alloc (Nat.le_trans HB4.out.size hb2.size) _)
  have HD5 : Hid (Below w4.heap.size w4 w5) := hide (by rw [hw5]; exact hb2.alloc hb2.size _)
  have HM5 := HM.out.below HB5.out (Nat.le_refl _)
  have HR2 : Hid (Rd w5 (fun k => k < w4.heap.size) 5 A2 2 _) := hide (by rw [hw5]; exact hr2.alloc _)
  have HF2 : Hid (Blk w5 v2.heap.size 28 #[.int .i64 0, .int .i64 0, .int .i64 0]) := hide (by rw [hw5]; exact Blk.new _ _ _)
  clear hw5 hb2 hr2 HA2
  generalize v2.heap.size = g2x at HF2 ⊢
  have HA3 := hide (all_ok (w := w5) (s := [88] ++ x) (by simp; omega) HM5 HL3.out)
  go_upto_region 9 with (go_at_call 10; refine HA3.out.mono ?_; rintro e v3 ⟨hb3, A3, k3, rfl, hr3⟩)
  refine name_world ?_
  intro w6 hw6
  have HB6 : Hid (Below w.heap.size w w6) := hide (by rw [hw6]; exact (HB5.out.trans (hb3.mono HB5.out.size)).alloc (Nat.le_trans HB5.out.size hb3.size) _)
  have HD6 : Hid (Below w5.heap.size w5 w6) := hide (by rw [hw6]; exact hb3.alloc hb3.size _)
  have HM6 := HM.out.below HB6.out (Nat.le_refl _)
  have HR3 : Hid (Rd w6 (fun k => k < w5.heap.size) 5 A3 2 _) := hide (by rw [hw6]; exact hr3.alloc _)
  have HF3 : Hid (Blk w6 v3.heap.size 28 #[.int .i64 0, .int .i64 0, .int .i64 0]) := hide (by rw [hw6]; exact Blk.new _ _ _)
  clear hw6 hb3 hr3 HA3
  generalize v3.heap.size = g3x at HF3 ⊢
  have HR1' := hide ((HR1.out.keep (Keep.of_below (F := fun k => k < w3.heap.size) HD5.out (fun k h1 h2 => absurd h1 (by omega)))).keep (Keep.of_below (F := fun k => k < w3.heap.size) HD6.out (fun k h1 h2 => absurd h1 (by omega))))
  have HR2' := hide (HR2.out.keep (Keep.of_below (F := fun k => k < w4.heap.size) HD6.out (fun k h1 h2 => absurd h1 (by omega))))
  have HF1' := hide ((HF1.out.below HD5.out HF1.out.lt).below HD6.out (Nat.lt_of_lt_of_le HF1.out.lt HD5.out.size))
  have HF2' := hide (HF2.out.below HD6.out HF2.out.lt)
  obtain ⟨b1, o1, rfl, _, l1, p10, p11, _⟩ := rd_tok HR1'.out 0 (Nat.succ_pos _)
  obtain ⟨b2, o2, rfl, _, l2, p20, p21, _⟩ := rd_tok HR2'.out 0 (Nat.succ_pos _)
  obtain ⟨b3, o3, rfl, _, l3, p30, _⟩ := rd_tok HR3.out 0 (Nat.succ_pos _)
  simp at p10 p11 p20 p21 p30
  have c10 : ∀ t : After w6, t.val.cell? ⟨b1, o1, none⟩ = some (.int .i64 1) := fun t => (t.prop.cell (p := ⟨b1, o1, none⟩) l1).trans p10
  have c11 : ∀ t : After w6, t.val.cell? ⟨b1, o1 + 1, none⟩ = some (S x) := fun t => (t.prop.cell (p := ⟨b1, o1 + 1, none⟩) l1).trans p11
  have c20 : ∀ t : After w6, t.val.cell? ⟨b2, o2, none⟩ = some (.int .i64 3) := fun t => (t.prop.cell (p := ⟨b2, o2, none⟩) l2).trans p20
  have c21 : ∀ t : After w6, t.val.cell? ⟨b2, o2 + 1, none⟩ = some (S (x ++ [y])) := fun t => (t.prop.cell (p := ⟨b2, o2 + 1, none⟩) l2).trans p21
  have c30 : ∀ t : After w6, t.val.cell? ⟨b3, o3, none⟩ = some (.int .i64 2) := fun t => (t.prop.cell (p := ⟨b3, o3, none⟩) l3).trans p30
  have z1 : ∀ t : After w6, t.val.cell? ⟨g1x, 0, none⟩ = some (.int .i64 0) := fun t => (t.prop.cell (p := ⟨g1x, 0, none⟩) HF1'.out.lt).trans (HF1'.out.cell 0)
  have z2 : ∀ t : After w6, t.val.cell? ⟨g2x, 0, none⟩ = some (.int .i64 0) := fun t => (t.prop.cell (p := ⟨g2x, 0, none⟩) HF2'.out.lt).trans (HF2'.out.cell 0)
  have z3 : ∀ t : After w6, t.val.cell? ⟨g3x, 0, none⟩ = some (.int .i64 0) := fun t => (t.prop.cell (p := ⟨g3x, 0, none⟩) HF3.out.lt).trans (HF3.out.cell 0)
  have HWD : ∀ w, Hid (Calls Tryd.prog 11 #[S (x ++ [y])] w (Gives w (.bool false))) := fun w => hide (by have := word_any (x ++ [y]) w; rw [HNW.out] at this; exact this)
  clear HR1 HR2 HR3 HF1 HF2 HF3 HR1' HR2' HF1' HF2' p10 p11 p20 p21 p30 HM4 HM5 HM6 hxl
  refine region_after (by kernel_rfl) (by kernel_rfl) ?_
  repeat (go_big_quiet_step ((go_at_call 11; refine call_after (HWD _).out)))
  refine wpQuiet_nil ?_
  rintro _ ⟨t, rfl⟩
  go_wp2_with fail
  go_ret
  exact ⟨rfl, HB6.out.trans (t.prop.mono HB6.out.size)⟩
end Go.Proofs.YtoilalfchnglcaaDoor
