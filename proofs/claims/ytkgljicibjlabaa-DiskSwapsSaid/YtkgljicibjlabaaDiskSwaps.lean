/- DiskSwaps, walked: it returns true for every input. -/
import Derived.Test.YtkgljicibjlabaaDiskNames
import Derived.Test.YtkgljicibjlabaaDiskHead
import Derived.Test.YtkgljicibjlabaaDiskAnd
namespace Go.Proofs.Ytkgljicibjlabaa
open Go.RowKit Go.Maps

def G0 (x y : List UInt8) : Fl := (F0.set [97] x).set [98] y
def G1 (x y : List UInt8) : Fl := ((G0 x y).del [97]).set [116] x
def G2 (x y : List UInt8) : Fl := ((G1 x y).del [98]).set [97] y
def G3 (x y : List UInt8) : Fl := ((G2 x y).del [116]).set [98] x
theorem g0_chg (x y : List UInt8) : ([⟨0, [97], x⟩, ⟨0, [98], y⟩] : List Ch).foldl chDo F0 = G0 x y := rfl
theorem g1_chg (x y : List UInt8) : chDo (G0 x y) ⟨1, [97], [116]⟩ = G1 x y := by simp [chDo, G0, G1, Fl.set]
theorem g2_chg (x y : List UInt8) : chDo (G1 x y) ⟨1, [98], [97]⟩ = G2 x y := by simp [chDo, G0, G1, G2, Fl.set, Fl.del]
theorem g3_chg (x y : List UInt8) : chDo (G2 x y) ⟨1, [116], [98]⟩ = G3 x y := by simp [chDo, G0, G1, G2, G3, Fl.set, Fl.del]
def sw : List Ch := [⟨1, [97], [116]⟩, ⟨1, [98], [97]⟩, ⟨1, [116], [98]⟩]
theorem k0 (x y : List UInt8) : (kept [false, false, false] sw).foldl chDo (G0 x y) = G0 x y := rfl
theorem k1 (x y : List UInt8) : (kept [true, false, false] sw).foldl chDo (G0 x y) = G1 x y := by
  show chDo (G0 x y) ⟨1, [97], [116]⟩ = _
  rw [g1_chg]
theorem k2 (x y : List UInt8) : (kept [true, true, false] sw).foldl chDo (G0 x y) = G2 x y := by
  show chDo (chDo (G0 x y) ⟨1, [97], [116]⟩) ⟨1, [98], [97]⟩ = _
  rw [g1_chg, g2_chg]
theorem k3 (x y : List UInt8) : (kept [true, true, true] sw).foldl chDo (G0 x y) = G3 x y := by
  show chDo (chDo (chDo (G0 x y) ⟨1, [97], [116]⟩) ⟨1, [98], [97]⟩) ⟨1, [116], [98]⟩ = _
  rw [g1_chg, g2_chg, g3_chg]
theorem two_names {R : Fl} {l : List (List UInt8)} (h : IsNames R l) (p q : List UInt8) (hpq : p ≠ q) (hm : ∀ z, (R z).isSome = true ↔ z = p ∨ z = q) : l.length = 2 := by
  have := names_len (m := [p, q]) h (by simp [hpq]) (fun z => by rw [hm]; simp)
  simpa using this
theorem n0 (x y : List UInt8) {l : List (List UInt8)} (h : IsNames (G0 x y) l) : l.length = 2 := by
  refine two_names h [97] [98] (by decide) fun z => ?_
  simp only [G0, F0, Fl.set]
  repeat' split
  all_goals simp_all
theorem n1 (x y : List UInt8) {l : List (List UInt8)} (h : IsNames (G1 x y) l) : l.length = 2 := by
  refine two_names h [98] [116] (by decide) fun z => ?_
  simp only [G0, G1, F0, Fl.set, Fl.del]
  repeat' split
  all_goals simp_all
theorem n2 (x y : List UInt8) {l : List (List UInt8)} (h : IsNames (G2 x y) l) : l.length = 2 := by
  refine two_names h [97] [116] (by decide) fun z => ?_
  simp only [G0, G1, G2, F0, Fl.set, Fl.del]
  repeat' split
  all_goals simp_all
theorem n3 (x y : List UInt8) {l : List (List UInt8)} (h : IsNames (G3 x y) l) : l.length = 2 := by
  refine two_names h [97] [98] (by decide) fun z => ?_
  simp only [G0, G1, G2, G3, F0, Fl.set, Fl.del]
  repeat' split
  all_goals simp_all
theorem r0_97 (x y : List UInt8) : G0 x y [97] = some x := by kernel_rfl
theorem r0_98 (x y : List UInt8) : G0 x y [98] = some y := by kernel_rfl
theorem r1_98 (x y : List UInt8) : G1 x y [98] = some y := by kernel_rfl
theorem r1_116 (x y : List UInt8) : G1 x y [116] = some x := by kernel_rfl
theorem r2_97 (x y : List UInt8) : G2 x y [97] = some y := by kernel_rfl
theorem r2_116 (x y : List UInt8) : G2 x y [116] = some x := by kernel_rfl
theorem r3_97 (x y : List UInt8) : G3 x y [97] = some y := by kernel_rfl
theorem r3_98 (x y : List UInt8) : G3 x y [98] = some x := by kernel_rfl

set_option maxRecDepth 100000 in
set_option maxHeartbeats 8000000 in
theorem swaps_law (x y : List UInt8) (z : Int) (w : World) : Calls Try.prog 5 #[S x, S y, .int .i64 z] w (Gives w (.bool true)) := by
  go_enter Try.func5, Try.ntmps5
  go_wp2_with fail
  refine (head_any w).mono ?_
  rintro e w1 ⟨rfl, hb1⟩
  by_cases hx : 100 < x.length
  · have d0 : decide (100 < (x.length : Int)) = true := by simp; omega
    go_wp2_with fail
    go_ret
    exact ⟨rfl, hb1⟩
  have d0 : decide (100 < (x.length : Int)) = false := by simp; omega
  by_cases hy : 100 < y.length
  · have d1 : decide (100 < (y.length : Int)) = true := by simp; omega
    go_wp2_with fail
    go_ret
    exact ⟨rfl, hb1⟩
  have d1 : decide (100 < (y.length : Int)) = false := by simp; omega
  have hj := i64_and_low' 2 3 (by decide) (by decide) z
  obtain ⟨j, hj2⟩ : ∃ j : Nat, z % ((2 ^ 2 : Nat) : Int) = j := ⟨(z % 4).toNat, by omega⟩
  rw [hj2] at hj
  have hj4 : j < 4 := by omega
  have hj : bits .and .i64 z 3 = (j : Int) := hj
  clear hj2
  go_wp2_with fail
  refine (new_dk 1000 (by omega) w1).mono ?_
  rintro e w2 ⟨g, b, rfl, h2, hb2⟩
  have HB2 := hide (hb1.trans (hb2.mono hb1.size))
  have H2 : Hid (Dk w2 w.heap.size g b 0 0 0 none [] 1000 (-1) false F0) := hide ⟨h2.blk, h2.txt, by simpa using World.ownsRow_nil w2 w.heap.size 71 3, h2.ok, Nat.le_trans hb1.size h2.bB, Nat.le_trans hb1.size h2.gB⟩
  clear h2 hb2 hb1
  go_wp2_with fail
  refine (write_ok w.heap.size g b 0 0 0 none [] 1000 (-1) F0 F0 0 [97] x w2 H2.out (by omega) (by omega) (by omega) (by omega) rfl Tot.none (by omega) (by omega) (by simp) (by simp) (by omega) (by simp [F0]; omega)).mono ?_
  rintro e w3 ⟨rfl, ⟨q3, c3, h3⟩, hk3⟩
  have HB3 := hide (H2.out.frame HB2.out hk3)
  have H3 := hide h3
  clear h3 hk3 H2 HB2
  obtain ⟨t1, ht1, hs1⟩ := Tot.none.set [97] x
  have hs1 : t1 = x.length := by simpa using hs1
  go_wp2_with fail
  refine (write_ok w.heap.size g b 0 1 c3 _ _ 1000 (-1) F0 (F0.set [97] x) t1 [98] y w3 H3.out (by omega) (by omega) (by omega) (by omega) rfl ht1 (by omega) (by omega) (by simp) (by simp) (by omega) (by simp [F0, Fl.set]; omega)).mono ?_
  rintro e w4 ⟨rfl, ⟨q4, c4, h4⟩, hk4⟩
  have HB4 := hide (H3.out.frame HB3.out hk4)
  have H4 := hide h4
  clear h4 hk4 H3 HB3 hs1 ht1
  go_wp2_with fail
  refine (sync_dk w.heap.size g b 0 2 c4 _ _ 1000 (-1) F0 (G0 x y) w4 H4.out (by omega) (by omega) (by omega) (by omega) (g0_chg x y)).mono ?_
  rintro e w5 ⟨rfl, ⟨b5, h5, _⟩, hk5⟩
  have HB5 := hide (H4.out.frame1 HB4.out hk5)
  have H5 := hide h5
  clear h5 hk5 H4 HB4
  go_wp2_with fail
  refine (rename_ok w.heap.size g b5 2 0 0 none [] 1000 (-1) (G0 x y) (G0 x y) [97] [116] w5 H5.out (by omega) (by omega) (by omega) (by omega) rfl (by simp [short]) (by simp) (by simp) (by rw [r0_97]; rfl)).mono ?_
  rintro e w6 ⟨rfl, ⟨q6, c6, h6⟩, hk6⟩
  have HB6 := hide (H5.out.frame HB5.out hk6)
  have H6 := hide h6
  clear h6 hk6 H5 HB5
  go_wp2_with fail
  refine (rename_ok w.heap.size g b5 2 1 c6 _ _ 1000 (-1) (G0 x y) (G1 x y) [98] [97] w6 H6.out (by omega) (by omega) (by omega) (by omega) (g1_chg x y) (by simp [short]) (by simp) (by simp) (by rw [r1_98]; rfl)).mono ?_
  rintro e w7 ⟨rfl, ⟨q7, c7, h7⟩, hk7⟩
  have HB7 := hide (H6.out.frame HB6.out hk7)
  have H7 := hide h7
  clear h7 hk7 H6 HB6
  have hg2 : List.foldl chDo (G0 x y) ([] ++ [⟨1, [97], [116]⟩] ++ [⟨1, [98], [97]⟩]) = G2 x y := by
    show chDo (chDo (G0 x y) ⟨1, [97], [116]⟩) ⟨1, [98], [97]⟩ = _
    rw [g1_chg, g2_chg]
  go_wp2_with fail
  refine (rename_ok w.heap.size g b5 2 2 c7 _ _ 1000 (-1) (G0 x y) (G2 x y) [116] [98] w7 H7.out (by omega) (by omega) (by omega) (by omega) hg2 (by simp [short]) (by simp) (by simp) (by rw [r2_116]; rfl)).mono ?_
  rintro e w8 ⟨rfl, ⟨q8, c8, h8⟩, hk8⟩
  have HB8 := hide (H7.out.frame HB7.out hk8)
  have H8 : Hid (Dk w8 w.heap.size g b5 2 3 c8 (some ⟨q8, 0, none⟩) sw 1000 (-1) false (G0 x y)) := hide h8
  clear h8 hk8 H7 HB7 hg2 hj
  obtain rfl | rfl | rfl | rfl : j = 0 ∨ j = 1 ∨ j = 2 ∨ j = 3 := by omega
  · go_wp2_with fail
    obtain ⟨w9, hw9⟩ : ∃ w9, w9 = w8.alloc (.cells #[.bool false, .bool false, .bool false] 4) := ⟨_, rfl⟩
    have k9 : Blk w9 w8.heap.size 4 #[.bool false, .bool false, .bool false] := by rw [hw9]; exact Blk.new _ _ _
    have hb9 : Below w8.heap.size w8 w9 := by rw [hw9]; exact (Below.refl _ _).alloc (Nat.le_refl _) _
    have h9 := H8.out.below hb9
    have hB9 := HB8.out.trans (hb9.mono HB8.out.size)
    rw [← hw9]
    clear hw9
    have r9 : Rd w9 (fun k => w9.heap.size ≤ k) 1 (some ⟨w8.heap.size, 0, none⟩) 3 ([false, false, false].map .bool) := Rd.of_blk k9 (by have := k9.lt; omega) rfl
    have HB9 := hide hB9
    have H9 := hide h9
    clear h9 hb9 hB9 H8 HB8
    refine (crash_dk w.heap.size g b5 2 3 c8 3 3 _ _ _ [false, false, false] 1000 (-1) false (G0 x y) (G0 x y) w9 H9.out (by omega) (by omega) (by omega) (k0 x y) r9 rfl).mono ?_
    rintro e w10 ⟨g10, b10, rfl, h10, hb10⟩
    have hB10 := HB9.out.trans (hb10.mono HB9.out.size)
    clear r9 k9 hb10 H9 HB9
    have h11 := h10.below ((Below.refl w10.heap.size w10).alloc (Nat.le_refl _) (.cells #[.string { data := #[97, 32, 98] }, .string { data := #[98, 32, 116] }, .string { data := #[97, 32, 116] }, .string { data := #[97, 32, 98] }] 9))
    have H11 := hide h11
    have HB11 := hide (hB10.alloc hB10.size (.cells #[.string { data := #[97, 32, 98] }, .string { data := #[98, 32, 116] }, .string { data := #[97, 32, 116] }, .string { data := #[97, 32, 98] }] 9))
    clear h10 h11 hB10
    go_wp2_with fail
    refine (read_dk w9.heap.size g10 b10 5 0 0 none [] 1000 (-1) _ (G0 x y) [97] (by simp [short]) _ H11.out (by omega) (by omega) rfl).mono ?_
    rintro e w12 ⟨rfl, hb12⟩
    rw [r0_97]
    have H12 := hide (H11.out.below hb12)
    have HB12 := hide (HB11.out.trans (hb12.mono HB11.out.size))
    clear hb12 H11 HB11
    go_wp2_with fail
    refine (read_dk w9.heap.size g10 b10 5 0 0 none [] 1000 (-1) _ (G0 x y) [98] (by simp [short]) _ H12.out (by omega) (by omega) rfl).mono ?_
    rintro e w13 ⟨rfl, hb13⟩
    rw [r0_98]
    have H13 := hide (H12.out.below hb13)
    have HB13 := hide (HB12.out.trans (hb13.mono HB12.out.size))
    clear hb13 H12 HB12
    go_wp2_with fail
    have hbb : ∀ o1 o2 o3 o4 o5, Below w13.heap.size w13 (((((w13.alloc o1).alloc o2).alloc o3).alloc o4).alloc o5) := fun o1 o2 o3 o4 o5 => (((((Below.refl w13.heap.size w13).alloc (Nat.le_refl _) o1).alloc (by simp) o2).alloc (by simp; omega) o3).alloc (by simp; omega) o4).alloc (by simp; omega) o5
    have hkk : ∀ o2 o3 o4 o5, Blk (((((w13.alloc (.cells #[S x, S y] 9)).alloc o2).alloc o3).alloc o4).alloc o5) (w13.heap.size) 9 #[S x, S y] := fun o2 o3 o4 o5 => (((((Blk.new w13 9 #[S x, S y]).alloc o2).alloc o3).alloc o4).alloc o5)
    have HN := hide (fun (l : List (List UInt8)) (h : IsNames (G0 x y) l) => n0 x y h)
    refine (names_dk w9.heap.size g10 b10 5 0 0 none [] 1000 (-1) _ (G0 x y) _ (H13.out.below (hbb _ _ _ _ _)) (by omega) (by omega) rfl).mono ?_
    rintro e w15 ⟨A', c', l, rfl, hl, _, hb15⟩
    have hl2 : ((l.length : Int) == 2) = true := by rw [HN.out l hl]; rfl
    have k15 := (hkk _ _ _ _).below hb15 (hkk _ _ _ _).lt
    have s0 : w15.cell? ⟨w13.heap.size, 0, none⟩ = some (S x) := k15.cell 0
    have s1 : w15.cell? ⟨w13.heap.size, 1, none⟩ = some (S y) := k15.cell 1
    have s0' : w15.cell? ⟨w13.heap.size, 0, none⟩ = some (S x) := k15.cell 0
    have s1' : w15.cell? ⟨w13.heap.size, 1, none⟩ = some (S y) := k15.cell 1
    have HB15 := hide ((HB13.out.trans ((hbb _ _ _ _ _).mono HB13.out.size)).trans (hb15.mono (by have := HB13.out.size; simp; omega)))
    clear hbb hkk hb15 k15 hl HN H13 HB13
    go_wp2_with fail
    go_ret
    exact ⟨rfl, HB15.out⟩
  · go_wp2_with fail
    obtain ⟨w9, hw9⟩ : ∃ w9, w9 = w8.alloc (.cells #[.bool true, .bool false, .bool false] 4) := ⟨_, rfl⟩
    have k9 : Blk w9 w8.heap.size 4 #[.bool true, .bool false, .bool false] := by rw [hw9]; exact Blk.new _ _ _
    have hb9 : Below w8.heap.size w8 w9 := by rw [hw9]; exact (Below.refl _ _).alloc (Nat.le_refl _) _
    have h9 := H8.out.below hb9
    have hB9 := HB8.out.trans (hb9.mono HB8.out.size)
    rw [← hw9]
    clear hw9
    have r9 : Rd w9 (fun k => w9.heap.size ≤ k) 1 (some ⟨w8.heap.size, 0, none⟩) 3 ([true, false, false].map .bool) := Rd.of_blk k9 (by have := k9.lt; omega) rfl
    have HB9 := hide hB9
    have H9 := hide h9
    clear h9 hb9 hB9 H8 HB8
    refine (crash_dk w.heap.size g b5 2 3 c8 3 3 _ _ _ [true, false, false] 1000 (-1) false (G0 x y) (G1 x y) w9 H9.out (by omega) (by omega) (by omega) (k1 x y) r9 rfl).mono ?_
    rintro e w10 ⟨g10, b10, rfl, h10, hb10⟩
    have hB10 := HB9.out.trans (hb10.mono HB9.out.size)
    clear r9 k9 hb10 H9 HB9
    have h11 := h10.below ((Below.refl w10.heap.size w10).alloc (Nat.le_refl _) (.cells #[.string { data := #[97, 32, 98] }, .string { data := #[98, 32, 116] }, .string { data := #[97, 32, 116] }, .string { data := #[97, 32, 98] }] 9))
    have H11 := hide h11
    have HB11 := hide (hB10.alloc hB10.size (.cells #[.string { data := #[97, 32, 98] }, .string { data := #[98, 32, 116] }, .string { data := #[97, 32, 116] }, .string { data := #[97, 32, 98] }] 9))
    clear h10 h11 hB10
    go_wp2_with fail
    refine (read_dk w9.heap.size g10 b10 5 0 0 none [] 1000 (-1) _ (G1 x y) [98] (by simp [short]) _ H11.out (by omega) (by omega) rfl).mono ?_
    rintro e w12 ⟨rfl, hb12⟩
    rw [r1_98]
    have H12 := hide (H11.out.below hb12)
    have HB12 := hide (HB11.out.trans (hb12.mono HB11.out.size))
    clear hb12 H11 HB11
    go_wp2_with fail
    refine (read_dk w9.heap.size g10 b10 5 0 0 none [] 1000 (-1) _ (G1 x y) [116] (by simp [short]) _ H12.out (by omega) (by omega) rfl).mono ?_
    rintro e w13 ⟨rfl, hb13⟩
    rw [r1_116]
    have H13 := hide (H12.out.below hb13)
    have HB13 := hide (HB12.out.trans (hb13.mono HB12.out.size))
    clear hb13 H12 HB12
    go_wp2_with fail
    have hbb : ∀ o1 o2 o3 o4 o5, Below w13.heap.size w13 (((((w13.alloc o1).alloc o2).alloc o3).alloc o4).alloc o5) := fun o1 o2 o3 o4 o5 => (((((Below.refl w13.heap.size w13).alloc (Nat.le_refl _) o1).alloc (by simp) o2).alloc (by simp; omega) o3).alloc (by simp; omega) o4).alloc (by simp; omega) o5
    have hkk : ∀ o1 o3 o4 o5, Blk (((((w13.alloc o1).alloc (.cells #[S y, S x] 9)).alloc o3).alloc o4).alloc o5) (w13.heap.size + 1) 9 #[S y, S x] := fun o1 o3 o4 o5 => by have := ((((Blk.new (w13.alloc o1) 9 #[S y, S x]).alloc o3).alloc o4).alloc o5); simpa using this
    have HN := hide (fun (l : List (List UInt8)) (h : IsNames (G1 x y) l) => n1 x y h)
    refine (names_dk w9.heap.size g10 b10 5 0 0 none [] 1000 (-1) _ (G1 x y) _ (H13.out.below (hbb _ _ _ _ _)) (by omega) (by omega) rfl).mono ?_
    rintro e w15 ⟨A', c', l, rfl, hl, _, hb15⟩
    have hl2 : ((l.length : Int) == 2) = true := by rw [HN.out l hl]; rfl
    have k15 := (hkk _ _ _ _).below hb15 (hkk _ _ _ _).lt
    have s0 : w15.cell? ⟨w13.heap.size + 1, 0, none⟩ = some (S y) := k15.cell 0
    have s1 : w15.cell? ⟨w13.heap.size + 1, 1, none⟩ = some (S x) := k15.cell 1
    have s0' : w15.cell? ⟨w13.heap.size + 1, 0, none⟩ = some (S y) := k15.cell 0
    have s1' : w15.cell? ⟨w13.heap.size + 1, 1, none⟩ = some (S x) := k15.cell 1
    have HB15 := hide ((HB13.out.trans ((hbb _ _ _ _ _).mono HB13.out.size)).trans (hb15.mono (by have := HB13.out.size; simp; omega)))
    clear hbb hkk hb15 k15 hl HN H13 HB13
    go_wp2_with fail
    go_ret
    exact ⟨rfl, HB15.out⟩
  · go_wp2_with fail
    obtain ⟨w9, hw9⟩ : ∃ w9, w9 = w8.alloc (.cells #[.bool true, .bool true, .bool false] 4) := ⟨_, rfl⟩
    have k9 : Blk w9 w8.heap.size 4 #[.bool true, .bool true, .bool false] := by rw [hw9]; exact Blk.new _ _ _
    have hb9 : Below w8.heap.size w8 w9 := by rw [hw9]; exact (Below.refl _ _).alloc (Nat.le_refl _) _
    have h9 := H8.out.below hb9
    have hB9 := HB8.out.trans (hb9.mono HB8.out.size)
    rw [← hw9]
    clear hw9
    have r9 : Rd w9 (fun k => w9.heap.size ≤ k) 1 (some ⟨w8.heap.size, 0, none⟩) 3 ([true, true, false].map .bool) := Rd.of_blk k9 (by have := k9.lt; omega) rfl
    have HB9 := hide hB9
    have H9 := hide h9
    clear h9 hb9 hB9 H8 HB8
    refine (crash_dk w.heap.size g b5 2 3 c8 3 3 _ _ _ [true, true, false] 1000 (-1) false (G0 x y) (G2 x y) w9 H9.out (by omega) (by omega) (by omega) (k2 x y) r9 rfl).mono ?_
    rintro e w10 ⟨g10, b10, rfl, h10, hb10⟩
    have hB10 := HB9.out.trans (hb10.mono HB9.out.size)
    clear r9 k9 hb10 H9 HB9
    have h11 := h10.below ((Below.refl w10.heap.size w10).alloc (Nat.le_refl _) (.cells #[.string { data := #[97, 32, 98] }, .string { data := #[98, 32, 116] }, .string { data := #[97, 32, 116] }, .string { data := #[97, 32, 98] }] 9))
    have H11 := hide h11
    have HB11 := hide (hB10.alloc hB10.size (.cells #[.string { data := #[97, 32, 98] }, .string { data := #[98, 32, 116] }, .string { data := #[97, 32, 116] }, .string { data := #[97, 32, 98] }] 9))
    clear h10 h11 hB10
    go_wp2_with fail
    refine (read_dk w9.heap.size g10 b10 5 0 0 none [] 1000 (-1) _ (G2 x y) [97] (by simp [short]) _ H11.out (by omega) (by omega) rfl).mono ?_
    rintro e w12 ⟨rfl, hb12⟩
    rw [r2_97]
    have H12 := hide (H11.out.below hb12)
    have HB12 := hide (HB11.out.trans (hb12.mono HB11.out.size))
    clear hb12 H11 HB11
    go_wp2_with fail
    refine (read_dk w9.heap.size g10 b10 5 0 0 none [] 1000 (-1) _ (G2 x y) [116] (by simp [short]) _ H12.out (by omega) (by omega) rfl).mono ?_
    rintro e w13 ⟨rfl, hb13⟩
    rw [r2_116]
    have H13 := hide (H12.out.below hb13)
    have HB13 := hide (HB12.out.trans (hb13.mono HB12.out.size))
    clear hb13 H12 HB12
    go_wp2_with fail
    have hbb : ∀ o1 o2 o3 o4 o5, Below w13.heap.size w13 (((((w13.alloc o1).alloc o2).alloc o3).alloc o4).alloc o5) := fun o1 o2 o3 o4 o5 => (((((Below.refl w13.heap.size w13).alloc (Nat.le_refl _) o1).alloc (by simp) o2).alloc (by simp; omega) o3).alloc (by simp; omega) o4).alloc (by simp; omega) o5
    have hkk : ∀ o1 o2 o4 o5, Blk (((((w13.alloc o1).alloc o2).alloc (.cells #[S y, S x] 9)).alloc o4).alloc o5) (w13.heap.size + 1 + 1) 9 #[S y, S x] := fun o1 o2 o4 o5 => by have := (((Blk.new ((w13.alloc o1).alloc o2) 9 #[S y, S x]).alloc o4).alloc o5); simpa using this
    have HN := hide (fun (l : List (List UInt8)) (h : IsNames (G2 x y) l) => n2 x y h)
    refine (names_dk w9.heap.size g10 b10 5 0 0 none [] 1000 (-1) _ (G2 x y) _ (H13.out.below (hbb _ _ _ _ _)) (by omega) (by omega) rfl).mono ?_
    rintro e w15 ⟨A', c', l, rfl, hl, _, hb15⟩
    have hl2 : ((l.length : Int) == 2) = true := by rw [HN.out l hl]; rfl
    have k15 := (hkk _ _ _ _).below hb15 (hkk _ _ _ _).lt
    have s0 : w15.cell? ⟨w13.heap.size + 1 + 1, 0, none⟩ = some (S y) := k15.cell 0
    have s1 : w15.cell? ⟨w13.heap.size + 1 + 1, 1, none⟩ = some (S x) := k15.cell 1
    have s0' : w15.cell? ⟨w13.heap.size + 2, 0, none⟩ = some (S y) := k15.cell 0
    have s1' : w15.cell? ⟨w13.heap.size + 2, 1, none⟩ = some (S x) := k15.cell 1
    have HB15 := hide ((HB13.out.trans ((hbb _ _ _ _ _).mono HB13.out.size)).trans (hb15.mono (by have := HB13.out.size; simp; omega)))
    clear hbb hkk hb15 k15 hl HN H13 HB13
    go_wp2_with fail
    go_ret
    exact ⟨rfl, HB15.out⟩
  · go_wp2_with fail
    obtain ⟨w9, hw9⟩ : ∃ w9, w9 = w8.alloc (.cells #[.bool true, .bool true, .bool true] 4) := ⟨_, rfl⟩
    have k9 : Blk w9 w8.heap.size 4 #[.bool true, .bool true, .bool true] := by rw [hw9]; exact Blk.new _ _ _
    have hb9 : Below w8.heap.size w8 w9 := by rw [hw9]; exact (Below.refl _ _).alloc (Nat.le_refl _) _
    have h9 := H8.out.below hb9
    have hB9 := HB8.out.trans (hb9.mono HB8.out.size)
    rw [← hw9]
    clear hw9
    have r9 : Rd w9 (fun k => w9.heap.size ≤ k) 1 (some ⟨w8.heap.size, 0, none⟩) 3 ([true, true, true].map .bool) := Rd.of_blk k9 (by have := k9.lt; omega) rfl
    have HB9 := hide hB9
    have H9 := hide h9
    clear h9 hb9 hB9 H8 HB8
    refine (crash_dk w.heap.size g b5 2 3 c8 3 3 _ _ _ [true, true, true] 1000 (-1) false (G0 x y) (G3 x y) w9 H9.out (by omega) (by omega) (by omega) (k3 x y) r9 rfl).mono ?_
    rintro e w10 ⟨g10, b10, rfl, h10, hb10⟩
    have hB10 := HB9.out.trans (hb10.mono HB9.out.size)
    clear r9 k9 hb10 H9 HB9
    have h11 := h10.below ((Below.refl w10.heap.size w10).alloc (Nat.le_refl _) (.cells #[.string { data := #[97, 32, 98] }, .string { data := #[98, 32, 116] }, .string { data := #[97, 32, 116] }, .string { data := #[97, 32, 98] }] 9))
    have H11 := hide h11
    have HB11 := hide (hB10.alloc hB10.size (.cells #[.string { data := #[97, 32, 98] }, .string { data := #[98, 32, 116] }, .string { data := #[97, 32, 116] }, .string { data := #[97, 32, 98] }] 9))
    clear h10 h11 hB10
    go_wp2_with fail
    refine (read_dk w9.heap.size g10 b10 5 0 0 none [] 1000 (-1) _ (G3 x y) [97] (by simp [short]) _ H11.out (by omega) (by omega) rfl).mono ?_
    rintro e w12 ⟨rfl, hb12⟩
    rw [r3_97]
    have H12 := hide (H11.out.below hb12)
    have HB12 := hide (HB11.out.trans (hb12.mono HB11.out.size))
    clear hb12 H11 HB11
    go_wp2_with fail
    refine (read_dk w9.heap.size g10 b10 5 0 0 none [] 1000 (-1) _ (G3 x y) [98] (by simp [short]) _ H12.out (by omega) (by omega) rfl).mono ?_
    rintro e w13 ⟨rfl, hb13⟩
    rw [r3_98]
    have H13 := hide (H12.out.below hb13)
    have HB13 := hide (HB12.out.trans (hb13.mono HB12.out.size))
    clear hb13 H12 HB12
    go_wp2_with fail
    have hbb : ∀ o1 o2 o3 o4 o5, Below w13.heap.size w13 (((((w13.alloc o1).alloc o2).alloc o3).alloc o4).alloc o5) := fun o1 o2 o3 o4 o5 => (((((Below.refl w13.heap.size w13).alloc (Nat.le_refl _) o1).alloc (by simp) o2).alloc (by simp; omega) o3).alloc (by simp; omega) o4).alloc (by simp; omega) o5
    have hkk : ∀ o1 o2 o3 o5, Blk (((((w13.alloc o1).alloc o2).alloc o3).alloc (.cells #[S y, S x] 9)).alloc o5) (w13.heap.size + 1 + 1 + 1) 9 #[S y, S x] := fun o1 o2 o3 o5 => by have := ((Blk.new (((w13.alloc o1).alloc o2).alloc o3) 9 #[S y, S x]).alloc o5); simpa using this
    have HN := hide (fun (l : List (List UInt8)) (h : IsNames (G3 x y) l) => n3 x y h)
    refine (names_dk w9.heap.size g10 b10 5 0 0 none [] 1000 (-1) _ (G3 x y) _ (H13.out.below (hbb _ _ _ _ _)) (by omega) (by omega) rfl).mono ?_
    rintro e w15 ⟨A', c', l, rfl, hl, _, hb15⟩
    have hl2 : ((l.length : Int) == 2) = true := by rw [HN.out l hl]; rfl
    have k15 := (hkk _ _ _ _).below hb15 (hkk _ _ _ _).lt
    have s0 : w15.cell? ⟨w13.heap.size + 1 + 1 + 1, 0, none⟩ = some (S y) := k15.cell 0
    have s1 : w15.cell? ⟨w13.heap.size + 1 + 1 + 1, 1, none⟩ = some (S x) := k15.cell 1
    have s0' : w15.cell? ⟨w13.heap.size + 3, 0, none⟩ = some (S y) := k15.cell 0
    have s1' : w15.cell? ⟨w13.heap.size + 3, 1, none⟩ = some (S x) := k15.cell 1
    have HB15 := hide ((HB13.out.trans ((hbb _ _ _ _ _).mono HB13.out.size)).trans (hb15.mono (by have := HB13.out.size; simp; omega)))
    clear hbb hkk hb15 k15 hl HN H13 HB13
    go_wp2_with fail
    go_ret
    exact ⟨rfl, HB15.out⟩
end Go.Proofs.Ytkgljicibjlabaa
