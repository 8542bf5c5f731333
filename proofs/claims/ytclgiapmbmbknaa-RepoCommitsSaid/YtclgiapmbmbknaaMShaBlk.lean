/- sha.block, walked; no statement of the seat is proved here. -/
import Derived.Test.YtclgiapmbmbknaaMShaOps
namespace Go.Proofs.Ytclgiapmbmbknaa
open Go.RowKit

/-- What holds in all of block's loops: the bytes, the tables, what was there. -/
structure BI (w wr : World) (gh gk : Nat) (hh kk : List Int) (A : Option Addr) (n : Nat) (bs : List UInt8) : Prop where
  rd : Rd wr (fun k => k = gh ∨ w.heap.size ≤ k) 1 A n (bs.map B8)
  bh : Blk wr gh 104 (arr hh)
  bk : Blk wr gk 105 (arr kk)
  kp : Keep (fun k => k = gh) w wr
  kl : kk.length = 64
  hl : hh.length = 8
  gh : gh < w.heap.size
  gk : gk < w.heap.size
  bl : bs.length = n
  h64 : 64 ≤ n
  hn : n ≤ 140737488355328
section
variable {w wr : World} {gh gk : Nat} {hh kk : List Int} {A : Option Addr} {n : Nat} {bs : List UInt8}
/-- A change of what is new. -/
theorem BI.step {w2 : World} (h : BI w wr gh gk hh kk A n bs) (hb : Keep (fun k => w.heap.size ≤ k) wr w2) : BI w w2 gh gk hh kk A n bs := by
  refine ⟨?_, ?_, ?_, ?_, h.kl, h.hl, h.gh, h.gk, h.bl, h.h64, h.hn⟩
  · exact (h.rd.weak (G := fun k => k = gh ∨ w.heap.size ≤ k) fun _ _ x => x).keep (Keep.mono hb fun k _ x => Or.inr x)
  · exact h.bh.keep hb (by have := h.gh; omega)
  · exact h.bk.keep hb (by have := h.gk; omega)
  · exact h.kp.trans' hb fun i hi x => by omega
theorem BI.setAt (h : BI w wr gh gk hh kk A n bs) {p : Addr} (hp : w.heap.size ≤ p.block) (u : Value) : BI w (wr.setCell p u) gh gk hh kk A n bs :=
  h.step ((Keep.refl _ _).setCell (fun _ => hp) u)
theorem BI.drew (h : BI w wr gh gk hh kk A n bs) : BI w wr.drew gh gk hh kk A n bs := h.step (Keep.refl _ _).drew
theorem BI.drewN (h : BI w wr gh gk hh kk A n bs) (m : Nat) : BI w (wr.drewN m) gh gk hh kk A n bs := h.step ((Keep.refl _ _).drewN m)
theorem schA_next {f : Nat → Int} {g t k : Nat} (h : Blk wr g t (arr (schA f k))) {x : Int} (hx : f k = x) : Blk (wr.setCell ⟨g, k, none⟩ (.int .u32 x)).drew g t (arr (schA f (k + 1))) := by
  subst hx
  exact (h.arr_set k (f k)).drew
theorem BI.set8 {g : Nat} (h : BI w wr gh gk hh kk A n bs) (hg : w.heap.size ≤ g) (y0 y1 y2 y3 y4 y5 y6 y7 : Value) :
    BI w ((((((((wr.setCell ⟨g, 0, none⟩ y0).setCell ⟨g, 1, none⟩ y1).setCell ⟨g, 2, none⟩ y2).setCell ⟨g, 3, none⟩ y3).setCell ⟨g, 4, none⟩ y4).setCell ⟨g, 5, none⟩ y5).setCell ⟨g, 6, none⟩ y6).setCell ⟨g, 7, none⟩ y7) gh gk hh kk A n bs :=
  (((((((h.setAt hg _).setAt hg _).setAt hg _).setAt hg _).setAt hg _).setAt hg _).setAt hg _).setAt hg _
theorem Blk.far8 {g g' t : Nat} {cs : Array Value} (h : Blk wr g' t cs) (hg : g' ≠ g) (y0 y1 y2 y3 y4 y5 y6 y7 : Value) :
    Blk ((((((((wr.setCell ⟨g, 0, none⟩ y0).setCell ⟨g, 1, none⟩ y1).setCell ⟨g, 2, none⟩ y2).setCell ⟨g, 3, none⟩ y3).setCell ⟨g, 4, none⟩ y4).setCell ⟨g, 5, none⟩ y5).setCell ⟨g, 6, none⟩ y6).setCell ⟨g, 7, none⟩ y7) g' t cs :=
  (((((((h.far hg _).far hg _).far hg _).far hg _).far hg _).far hg _).far hg _).far hg _
/-- A table that is known to be these eight words. -/
theorem Blk.is8 {g t : Nat} {l : List Int} {y0 y1 y2 y3 y4 y5 y6 y7 : Int} (h : Blk wr g t (arr [y0, y1, y2, y3, y4, y5, y6, y7])) (hl : l = [y0, y1, y2, y3, y4, y5, y6, y7]) : Blk wr g t (arr l) := by
  rw [hl]
  exact h
/-- The k-th byte. -/
theorem BI.byte (h : BI w wr gh gk hh kk A n bs) {b o : Nat} (hA : A = some ⟨b, o, none⟩) {j : Nat} (hj : j < n) : wr.cell? ⟨b, o + j, none⟩ = some (B8 (bs.getD j 0)) := by
  obtain ⟨b', o', u, h1, h2, h3⟩ := h.rd.at_ j hj
  rw [hA] at h1
  injection h1 with h1
  injection h1 with h1 h4
  subst h1 h4
  rw [h3]
  have : j < bs.length := by rw [h.bl]; exact hj
  simp [this] at h2
  simp [this, h2]
theorem quiet_add_same {P : Program} {f : FuncId} {args : Array Value} {w : World} {a n : Nat} {v : Value}
    (h : Calls P f args (w.drewN (a + n)) fun e w' => e = .returned v ∧ w' = w.drewN (a + n)) :
    Calls P f args (w.drewN (a + n)) fun e w'' => e = .returned v ∧ ∃ m, w'' = w.drewN (a + m) :=
  h.mono fun _ _ ⟨he, hm⟩ => ⟨he, n, hm⟩
theorem schB_next {l : List Int} {g t k j : Nat} (h : Blk wr g t (arr (schB l k))) {x : Int} (hx : schB l (k + 1) = (schB l k).set j x) : Blk (wr.setCell ⟨g, j, none⟩ (.int .u32 x)) g t (arr (schB l (k + 1))) := by
  rw [hx]
  exact h.arr_set j x
end

set_option maxRecDepth 100000 in
set_option maxHeartbeats 8000000 in
theorem block_any (w : World) (gh gk : Nat) (hh kk : List Int) (A : Option Addr) (n c : Nat) (bs : List UInt8) (hB : BI w w gh gk hh kk A n bs) :
    Calls Try.prog 50 #[.pointer (some ⟨gh, 0, none⟩), .pointer (some ⟨gk, 0, none⟩), .slice A n c] w fun e w' => e = .returned (.tuple #[]) ∧ Keep (fun k => k = gh) w w' ∧ Blk w' gh 104 (arr (blockM hh kk bs)) := by
  obtain ⟨b, o, u, rfl, _, _⟩ := hB.rd.at_ 0 (by have := hB.h64; omega)
  have HB := hide hB
  clear hB
  go_enter Try.func50, Try.ntmps50
  go_wp2_with fail
  go_loopw [18] (fun i wr => ∃ k : Nat, k ≤ 16 ∧ i = .int .i64 k ∧ BI w wr gh gk hh kk (some ⟨b, o, none⟩) n bs ∧ Blk wr w.heap.size 105 (arr (schA (word bs) k))) (fun i _ => 16 - (intOf i).toNat)
  case atStart => exact ⟨0, by omega, rfl, HB.out.step ((Keep.refl _ _).alloc _), Blk.new _ _ _⟩
  case round =>
    clear HB
    obtain ⟨k, hk, rfl, hI, hS⟩ := hrel
    have HI := hide hI
    have HS := hide hS
    clear hI hS
    by_cases hlt : k < 16
    · have hn := HI.out.h64
      have hn2 := HI.out.hn
      have hb0 := HI.out.byte rfl (j := 4 * k) (by omega)
      have hb1 := HI.out.byte rfl (j := 4 * k + 1) (by omega)
      have hb2 := HI.out.byte rfl (j := 4 * k + 2) (by omega)
      have hb3 := HI.out.byte rfl (j := 4 * k + 3) (by omega)
      have HW : Hid (word bs k = w4 (bs.getD (4 * k) 0) (bs.getD (4 * k + 1) 0) (bs.getD (4 * k + 2) 0) (bs.getD (4 * k + 3) 0)) := hide rfl
      generalize bs.getD (4 * k) 0 = b0 at hb0 HW
      generalize bs.getD (4 * k + 1) 0 = b1 at hb1 HW
      generalize bs.getD (4 * k + 2) 0 = b2 at hb2 HW
      generalize bs.getD (4 * k + 3) 0 = b3 at hb3 HW
      have hz := HS.out.arr_at (i := k) (by rw [schA_len]; omega)
      generalize (schA (word bs) k).getD k 0 = z at hz
      have fz : wr.frozen? ⟨w.heap.size, k, none⟩ = false := HS.out.frozen k
      have e0 : IntKind.i64.wrap (4 * (k : Int)) = ((4 * k : Nat) : Int) := by rw [IntWalk.i64_in _ (by omega)]; omega
      have e1 : IntKind.i64.wrap (((4 * k : Nat) : Int) + 1) = ((4 * k + 1 : Nat) : Int) := by rw [IntWalk.i64_in _ (by omega)]; omega
      have e2 : IntKind.i64.wrap (((4 * k : Nat) : Int) + 2) = ((4 * k + 2 : Nat) : Int) := by rw [IntWalk.i64_in _ (by omega)]; omega
      have e3 : IntKind.i64.wrap (((4 * k : Nat) : Int) + 3) = ((4 * k + 3 : Nat) : Int) := by rw [IntWalk.i64_in _ (by omega)]; omega
      have r0 : (0 : Int) ≤ ((4 * k : Nat) : Int) := by omega
      have r1 : (0 : Int) ≤ ((4 * k + 1 : Nat) : Int) := by omega
      have r2 : (0 : Int) ≤ ((4 * k + 2 : Nat) : Int) := by omega
      have r3 : (0 : Int) ≤ ((4 * k + 3 : Nat) : Int) := by omega
      have q0 : 4 * k < n := by omega
      have q1 : 4 * k + 1 < n := by omega
      have q2 : 4 * k + 2 < n := by omega
      have q3 : 4 * k + 3 < n := by omega
      go_wp2_with fail
      go_region
      clear hb0 hb1 hb2 hb3 hz fz e0 e1 e2 e3 r0 r1 r2 r3 q0 q1 q2 q3
      go_wp2_with fail
      go_roundw
      case rel => exact ⟨k + 1, by omega, by go_num, (HI.out.setAt (Nat.le_refl _) _).drew, schA_next HS.out HW.out⟩
      case measure => simp [intOf]; omega
    · obtain rfl : k = 16 := by omega
      clear hlt hk
      go_wp2_with fail
      obtain ⟨LA, hLA⟩ : ∃ LA, LA = schA (word bs) 16 := ⟨_, rfl⟩
      rw [← hLA] at HS
      have hLL : LA.length = 64 := by rw [hLA, schA_len]
      have HLA := hide hLA
      have HLL := hide hLL
      clear hLA hLL
      go_loopw [8] (fun i wr => ∃ k j : Nat, k ≤ 48 ∧ j = 16 + k ∧ i = .int .i64 (j : Int) ∧ BI w wr gh gk hh kk (some ⟨b, o, none⟩) n bs ∧ Blk wr w.heap.size 105 (arr (schB LA k))) (fun i _ => 64 - (intOf i).toNat)
      case atStart => exact ⟨0, 16, by omega, rfl, rfl, HI.out, HS.out⟩
      case round =>
        clear HI HS
        obtain ⟨k, j, hk, hj, rfl, hI, hS⟩ := hrel
        have HI := hide hI
        have HS := hide hS
        have HJ := hide hj
        clear hI hS hj
        by_cases hlt : k < 48
        · have hn2 := HI.out.hn
          have hL := schB_len LA k
          rw [HLL.out] at hL
          obtain ⟨a0, ha0⟩ : ∃ a0, a0 = k := ⟨_, rfl⟩
          obtain ⟨a1, ha1⟩ : ∃ a0, a0 = k + 1 := ⟨_, rfl⟩
          obtain ⟨a9, ha9⟩ : ∃ a0, a0 = k + 9 := ⟨_, rfl⟩
          obtain ⟨ae, hae⟩ : ∃ a0, a0 = k + 14 := ⟨_, rfl⟩
          have hj := HJ.out
          have g0 := HS.out.arr_at (i := a0) (by omega)
          have g1 := HS.out.arr_at (i := a1) (by omega)
          have g9 := HS.out.arr_at (i := a9) (by omega)
          have ge := HS.out.arr_at (i := ae) (by omega)
          have gz := HS.out.arr_at (i := j) (by omega)
          generalize ha : (schB LA k).getD a0 0 = a at g0
          generalize hb : (schB LA k).getD a1 0 = b1 at g1
          generalize hc : (schB LA k).getD a9 0 = c1 at g9
          generalize hd : (schB LA k).getD ae 0 = d1 at ge
          generalize (schB LA k).getD j 0 = z1 at gz
          have HX : Hid (schB LA (k + 1) = (schB LA k).set j (sNext a b1 c1 d1)) := by rw [schB, ← ha, ← hb, ← hc, ← hd, ha0, ha1, ha9, hae, hj]; exact rfl
          clear ha hb hc hd
          have fz : wr.frozen? ⟨w.heap.size, j, none⟩ = false := HS.out.frozen _
          have e0 : IntKind.i64.wrap ((j : Int) - 16) = (a0 : Int) := by rw [IntWalk.i64_in _ (by omega)]; omega
          have e1 : IntKind.i64.wrap ((j : Int) - 15) = (a1 : Int) := by rw [IntWalk.i64_in _ (by omega)]; omega
          have e2 : IntKind.i64.wrap ((j : Int) - 7) = (a9 : Int) := by rw [IntWalk.i64_in _ (by omega)]; omega
          have e3 : IntKind.i64.wrap ((j : Int) - 2) = (ae : Int) := by rw [IntWalk.i64_in _ (by omega)]; omega
          have r0 : (0 : Int) ≤ (a0 : Int) := by omega
          have r1 : (0 : Int) ≤ (a1 : Int) := by omega
          have r2 : (0 : Int) ≤ (a9 : Int) := by omega
          have r3 : (0 : Int) ≤ (ae : Int) := by omega
          have r4 : (0 : Int) ≤ (j : Int) := by omega
          have q0 : (a0 : Int) < 64 := by omega
          have q1 : (a1 : Int) < 64 := by omega
          have q2 : (a9 : Int) < 64 := by omega
          have q3 : (ae : Int) < 64 := by omega
          have q4 : (j : Int) < 64 := by omega
          clear hL ha0 ha1 ha9 hae hj
          go_wp2_with fail
          go_quiet ((go_at_call 61; exact Calls.quiet_of_same (turn_any _ _ (by decide) (by decide) _)))
          go_wp2_with fail
          go_quiet ((go_at_call 61; exact quiet_add_same (turn_any _ _ (by decide) (by decide) _)))
          go_wp2_with fail
          go_region
          go_wp2_with fail
          clear g0 g1 g9 ge gz fz e0 e1 e2 e3 r0 r1 r2 r3 r4 q0 q1 q2 q3 q4
          go_roundw
          case rel => exact ⟨k + 1, j + 1, by omega, by have := HJ.out; omega, by go_num, (HI.out.drewN _).setAt (Nat.le_refl _) _, schB_next (HS.out.drewN _) HX.out⟩
          case measure => have := HJ.out; simp [intOf]; omega
        · obtain rfl : k = 48 := by omega
          obtain rfl : j = 64 := HJ.out
          have HSL := hide (show (schB LA 48).length = 64 by rw [schB_len, HLL.out])
          have HSM : Hid (schB LA 48 = schM bs) := by rw [HLA.out]; exact rfl
          generalize schB LA 48 = WT at HS HSL HSM
          clear HLA HLL hk hlt HJ
          obtain ⟨h0, h1, h2, h3, h4, h5, h6, h7, hh8⟩ := eight HI.out.hl
          have HH8 := hide hh8
          have hbh := HI.out.bh
          rw [hh8] at hbh
          clear hh8
          have c0 := hbh.arr_at (i := 0) (by simp)
          have c1 := hbh.arr_at (i := 1) (by simp)
          have c2 := hbh.arr_at (i := 2) (by simp)
          have c3 := hbh.arr_at (i := 3) (by simp)
          have c4 := hbh.arr_at (i := 4) (by simp)
          have c5 := hbh.arr_at (i := 5) (by simp)
          have c6 := hbh.arr_at (i := 6) (by simp)
          have c7 := hbh.arr_at (i := 7) (by simp)
          simp only [List.getD_cons_zero, List.getD_cons_succ] at c0 c1 c2 c3 c4 c5 c6 c7
          clear hbh
          simp only [show ((16 : Nat) : Int) = 16 from rfl, show ((64 : Nat) : Int) = 64 from rfl]
          go_wp2_with fail
          clear c0 c1 c2 c3 c4 c5 c6 c7
          have HX0 : Hid (Blk (wr.alloc (.cells #[U h0, U h1, U h2, U h3, U h4, U h5, U h6, U h7] 104)) wr.heap.size 104 (arr (rounds hh kk WT 0))) := by
            rw [rounds, HH8.out]
            exact Blk.new _ _ _
          have hgx0 : w.heap.size < wr.heap.size := HS.out.lt
          have HS2 := hide (HS.out.alloc (.cells #[U h0, U h1, U h2, U h3, U h4, U h5, U h6, U h7] 104))
          have HI2 := hide (HI.out.step ((Keep.refl _ _).alloc (.cells #[U h0, U h1, U h2, U h3, U h4, U h5, U h6, U h7] 104)))
          clear HI HS HH8
          generalize wr.heap.size = gx at HX0 hgx0 ⊢
          generalize (wr.alloc (.cells #[U h0, U h1, U h2, U h3, U h4, U h5, U h6, U h7] 104)) = wx at HX0 HS2 HI2 ⊢
          go_loopw [113] (fun i wr => ∃ k : Nat, k ≤ 64 ∧ i = .int .i64 (k : Int) ∧ BI w wr gh gk hh kk (some ⟨b, o, none⟩) n bs ∧ Blk wr w.heap.size 105 (arr WT) ∧ Blk wr gx 104 (arr (rounds hh kk WT k))) (fun i _ => 64 - (intOf i).toNat)
          case atStart => exact ⟨0, by omega, rfl, HI2.out, HS2.out, HX0.out⟩
          case round =>
            clear HI2 HS2 HX0
            obtain ⟨k, hk, rfl, hI, hS, hX⟩ := hrel
            have HI := hide hI
            have HS := hide hS
            have HX := hide hX
            clear hI hS hX
            by_cases hlt : k < 64
            · obtain ⟨x0, x1, x2, x3, x4, x5, x6, x7, hx8⟩ := eight (rounds_len (kt := kk) (wt := WT) HI.out.hl k)
              have HX8 := hide hx8
              have hbx := HX.out
              rw [hx8] at hbx
              clear hx8
              have HBX := hide hbx
              have c0 := hbx.arr_at (i := 0) (by simp)
              have c1 := hbx.arr_at (i := 1) (by simp)
              have c2 := hbx.arr_at (i := 2) (by simp)
              have c3 := hbx.arr_at (i := 3) (by simp)
              have c4 := hbx.arr_at (i := 4) (by simp)
              have c5 := hbx.arr_at (i := 5) (by simp)
              have c6 := hbx.arr_at (i := 6) (by simp)
              have c7 := hbx.arr_at (i := 7) (by simp)
              simp only [List.getD_cons_zero, List.getD_cons_succ] at c0 c1 c2 c3 c4 c5 c6 c7
              have f0 := hbx.frozen 0
              have f1 := hbx.frozen 1
              have f2 := hbx.frozen 2
              have f3 := hbx.frozen 3
              have f4 := hbx.frozen 4
              have f5 := hbx.frozen 5
              have f6 := hbx.frozen 6
              have f7 := hbx.frozen 7
              clear hbx
              have ck := HI.out.bk.arr_at (i := k) (by rw [HI.out.kl]; exact hlt)
              have cw := HS.out.arr_at (i := k) (by rw [HSL.out]; exact hlt)
              have HR : Hid (rounds hh kk WT (k + 1) = rnd [x0, x1, x2, x3, x4, x5, x6, x7] (kk.getD k 0) (WT.getD k 0)) := by rw [rounds, HX8.out]; exact rfl
              generalize kk.getD k 0 = kv at ck HR
              generalize WT.getD k 0 = wv at cw HR
              have r4 : (0 : Int) ≤ (k : Int) := by omega
              have q4 : (k : Int) < 64 := by omega
              go_wp2_with fail
              go_quiet ((go_at_call 61; exact Calls.quiet_of_same (turn_any _ _ (by decide) (by decide) _)))
              go_wp2_with fail
              go_quiet (fail)
              go_wp2_with fail
              go_quiet ((go_at_call 61; exact quiet_add_same (turn_any _ _ (by decide) (by decide) _)))
              go_wp2_with fail
              clear c0 c1 c2 c3 c4 c5 c6 c7 f0 f1 f2 f3 f4 f5 f6 f7 ck cw
              go_roundw
              case rel => exact ⟨k + 1, by omega, by go_num, (HI.out.drewN _).set8 (by omega) _ _ _ _ _ _ _ _, (HS.out.drewN _).far8 (by omega) _ _ _ _ _ _ _ _, ((HBX.out.drewN _).set8 rfl _ _ _ _ _ _ _ _).is8 HR.out⟩
              case measure => simp [intOf]; omega
            · obtain rfl : k = 64 := by omega
              have HXL := hide (rounds_len (kt := kk) (wt := WT) HI.out.hl 64)
              have HBM : Hid (blockM hh kk bs = addK hh (rounds hh kk WT 64) 8) := by rw [HSM.out]; exact rfl
              generalize rounds hh kk WT 64 = XX at HX HXL HBM
              simp only [show ((64 : Nat) : Int) = 64 from rfl]
              clear hk hlt HSL HSM HS
              go_wp2_with fail
              go_loopw [205] (fun i wr => ∃ k : Nat, k ≤ 8 ∧ i = .int .i64 (k : Int) ∧ Keep (fun k => k = gh) w wr ∧ Blk wr gh 104 (arr (addK hh XX k)) ∧ Blk wr gx 104 (arr XX)) (fun i _ => 8 - (intOf i).toNat)
              case atStart => exact ⟨0, by omega, rfl, HI.out.kp, HI.out.bh, HX.out⟩
              case round =>
                have HG := HI.out.gh
                have HHL := hide HI.out.hl
                clear HI HX
                obtain ⟨k, hk, rfl, hI, hS, hX⟩ := hrel
                have HI := hide hI
                have HS := hide hS
                have HX := hide hX
                clear hI hS hX
                by_cases hlt : k < 8
                · have cx := HX.out.arr_at (i := k) (by rw [HXL.out]; exact hlt)
                  have ch := HS.out.arr_at (i := k) (by rw [addK_len, HHL.out]; exact hlt)
                  have fh := HS.out.frozen k
                  have HA : Hid (addK hh XX (k + 1) = (addK hh XX k).set k (((addK hh XX k).getD k 0 + XX.getD k 0) % 4294967296)) := hide rfl
                  generalize (addK hh XX k).getD k 0 = y at ch HA
                  generalize XX.getD k 0 = x at cx HA
                  have r4 : (0 : Int) ≤ (k : Int) := by omega
                  have q4 : (k : Int) < 8 := by omega
                  go_wp2_with fail
                  go_region
                  go_wp2_with fail
                  clear cx ch fh
                  go_roundw
                  case rel => exact ⟨k + 1, by omega, by go_num, (HI.out.setCell (fun _ => rfl) _).drew, (by rw [HA.out]; exact (HS.out.arr_set k _).drew), (HX.out.far (by simp; omega) _).drew⟩
                  case measure => simp [intOf]; omega
                · obtain rfl : k = 8 := by omega
                  go_wp2_with fail
                  refine bodyPost_end (v := .tuple #[]) ?_ rfl ⟨rfl, HI.out, by rw [HBM.out]; exact HS.out⟩
                  simp [results, go_sem]
end Go.Proofs.Ytclgiapmbmbknaa
