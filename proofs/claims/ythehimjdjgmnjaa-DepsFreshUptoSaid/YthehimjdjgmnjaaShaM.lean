/- What sha.block computes, in plain words; no statement of the seat is proved here. -/
import Derived.Test.YthehimjdjgmnjaaShaTabs
namespace Go.Proofs.Ythehimjdjgmnjaa
open Go.RowKit

abbrev M32 : Int := 4294967296
/-- A word of four bytes, the greatest first. -/
def w4 (b0 b1 b2 b3 : UInt8) : Int :=
  bits .or .u32 (bits .or .u32 (bits .or .u32 ((b0.toNat : Int) % 4294967296 * 16777216 % 4294967296) ((b1.toNat : Int) % 4294967296 * 65536 % 4294967296)) ((b2.toNat : Int) % 4294967296 * 256 % 4294967296)) ((b3.toNat : Int) % 4294967296)
def word (bs : List UInt8) (k : Nat) : Int := w4 (bs.getD (4 * k) 0) (bs.getD (4 * k + 1) 0) (bs.getD (4 * k + 2) 0) (bs.getD (4 * k + 3) 0)
def sg0 (x : Int) : Int := bits .xor .u32 (bits .xor .u32 (rot x 7) (rot x 18)) (x / 8)
def sg1 (x : Int) : Int := bits .xor .u32 (bits .xor .u32 (rot x 17) (rot x 19)) (x / 1024)
def sNext (a b c d : Int) : Int := (a + sg0 b + c + sg1 d) % 4294967296
/-- The words of the first sixteen, as far as they are laid. -/
def schA (f : Nat → Int) : Nat → List Int
  | 0 => List.replicate 64 0
  | k + 1 => (schA f k).set k (f k)
def schB (l : List Int) : Nat → List Int
  | 0 => l
  | k + 1 => (schB l k).set (16 + k) (sNext ((schB l k).getD k 0) ((schB l k).getD (k + 1) 0) ((schB l k).getD (k + 9) 0) ((schB l k).getD (k + 14) 0))
def bs0 (x : Int) : Int := bits .xor .u32 (bits .xor .u32 (rot x 2) (rot x 13)) (rot x 22)
def bs1 (x : Int) : Int := bits .xor .u32 (bits .xor .u32 (rot x 6) (rot x 11)) (rot x 25)
def inv32 (x : Int) : Int := bits .xor .u32 IntKind.u32.max x
def chM (x y z : Int) : Int := bits .xor .u32 (bits .and .u32 x y) (bits .and .u32 (inv32 x) z)
def majM (x y z : Int) : Int := bits .xor .u32 (bits .xor .u32 (bits .and .u32 x y) (bits .and .u32 x z)) (bits .and .u32 y z)
def tM (x4 x5 x6 x7 kk ww : Int) : Int := x7 + bs1 x4 + chM x4 x5 x6 + kk + ww
def vM (x0 x1 x2 : Int) : Int := bs0 x0 + majM x0 x1 x2
def rnd : List Int → Int → Int → List Int
  | [x0, x1, x2, x3, x4, x5, x6, x7], kk, ww => [(tM x4 x5 x6 x7 kk ww + vM x0 x1 x2) % 4294967296, x0, x1, x2, (x3 + tM x4 x5 x6 x7 kk ww) % 4294967296, x4, x5, x6]
  | l, _, _ => l
def rounds (x kt wt : List Int) : Nat → List Int
  | 0 => x
  | k + 1 => rnd (rounds x kt wt k) (kt.getD k 0) (wt.getD k 0)
def addK (hh xx : List Int) : Nat → List Int
  | 0 => hh
  | k + 1 => (addK hh xx k).set k (((addK hh xx k).getD k 0 + xx.getD k 0) % 4294967296)
def schM (bs : List UInt8) : List Int := schB (schA (word bs) 16) 48
def blockM (hh kk : List Int) (bs : List UInt8) : List Int := addK hh (rounds hh kk (schM bs) 64) 8

theorem schA_len (f : Nat → Int) : ∀ k, (schA f k).length = 64
  | 0 => by simp [schA]
  | k + 1 => by simp [schA, schA_len f k]
theorem schB_len (l : List Int) : ∀ k, (schB l k).length = l.length
  | 0 => rfl
  | k + 1 => by simp [schB, schB_len l k]
theorem addK_len (hh xx : List Int) : ∀ k, (addK hh xx k).length = hh.length
  | 0 => rfl
  | k + 1 => by simp [addK, addK_len hh xx k]
theorem eight {l : List Int} (h : l.length = 8) : ∃ x0 x1 x2 x3 x4 x5 x6 x7, l = [x0, x1, x2, x3, x4, x5, x6, x7] := by
  match l, h with
  | [a, b, c, d, e, f, g, i], _ => exact ⟨a, b, c, d, e, f, g, i, rfl⟩
theorem rnd_len {l : List Int} (h : l.length = 8) (kk ww : Int) : (rnd l kk ww).length = 8 := by
  obtain ⟨x0, x1, x2, x3, x4, x5, x6, x7, rfl⟩ := eight h
  rfl
theorem rounds_len {x kt wt : List Int} (h : x.length = 8) : ∀ k, (rounds x kt wt k).length = 8
  | 0 => h
  | k + 1 => rnd_len (rounds_len h k) _ _
theorem blockM_len {hh kk : List Int} {bs : List UInt8} (h : hh.length = 8) : (blockM hh kk bs).length = 8 := by
  rw [blockM, addK_len, h]
/-- A cell of a table. -/
theorem Blk.arr_at {w : World} {g : Nat} {t : TypeId} {l : List Int} (h : Blk w g t (arr l)) {i : Nat} (hi : i < l.length) : w.cell? ⟨g, i, none⟩ = some (U (l.getD i 0)) := by
  rw [h.cell, Ythehimjdjgmnjaa.arr_at]
  simp [hi]
theorem Blk.arr_set {w : World} {g : Nat} {t : TypeId} {l : List Int} (h : Blk w g t (arr l)) (i : Nat) (x : Int) : Blk (w.setCell ⟨g, i, none⟩ (.int .u32 x)) g t (arr (l.set i x)) := by
  rw [← Ythehimjdjgmnjaa.arr_set]
  exact h.set_ i _
/-- All eight cells of a small table are written. -/
theorem Blk.set8 {w : World} {g : Nat} {t : TypeId} {l : List Int} (hl : l.length = 8) (h : Blk w g t (arr l)) (y0 y1 y2 y3 y4 y5 y6 y7 : Int) :
    Blk ((((((((w.setCell ⟨g, 0, none⟩ (.int .u32 y0)).setCell ⟨g, 1, none⟩ (.int .u32 y1)).setCell ⟨g, 2, none⟩ (.int .u32 y2)).setCell ⟨g, 3, none⟩ (.int .u32 y3)).setCell ⟨g, 4, none⟩ (.int .u32 y4)).setCell ⟨g, 5, none⟩ (.int .u32 y5)).setCell ⟨g, 6, none⟩ (.int .u32 y6)).setCell ⟨g, 7, none⟩ (.int .u32 y7)) g t (arr [y0, y1, y2, y3, y4, y5, y6, y7]) := by
  obtain ⟨x0, x1, x2, x3, x4, x5, x6, x7, rfl⟩ := eight hl
  exact (((((((h.arr_set 0 y0).arr_set 1 y1).arr_set 2 y2).arr_set 3 y3).arr_set 4 y4).arr_set 5 y5).arr_set 6 y6).arr_set 7 y7
end Go.Proofs.Ythehimjdjgmnjaa
