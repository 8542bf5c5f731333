/- digest's plain laws: a word byte by byte, a digest byte by byte; no statement of the seat is proved here. -/
import Derived.Test.YtdnpcpeibjckmaaShaBR
import Derived.Laws.BitsAllLaws
import Derived.Laws.MakeOwn
namespace Go.Proofs.Ytdnpcpeibjckmaa
open Go.RowKit

/-- A word as far as it is read. -/
def accI (bs : List UInt8) (i : Nat) : Nat → Int
  | 0 => 0
  | j + 1 => (accI bs i j * 256 + ((bs.getD (4 * i + j) 0).toNat : Int)) % 4294967296
theorem w4_sum (b0 b1 b2 b3 : UInt8) : w4 b0 b1 b2 b3 = (((b0.toNat : Int) * 256 + b1.toNat) * 256 + b2.toNat) * 256 + b3.toNat := by
  have h0 := b0.toNat_lt
  have h1 := b1.toNat_lt
  have h2 := b2.toNat_lt
  have h3 := b3.toNat_lt
  unfold w4
  have e0 : (b0.toNat : Int) % 4294967296 * 16777216 % 4294967296 = ((b0.toNat * 16777216 : Nat) : Int) := by omega
  have e1 : (b1.toNat : Int) % 4294967296 * 65536 % 4294967296 = ((b1.toNat * 65536 : Nat) : Int) := by omega
  have e2 : (b2.toNat : Int) % 4294967296 * 256 % 4294967296 = ((b2.toNat * 256 : Nat) : Int) := by omega
  have e3 : (b3.toNat : Int) % 4294967296 = ((b3.toNat : Nat) : Int) := by omega
  rw [e0, e1, e2, e3, u32_or_nat _ _ (by omega) (by omega), nat_join 24 (b0.toNat * 16777216) (b1.toNat * 65536) (by omega) (by omega),
    u32_or_nat _ _ (by omega) (by omega), nat_join 16 _ (b2.toNat * 256) (by omega) (by omega), u32_or_nat _ _ (by omega) (by omega), nat_join 8 _ b3.toNat (by omega) (by omega)]
  omega
theorem accI_4 (bs : List UInt8) (i : Nat) : accI bs i 4 = word bs i := by
  rw [word, w4_sum]
  have h0 := (bs.getD (4 * i) 0).toNat_lt
  have h1 := (bs.getD (4 * i + 1) 0).toNat_lt
  have h2 := (bs.getD (4 * i + 2) 0).toNat_lt
  have h3 := (bs.getD (4 * i + 3) 0).toNat_lt
  simp only [accI, Nat.add_zero]
  omega
theorem schA_zero (f : Nat → Int) : ∀ (k i : Nat), k ≤ i → (schA f k)[i]? = (List.replicate 64 (0 : Int))[i]?
  | 0, _, _ => rfl
  | k + 1, i, h => by
    rw [schA, List.getElem?_set_ne (by omega)]
    exact schA_zero f k i (by omega)
theorem schA_set0 (f : Nat → Int) (k : Nat) : (schA f k).set k 0 = schA f k := by
  apply List.ext_getElem?
  intro i
  by_cases hi : i = k
  · subst hi
    rw [schA_zero f i i (Nat.le_refl _)]
    by_cases h : i < 64
    · rw [List.getElem?_set_self (by rw [schA_len]; exact h), List.getElem?_replicate, if_pos h]
    · rw [List.getElem?_eq_none (by simp [schA_len]; omega), List.getElem?_eq_none (by simp; omega)]
  · rw [List.getElem?_set_ne (by omega)]

/-- A digest byte by byte. -/
def dgI (h : List Int) : Nat → List UInt8
  | 0 => List.replicate 32 0
  | i + 1 => (dgI h i).set i (byteI (h.getD (i / 4) 0) (2 ^ (24 - 8 * (i % 4))))
theorem dgI_len (h : List Int) : ∀ i, (dgI h i).length = 32
  | 0 => by simp [dgI]
  | i + 1 => by simp [dgI, dgI_len h i]
theorem dgI_4 (h : List Int) : ∀ k, dgI h (4 * k) = digK h k
  | 0 => rfl
  | k + 1 => by
    rw [show 4 * (k + 1) = 4 * k + 1 + 1 + 1 + 1 by omega]
    simp only [dgI]
    rw [dgI_4 h k, digK, show (4 * k) / 4 = k by omega, show (4 * k + 1) / 4 = k by omega, show (4 * k + 1 + 1) / 4 = k by omega, show (4 * k + 1 + 1 + 1) / 4 = k by omega,
      show (4 * k) % 4 = 0 by omega, show (4 * k + 1) % 4 = 1 by omega, show (4 * k + 1 + 1) % 4 = 2 by omega, show (4 * k + 1 + 1 + 1) % 4 = 3 by omega]
theorem dgI_32 (h : List Int) : dgI h 32 = digK h 8 := dgI_4 h 8
theorem made_one (z : Value) (n : Nat) (hz : z.cells = #[z]) : madeCells z.cells n = Array.replicate n z := by
  apply Array.ext
  · simp [madeCells]
  · intro i h1 h2
    simp [madeCells, hz, Nat.mod_one]
theorem mk64 (w : World) : (Instr.makeSlice 48 (.int .i64 64) (.int .i64 64)).run Try.prog w = .ok (.slice (some ⟨w.heap.size, 0, none⟩) 64 64) (w.alloc (.cells (arr (List.replicate 64 0)) 38)) := by
  obtain ⟨i, hi, hz, hz1, hz2⟩ := info_parts u32_info
  have h := run_make (P := Try.prog) w 48 38 i (.int .u32 0) Try.underlying48 hi hz .i64 .i64 64 64 (by decide) (by decide) (by rw [hz2]; decide) (by decide)
  rw [hz1, made_one _ _ rfl] at h
  have e : Array.replicate (Int.toNat 64 * 1) (Value.int .u32 0) = arr (List.replicate 64 0) := by
    rw [arr, List.map_replicate]
    rfl
  rw [e] at h
  exact h
end Go.Proofs.Ytdnpcpeibjckmaa
