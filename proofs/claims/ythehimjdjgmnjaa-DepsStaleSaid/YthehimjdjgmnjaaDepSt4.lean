/- What a turn's numbers say; no statement of the seat is proved here. -/
import Derived.Test.YthehimjdjgmnjaaDepSt3
namespace Go.Proofs.Ythehimjdjgmnjaa
open Go.RowKit Go.Maps Go.Sort
set_option linter.unusedVariables false

theorem i64_low' (p : Nat) (m : Nat) (hp : p < 63) (hm : m = 2 ^ p - 1) (n : Int) : ∃ N : Nat, N ≤ m ∧ bits .and .i64 n (m : Int) = (N : Int) := by
  have hlt : m < 2 ^ 63 := by
    have : 2 ^ p ≤ 2 ^ 63 := Nat.pow_le_pow_right (by decide) (by omega)
    omega
  refine ⟨(BitVec.ofInt 64 n &&& BitVec.ofInt 64 (m : Int)).toNat, ?_, ?_⟩
  · rw [BitVec.toNat_and, BitVec.ofInt_natCast, BitVec.toNat_ofNat]
    exact Nat.le_trans Nat.and_le_right (Nat.mod_le _ _)
  · show IntKind.i64.wrap ((BitVec.ofInt 64 n &&& BitVec.ofInt 64 (m : Int)).toNat : Int) = _
    have h : (BitVec.ofInt 64 n &&& BitVec.ofInt 64 (m : Int)).toNat ≤ m := by
      rw [BitVec.toNat_and, BitVec.ofInt_natCast, BitVec.toNat_ofNat]
      exact Nat.le_trans Nat.and_le_right (Nat.mod_le _ _)
    rw [IntWalk.i64_in _ (by omega)]
theorem and3 (n : Int) : ∃ j : Nat, j < 4 ∧ bits .and .i64 n 3 = (j : Int) := by
  obtain ⟨j, h1, h2⟩ := i64_low' 2 3 (by omega) rfl n
  exact ⟨j, by omega, h2⟩
theorem Trn.nm_mem (x : Trn) : x.nm ∈ nmA := by
  obtain ⟨j, hj, e⟩ := and3 x.N
  unfold Trn.nm
  rw [e, IntWalk.i64_in _ (by omega)]
  exact nmG_mem (by simpa using hj)
end Go.Proofs.Ythehimjdjgmnjaa
