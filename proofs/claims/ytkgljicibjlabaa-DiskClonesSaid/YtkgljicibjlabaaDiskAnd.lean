/- A number's low bits; no statement of the seat is proved here. -/
import Derived.Test.YtkgljicibjlabaaDiskMore
import Derived.Laws.Bits128
namespace Go.Proofs.Ytkgljicibjlabaa
open Go.RowKit

theorem i64_and_low' (p : Nat) (m : Nat) (hp : p < 63) (hm : m = 2 ^ p - 1) (n : Int) : bits .and .i64 n (m : Int) = n % ((2 ^ p : Nat) : Int) := by
  have h1 : (2 ^ p : Nat) < 2 ^ 63 := Nat.pow_lt_pow_right (by decide) hp
  have h0 : 0 < 2 ^ p := Nat.two_pow_pos p
  have hq : (BitVec.ofInt 64 (m : Int)).toNat = 2 ^ p - 1 := by
    rw [BitVec.toNat_ofInt]
    omega
  have key : (BitVec.ofInt 64 n &&& BitVec.ofInt 64 (m : Int)).toNat = (n % ((2 ^ 64 : Nat) : Int)).toNat % 2 ^ p := by
    rw [BitVec.toNat_and, BitVec.toNat_ofInt, hq, Nat.and_two_pow_sub_one_eq_mod]
  show IntKind.i64.wrap ((BitVec.ofInt 64 n &&& BitVec.ofInt 64 (m : Int)).toNat : Nat) = n % ((2 ^ p : Nat) : Int)
  rw [key, IntKind.wrap_i64]
  have hd : ((2 ^ p : Nat) : Int) ∣ ((2 ^ 64 : Nat) : Int) := Int.natCast_dvd_natCast.2 (Nat.pow_dvd_pow 2 (by omega))
  have hlt : (n % ((2 ^ 64 : Nat) : Int)).toNat % 2 ^ p < 2 ^ p := Nat.mod_lt _ h0
  have hnn : 0 ≤ n % ((2 ^ 64 : Nat) : Int) := Int.emod_nonneg _ (by decide)
  have : (((n % ((2 ^ 64 : Nat) : Int)).toNat % 2 ^ p : Nat) : Int) = n % ((2 ^ p : Nat) : Int) := by
    rw [Int.natCast_emod, Int.toNat_of_nonneg hnn, Int.emod_emod_of_dvd _ hd]
  rw [this]
  have h2 := Int.emod_nonneg n (b := ((2 ^ p : Nat) : Int)) (by omega)
  have h3 := Int.emod_lt_of_pos n (b := ((2 ^ p : Nat) : Int)) (by omega)
  omega

end Go.Proofs.Ytkgljicibjlabaa
