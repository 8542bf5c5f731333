/- Unlike instructions have unlike texts: the plain law; no statement of the seat is proved here. -/
import Derived.Test.YtfahcpncofjnjaaDoorOpCodes
import Derived.Laws.Bits128
namespace Go.Proofs.YtfahcpncofjnjaaDoor
open Go.RowKit

theorem i64_and_low' (p : Nat) (m : Nat) (hp : p < 63) (hm : m = 2 ^ p - 1) (n : Int) : bits .and .i64 n (m : Int) = n % ((2 ^ p : Nat) : Int) := by
  have h1 : (2 ^ p : Nat) < 2 ^ 63 := Nat.pow_lt_pow_right (by decide) hp
  have h0 : 0 < 2 ^ p := Nat.two_pow_pos p
  have hq : (BitVec.ofInt 64 (m : Int)).toNat = 2 ^ p - 1 := by
    rw [BitVec.toNat_ofInt]
    omega
  have key : (BitVec.ofInt 64 n &&& BitVec.ofInt 64 (m : Int)).toNat = (n % ((2 ^ 64 : Nat) : Int)).toNat % 2 ^ p := by
    rw [BitVec.toNat_and, BitVec.toNat_ofInt, hq, Nat.and_two_pow_sub_one_eq_mod]
  show IntKind.i64.wrap ((BitVec.ofInt 64 n &&& BitVec.ofInt 64 (m : Int)).toNat : Nat) = n % ((2 ^ p : Nat) : Int)
  rw [key, IntKind.wrap_i64]
  have hd : ((2 ^ p : Nat) : Int) ∣ ((2 ^ 64 : Nat) : Int) := Int.natCast_dvd_natCast.2 (Nat.pow_dvd_pow 2 (by omega))
  have hlt : (n % ((2 ^ 64 : Nat) : Int)).toNat % 2 ^ p < 2 ^ p := Nat.mod_lt _ h0
  have hnn : 0 ≤ n % ((2 ^ 64 : Nat) : Int) := Int.emod_nonneg _ (by decide)
  have : (((n % ((2 ^ 64 : Nat) : Int)).toNat % 2 ^ p : Nat) : Int) = n % ((2 ^ p : Nat) : Int) := by
    rw [Int.natCast_emod, Int.toNat_of_nonneg hnn, Int.emod_emod_of_dvd _ hd]
  rw [this]
  have h2 := Int.emod_nonneg n (b := ((2 ^ p : Nat) : Int)) (by omega)
  have h3 := Int.emod_lt_of_pos n (b := ((2 ^ p : Nat) : Int)) (by omega)
  omega

def dv (l : List UInt8) : Nat := l.foldl (fun a d => a * 10 + (d.toNat - 48)) 0
theorem dv_dec (u : Nat) : dv (Lib.decDigits u) = u := by
  induction u using Nat.strongRecOn with
  | _ u ih =>
    unfold Lib.decDigits
    split
    · rename_i h
      show 0 * 10 + ((UInt8.ofNat (48 + u)).toNat - 48) = u
      rw [UInt8.toNat_ofNat']
      omega
    · rename_i h
      unfold dv
      rw [List.foldl_append]
      have := ih (u / 10) (by omega)
      unfold dv at this
      rw [this]
      show u / 10 * 10 + ((UInt8.ofNat (48 + u % 10)).toNat - 48) = u
      rw [UInt8.toNat_ofNat']
      omega
theorem itoa_once {a b : Nat} (h : Lib.itoa (a : Int) = Lib.itoa (b : Int)) : a = b := by
  unfold Lib.itoa at h
  rw [if_neg (by omega), if_neg (by omega), Int.toNat_natCast, Int.toNat_natCast] at h
  rw [← dv_dec a, h, dv_dec]

theorem shapes_plain : ∀ z ∈ shapes, ∀ x ∈ z.1, x ≠ 32 := by decide +kernel
theorem nm_plain (c : Int) : ∀ x ∈ nm c, x ≠ 32 := by
  unfold nm
  split
  · rename_i h
    obtain ⟨n, rfl, h1, h2⟩ := kn_cast h
    have hl : n < shapes.length := by show n < 33; omega
    have : (shapes.getD n ([], 0)) = shapes[n] := by simp [List.getD, hl]
    rw [Int.toNat_natCast, this]
    exact shapes_plain _ (List.getElem_mem hl)
  · simp
theorem split_once {s : UInt8} : ∀ {a a' b b' : List UInt8}, (∀ x ∈ a, x ≠ s) → (∀ x ∈ a', x ≠ s) → a ++ s :: b = a' ++ s :: b' → a = a' ∧ b = b'
  | [], [], _, _, _, _, h => by simpa using h
  | [], y :: a', _, _, _, h2, h => by
    simp only [List.nil_append, List.cons_append, List.cons.injEq] at h
    exact absurd h.1.symm (h2 y (by simp))
  | x :: a, [], _, _, h1, _, h => by
    simp only [List.nil_append, List.cons_append, List.cons.injEq] at h
    exact absurd h.1 (h1 x (by simp))
  | x :: a, y :: a', _, _, h1, h2, h => by
    simp only [List.cons_append, List.cons.injEq] at h
    have := split_once (fun z hz => h1 z (by simp [hz])) (fun z hz => h2 z (by simp [hz])) h.2
    exact ⟨by rw [h.1, this.1], this.2⟩

/-- An instruction as the page makes it. -/
def made (c a : Nat) : Nat := if pl (c + 1 : Nat) == 0 then 0 else a
theorem tx_once {c d a b : Nat} (hc : c < 32) (hd : d < 32) : (tx (c + 1 : Nat) (made c a) == tx (d + 1 : Nat) (made d b)) = (decide (c = d) && decide (made c a = made d b)) := by
  have key : tx (c + 1 : Nat) (made c a) = tx (d + 1 : Nat) (made d b) → c = d ∧ made c a = made d b := by
    intro h
    unfold tx at h
    cases h1 : (pl (c + 1 : Nat) == 0) <;> cases h2 : (pl (d + 1 : Nat) == 0) <;> rw [h1, h2] at h
    · simp only [Bool.false_eq_true, if_false, List.append_assoc, List.cons_append, List.nil_append] at h
      obtain ⟨e1, e2⟩ := split_once (nm_plain _) (nm_plain _) h
      have := nm_once (m := c + 1) (n := d + 1) (by omega) (by omega) (by omega) (by omega) e1
      exact ⟨by omega, itoa_once e2⟩
    · simp only [Bool.false_eq_true, if_false, if_true] at h
      exact absurd rfl (nm_plain (d + 1 : Nat) 32 (by rw [← h]; simp))
    · simp only [Bool.false_eq_true, if_false, if_true] at h
      exact absurd rfl (nm_plain (c + 1 : Nat) 32 (by rw [h]; simp))
    · simp only [if_true] at h
      have := nm_once (m := c + 1) (n := d + 1) (by omega) (by omega) (by omega) (by omega) h
      exact ⟨by omega, by unfold made; rw [h1, h2]; rfl⟩
  rw [Bool.eq_iff_iff, beq_iff_eq, Bool.and_eq_true, decide_eq_true_eq, decide_eq_true_eq]
  exact ⟨key, fun ⟨e1, e2⟩ => by rw [e2, e1]⟩
end Go.Proofs.YtfahcpncofjnjaaDoor
