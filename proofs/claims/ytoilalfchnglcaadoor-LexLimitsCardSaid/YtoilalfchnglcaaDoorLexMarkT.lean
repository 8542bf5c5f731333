/- A mark of a piece: its text; no statement of the seat is proved here. -/
import Derived.Test.YtoilalfchnglcaaDoorLexWords
namespace Go.Proofs.YtoilalfchnglcaaDoor
open Go.RowKit

def markOf (i : Nat) : List UInt8 := marksL.getD i []
theorem marks_law : ∀ i : Fin 22, ∀ j : Fin 22, okB (lexM (markOf i.val ++ [32] ++ markOf j.val)) [(⟨5, markOf i.val, 0⟩, 0), (⟨5, markOf j.val, 0⟩, (markOf i.val).length + 1), (⟨0, [], 0⟩, (markOf i.val).length + 1 + (markOf j.val).length)] = true := by decide +kernel
theorem marks_pos : ∀ i : Fin 22, ∀ j : Fin 22, pos (markOf i.val ++ [32] ++ markOf j.val) ((markOf i.val).length + 1) = (1, (markOf i.val).length + 2) := by decide +kernel
theorem marks_len : ∀ i : Fin 22, (markOf i.val).length ≤ 2 := by decide +kernel
theorem i64_and65535 (n : Int) : bits .and .i64 n 65535 = n % 65536 := by
  have h127 : (BitVec.ofInt 64 65535).toNat = 2 ^ 16 - 1 := by decide
  have key : (BitVec.ofInt 64 n &&& BitVec.ofInt 64 65535).toNat = (n % ((2 ^ 64 : Nat) : Int)).toNat % 2 ^ 16 := by
    rw [BitVec.toNat_and, BitVec.toNat_ofInt, h127, Nat.and_two_pow_sub_one_eq_mod]
  show IntKind.i64.wrap ((BitVec.ofInt 64 n &&& BitVec.ofInt 64 65535).toNat : Nat) = n % 65536
  rw [key, IntKind.wrap_i64]
  omega
theorem wrap22 (n : Int) : ∃ i : Nat, i < 22 ∧ (n % 65536).tmod 22 = (i : Int) := by
  refine ⟨((n % 65536) % 22).toNat, by omega, ?_⟩
  rw [Int.tmod_eq_emod_of_nonneg (by omega)]
  omega

set_option maxRecDepth 100000 in
set_option maxHeartbeats 4000000 in
theorem text_mark (n : Int) : ∃ i : Nat, i < 22 ∧ ∀ w, Calls Tryd.prog 13 #[.agg #[.int .i64 2, .int .i64 n, .int .i64 0]] w (Gives w (.tuple #[S (markOf i), .int .i64 5])) := by
  obtain ⟨i, hi, hwr⟩ := wrap22 n
  refine ⟨i, hi, fun w => ?_⟩
  have hand := i64_and65535 n
  have hm0 : 0 ≤ n % 65536 ∧ n % 65536 < 65536 := by omega
  generalize n % 65536 = m at hwr hand hm0
  have h3 : bits .and .i64 2 3 = 2 := by decide
  have hcases : i = 0 ∨ i = 1 ∨ i = 2 ∨ i = 3 ∨ i = 4 ∨ i = 5 ∨ i = 6 ∨ i = 7 ∨ i = 8 ∨ i = 9 ∨ i = 10 ∨ i = 11 ∨ i = 12 ∨ i = 13 ∨ i = 14 ∨ i = 15 ∨ i = 16 ∨ i = 17 ∨ i = 18 ∨ i = 19 ∨ i = 20 ∨ i = 21 := by omega
  go_enter Tryd.func13, Tryd.ntmps13
  go_wp2_with fail
  go_ret2
  refine ⟨?_, ((Below.refl _ _).alloc (Nat.le_refl _) _).alloc (by simp) _⟩
  rcases hcases with rfl | rfl | rfl | rfl | rfl | rfl | rfl | rfl | rfl | rfl | rfl | rfl | rfl | rfl | rfl | rfl | rfl | rfl | rfl | rfl | rfl | rfl
  all_goals rfl

end Go.Proofs.YtoilalfchnglcaaDoor
