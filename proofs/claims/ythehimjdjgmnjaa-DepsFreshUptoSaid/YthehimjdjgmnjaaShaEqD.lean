/- Digests compared; no statement of the seat is proved here. -/
import Derived.Test.YthehimjdjgmnjaaShaSumG
import Derived.ChangeKeysEq
namespace Go.Proofs.Ythehimjdjgmnjaa
open Go.RowKit

section
variable {P : Program}
theorem eqItems_bytes (w : World) (d : Nat) {e : TypeId} (he : P.underlying e = some (.int .u8)) (xs ys : List UInt8) : ∀ is : List Nat, (∀ i ∈ is, i < xs.length ∧ i < ys.length) →
    (Op.eqItems (d + 1) e 1 (darr xs) (darr ys) is).run P w = .ok (is.all fun i => xs.getD i 0 == ys.getD i 0) w
  | [], _ => by simp [Op.eqItems]
  | i :: is, h => by
    obtain ⟨h1, h2⟩ := h i (by simp)
    have ih := eqItems_bytes w d he xs ys is fun j hj => h j (by simp [hj])
    have p1 : (Go.part e (darr xs) (i * 1)).run P w = .ok (B8 (xs.getD i 0)) w := by
      simp [Go.part, isAgg, run_underlying he, darr, h1]
    have p2 : (Go.part e (darr ys) (i * 1)).run P w = .ok (B8 (ys.getD i 0)) w := by
      simp [Go.part, isAgg, run_underlying he, darr, h2]
    have p3 : (Op.equalIn (d + 1) e (B8 (xs.getD i 0)) (B8 (ys.getD i 0))).run P w = .ok (xs.getD i 0 == ys.getD i 0) w := by
      rw [run_equalIn_int w d e .u8 .u8 _ _ he]
      congr 1
      generalize xs.getD i 0 = a
      generalize ys.getD i 0 = b
      by_cases hab : a = b
      · subst hab; simp
      · have : a.toNat ≠ b.toNat := fun h => hab (UInt8.toNat_inj.1 h)
        rw [beq_eq_false_iff_ne.2 hab, beq_eq_false_iff_ne]
        omega
    simp only [Op.eqItems, Sem.run_bind, p1, p2, p3, Result.andThen_ok, List.all_cons]
    cases xs.getD i 0 == ys.getD i 0
    · simp
    · simp [ih]
theorem all_eq {a b : List UInt8} (ha : a.length = 32) (hb : b.length = 32) : ((List.range 32).all fun i => a.getD i 0 == b.getD i 0) = (a == b) := by
  rw [Bool.eq_iff_iff, List.all_eq_true, beq_iff_eq]
  constructor
  · intro h
    apply List.ext_getElem (by omega)
    intro i h1 h2
    have := h i (by simp; omega)
    simpa [h1, h2] using this
  · rintro rfl i _
    simp
end
theorem run_equal_darr (a b : List UInt8) (ha : a.length = 32) (hb : b.length = 32) (w : World) : (Op.equal 35 (.agg (darr a)) (.agg (darr b))).run Try.prog w = .ok (a == b) w := by
  obtain ⟨i0, hi, _, hz1, _⟩ := info_parts u8_info
  have hc : Try.prog.cellsOf 5 = 1 := by simp [Program.cellsOf, hi, hz1]
  rw [Op.equal, show Op.maxDepth = 9999 + 1 from rfl, run_equalIn_array w 9999 _ _ Try.underlying35 hi, hc, eqItems_bytes w 9998 Try.underlying5 a b _ (by intro i hi; rw [List.mem_range] at hi; omega), all_eq ha hb]
theorem run_eql_darr (a b : List UInt8) (ha : a.length = 32) (hb : b.length = 32) (w : World) : (binOp .eql 35 (.agg (darr a)) (.agg (darr b))).run Try.prog w = .ok (.bool (a == b)) w := by
  simp [binOp, run_equal_darr a b ha hb w]
theorem run_neq_darr (a b : List UInt8) (ha : a.length = 32) (hb : b.length = 32) (w : World) : (binOp .neq 35 (.agg (darr a)) (.agg (darr b))).run Try.prog w = .ok (.bool (a != b)) w := by
  simp [binOp, run_equal_darr a b ha hb w, bne]

end Go.Proofs.Ythehimjdjgmnjaa
