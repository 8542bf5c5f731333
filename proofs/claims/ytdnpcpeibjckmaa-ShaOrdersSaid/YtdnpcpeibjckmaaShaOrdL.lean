/- Digits have the order of their bytes: the plain law; no statement of the seat is proved here. -/
import Derived.Test.YtdnpcpeibjckmaaShaHexes
namespace Go.Proofs.Ytdnpcpeibjckmaa
open Go.RowKit

theorem hdig_lt : ∀ i j : Fin 16, decide (hdig i.val < hdig j.val) = decide (i.val < j.val) := by decide +kernel
theorem hdig_inj : ∀ i j : Fin 16, (hdig i.val == hdig j.val) = (i.val == j.val) := by decide +kernel
theorem hd_lt (i j : Nat) (hi : i < 16) (hj : j < 16) : hdig i < hdig j ↔ i < j := by
  have := hdig_lt ⟨i, hi⟩ ⟨j, hj⟩
  simpa using this
theorem hd_eq (i j : Nat) (hi : i < 16) (hj : j < 16) : hdig i = hdig j ↔ i = j := by
  have := hdig_inj ⟨i, hi⟩ ⟨j, hj⟩
  rw [Bool.eq_iff_iff] at this
  simpa using this
theorem hex_less : ∀ D E : List UInt8, D.length = E.length → Op.bytesLess (hexM D) (hexM E) = Op.bytesLess D E
  | [], [], _ => rfl
  | c :: D, d :: E, h => by
    have ih := hex_less D E (by simpa using h)
    rw [hexM_cons, hexM_cons]
    have hc := c.toNat_lt
    have hd := d.toNat_lt
    simp only [Op.bytesLess]
    have e1 := hd_lt (c.toNat / 16) (d.toNat / 16) (by omega) (by omega)
    have e2 := hd_lt (c.toNat % 16) (d.toNat % 16) (by omega) (by omega)
    have e3 := hd_eq (c.toNat / 16) (d.toNat / 16) (by omega) (by omega)
    have e4 := hd_eq (c.toNat % 16) (d.toNat % 16) (by omega) (by omega)
    have e5 : c < d ↔ c.toNat < d.toNat := UInt8.lt_iff_toNat_lt
    have e6 : c = d ↔ c.toNat = d.toNat := UInt8.toNat_inj.symm
    rw [ih, Bool.eq_iff_iff]
    cases Op.bytesLess D E <;> simp [e1, e2, e3, e4, e5, e6] <;> omega
  | [], _ :: _, h => by simp at h
  | _ :: _, [], h => by simp at h
theorem hex_inj (D E : List UInt8) (hD : D.length = 32) (hE : E.length = 32) : (hexM D == hexM E) = (D == E) := by
  rw [Bool.eq_iff_iff, beq_iff_eq, beq_iff_eq]
  constructor
  · intro h
    have h1 := parse_hex D hD
    rw [h, parse_hex E hE] at h1
    injection h1 with h1 _
    exact h1.symm
  · rintro rfl; rfl
end Go.Proofs.Ytdnpcpeibjckmaa
