/- A digest that comes in, opened; no statement of the seat is proved here. -/
import Derived.Test.YtdnpcpeibjckmaaShaParse
import Derived.Test.YtdnpcpeibjckmaaOpen
namespace Go.Proofs.Ytdnpcpeibjckmaa
open Go.ChangeShapes Go.WideShapes Go.ChangeAt Go.RowKit Go.Deep

section
variable {H : Type} {enc : TypeId × Value → H} {w : World} {base : Nat} {spare : Nat → Bool} {held : Bool}
def byteOf : Value → UInt8
  | .int _ n => UInt8.ofNat n.toNat
  | _ => 0
theorem open_dig {r : Reach} {b0 : Nat} {v : Value} {d : DataW H} {p : List MemPlace} (hv : Value.okWide Try.prog w r b0 24 v) (h : DataW.Trod enc Try.prog w base spare held 24 v d p) :
    ∃ D : List UInt8, D.length = 32 ∧ v = .agg (darr D) := by
  have hc : Try.prog.cellsOf 5 = 1 := by kernel_rfl
  have hct : Try.prog.cellsOf 24 = 32 := by kernel_rfl
  unfold Value.okWide at hv
  rw [Try.underlying24] at hv
  obtain ⟨cs, rfl, hs, _⟩ := hv
  obtain ⟨fuel, hf⟩ := h
  obtain ⟨xs, m, rfl, _, hl, hx, hp⟩ := DataW.trod_array Try.underlying24 hf
  simp only [Value.cells] at hl hp
  rw [hct] at hl hs
  refine ⟨cs.toList.map byteOf, by simp [hs], ?_⟩
  congr 1
  apply Array.ext_getElem?
  intro i
  by_cases hi : i < 32
  · have hpi := hp i hi
    rw [hc, Nat.mul_one] at hpi
    have hxi : xs[i]? = some (xs[i]'(by omega)) := List.getElem?_eq_getElem (by omega)
    rw [hxi] at hpi
    obtain ⟨n, h1, _, hw⟩ := DataW.trod_int Try.underlying5 hpi
    have hcs : cs[i]? = some (.int .u8 n) := by
      have e : (cs.toList.drop i).take 1 = [cs.toList[i]'(by simp; omega)] := by
        rw [List.take_one, List.head?_drop, List.getElem?_eq_getElem (by simp; omega)]
        rfl
      rw [e] at h1
      injection h1 with h1
      rw [← Array.getElem?_toList, List.getElem?_eq_getElem (by simp; omega), h1]
    rw [hcs]
    simp [Lit.wf, IntKind.min, IntKind.max, IntKind.signed, IntKind.bits] at hw
    have hcl : cs.toList[i]? = some (.int .u8 n) := by rw [Array.getElem?_toList]; exact hcs
    simp only [darr, List.getElem?_toArray, List.map_map, List.getElem?_map, hcl, Option.map_some, Function.comp, byteOf]
    congr 1
    rw [B8, show (UInt8.ofNat n.toNat).toNat = n.toNat by simp; omega]
    congr 1
    omega
  · rw [Array.getElem?_eq_none (by omega), Array.getElem?_eq_none (by simp [darr]; omega)]
end
end Go.Proofs.Ytdnpcpeibjckmaa
