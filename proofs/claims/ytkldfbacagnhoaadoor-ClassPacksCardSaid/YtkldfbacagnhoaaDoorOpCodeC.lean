/- Codes, walked: Known, Name, Pool, Ends; no statement of the seat is proved here. -/
import Derived.Test.YtkldfbacagnhoaaDoorOpLaidC
namespace Go.Proofs.YtkldfbacagnhoaaDoor
open Go.RowKit

def kn (c : Int) : Bool := decide (1 ≤ c) && decide (c ≤ 32)
def nm (c : Int) : List UInt8 := if kn c then (shapes.getD c.toNat ([], 0)).1 else []
def pl (c : Int) : Int := if kn c then (shapes.getD c.toNat ([], 0)).2 else 0
theorem kn_cast {c : Int} (h : kn c = true) : ∃ n : Nat, c = (n : Int) ∧ 1 ≤ n ∧ n ≤ 32 := by
  simp only [kn, Bool.and_eq_true, decide_eq_true_eq] at h
  exact ⟨c.toNat, by omega, by omega, by omega⟩
theorem kn_nat {n : Nat} (h1 : 1 ≤ n) (h2 : n ≤ 32) : kn (n : Int) = true := by
  simp only [kn, Bool.and_eq_true, decide_eq_true_eq]; omega

theorem shapes_short : ∀ x ∈ shapes, x.1.length ≤ 10 := by decide
theorem nm_short (c : Int) : (nm c).length ≤ 10 := by
  unfold nm
  split
  · rename_i h
    obtain ⟨n, rfl, h1, h2⟩ := kn_cast h
    have hl : n < shapes.length := by show n < 33; omega
    have : (shapes.getD n ([], 0)) = shapes[n] := by simp [List.getD, hl]
    rw [Int.toNat_natCast, this]
    exact shapes_short _ (List.getElem_mem hl)
  · simp

set_option maxRecDepth 100000 in
theorem known_any (c : Int) (w : World) : Calls Tryd.prog 16 #[.int .i64 c] w fun e w' => e = .returned (.bool (kn c)) ∧ w' = w := by
  go_enter Tryd.func16, Tryd.ntmps16
  obtain ⟨X, hX⟩ : ∃ X, X = kn c := ⟨_, rfl⟩
  rw [← hX]
  unfold kn at hX
  cases h1 : decide (1 ≤ c) <;> rw [h1] at hX
  · go_wp2_with fail
    go_ret
    exact ⟨by simp [hX], rfl⟩
  · go_wp2_with fail
    go_ret
    exact ⟨by simp [hX], rfl⟩

set_option maxRecDepth 100000 in
theorem pool_any (c : Int) (w : World) (h : Laid w) : Calls Tryd.prog 17 #[.int .i64 c] w fun e w' => e = .returned (.int .i32 (pl c)) ∧ w' = w := by
  have HK := hide (known_any c w)
  obtain ⟨X, hX⟩ : ∃ X, X = kn c := ⟨_, rfl⟩
  rw [← hX] at HK
  have hn : ∃ X, X = pl c := ⟨_, rfl⟩
  obtain ⟨N, hN⟩ := hn
  rw [← hN]
  unfold pl at hN
  rw [← hX] at hN
  cases X
  · have HN := hide hN
    clear hN hX
    go_enter Tryd.func17, Tryd.ntmps17
    go_wp2_with (go_at_call 16; refine HK.out.mono ?_; rintro e w' ⟨rfl, rfl⟩)
    go_ret
    exact ⟨by rw [HN.out]; rfl, rfl⟩
  · obtain ⟨n, rfl, h1, h2⟩ := kn_cast hX.symm
    have hc := h.pool n (by omega)
    have HN := hide hN
    clear hN hX h
    go_enter Tryd.func17, Tryd.ntmps17
    go_wp2_with (go_at_call 16; refine HK.out.mono ?_; rintro e w' ⟨rfl, rfl⟩)
    go_ret
    exact ⟨by rw [HN.out]; rfl, rfl⟩
end Go.Proofs.YtkldfbacagnhoaaDoor
