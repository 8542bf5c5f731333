/- slices.IndexFunc and slices.ContainsFunc at types, by the closure's contract, walked; no statement of the seat is proved here. -/
import Derived.Test.YtkgnoemagklmiaaAstTypesC
namespace Go.Proofs.Ytkgnoemagklmiaa
open Go.RowKit

/-- The first place at which p holds; -1: it holds nowhere. -/
def IdxIs {α : Type} (l : List α) (p : α → Bool) (z : Int) : Prop := (z = -1 ∧ ∀ x ∈ l, p x = false) ∨ ∃ k, ∃ hk : k < l.length, z = (k : Int) ∧ p l[k] = true ∧ ∀ i (hi : i < l.length), i < k → p l[i] = false
/-- It answers that place, and touches nothing that was there. -/
def Finds {α : Type} (w : World) (l : List α) (p : α → Bool) (e : Ending) (w' : World) : Prop := ∃ z : Int, e = .returned (.int .i64 z) ∧ Below w.heap.size w w' ∧ IdxIs l p z
theorem IdxIs.any {α : Type} {l : List α} {p : α → Bool} {z : Int} (h : IdxIs l p z) : decide (0 ≤ z) = l.any p := by
  rcases h with ⟨rfl, h⟩ | ⟨k, hk, rfl, h, _⟩
  · have : l.any p = false := by rw [List.any_eq_false]; intro x hx; rw [h x hx]; simp
    rw [this]; decide
  · have : l.any p = true := List.any_eq_true.2 ⟨l[k], List.getElem_mem hk, h⟩
    rw [this]; simp

set_option maxRecDepth 100000 in
set_option maxHeartbeats 1000000 in
theorem idxty_any (A : Option Addr) (n c : Nat) (l : List Ty) (p : Ty → Bool) (w : World) (h : Rd w (fun k => w.heap.size ≤ k) 2 A n (l.flatMap Ty.cells)) (hl : l.length = n) (hm : n ≤ 9223372036854775807)
    (hc : ∀ (w' : World), Below w.heap.size w w' → ∀ u ∈ l, Calls Try.prog 49 #[u.val] w' (Gives w' (.bool (p u)))) :
    Calls Try.prog 61 #[.slice A n c, .func (.func 49) #[] #[]] w (Finds w l p) := by
  have HL := hide hl
  have HC := hide hc
  clear hl hc
  go_enter Try.func61, Try.ntmps61
  go_wp2_with fail
  go_loopw [8] (fun i wr => ∃ k : Nat, k ≤ n ∧ i = .int .i64 k ∧ Below w.heap.size w wr ∧ (∀ i (hi : i < l.length), i < k → p l[i] = false)) (fun i _ => n - (intOf i).toNat)
  case atStart => exact ⟨0, Nat.zero_le _, rfl, Below.refl _ _, by omega⟩
  case round =>
    obtain ⟨k, hk, rfl, hbr, hall⟩ := hrel
    have HA := hide hall
    clear hall
    by_cases hlt : k < n
    · obtain ⟨x, o, rfl, _, _, hcell⟩ := Rd.rec_ (size := 2) (fun _ => rfl) (h.below hbr) HL.out k hlt
      have hlk : k < l.length := by have := HL.out; omega
      have hcc := HC.out wr hbr l[k] (List.getElem_mem hlk)
      obtain ⟨b, hb⟩ : ∃ b, b = p l[k] := ⟨_, rfl⟩
      rw [← hb] at hcc
      have HB := hide hb
      obtain ⟨u, hu⟩ : ∃ u, u = l[k] := ⟨_, rfl⟩
      rw [← hu] at hcell hcc
      clear hb hu
      have q0 : wr.cell? ⟨x, o + k * 2, none⟩ = some (S u.n) := hcell 0 _ rfl
      have q1 : wr.cell? ⟨x, o + k * 2 + 1, none⟩ = some (.bool u.a) := hcell 1 _ rfl
      clear hcell
      have HCC := hide hcc
      clear hcc
      go_wp2_with fail
      refine HCC.out.mono ?_
      rintro e w2 ⟨rfl, hb2⟩
      have hB2 := hbr.trans (hb2.mono hbr.size)
      cases b with
      | true =>
        have HI : Hid (IdxIs l p (k : Int)) := hide (.inr ⟨k, hlk, rfl, HB.out.symm, HA.out⟩)
        go_wp2_with fail
        go_ret
        exact ⟨_, rfl, hB2, HI.out⟩
      | false =>
        go_wp2_with fail
        go_roundw
        case rel => exact ⟨k + 1, by omega, by go_num, hB2, all_step (p := fun u => p u = false) HA.out hlk HB.out.symm⟩
        case measure => simp [intOf]; omega
    · have HI : Hid (IdxIs l p (-1)) := hide (.inl ⟨rfl, all_done (p := fun u => p u = false) HA.out (by have := HL.out; omega)⟩)
      go_wp2_with fail
      go_ret
      exact ⟨_, rfl, hbr, HI.out⟩

set_option maxRecDepth 100000 in
theorem hasty_any (A : Option Addr) (n c : Nat) (l : List Ty) (p : Ty → Bool) (w : World) (h : Rd w (fun k => w.heap.size ≤ k) 2 A n (l.flatMap Ty.cells)) (hl : l.length = n) (hm : n ≤ 9223372036854775807)
    (hc : ∀ (w' : World), Below w.heap.size w w' → ∀ u ∈ l, Calls Try.prog 49 #[u.val] w' (Gives w' (.bool (p u)))) :
    Calls Try.prog 48 #[.slice A n c, .func (.func 49) #[] #[]] w (Gives w (.bool (l.any p))) := by
  have HI := hide (idxty_any A n c l p w h hl hm hc)
  clear h hl hc
  obtain ⟨R, hR⟩ : ∃ R, R = l.any p := ⟨_, rfl⟩
  rw [← hR]
  have HR := hide hR
  clear hR
  go_enter Try.func48, Try.ntmps48
  go_wp2_with fail
  refine HI.out.mono ?_
  rintro e w2 ⟨z, rfl, hb2, hz⟩
  have HZ : Hid (decide (0 ≤ z) = R) := hide (by rw [HR.out]; exact hz.any)
  clear hz
  go_wp2_with fail
  go_ret
  exact ⟨by rw [← HZ.out]; rfl, hb2⟩
end Go.Proofs.Ytkgnoemagklmiaa
