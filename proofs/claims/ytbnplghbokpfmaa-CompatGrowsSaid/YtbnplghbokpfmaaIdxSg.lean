/- slices.IndexFunc and slices.ContainsFunc at methods, by the closure's contract, walked; no statement of the seat is proved here. -/
import Derived.Test.YtbnplghbokpfmaaIdxTy
namespace Go.Proofs.Ytbnplghbokpfmaa
open Go.RowKit

set_option maxRecDepth 100000 in
set_option maxHeartbeats 1000000 in
theorem idxsg_any (A : Option Addr) (n c : Nat) (l : List Sg) (bx : Nat) (p : Sg → Bool) (w : World) (h : Rd w (fun k => w.heap.size ≤ k) 5 A n (l.flatMap Sg.cells)) (hl : l.length = n) (hm : n ≤ 9223372036854775807)
    (hc : ∀ (w' : World), Below w.heap.size w w' → ∀ u ∈ l, Calls Try.prog 24 #[u.val, .pointer (some ⟨bx, 0, none⟩)] w' (Gives w' (.bool (p u)))) :
    Calls Try.prog 32 #[.slice A n c, .func (.func 24) #[] #[.pointer (some ⟨bx, 0, none⟩)]] w (Finds w l p) := by
  have HL := hide hl
  have HC := hide hc
  clear hl hc
  go_enter Try.func32, Try.ntmps32
  go_wp2_with fail
  go_loopw [8] (fun i wr => ∃ k : Nat, k ≤ n ∧ i = .int .i64 k ∧ Below w.heap.size w wr ∧ (∀ i (hi : i < l.length), i < k → p l[i] = false)) (fun i _ => n - (intOf i).toNat)
  case atStart => exact ⟨0, Nat.zero_le _, rfl, Below.refl _ _, by omega⟩
  case round =>
    obtain ⟨k, hk, rfl, hbr, hall⟩ := hrel
    have HA := hide hall
    clear hall
    by_cases hlt : k < n
    · obtain ⟨x, o, rfl, _, _, hcell⟩ := Rd.rec_ (size := 5) (fun _ => rfl) (h.below hbr) HL.out k hlt
      have hlk : k < l.length := by have := HL.out; omega
      have hcc := HC.out wr hbr l[k] (List.getElem_mem hlk)
      obtain ⟨b, hb⟩ : ∃ b, b = p l[k] := ⟨_, rfl⟩
      rw [← hb] at hcc
      have HB := hide hb
      obtain ⟨u, hu⟩ : ∃ u, u = l[k] := ⟨_, rfl⟩
      rw [← hu] at hcell hcc
      clear hb hu
      have q0 : wr.cell? ⟨x, o + k * 5, none⟩ = some (S u.n) := hcell 0 _ rfl
      have q1 : wr.cell? ⟨x, o + k * 5 + 1, none⟩ = some (.bool u.st) := hcell 1 _ rfl
      have q2 : wr.cell? ⟨x, o + k * 5 + 2, none⟩ = some (.slice u.A u.k u.c) := hcell 2 _ rfl
      have q3 : wr.cell? ⟨x, o + k * 5 + 3, none⟩ = some (S u.r.n) := hcell 3 _ rfl
      have q4 : wr.cell? ⟨x, o + k * 5 + 4, none⟩ = some (.bool u.r.a) := hcell 4 _ rfl
      clear hcell
      have HCC := hide hcc
      clear hcc
      go_wp2_with fail
      refine HCC.out.mono ?_
      rintro e w2 ⟨rfl, hb2⟩
      have hB2 := hbr.trans (hb2.mono hbr.size)
      cases b with
      | true =>
        have HI : Hid (IdxIs l p (k : Int)) := hide (.inr ⟨k, hlk, rfl, HB.out.symm, HA.out⟩)
        go_wp2_with fail
        go_ret
        exact ⟨_, rfl, hB2, HI.out⟩
      | false =>
        go_wp2_with fail
        go_roundw
        case rel => exact ⟨k + 1, by omega, by go_num, hB2, all_step (p := fun u => p u = false) HA.out hlk HB.out.symm⟩
        case measure => simp [intOf]; omega
    · have HI : Hid (IdxIs l p (-1)) := hide (.inl ⟨rfl, all_done (p := fun u => p u = false) HA.out (by have := HL.out; omega)⟩)
      go_wp2_with fail
      go_ret
      exact ⟨_, rfl, hbr, HI.out⟩

set_option maxRecDepth 100000 in
theorem hassg_any (A : Option Addr) (n c : Nat) (l : List Sg) (bx : Nat) (p : Sg → Bool) (w : World) (h : Rd w (fun k => w.heap.size ≤ k) 5 A n (l.flatMap Sg.cells)) (hl : l.length = n) (hm : n ≤ 9223372036854775807)
    (hc : ∀ (w' : World), Below w.heap.size w w' → ∀ u ∈ l, Calls Try.prog 24 #[u.val, .pointer (some ⟨bx, 0, none⟩)] w' (Gives w' (.bool (p u)))) :
    Calls Try.prog 23 #[.slice A n c, .func (.func 24) #[] #[.pointer (some ⟨bx, 0, none⟩)]] w (Gives w (.bool (l.any p))) := by
  have HI := hide (idxsg_any A n c l bx p w h hl hm hc)
  clear h hl hc
  obtain ⟨R, hR⟩ : ∃ R, R = l.any p := ⟨_, rfl⟩
  rw [← hR]
  have HR := hide hR
  clear hR
  go_enter Try.func23, Try.ntmps23
  go_wp2_with fail
  refine HI.out.mono ?_
  rintro e w2 ⟨z, rfl, hb2, hz⟩
  have HZ : Hid (decide (0 ≤ z) = R) := hide (by rw [HR.out]; exact hz.any)
  clear hz
  go_wp2_with fail
  go_ret
  exact ⟨by rw [← HZ.out]; rfl, hb2⟩
end Go.Proofs.Ytbnplghbokpfmaa
