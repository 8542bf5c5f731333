/- What the laws' 'Few' of a list of faces tells, walked; no statement of the seat is proved here. -/
import Derived.Test.YthehimjdjgmnjaaFaceFewD
namespace Go.Proofs.Ythehimjdjgmnjaa
open Go.RowKit

set_option maxRecDepth 100000 in
set_option maxHeartbeats 1000000 in
theorem fewlist_any (A : Option Addr) (n c : Nat) (T : List Fc) (w : World) (h : FcsAt w (fun k => w.heap.size ≤ k) A n T) :
    Calls Try.prog 6 #[.slice A n c] w (Asks w (n ≤ 8 ∧ ∀ f ∈ T, f.few)) := by
  obtain ⟨hr, hl, hm, hok⟩ := h
  have HL := hide hl
  have HO := hide hok
  clear hl hok
  go_enter Try.func6, Try.ntmps6
  go_wp2_with fail
  go_loopw [7] (fun i wr => ∃ k : Nat, k ≤ n ∧ i = .int .i64 k ∧ Below w.heap.size w wr ∧ (∀ i (hi : i < T.length), i < k → T[i].few)) (fun i _ => n - (intOf i).toNat)
  case atStart => exact ⟨0, Nat.zero_le _, rfl, Below.refl _ _, by omega⟩
  case round =>
    obtain ⟨k, hk, rfl, hB, hall⟩ := hrel
    have HA := hide hall
    clear hall
    by_cases hlt : k < n
    · obtain ⟨x, o, rfl, hx1, _, hcell⟩ := Rd.rec_ (size := 4) (fun _ => rfl) (hr.below hB) HL.out k hlt
      have hlk : k < T.length := by have := HL.out; omega
      have hfr := (HO.out _ (List.getElem_mem hlk)).below hB
      obtain ⟨f, hf⟩ : ∃ f, f = T[k] := ⟨_, rfl⟩
      rw [← hf] at hcell hfr
      have HV := hide hf
      clear hf
      have q0 : wr.cell? ⟨x, o + k * 4, none⟩ = some (S f.n) := hcell 0 _ rfl
      have q1 : wr.cell? ⟨x, o + k * 4 + 1, none⟩ = some (S f.su) := hcell 1 _ rfl
      have q2 : wr.cell? ⟨x, o + k * 4 + 2, none⟩ = some (.slice f.fA f.fl f.fc) := hcell 2 _ rfl
      have q3 : wr.cell? ⟨x, o + k * 4 + 3, none⟩ = some (.slice f.mA f.ml f.mc) := hcell 3 _ rfl
      clear hcell
      have hB2 := hB.alloc hB.size (.cells #[S f.n, S f.su, .slice f.fA f.fl f.fc, .slice f.mA f.ml f.mc] 47)
      have hfr2 : f.at_ (wr.alloc (.cells #[S f.n, S f.su, .slice f.fA f.fl f.fc, .slice f.mA f.ml f.mc] 47)) (fun k => (wr.alloc (.cells #[S f.n, S f.su, .slice f.fA f.fl f.fc, .slice f.mA f.ml f.mc] 47)).heap.size ≤ k) :=
        (hfr.below ((Below.refl _ _).alloc hB.size _)).weak (fun k hk => by have := hB2.size; omega)
      have HF := hide hfr2
      clear hfr hfr2
      go_wp2_with fail
      refine (few_any f _ HF.out).mono ?_
      rintro e w2 ⟨R, rfl, hb2, hR⟩
      have HR := hide hR
      have hB3 := hB2.trans (hb2.mono hB2.size)
      clear hR hb2
      cases R with
      | false =>
        go_wp2
        go_ret
        exact ⟨_, rfl, hB3, by simp⟩
      | true =>
        go_wp2
        go_roundw
        case rel => exact ⟨k + 1, by omega, by go_num, hB3, all_step HA.out hlk (by rw [← HV.out]; exact HR.out trivial)⟩
        case measure => simp [intOf]; omega
    · have HT : Hid (∀ f ∈ T, f.few) := hide (all_done HA.out (by have := HL.out; omega))
      clear HA
      by_cases h8 : n ≤ 8
      · have d : decide ((n : Int) ≤ 8) = true := by simp; omega
        go_wp2
        go_ret
        exact ⟨_, rfl, hB, fun _ => ⟨h8, HT.out⟩⟩
      · have d : decide ((n : Int) ≤ 8) = false := by simp; omega
        go_wp2
        go_ret
        exact ⟨_, rfl, hB, by simp⟩
end Go.Proofs.Ythehimjdjgmnjaa
