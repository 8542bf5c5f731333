/- OpFinds, walked: it returns true for every input. -/
import Derived.Test.YtfahcpncofjnjaaDoorOpFind
namespace Go.Proofs.YtfahcpncofjnjaaDoor
open Go.RowKit

set_option maxRecDepth 100000 in
set_option maxHeartbeats 2000000 in
theorem finds_law (l : List UInt8) (hl : l.length ≤ 9223372036854775807) (w : World) (h : Laid w) : Calls Tryd.prog 4 #[S l] w (Gives w (.bool true)) := by
  have HH := hide (head_any w h)
  go_enter Tryd.func4, Tryd.ntmps4
  go_wp2_with fail
  refine HH.out.mono ?_
  rintro e w1 ⟨rfl, hb1⟩
  have HL1 := hide (h.below hb1 (Nat.le_refl _))
  have HB1 := hide hb1
  clear HH h hb1
  by_cases h40 : 40 < l.length
  · go_wp2_with fail
    go_ret
    exact ⟨rfl, HB1.out⟩
  have HF := hide (find_any l w1 HL1.out)
  go_wp2_with fail
  refine HF.out.mono ?_
  rintro e w2 ⟨⟨v, rfl, hf⟩, hw2⟩
  subst hw2
  have HN := hide (names_any w2 w2.heap.size rfl)
  obtain ⟨n, c, d, rfl, hF⟩ : ∃ (n : Nat) (c d : Int), v = .tuple #[.int .i64 c, .int .i64 d] ∧ ((1 ≤ n ∧ n ≤ 32 ∧ nm n = l ∧ (∀ m : Nat, 1 ≤ m → m < n → nm m ≠ l) ∧ c = n ∧ d = 0) ∨ ((∀ m : Nat, 1 ≤ m → m ≤ 32 → nm m ≠ l) ∧ c = 0 ∧ d = 23)) := by
    rcases hf with ⟨n, a1, a2, a3, a4, rfl⟩ | ⟨a1, rfl⟩
    · exact ⟨n, n, 0, rfl, .inl ⟨a1, a2, a3, a4, rfl, rfl⟩⟩
    · exact ⟨0, 0, 23, rfl, .inr ⟨a1, rfl, rfl⟩⟩
  have HFD := hide hF
  clear hf hF HF
  go_wp2_with fail
  refine HN.out.mono ?_
  rintro e w3 ⟨rfl, hb3, hblk, _⟩
  have HB3 := hide (HB1.out.trans (hb3.mono HB1.out.size))
  have HBK := hide hblk
  clear HN hb3 hblk
  go_wp2_with fail
  go_loopw [19] (fun i wr => ∃ k : Nat, k ≤ 32 ∧ i = .int .i64 k ∧ wr = w3 ∧ (∀ m : Nat, 1 ≤ m → m ≤ k → nm m ≠ l)) (fun i _ => 32 - (intOf i).toNat)
  case atStart => exact ⟨0, by omega, rfl, rfl, by omega⟩
  case round =>
    obtain ⟨k, hk, rfl, hw, hall⟩ := hrel
    have HW := hide hw
    have HA := hide hall
    by_cases hlt : k < 32
    · have hc : wr.cell? ⟨w2.heap.size, k, none⟩ = some (S (nm ((k + 1 : Nat) : Int))) := by
        rw [hw, HBK.out.cell k]; exact nm_at k hlt
      clear hw hall
      obtain ⟨y, hy⟩ : ∃ y, y = nm ((k + 1 : Nat) : Int) := ⟨_, rfl⟩
      rw [← hy] at hc
      have HY := hide hy
      clear hy
      by_cases e : y = l
      · subst e
        rcases HFD.out with ⟨a1, a2, a3, a4, rfl, rfl⟩ | ⟨a1, rfl, rfl⟩
        · have hn : n = k + 1 := by
            have b1 : ¬ n ≤ k := fun hh => HA.out n a1 hh a3
            have b2 : ¬ k + 1 < n := fun hh => a4 (k + 1) (by omega) hh HY.out.symm
            omega
          subst hn
          clear HFD a3 a4
          go_wp2_with fail
          go_ret
          exact ⟨rfl, by rw [HW.out]; exact HB3.out⟩
        · exact absurd HY.out.symm (a1 (k + 1) (by omega) (by omega))
      · have d : (y == l) = false := by simpa using e
        go_wp2_with fail
        go_roundw
        case rel => exact ⟨k + 1, by omega, by go_num, HW.out, fun m h1 h2 => by
          rcases Nat.lt_or_ge k m with h3 | h3
          · obtain rfl : m = k + 1 := by omega
            rw [← HY.out]; exact e
          · exact HA.out m h1 h3⟩
        case measure => simp [intOf]; omega
    · clear hw hall
      rcases HFD.out with ⟨a1, a2, a3, a4, rfl, rfl⟩ | ⟨a1, rfl, rfl⟩
      · exact absurd a3 (HA.out n a1 (by omega))
      · clear HFD a1
        go_wp2_with fail
        go_ret
        exact ⟨rfl, by rw [HW.out]; exact HB3.out⟩
end Go.Proofs.YtfahcpncofjnjaaDoor
