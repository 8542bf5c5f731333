/- The first 64 primes, walked; no statement of the seat is proved here. -/
import Derived.Test.YthehimjdjgmnjaaShaConst
namespace Go.Proofs.Ythehimjdjgmnjaa
open Go.RowKit

theorem any_not {L : List Nat} {m j : Nat} (h : ∀ t (ht : t < L.length), t < j → m % L[t] ≠ 0) (hj : L.length ≤ j) : (L.any fun q => m % q == 0) = false := by
  rw [List.any_eq_false]
  intro q hq
  obtain ⟨t, ht, rfl⟩ := List.getElem_of_mem hq
  simpa using h t ht (by omega)
theorem any_yes {L : List Nat} {m j : Nat} (hj : j < L.length) (h : m % L[j] = 0) : (L.any fun q => m % q == 0) = true := by
  rw [List.any_eq_true]
  exact ⟨L[j], List.getElem_mem hj, by simpa using h⟩

set_option maxRecDepth 100000 in
set_option maxHeartbeats 2000000 in
theorem primes_any (w : World) : Calls Try.prog 27 #[.int .i64 64] w fun e w' => ∃ A c, e = .returned (.slice A 64 c) ∧ Below w.heap.size w w' ∧ w'.ownsRow w.heap.size 96 1 (.slice A 64 c) 64 (P64.map Q64) := by
  go_enter Try.func27, Try.ntmps27
  go_wp2_with fail
  go_step3
  go_wp2_with fail
  go_step3
  go_wp2_with fail
  go_loopg [3, 4] 310 (fun g o p wr => ∃ (m : Nat) (A : Option Addr) (c : Nat), m + g = 312 ∧ o = .slice A (pl m).length c ∧ p = Q64 m ∧ 2 ≤ m ∧ Below w.heap.size w wr ∧ wr.ownsRow w.heap.size 96 1 (.slice A (pl m).length c) (pl m).length ((pl m).map Q64))
  case atStart => exact ⟨2, none, 0, rfl, rfl, rfl, by omega, Below.refl _ _, World.ownsRow_nil w w.heap.size 96 1⟩
  case round =>
    obtain ⟨m, A, c, hm, rfl, rfl, h1, hb, hown⟩ := hrel
    obtain ⟨G, hG⟩ : ∃ G, G = gk := ⟨_, rfl⟩
    rw [← hG] at hm
    have HG := hide hG
    clear hG
    obtain ⟨wo, hwo⟩ : ∃ wo : World, wo = wr := ⟨_, rfl⟩
    rw [← hwo] at hb hown ⊢
    clear hwo
    have hR : Rd wo (fun _ => False) 1 A (pl m).length ((pl m).map Q64) := Rd.of_own2 hown (fun _ _ h => h)
    have HB := hide hb
    have HO := hide hown
    clear hb hown
    by_cases hlt : m < 312
    · have hl := pl_len ⟨m, hlt⟩
      have HY := hide (pl_yes ⟨m, hlt⟩ h1)
      have HZ := hide (pl_not ⟨m, hlt⟩ h1)
      have HPOS := hide (pl_pos m)
      obtain ⟨L, hL⟩ : ∃ L, L = pl m := ⟨_, rfl⟩
      simp only [← hL] at hR HO HY HZ HPOS hl ⊢
      clear hL
      obtain ⟨n, hn⟩ : ∃ n, n = L.length := ⟨_, rfl⟩
      have HN := hide hn
      rw [← hn] at hR HO hl ⊢
      clear hn
      go_wp2_with fail
      go_loopg [15] n (fun g2 i wy => ∃ j : Nat, j + g2 = n ∧ i = .int .i64 j ∧ wy = wo ∧ Hid (∀ t (ht : t < L.length), t < j → m % L[t] ≠ 0))
      case atStart => exact ⟨0, by omega, rfl, rfl, fun t _ h => by omega⟩
      case round =>
        obtain ⟨j, hj, rfl, hw, HA⟩ := hrel
        have HW := hide hw
        clear hw
        by_cases hjn : j < n
        · have hjl : j < L.length := by have := HN.out; omega
          obtain ⟨b, o, u, rfl, hu, hc0⟩ := hR.at_ j hjn
          obtain rfl : Q64 L[j] = u := by simpa [hjl] using hu
          clear hu
          have hc : wr.cell? ⟨b, o + j, none⟩ = some (Q64 L[j]) := by rw [HW.out]; exact hc0
          obtain ⟨q, hq⟩ : ∃ q, q = L[j] := ⟨_, rfl⟩
          rw [← hq] at hc
          have hq2 := HPOS.out L[j] (List.getElem_mem hjl)
          rw [← hq] at hq2
          have HQ := hide hq
          clear hq hc0 hR
          have ht : ((m : Int).tmod (q : Int)) = ((m % q : Nat) : Int) := by rw [Int.tmod_eq_emod_of_nonneg (by omega)]; exact (Int.natCast_emod m q).symm
          have hq0 : ((q : Int) == 0) = false := by simp; omega
          cases hz : (((m % q : Nat) : Int) == 0)
          · go_wp2_with fail
            go_roundg (gk - 1)
            case measure => omega
            case rel => exact ⟨j + 1, by omega, by go_num, HW.out, fun t h3 h4 => by
              rcases Nat.lt_or_ge t j with h5 | h5
              · exact HA.out t h3 h5
              · obtain rfl : t = j := by omega
                rw [← HQ.out]
                intro h6
                rw [h6] at hz
                exact absurd hz (by decide)⟩
          · have HV : Hid (pl (m + 1) = L) := hide (HZ.out (any_yes hjl (by
              rw [← HQ.out]
              have := (beq_iff_eq).1 hz
              omega)))
            go_wp2_with fail
            go_roundg (G - 1)
            case measure => have := HG.out; omega
            case rel => exact ⟨m + 1, _, c, by omega, by rw [HV.out, ← HN.out], by go_num, by omega, by rw [HW.out]; exact HB.out, by rw [HV.out, ← HN.out, HW.out]; exact HO.out⟩
        · have HV : Hid (pl (m + 1) = L ++ [m]) := hide (HY.out (any_not HA.out (by have := HN.out; omega)))
          have hbs := HB.out.size
          have hown : wr.ownsRow w.heap.size 96 1 (.slice A n c) n (L.map Q64) := by rw [HW.out]; exact HO.out
          have hbw : w.heap.size ≤ wr.heap.size := by rw [HW.out]; exact hbs
          go_wp2_with (at_builtin; refine app1 rfl (.tmp 24) (.tmp 26) 94 rfl w.heap.size 96 (.int .u64 0) 8 Try.underlying94 u64_info rfl (.slice A n c) n (L.map Q64) rfl hown (Q64 m) rfl rfl (by omega) (by omega) hbw ?_)
          intro a3 c3 w3 hown3 hg3 _
          have hb3 : Below w.heap.size w w3 := (by rw [HW.out] at hg3; exact HB.out.grown hg3 (by omega) (fun k hk => (HO.out.lt k hk).1))
          have HB3 := hide hb3
          have HO3 := hide hown3
          clear hg3 hown hown3 hb3
          go_wp2_with fail
          go_roundg (G - 1)
          case measure => have := HG.out; omega
          case rel => exact ⟨m + 1, a3, c3, by omega, by rw [HV.out]; simp [HN.out], by go_num, by omega, HB3.out, by rw [HV.out, List.map_append]; simpa [HN.out] using HO3.out⟩
    · obtain rfl : m = 312 := by omega
      rw [pl_all] at HO hR ⊢
      have hl : P64.length = 64 := rfl
      rw [hl] at HO hR ⊢
      go_wp2_with fail
      rw [Exit.noGoto_ret]
      go_ret
      exact ⟨A, c, rfl, HB.out, HO.out⟩
end Go.Proofs.Ythehimjdjgmnjaa
