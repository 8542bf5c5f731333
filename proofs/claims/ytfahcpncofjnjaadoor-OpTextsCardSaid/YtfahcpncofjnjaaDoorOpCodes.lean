/- OpCodes, walked: it returns true for every input. -/
import Derived.Test.YtfahcpncofjnjaaDoorOpFind
namespace Go.Proofs.YtfahcpncofjnjaaDoor
open Go.RowKit

set_option maxRecDepth 100000 in
set_option maxHeartbeats 2000000 in
theorem codes_out (c : Int) (hc : kn c = false) (w : World) (h : Laid w) : Calls Tryd.prog 5 #[.int .i64 c] w (Gives w (.bool true)) := by
  have HH := hide (head_any w h)
  have hnm : nm c = [] := by unfold nm; rw [hc]; rfl
  have hpl : pl c = 0 := by unfold pl; rw [hc]; rfl
  have h27 : (c == 27 || c == 29) = false := by
    simp only [Bool.or_eq_false_iff, beq_eq_false_iff_ne]
    constructor <;> rintro rfl <;> exact absurd hc (by decide)
  have HK : Hid (∀ w, Calls Tryd.prog 12 #[.int .i64 c] w fun e w' => e = .returned (.bool false) ∧ w' = w) := hide (fun w => by have := known_any c w; rwa [hc] at this)
  have HN : Hid (∀ w, Laid w → Calls Tryd.prog 13 #[.int .i64 c] w fun e w' => e = .returned (S []) ∧ w' = w) := hide (fun w h => by have := name_any c w h; rwa [hnm] at this)
  have HP : Hid (∀ w, Laid w → Calls Tryd.prog 8 #[.int .i64 c] w fun e w' => e = .returned (.int .i32 0) ∧ w' = w) := hide (fun w h => by have := pool_any c w h; rwa [hpl] at this)
  have HE : Hid (∀ w, Calls Tryd.prog 14 #[.int .i64 c] w fun e w' => e = .returned (.bool false) ∧ w' = w) := hide (fun w => by have := ends_any c w; rwa [h27] at this)
  clear hnm hpl h27
  have hlt : decide (c < 1) = true ∨ (decide (c < 1) = false ∧ decide (32 < c) = true) := by
    by_cases h1 : c < 1
    · exact .inl (decide_eq_true h1)
    · refine .inr ⟨decide_eq_false h1, ?_⟩
      by_cases h2 : 32 < c
      · exact decide_eq_true h2
      · have : kn c = true := by simp only [kn, Bool.and_eq_true, decide_eq_true_eq]; omega
        rw [hc] at this; cases this
  clear hc
  go_enter Tryd.func5, Tryd.ntmps5
  rcases hlt with k1 | ⟨k1, k2⟩
  all_goals
    go_wp2_with fail
    refine HH.out.mono ?_
    rintro e w1 ⟨rfl, hb1⟩
    have HL1 := hide (h.below hb1 (Nat.le_refl _))
    have HB1 := hide hb1
    clear HH h hb1
    go_wp2_with (first | (go_at_call 12; refine (HK.out _).mono ?_; rintro e w' ⟨rfl, hw'⟩; subst hw') | (go_at_call 13; refine (HN.out _ HL1.out).mono ?_; rintro e w' ⟨rfl, hw'⟩; subst hw') | (go_at_call 8; refine (HP.out _ HL1.out).mono ?_; rintro e w' ⟨rfl, hw'⟩; subst hw') | (go_at_call 14; refine (HE.out _).mono ?_; rintro e w' ⟨rfl, hw'⟩; subst hw'))
    go_ret
    exact ⟨rfl, HB1.out⟩

theorem pools_at : ∀ i : Fin 32, (shapes.getD (i.val + 1) ([], 0)).2 = (if poolsL[i.val]'i.isLt == 46 then 0 else ((poolsL[i.val]'i.isLt).toNat : Int)) := by decide
theorem names_once : ∀ m n : Fin 33, (shapes.getD m.val ([], 0)).1 = (shapes.getD n.val ([], 0)).1 → m = n := by decide +kernel
theorem nm_once {m n : Nat} (h1 : 1 ≤ m) (h2 : m ≤ 32) (h3 : 1 ≤ n) (h4 : n ≤ 32) (h : nm m = nm n) : m = n := by
  unfold nm at h
  rw [if_pos (kn_nat h1 h2), if_pos (kn_nat h3 h4), Int.toNat_natCast, Int.toNat_natCast] at h
  have := names_once ⟨m, by omega⟩ ⟨n, by omega⟩ h
  simpa using this
theorem fnd_nm {c : Nat} {v : Value} (h1 : 1 ≤ c) (h2 : c ≤ 32) (h : fnd (nm c) v) : v = .tuple #[.int .i64 c, .int .i64 0] := by
  rcases h with ⟨n, a1, a2, a3, _, rfl⟩ | ⟨a1, _⟩
  · rw [nm_once a1 a2 h1 h2 a3]
  · exact absurd rfl (a1 c h1 h2)
theorem pl_at {c : Nat} (h1 : 1 ≤ c) (h2 : c ≤ 32) (Q : List UInt8) (hQ : Q = poolsL) (hq : c - 1 < Q.length) : pl c = (if Q[c - 1]'hq == 46 then 0 else ((Q[c - 1]'hq).toNat : Int)) := by
  subst hQ
  unfold pl
  rw [if_pos (kn_nat h1 h2), Int.toNat_natCast]
  have := pools_at ⟨c - 1, by omega⟩
  rw [show c - 1 + 1 = c by omega] at this
  exact this

set_option maxRecDepth 100000 in
set_option maxHeartbeats 8000000 in
theorem codes_in (c : Nat) (h1 : 1 ≤ c) (h2 : c ≤ 32) (w : World) (h : Laid w) : Calls Tryd.prog 5 #[.int .i64 c] w (Gives w (.bool true)) := by
  have HH := hide (head_any w h)
  obtain ⟨Q, hQ⟩ : ∃ Q, Q = poolsL := ⟨_, rfl⟩
  have hql : Q.length = 32 := by rw [hQ]; rfl
  have HQ : Hid (∀ w, Calls Tryd.prog 15 #[] w fun e w' => e = .returned (S Q) ∧ w' = w) := hide (fun w => by rw [hQ]; exact pools_any w)
  obtain ⟨N, hN⟩ : ∃ N, N = nm c := ⟨_, rfl⟩
  have HPL : Hid (∀ hq : c - 1 < Q.length, pl c = (if Q[c - 1]'hq == 46 then 0 else ((Q[c - 1]'hq).toNat : Int))) := hide (fun hq => pl_at h1 h2 Q hQ hq)
  obtain ⟨p, hp⟩ : ∃ p, p = pl c := ⟨_, rfl⟩
  rw [← hp] at HPL
  have HK : Hid (∀ w, Calls Tryd.prog 12 #[.int .i64 c] w fun e w' => e = .returned (.bool true) ∧ w' = w) := hide (fun w => by have := known_any c w; rwa [kn_nat h1 h2] at this)
  have HN : Hid (∀ w, Laid w → Calls Tryd.prog 13 #[.int .i64 c] w fun e w' => e = .returned (S N) ∧ w' = w) := hide (fun w h => by rw [hN]; exact name_any c w h)
  have HP : Hid (∀ w, Laid w → Calls Tryd.prog 8 #[.int .i64 c] w fun e w' => e = .returned (.int .i32 p) ∧ w' = w) := hide (fun w h => by rw [hp]; exact pool_any c w h)
  have HE : Hid (∀ w, Calls Tryd.prog 14 #[.int .i64 c] w fun e w' => e = .returned (.bool ((c : Int) == 27 || (c : Int) == 29)) ∧ w' = w) := hide (fun w => ends_any c w)
  have HF : Hid (∀ w, Laid w → Calls Tryd.prog 10 #[S N] w fun e w' => e = .returned (.tuple #[.int .i64 c, .int .i64 0]) ∧ w' = w) := hide (fun w h => by
    refine (find_any N w h).mono ?_
    rintro e w' ⟨⟨v, rfl, hf⟩, hw⟩
    rw [hN] at hf
    rw [fnd_nm h1 h2 hf]
    exact ⟨rfl, hw⟩)
  have HNA : Hid (namesV[c - 1]? = some (S N)) := hide (by have := nm_at (c - 1) (by omega); rw [show c - 1 + 1 = c by omega] at this; rw [hN]; exact this)
  clear hQ hN hp
  have k1 : decide ((c : Int) < 1) = false := decide_eq_false (by omega)
  have k2 : decide (32 < (c : Int)) = false := decide_eq_false (by omega)
  have k3 : 1 ≤ (c : Int) ∧ (c : Int) - 1 < (Q.length : Int) := by omega
  have k4 : c - 1 < Q.length := by omega
  go_enter Tryd.func5, Tryd.ntmps5
  go_wp2_with fail
  refine HH.out.mono ?_
  rintro e w1 ⟨rfl, hb1⟩
  have HL1 := hide (h.below hb1 (Nat.le_refl _))
  have HB1 := hide hb1
  clear HH h hb1
  go_wp2_with fail
  refine (HQ.out _).mono ?_
  rintro e w' ⟨rfl, hw'⟩
  subst w'
  have HPL2 := hide (HPL.out k4)
  have HQ46 : Hid ((wrap32 (Q[c - 1]'k4).toNat == 46) = (Q[c - 1]'k4 == 46)) := hide (by
    have hz : wrap32 ((Q[c - 1]'k4).toNat : Int) = ((Q[c - 1]'k4).toNat : Int) := by have := (Q[c - 1]'k4).toNat_lt; unfold wrap32; omega
    rw [hz, Bool.eq_iff_iff, beq_iff_eq, beq_iff_eq, ← UInt8.toNat_inj]
    constructor <;> intro hh
    · have : ((Q[c - 1]'k4).toNat : Int) = ((46 : Nat) : Int) := hh
      exact_mod_cast this
    · rw [hh]; rfl)
  clear HPL
  cases hz : (wrap32 (Q[c - 1]'k4).toNat == 46)
  · skip
    have KP : Hid ((p == wrap32 ((Q[c - 1]'k4).toNat : Int)) = true) := hide (by
      have h3 := HQ46.out
      rw [hz] at h3
      have h4 := HPL2.out
      rw [← h3] at h4
      simp only [Bool.false_eq_true, if_false] at h4
      rw [h4]
      have := (Q[c - 1]'k4).toNat_lt; unfold wrap32; simp; omega)
    clear HQ46 HPL2
    go_wp2_with fail
    have HNM := hide (names_any w1 w1.heap.size rfl)
    refine HNM.out.mono ?_
    rintro e w3 ⟨rfl, hb3, hblk, hlt3⟩
    have HB3 := hide (HB1.out.trans (hb3.mono HB1.out.size))
    have HL3 := hide (HL1.out.below hb3 (Nat.le_refl _))
    have hc3 : w3.cell? ⟨w1.heap.size, c - 1, none⟩ = some (S N) := by rw [hblk.cell]; exact HNA.out
    have k5 : 1 ≤ (c : Int) ∧ (c : Int) - 1 < 32 := by omega
    clear HNM hb3 hblk
    have HNM4 := hide (names_any w3 w3.heap.size rfl)
    go_wp2_with (first | (go_at_call 10; refine (HF.out _ HL3.out).mono ?_; rintro e w' ⟨rfl, hw'⟩; subst w') | (go_at_call 12; refine (HK.out _).mono ?_; rintro e w' ⟨rfl, hw'⟩; subst w') | (go_at_call 13; refine (HN.out _ HL3.out).mono ?_; rintro e w' ⟨rfl, hw'⟩; subst w'))
    refine HNM4.out.mono ?_
    rintro e w4 ⟨rfl, hb4, hblk4, _⟩
    have HB4 := hide (HB3.out.trans (hb4.mono HB3.out.size))
    have HL4 := hide (HL3.out.below hb4 (Nat.le_refl _))
    have hc4 : w4.cell? ⟨w3.heap.size, c - 1, none⟩ = some (S N) := by rw [hblk4.cell]; exact HNA.out
    clear HNM4 hb4 hblk4
    have k6 := KP.out
    rcases (show c = 27 ∨ c = 29 ∨ (c ≠ 27 ∧ c ≠ 29) by omega) with rfl | rfl | ⟨n1, n2⟩
    · have HE1 : Hid (∀ w, Calls Tryd.prog 14 #[.int .i64 (27 : Nat)] w fun e w' => e = .returned (.bool true) ∧ w' = w) := hide (HE.out)
      clear HE
      go_wp2_with (first | (go_at_call 8; refine (HP.out _ HL4.out).mono ?_; rintro e w' ⟨rfl, hw'⟩; subst w') | (go_at_call 14; refine (HE1.out _).mono ?_; rintro e w' ⟨rfl, hw'⟩; subst w'))
      go_ret
      exact ⟨rfl, HB4.out⟩
    · have HE1 : Hid (∀ w, Calls Tryd.prog 14 #[.int .i64 (29 : Nat)] w fun e w' => e = .returned (.bool true) ∧ w' = w) := hide (HE.out)
      clear HE
      go_wp2_with (first | (go_at_call 8; refine (HP.out _ HL4.out).mono ?_; rintro e w' ⟨rfl, hw'⟩; subst w') | (go_at_call 14; refine (HE1.out _).mono ?_; rintro e w' ⟨rfl, hw'⟩; subst w'))
      go_ret
      exact ⟨rfl, HB4.out⟩
    · have n3 : ((c : Int) == 27) = false := by simp; omega
      have n4 : ((c : Int) == 29) = false := by simp; omega
      have HE1 : Hid (∀ w, Calls Tryd.prog 14 #[.int .i64 c] w fun e w' => e = .returned (.bool false) ∧ w' = w) := hide (by have := HE.out; rw [n3, n4] at this; exact this)
      clear HE n1 n2
      go_wp2_with (first | (go_at_call 8; refine (HP.out _ HL4.out).mono ?_; rintro e w' ⟨rfl, hw'⟩; subst w') | (go_at_call 14; refine (HE1.out _).mono ?_; rintro e w' ⟨rfl, hw'⟩; subst w'))
      go_ret
      exact ⟨rfl, HB4.out⟩
  · skip
    have KP : Hid ((p == 0) = true) := hide (by
      have h3 := HQ46.out
      rw [hz] at h3
      have h4 := HPL2.out
      rw [← h3] at h4
      simp only [if_true] at h4
      rw [h4]
      simp)
    clear HQ46 HPL2
    go_wp2_with fail
    have HNM := hide (names_any w1 w1.heap.size rfl)
    refine HNM.out.mono ?_
    rintro e w3 ⟨rfl, hb3, hblk, hlt3⟩
    have HB3 := hide (HB1.out.trans (hb3.mono HB1.out.size))
    have HL3 := hide (HL1.out.below hb3 (Nat.le_refl _))
    have hc3 : w3.cell? ⟨w1.heap.size, c - 1, none⟩ = some (S N) := by rw [hblk.cell]; exact HNA.out
    have k5 : 1 ≤ (c : Int) ∧ (c : Int) - 1 < 32 := by omega
    clear HNM hb3 hblk
    have HNM4 := hide (names_any w3 w3.heap.size rfl)
    go_wp2_with (first | (go_at_call 10; refine (HF.out _ HL3.out).mono ?_; rintro e w' ⟨rfl, hw'⟩; subst w') | (go_at_call 12; refine (HK.out _).mono ?_; rintro e w' ⟨rfl, hw'⟩; subst w') | (go_at_call 13; refine (HN.out _ HL3.out).mono ?_; rintro e w' ⟨rfl, hw'⟩; subst w'))
    refine HNM4.out.mono ?_
    rintro e w4 ⟨rfl, hb4, hblk4, _⟩
    have HB4 := hide (HB3.out.trans (hb4.mono HB3.out.size))
    have HL4 := hide (HL3.out.below hb4 (Nat.le_refl _))
    have hc4 : w4.cell? ⟨w3.heap.size, c - 1, none⟩ = some (S N) := by rw [hblk4.cell]; exact HNA.out
    clear HNM4 hb4 hblk4
    have k6 := KP.out
    rcases (show c = 27 ∨ c = 29 ∨ (c ≠ 27 ∧ c ≠ 29) by omega) with rfl | rfl | ⟨n1, n2⟩
    · have HE1 : Hid (∀ w, Calls Tryd.prog 14 #[.int .i64 (27 : Nat)] w fun e w' => e = .returned (.bool true) ∧ w' = w) := hide (HE.out)
      clear HE
      go_wp2_with (first | (go_at_call 8; refine (HP.out _ HL4.out).mono ?_; rintro e w' ⟨rfl, hw'⟩; subst w') | (go_at_call 14; refine (HE1.out _).mono ?_; rintro e w' ⟨rfl, hw'⟩; subst w'))
      go_ret
      exact ⟨rfl, HB4.out⟩
    · have HE1 : Hid (∀ w, Calls Tryd.prog 14 #[.int .i64 (29 : Nat)] w fun e w' => e = .returned (.bool true) ∧ w' = w) := hide (HE.out)
      clear HE
      go_wp2_with (first | (go_at_call 8; refine (HP.out _ HL4.out).mono ?_; rintro e w' ⟨rfl, hw'⟩; subst w') | (go_at_call 14; refine (HE1.out _).mono ?_; rintro e w' ⟨rfl, hw'⟩; subst w'))
      go_ret
      exact ⟨rfl, HB4.out⟩
    · have n3 : ((c : Int) == 27) = false := by simp; omega
      have n4 : ((c : Int) == 29) = false := by simp; omega
      have HE1 : Hid (∀ w, Calls Tryd.prog 14 #[.int .i64 c] w fun e w' => e = .returned (.bool false) ∧ w' = w) := hide (by have := HE.out; rw [n3, n4] at this; exact this)
      clear HE n1 n2
      go_wp2_with (first | (go_at_call 8; refine (HP.out _ HL4.out).mono ?_; rintro e w' ⟨rfl, hw'⟩; subst w') | (go_at_call 14; refine (HE1.out _).mono ?_; rintro e w' ⟨rfl, hw'⟩; subst w'))
      go_ret
      exact ⟨rfl, HB4.out⟩

theorem codes_law (c : Int) (w : World) (h : Laid w) : Calls Tryd.prog 5 #[.int .i64 c] w (Gives w (.bool true)) := by
  cases hk : kn c
  · exact codes_out c hk w h
  · obtain ⟨n, rfl, h1, h2⟩ := kn_cast hk
    exact codes_in n h1 h2 w h
end Go.Proofs.YtfahcpncofjnjaaDoor
