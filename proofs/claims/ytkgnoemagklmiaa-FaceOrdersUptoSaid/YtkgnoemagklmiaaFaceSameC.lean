/- Whether two faces, two methods, two slices of fields or types are the same, walked; no statement of the seat is proved here. -/
import Derived.Test.YtkgnoemagklmiaaFaceFewC
namespace Go.Proofs.Ytkgnoemagklmiaa
open Go.RowKit

theorem eq_of_all {α : Type} {l l' : List α} (hl : l.length = l'.length) (h : ∀ i (hi : i < l.length) (hi' : i < l'.length), l[i] = l'[i]) : l = l' := List.ext_getElem hl h

set_option maxRecDepth 100000 in
set_option maxHeartbeats 1000000 in
theorem equaltys_any (A : Option Addr) (n c : Nat) (l : List Ty) (A' : Option Addr) (n' c' : Nat) (l' : List Ty) (w : World) (h : Rd w (fun k => w.heap.size ≤ k) 2 A n (l.flatMap Ty.cells)) (hl : l.length = n)
    (h' : Rd w (fun k => w.heap.size ≤ k) 2 A' n' (l'.flatMap Ty.cells)) (hl' : l'.length = n') (hm : n ≤ 9223372036854775807) :
    Calls Try.prog 41 #[.slice A n c, .slice A' n' c'] w (Gives w (.bool (decide (l = l')))) := by
  have HL := hide hl
  have HL' := hide hl'
  clear hl hl'
  obtain ⟨B, hB⟩ : ∃ B, B = decide (l = l') := ⟨_, rfl⟩
  rw [← hB]
  have HB := hide hB
  clear hB
  by_cases en : n = n'
  · subst en
    go_enter Try.func41, Try.ntmps41
    go_wp2_with fail
    go_loopw [13] (fun i wr => ∃ k : Nat, k ≤ n ∧ i = .int .i64 k ∧ Below w.heap.size w wr ∧ (∀ i (hi : i < l.length) (hi' : i < l'.length), i < k → l[i] = l'[i])) (fun i _ => n - (intOf i).toNat)
    case atStart => exact ⟨0, Nat.zero_le _, rfl, Below.refl _ _, by omega⟩
    case round =>
      obtain ⟨k, hk, rfl, hbr, hall⟩ := hrel
      have HA := hide hall
      clear hall
      by_cases hlt : k < n
      · obtain ⟨x, o, rfl, _, _, hcell⟩ := Rd.rec_ (size := 2) (fun _ => rfl) (h.below hbr) HL.out k hlt
        obtain ⟨x', o', rfl, _, _, hcell'⟩ := Rd.rec_ (size := 2) (fun _ => rfl) (h'.below hbr) HL'.out k hlt
        have hlk : k < l.length := by have := HL.out; omega
        have hlk' : k < l'.length := by have := HL'.out; omega
        obtain ⟨p, hp⟩ : ∃ p, p = l[k] := ⟨_, rfl⟩
        obtain ⟨p', hp'⟩ : ∃ p', p' = l'[k] := ⟨_, rfl⟩
        rw [← hp] at hcell
        rw [← hp'] at hcell'
        have HP := hide (And.intro hp hp')
        clear hp hp'
        obtain ⟨pn, pa⟩ := p
        obtain ⟨pn', pa'⟩ := p'
        have q0 : wr.cell? ⟨x, o + k * 2, none⟩ = some (S pn) := hcell 0 _ rfl
        have q0' : wr.cell? ⟨x', o' + k * 2, none⟩ = some (S pn') := hcell' 0 _ rfl
        have q1 : wr.cell? ⟨x, o + k * 2 + 1, none⟩ = some (.bool pa) := hcell 1 _ rfl
        have q1' : wr.cell? ⟨x', o' + k * 2 + 1, none⟩ = some (.bool pa') := hcell' 1 _ rfl
        have hki : (k : Int) < (n : Int) := by omega
        clear hcell hcell'
        by_cases e : (⟨pn, pa⟩ : Ty) = ⟨pn', pa'⟩
        · injection e with e0 e1
          subst e0 e1
          go_wp2_with fail
          go_quiet (fail)
          go_wp2_with fail
          go_roundw
          case rel => exact ⟨k + 1, by omega, by go_num, bdrewN hbr _, fun i hi hi' hlt' => by
            rcases Nat.lt_or_ge i k with h2 | h2
            · exact HA.out i hi hi' h2
            · obtain rfl : i = k := by omega
              rw [← HP.out.1, ← HP.out.2]⟩
          case measure => simp [intOf]; omega
        · have HN : Hid (B = false) := hide (by
            rw [HB.out]
            refine decide_eq_false fun hll => e ?_
            subst hll
            exact HP.out.1.trans HP.out.2.symm)
          by_cases e0 : pn = pn'
          · subst e0
            cases pa <;> cases pa'
            · exact absurd rfl e
            · skip
              go_wp2_with fail
              go_quiet (fail)
              go_wp2_with fail
              go_ret
              exact ⟨by rw [HN.out] <;> rfl, bdrewN hbr _⟩
            · skip
              go_wp2_with fail
              go_quiet (fail)
              go_wp2_with fail
              go_ret
              exact ⟨by rw [HN.out] <;> rfl, bdrewN hbr _⟩
            · exact absurd rfl e
          · have d0 : (pn == pn') = false := by simpa using e0
            go_wp2_with fail
            go_quiet (fail)
            go_wp2_with fail
            go_ret
            exact ⟨by rw [HN.out] <;> rfl, bdrewN hbr _⟩
      · have HY : Hid (B = true) := hide (by
          rw [HB.out]
          exact decide_eq_true (eq_of_all (by rw [HL.out, HL'.out]) (fun i hi hi' => HA.out i hi hi' (by have := HL.out; omega))))
        go_wp2_with fail
        go_ret
        exact ⟨by rw [HY.out] <;> rfl, hbr⟩
  · have HN : Hid (B = false) := hide (by
      rw [HB.out]
      refine decide_eq_false fun hll => en ?_
      subst hll
      exact HL.out.symm.trans HL'.out)
    have d : ((n : Int) == (n' : Int)) = false := by simp; omega
    go_enter Try.func41, Try.ntmps41
    go_wp2_with fail
    go_ret
    exact ⟨by rw [HN.out] <;> rfl, Below.refl _ _⟩

set_option maxRecDepth 100000 in
set_option maxHeartbeats 1000000 in
theorem equalvrs_any (A : Option Addr) (n c : Nat) (l : List Vr) (A' : Option Addr) (n' c' : Nat) (l' : List Vr) (w : World) (h : Rd w (fun k => w.heap.size ≤ k) 3 A n (l.flatMap Vr.cells)) (hl : l.length = n)
    (h' : Rd w (fun k => w.heap.size ≤ k) 3 A' n' (l'.flatMap Vr.cells)) (hl' : l'.length = n') (hm : n ≤ 9223372036854775807) :
    Calls Try.prog 33 #[.slice A n c, .slice A' n' c'] w (Gives w (.bool (decide (l = l')))) := by
  have HL := hide hl
  have HL' := hide hl'
  clear hl hl'
  obtain ⟨B, hB⟩ : ∃ B, B = decide (l = l') := ⟨_, rfl⟩
  rw [← hB]
  have HB := hide hB
  clear hB
  by_cases en : n = n'
  · subst en
    go_enter Try.func33, Try.ntmps33
    go_wp2_with fail
    go_loopw [13] (fun i wr => ∃ k : Nat, k ≤ n ∧ i = .int .i64 k ∧ Below w.heap.size w wr ∧ (∀ i (hi : i < l.length) (hi' : i < l'.length), i < k → l[i] = l'[i])) (fun i _ => n - (intOf i).toNat)
    case atStart => exact ⟨0, Nat.zero_le _, rfl, Below.refl _ _, by omega⟩
    case round =>
      obtain ⟨k, hk, rfl, hbr, hall⟩ := hrel
      have HA := hide hall
      clear hall
      by_cases hlt : k < n
      · obtain ⟨x, o, rfl, _, _, hcell⟩ := Rd.rec_ (size := 3) (fun _ => rfl) (h.below hbr) HL.out k hlt
        obtain ⟨x', o', rfl, _, _, hcell'⟩ := Rd.rec_ (size := 3) (fun _ => rfl) (h'.below hbr) HL'.out k hlt
        have hlk : k < l.length := by have := HL.out; omega
        have hlk' : k < l'.length := by have := HL'.out; omega
        obtain ⟨p, hp⟩ : ∃ p, p = l[k] := ⟨_, rfl⟩
        obtain ⟨p', hp'⟩ : ∃ p', p' = l'[k] := ⟨_, rfl⟩
        rw [← hp] at hcell
        rw [← hp'] at hcell'
        have HP := hide (And.intro hp hp')
        clear hp hp'
        obtain ⟨pn, pt, pa⟩ := p
        obtain ⟨pn', pt', pa'⟩ := p'
        have q0 : wr.cell? ⟨x, o + k * 3, none⟩ = some (S pn) := hcell 0 _ rfl
        have q0' : wr.cell? ⟨x', o' + k * 3, none⟩ = some (S pn') := hcell' 0 _ rfl
        have q1 : wr.cell? ⟨x, o + k * 3 + 1, none⟩ = some (S pt) := hcell 1 _ rfl
        have q1' : wr.cell? ⟨x', o' + k * 3 + 1, none⟩ = some (S pt') := hcell' 1 _ rfl
        have q2 : wr.cell? ⟨x, o + k * 3 + 2, none⟩ = some (.bool pa) := hcell 2 _ rfl
        have q2' : wr.cell? ⟨x', o' + k * 3 + 2, none⟩ = some (.bool pa') := hcell' 2 _ rfl
        have hki : (k : Int) < (n : Int) := by omega
        clear hcell hcell'
        by_cases e : (⟨pn, ⟨pt, pa⟩⟩ : Vr) = ⟨pn', ⟨pt', pa'⟩⟩
        · injection e with e0 e1
          injection e1 with e1 e2
          subst e0 e1 e2
          go_wp2_with fail
          go_quiet (fail)
          go_wp2_with fail
          go_roundw
          case rel => exact ⟨k + 1, by omega, by go_num, bdrewN hbr _, fun i hi hi' hlt' => by
            rcases Nat.lt_or_ge i k with h2 | h2
            · exact HA.out i hi hi' h2
            · obtain rfl : i = k := by omega
              rw [← HP.out.1, ← HP.out.2]⟩
          case measure => simp [intOf]; omega
        · have HN : Hid (B = false) := hide (by
            rw [HB.out]
            refine decide_eq_false fun hll => e ?_
            subst hll
            exact HP.out.1.trans HP.out.2.symm)
          by_cases e0 : pn = pn'
          · subst e0
            by_cases e1 : pt = pt'
            · subst e1
              cases pa <;> cases pa'
              · exact absurd rfl e
              · skip
                go_wp2_with fail
                go_quiet (fail)
                go_wp2_with fail
                go_ret
                exact ⟨by rw [HN.out] <;> rfl, bdrewN hbr _⟩
              · skip
                go_wp2_with fail
                go_quiet (fail)
                go_wp2_with fail
                go_ret
                exact ⟨by rw [HN.out] <;> rfl, bdrewN hbr _⟩
              · exact absurd rfl e
            · have d1 : (pt == pt') = false := by simpa using e1
              go_wp2_with fail
              go_quiet (fail)
              go_wp2_with fail
              go_ret
              exact ⟨by rw [HN.out] <;> rfl, bdrewN hbr _⟩
          · have d0 : (pn == pn') = false := by simpa using e0
            go_wp2_with fail
            go_quiet (fail)
            go_wp2_with fail
            go_ret
            exact ⟨by rw [HN.out] <;> rfl, bdrewN hbr _⟩
      · have HY : Hid (B = true) := hide (by
          rw [HB.out]
          exact decide_eq_true (eq_of_all (by rw [HL.out, HL'.out]) (fun i hi hi' => HA.out i hi hi' (by have := HL.out; omega))))
        go_wp2_with fail
        go_ret
        exact ⟨by rw [HY.out] <;> rfl, hbr⟩
  · have HN : Hid (B = false) := hide (by
      rw [HB.out]
      refine decide_eq_false fun hll => en ?_
      subst hll
      exact HL.out.symm.trans HL'.out)
    have d : ((n : Int) == (n' : Int)) = false := by simp; omega
    go_enter Try.func33, Try.ntmps33
    go_wp2_with fail
    go_ret
    exact ⟨by rw [HN.out] <;> rfl, Below.refl _ _⟩

end Go.Proofs.Ytkgnoemagklmiaa
