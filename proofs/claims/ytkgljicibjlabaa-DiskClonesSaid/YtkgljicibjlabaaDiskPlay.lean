/- An act of a disk: what it answers and what is there behind it, by the page; the contract of the law's Play; no statement of the seat is proved here. -/
import Derived.Test.YtkgljicibjlabaaDiskModel
import Derived.Test.YtkgljicibjlabaaDiskFall
namespace Go.Proofs.Ytkgljicibjlabaa
open Go.RowKit Go.Maps

/-- The change that an act makes. -/
def chOf (a : Ac) : Ch := if a.kap ≤ 1 then ⟨0, a.nm, a.tx⟩ else if a.kap = 2 then ⟨1, a.nm, a.to⟩ else ⟨2, a.nm, []⟩
/-- What a disk has: the files that are safe, the changes, the fall, whether it is down. -/
structure St where
  F : Fl
  cs : List Ch
  fall : Int
  dn : Bool
def St.R (s : St) : Fl := s.cs.foldl chDo s.F
def fallS (f : Int) : Int := if 0 < f then f - 1 else f
/-- The answer while there is power. -/
def ans (R : Fl) (free : Int) (a : Ac) : Nat :=
  if a.kap ≤ 1 then (if a.nm = [] ∨ 80 < a.nm.length then 1 else if free + (((R a.nm).getD []).length : Int) < a.tx.length then 7 else 0)
  else if a.kap = 2 then (if a.to = [] ∨ 80 < a.to.length then 1 else if (R a.nm).isSome then 0 else 5)
  else if a.kap = 3 then (if (R a.nm).isSome then 0 else 5) else 0
def St.err (s : St) (free : Int) (a : Ac) : Nat := if a.kap = 5 then 0 else if s.dn = true ∨ s.fall = 0 then 8 else ans s.R free a
def St.nxt (s : St) (free : Int) (a : Ac) : St :=
  if a.kap = 5 then ⟨s.F, s.cs, max a.n 0, s.dn⟩ else if s.dn = true ∨ s.fall = 0 then ⟨s.F, s.cs, s.fall, true⟩
  else if ans s.R free a ≠ 0 then ⟨s.F, s.cs, fallS s.fall, false⟩ else if a.kap = 4 then ⟨s.R, [], fallS s.fall, false⟩ else ⟨s.F, s.cs ++ [chOf a], fallS s.fall, false⟩

/-- Behind an act. -/
def PostA (B g N n c : Nat) (A : Option Addr) (room : Nat) (s : St) (w : World) (w' : World) : Prop :=
  (∃ b' N' n' c' A', Dk w' B g b' N' n' c' A' s.cs room s.fall s.dn s.F ∧ N' + n' ≤ N + n + 1) ∧ Keep (fun k => k = g ∨ (Value.slice A n c).ownBlock = some k) w w'

section
variable {B g b N n c : Nat} {A : Option Addr} {room : Nat} {s : St} {a : Ac} {w : World} {tot : Nat}

theorem stopped (hst : s.dn = true ∨ s.fall = 0) (h5 : a.kap ≠ 5) (free : Int) : s.err free a = 8 ∧ s.nxt free a = ⟨s.F, s.cs, s.fall, true⟩ := by
  unfold St.err St.nxt
  rw [if_neg h5, if_neg h5, if_pos hst, if_pos hst]
  exact ⟨rfl, rfl⟩
theorem going (hst : ¬ (s.dn = true ∨ s.fall = 0)) (h5 : a.kap ≠ 5) (free : Int) : s.err free a = ans s.R free a ∧
    s.nxt free a = if ans s.R free a ≠ 0 then ⟨s.F, s.cs, fallS s.fall, false⟩ else if a.kap = 4 then ⟨s.R, [], fallS s.fall, false⟩ else ⟨s.F, s.cs ++ [chOf a], fallS s.fall, false⟩ := by
  unfold St.err St.nxt
  rw [if_neg h5, if_neg h5, if_neg hst, if_neg hst]
  exact ⟨rfl, rfl⟩
theorem up_of (hst : ¬ (s.dn = true ∨ s.fall = 0)) : s.dn = false ∧ s.fall ≠ 0 := by
  refine ⟨?_, fun h => hst (.inr h)⟩
  cases h : s.dn with
  | false => rfl
  | true => exact absurd (.inl h) hst

theorem act_write (h : Dk w B g b N n c A s.cs room s.fall s.dn s.F) (hf2 : s.fall ≤ 9223372036854775807) (hn : n ≤ 90000) (hN : N ≤ 100000) (hT : Tot s.R tot) (ht : tot ≤ 1000000000000) (hr : room ≤ 4194304)
    (htl : a.tx.length ≤ 1000000) (hk : a.kap ≤ 1) :
    Calls Try.prog 13 #[.pointer (some ⟨g, 0, none⟩), S a.nm, S a.tx] w (fun e w' => e = .returned (.int .i64 (s.err ((room : Int) - tot) a : Nat)) ∧ PostA B g N n c A room (s.nxt ((room : Int) - tot) a) w w') := by
  by_cases hst : s.dn = true ∨ s.fall = 0
  · rw [(stopped hst (by omega) _).1, (stopped hst (by omega) _).2]
    refine (write_stop B g b N n c A s.cs room s.fall s.dn s.F a.nm a.tx w h hst).mono ?_
    rintro e w' ⟨rfl, h1, h2⟩
    exact ⟨rfl, ⟨b, N, n, c, A, h1, by omega⟩, h2.mono fun _ _ h => .inl h⟩
  · rw [(going hst (by omega) _).1, (going hst (by omega) _).2]
    obtain ⟨hd, hf⟩ := up_of hst
    rw [hd] at h
    by_cases h1 : a.nm = [] ∨ 80 < a.nm.length
    · have ha : ans s.R ((room : Int) - tot) a = 1 := by unfold ans; rw [if_pos hk, if_pos h1]
      rw [ha, if_pos (by decide)]
      refine (write_arg B g b N n c A s.cs room s.fall s.F a.nm a.tx w h hf hf2 h1).mono ?_
      rintro e w' ⟨rfl, h1, h2⟩
      exact ⟨rfl, ⟨b, N, n, c, A, h1, by omega⟩, h2.mono fun _ _ h => .inl h⟩
    · have hm1 : a.nm ≠ [] := fun e => h1 (.inl e)
      have hm2 : a.nm.length ≤ 80 := Nat.le_of_not_lt fun e => h1 (.inr e)
      by_cases h7 : (room : Int) - tot + (((s.R a.nm).getD []).length : Int) < a.tx.length
      · have ha : ans s.R ((room : Int) - tot) a = 7 := by unfold ans; rw [if_pos hk, if_neg h1, if_pos h7]
        rw [ha, if_pos (by decide)]
        refine (write_full B g b N n c A s.cs room s.fall s.F s.R tot a.nm a.tx w h hf hf2 hn hN rfl hT ht hr hm1 hm2 h7).mono ?_
        rintro e w' ⟨rfl, h1, h2⟩
        exact ⟨rfl, ⟨b, N, n, c, A, h1, by omega⟩, h2.mono fun _ _ h => .inl h⟩
      · have ha : ans s.R ((room : Int) - tot) a = 0 := by unfold ans; rw [if_pos hk, if_neg h1, if_neg h7]
        rw [ha, if_neg (by simp), if_neg (by omega)]
        refine (write_ok B g b N n c A s.cs room s.fall s.F s.R tot a.nm a.tx w h hf hf2 hn hN rfl hT ht hr hm1 hm2 htl (by omega)).mono ?_
        rintro e w' ⟨rfl, ⟨q, cap, h3⟩, h2⟩
        exact ⟨rfl, ⟨b, N, n + 1, cap, _, by simpa [chOf, hk, fallS] using h3, by omega⟩, h2⟩

theorem act_rename (h : Dk w B g b N n c A s.cs room s.fall s.dn s.F) (hf2 : s.fall ≤ 9223372036854775807) (hn : n ≤ 90000) (hN : N ≤ 100000) (hsn : short a.nm) (hk : a.kap = 2) (free : Int) :
    Calls Try.prog 19 #[.pointer (some ⟨g, 0, none⟩), S a.nm, S a.to] w (fun e w' => e = .returned (.int .i64 (s.err free a : Nat)) ∧ PostA B g N n c A room (s.nxt free a) w w') := by
  by_cases hst : s.dn = true ∨ s.fall = 0
  · rw [(stopped hst (by omega) _).1, (stopped hst (by omega) _).2]
    refine (rename_stop B g b N n c A s.cs room s.fall s.dn s.F a.nm a.to w h hst).mono ?_
    rintro e w' ⟨rfl, h1, h2⟩
    exact ⟨rfl, ⟨b, N, n, c, A, h1, by omega⟩, h2.mono fun _ _ h => .inl h⟩
  · rw [(going hst (by omega) _).1, (going hst (by omega) _).2]
    obtain ⟨hd, hf⟩ := up_of hst
    rw [hd] at h
    have hk1 : ¬ a.kap ≤ 1 := by omega
    by_cases h1 : a.to = [] ∨ 80 < a.to.length
    · have ha : ans s.R free a = 1 := by unfold ans; rw [if_neg hk1, if_pos hk, if_pos h1]
      rw [ha, if_pos (by decide)]
      refine (rename_arg B g b N n c A s.cs room s.fall s.F s.R a.nm a.to w h hf hf2 hn hN rfl hsn h1).mono ?_
      rintro e w' ⟨rfl, h1, h2⟩
      exact ⟨rfl, ⟨b, N, n, c, A, h1, by omega⟩, h2.mono fun _ _ h => .inl h⟩
    · have hm1 : a.to ≠ [] := fun e => h1 (.inl e)
      have hm2 : a.to.length ≤ 80 := Nat.le_of_not_lt fun e => h1 (.inr e)
      cases hR : s.R a.nm with
      | none =>
        have ha : ans s.R free a = 5 := by unfold ans; rw [if_neg hk1, if_pos hk, if_neg h1, hR]; rfl
        rw [ha, if_pos (by decide)]
        refine (rename_none B g b N n c A s.cs room s.fall s.F s.R a.nm a.to w h hf hf2 hn hN rfl hsn hm1 hm2 hR).mono ?_
        rintro e w' ⟨rfl, h1, h2⟩
        exact ⟨rfl, ⟨b, N, n, c, A, h1, by omega⟩, h2.mono fun _ _ h => .inl h⟩
      | some o =>
        have ha : ans s.R free a = 0 := by unfold ans; rw [if_neg hk1, if_pos hk, if_neg h1, hR]; rfl
        rw [ha, if_neg (by simp), if_neg (by omega)]
        refine (rename_ok B g b N n c A s.cs room s.fall s.F s.R a.nm a.to w h hf hf2 hn hN rfl hsn hm1 hm2 (by rw [hR]; rfl)).mono ?_
        rintro e w' ⟨rfl, ⟨q, cap, h3⟩, h2⟩
        exact ⟨rfl, ⟨b, N, n + 1, cap, _, by simpa [chOf, hk, fallS] using h3, by omega⟩, h2⟩

theorem act_remove (h : Dk w B g b N n c A s.cs room s.fall s.dn s.F) (hf2 : s.fall ≤ 9223372036854775807) (hn : n ≤ 90000) (hN : N ≤ 100000) (hsn : short a.nm) (hk : a.kap = 3) (free : Int) :
    Calls Try.prog 16 #[.pointer (some ⟨g, 0, none⟩), S a.nm] w (fun e w' => e = .returned (.int .i64 (s.err free a : Nat)) ∧ PostA B g N n c A room (s.nxt free a) w w') := by
  by_cases hst : s.dn = true ∨ s.fall = 0
  · rw [(stopped hst (by omega) _).1, (stopped hst (by omega) _).2]
    refine (remove_stop B g b N n c A s.cs room s.fall s.dn s.F a.nm w h hst).mono ?_
    rintro e w' ⟨rfl, h1, h2⟩
    exact ⟨rfl, ⟨b, N, n, c, A, h1, by omega⟩, h2.mono fun _ _ h => .inl h⟩
  · rw [(going hst (by omega) _).1, (going hst (by omega) _).2]
    obtain ⟨hd, hf⟩ := up_of hst
    rw [hd] at h
    have hk1 : ¬ a.kap ≤ 1 := by omega
    have hk2 : ¬ a.kap = 2 := by omega
    cases hR : s.R a.nm with
    | none =>
      have ha : ans s.R free a = 5 := by unfold ans; rw [if_neg hk1, if_neg hk2, if_pos hk, hR]; rfl
      rw [ha, if_pos (by decide)]
      refine (remove_none B g b N n c A s.cs room s.fall s.F s.R a.nm w h hf hf2 hn hN rfl hsn hR).mono ?_
      rintro e w' ⟨rfl, h1, h2⟩
      exact ⟨rfl, ⟨b, N, n, c, A, h1, by omega⟩, h2.mono fun _ _ h => .inl h⟩
    | some o =>
      have ha : ans s.R free a = 0 := by unfold ans; rw [if_neg hk1, if_neg hk2, if_pos hk, hR]; rfl
      rw [ha, if_neg (by simp), if_neg (by omega)]
      refine (remove_ok B g b N n c A s.cs room s.fall s.F s.R a.nm w h hf hf2 hn hN rfl hsn (by rw [hR]; rfl)).mono ?_
      rintro e w' ⟨rfl, ⟨q, cap, h3⟩, h2⟩
      exact ⟨rfl, ⟨b, N, n + 1, cap, _, by simpa [chOf, hk, fallS] using h3, by omega⟩, h2⟩

theorem act_sync (h : Dk w B g b N n c A s.cs room s.fall s.dn s.F) (hf2 : s.fall ≤ 9223372036854775807) (hn : n ≤ 90000) (hN : N ≤ 100000) (hk : a.kap = 4) (free : Int) :
    Calls Try.prog 18 #[.pointer (some ⟨g, 0, none⟩)] w (fun e w' => e = .returned (.int .i64 (s.err free a : Nat)) ∧ PostA B g N n c A room (s.nxt free a) w w') := by
  by_cases hst : s.dn = true ∨ s.fall = 0
  · rw [(stopped hst (by omega) _).1, (stopped hst (by omega) _).2]
    refine (sync_stop B g b N n c A s.cs room s.fall s.dn s.F w h hst).mono ?_
    rintro e w' ⟨rfl, h1, h2⟩
    exact ⟨rfl, ⟨b, N, n, c, A, h1, by omega⟩, h2.mono fun _ _ h => .inl h⟩
  · rw [(going hst (by omega) _).1, (going hst (by omega) _).2]
    obtain ⟨hd, hf⟩ := up_of hst
    rw [hd] at h
    have ha : ans s.R free a = 0 := by unfold ans; rw [if_neg (by omega), if_neg (by omega), if_neg (by omega)]
    rw [ha, if_neg (by simp), if_pos hk]
    refine (sync_dk B g b N n c A s.cs room s.fall s.F s.R w h hf hf2 hn hN rfl).mono ?_
    rintro e w' ⟨rfl, ⟨b', h3, _⟩, h2⟩
    exact ⟨rfl, ⟨b', N + n, 0, 0, none, h3, by omega⟩, h2.mono fun _ _ h => .inl h⟩

theorem act_fall (h : Dk w B g b N n c A s.cs room s.fall s.dn s.F) (hk : a.kap = 5) (free : Int) :
    s.err free a = 0 ∧ Calls Try.prog 21 #[.pointer (some ⟨g, 0, none⟩), .int .i64 a.n] w (fun e w' => e = .returned (.tuple #[]) ∧ PostA B g N n c A room (s.nxt free a) w w') := by
  refine ⟨by unfold St.err; rw [if_pos hk], ?_⟩
  rw [show s.nxt free a = ⟨s.F, s.cs, max a.n 0, s.dn⟩ by unfold St.nxt; rw [if_pos hk]]
  refine (fall_dk B g b N n c A s.cs room s.fall s.dn s.F a.n w h).mono ?_
  rintro e w' ⟨rfl, h1, h2⟩
  exact ⟨rfl, ⟨b, N, n, c, A, h1, by omega⟩, h2.mono fun _ _ h => .inl h⟩
end

set_option maxRecDepth 100000 in
set_option maxHeartbeats 2000000 in
theorem play_any (B g b N n c : Nat) (A : Option Addr) (room : Nat) (s : St) (a : Ac) (tot : Nat) (w : World)
    (h : Dk w B g b N n c A s.cs room s.fall s.dn s.F) (ha : a.ok) (hf2 : s.fall ≤ 9223372036854775807) (hn : n ≤ 90000) (hN : N ≤ 100000) (hT : Tot s.R tot) (ht : tot ≤ 1000000000000) (hr : room ≤ 4194304) (htl : a.tx.length ≤ 1000000) :
    Calls Try.prog 25 #[.pointer (some ⟨g, 0, none⟩), a.val] w (fun e w' => e = .returned (.int .i64 (s.err ((room : Int) - tot) a : Nat)) ∧ PostA B g N n c A room (s.nxt ((room : Int) - tot) a) w w') := by
  have hb1 := (Below.refl w.heap.size w).alloc (Nat.le_refl _) (.cells #[.int .i64 a.k, .int .i64 a.n, S a.nm, S a.to, S a.tx] 49)
  have h1 := h.below hb1
  have hkb := Keep.of_below (F := fun k => k = g ∨ (Value.slice A n c).ownBlock = some k) hb1 (fun k h1 h2 => by omega)
  have hkp := kap_wrap a.k
  obtain ⟨κ, hκ⟩ : ∃ κ : Nat, κ = (a.k % 18446744073709551616 % 6).toNat := ⟨_, rfl⟩
  have hκ6 : κ < 6 := by omega
  have hkk : a.kap = κ := by unfold Ac.kap; exact hκ.symm
  rw [← hκ] at hkp
  clear hκ
  obtain ⟨E, hE⟩ : ∃ E, E = s.err ((room : Int) - tot) a := ⟨_, rfl⟩
  obtain ⟨T, hTT⟩ : ∃ T, T = s.nxt ((room : Int) - tot) a := ⟨_, rfl⟩
  have HW := hide (fun hk => act_write h1 hf2 hn hN hT ht hr htl hk)
  have HRN := hide (fun hk => act_rename h1 hf2 hn hN ha.2.2.1 hk ((room : Int) - tot))
  have HRM := hide (fun hk => act_remove h1 hf2 hn hN ha.2.2.1 hk ((room : Int) - tot))
  have HSY := hide (fun hk => act_sync (a := a) h1 hf2 hn hN hk ((room : Int) - tot))
  have HFA := hide (fun hk => act_fall (a := a) h1 hk ((room : Int) - tot))
  rw [← hE, ← hTT] at HW HRN HRM HSY HFA
  rw [← hE, ← hTT]
  have HKB := hide hkb
  clear hE hTT h h1 hb1 hkb hT
  obtain ⟨k, nn, nm, to, tx⟩ := a
  have fin : ∀ w', PostA B g N n c A room T (w.alloc (.cells #[.int .i64 k, .int .i64 nn, S nm, S to, S tx] 49)) w' → PostA B g N n c A room T w w' := fun w' h => ⟨h.1, HKB.out.trans h.2⟩
  have FIN := hide fin
  clear fin HKB
  obtain rfl | rfl | rfl | rfl | rfl | rfl : κ = 0 ∨ κ = 1 ∨ κ = 2 ∨ κ = 3 ∨ κ = 4 ∨ κ = 5 := by omega
  · have hkp : wrap64 ((IntKind.u64.wrap k).tmod 6) = 0 := hkp
    have HC := hide (HW.out (by omega))
    clear HW HRN HRM HSY HFA hkk
    go_enter Try.func25, Try.ntmps25
    go_wp2_with fail
    refine HC.out.mono ?_
    rintro e w' ⟨rfl, hp⟩
    have HP := hide (FIN.out _ hp)
    clear hp
    go_wp2_with fail
    go_ret
    exact ⟨rfl, HP.out⟩
  · have hkp : wrap64 ((IntKind.u64.wrap k).tmod 6) = 1 := hkp
    have HC := hide (HW.out (by omega))
    clear HW HRN HRM HSY HFA hkk
    go_enter Try.func25, Try.ntmps25
    go_wp2_with fail
    refine HC.out.mono ?_
    rintro e w' ⟨rfl, hp⟩
    have HP := hide (FIN.out _ hp)
    clear hp
    go_wp2_with fail
    go_ret
    exact ⟨rfl, HP.out⟩
  · have hkp : wrap64 ((IntKind.u64.wrap k).tmod 6) = 2 := hkp
    have HC := hide (HRN.out (by omega))
    clear HW HRN HRM HSY HFA hkk
    go_enter Try.func25, Try.ntmps25
    go_wp2_with fail
    refine HC.out.mono ?_
    rintro e w' ⟨rfl, hp⟩
    have HP := hide (FIN.out _ hp)
    clear hp
    go_wp2_with fail
    go_ret
    exact ⟨rfl, HP.out⟩
  · have hkp : wrap64 ((IntKind.u64.wrap k).tmod 6) = 3 := hkp
    have HC := hide (HRM.out (by omega))
    clear HW HRN HRM HSY HFA hkk
    go_enter Try.func25, Try.ntmps25
    go_wp2_with fail
    refine HC.out.mono ?_
    rintro e w' ⟨rfl, hp⟩
    have HP := hide (FIN.out _ hp)
    clear hp
    go_wp2_with fail
    go_ret
    exact ⟨rfl, HP.out⟩
  · have hkp : wrap64 ((IntKind.u64.wrap k).tmod 6) = 4 := hkp
    have HC := hide (HSY.out (by omega))
    clear HW HRN HRM HSY HFA hkk
    go_enter Try.func25, Try.ntmps25
    go_wp2_with fail
    refine HC.out.mono ?_
    rintro e w' ⟨rfl, hp⟩
    have HP := hide (FIN.out _ hp)
    clear hp
    go_wp2_with fail
    go_ret
    exact ⟨rfl, HP.out⟩
  · have hkp : wrap64 ((IntKind.u64.wrap k).tmod 6) = 5 := hkp
    have HC := (HFA.out (by omega)).2
    obtain rfl : E = 0 := (HFA.out (by omega)).1
    clear HW HRN HRM HSY HFA hkk
    go_enter Try.func25, Try.ntmps25
    go_wp2_with fail
    refine HC.mono ?_
    rintro e w' ⟨rfl, hp⟩
    have HP := hide (FIN.out _ hp)
    clear hp
    go_wp2_with fail
    go_ret
    exact ⟨rfl, HP.out⟩
end Go.Proofs.Ytkgljicibjlabaa
