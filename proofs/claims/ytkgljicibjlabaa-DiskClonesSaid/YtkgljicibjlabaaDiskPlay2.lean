/- What an act of a disk leaves, and where its row of changes lies then; no statement of the seat is proved here. -/
import Derived.Test.YtkgljicibjlabaaDiskPlay
namespace Go.Proofs.Ytkgljicibjlabaa
open Go.RowKit Go.Maps

theorem row_at {q n cap q' : Nat} {P : Nat → Prop} (hq : P q) (h : (Value.slice (some ⟨q, 0, none⟩) n cap).ownBlock = some q') : P q' := by
  have e : q = q' := by simpa [Value.ownBlock] using h
  exact e ▸ hq

set_option maxRecDepth 100000 in
set_option maxHeartbeats 2000000 in
theorem write_ok2 (B g b N n c : Nat) (A : Option Addr) (cs : List Ch) (room : Nat) (fall : Int) (F R : Fl) (tot : Nat) (nm t : List UInt8) (w : World)
    (h : Dk w B g b N n c A cs room fall false F) (hf : fall ≠ 0) (hf2 : fall ≤ 9223372036854775807) (hn : n ≤ 90000) (hN : N ≤ 100000) (hR : cs.foldl chDo F = R) (hT : Tot R tot) (ht : tot ≤ 1000000000000) (hr : room ≤ 4194304)
    (hm1 : nm ≠ []) (hm2 : nm.length ≤ 80) (htl : t.length ≤ 1000000) (hfit : (t.length : Int) ≤ room - tot + (((R nm).getD []).length : Int)) :
    Calls Try.prog 13 #[.pointer (some ⟨g, 0, none⟩), S nm, S t] w (fun e w' => e = .returned (.int .i64 0) ∧
      (∃ q cap, Dk w' B g b N (n + 1) cap (some ⟨q, 0, none⟩) (cs ++ [⟨0, nm, t⟩]) room (if 0 < fall then fall - 1 else fall) false F ∧ ((Value.slice A n c).ownBlock = some q ∨ w.heap.size ≤ q)) ∧ Keep (fun k => k = g ∨ (Value.slice A n c).ownBlock = some k) w w') := by
  have HTU := hide (turn_go g b n c A room fall hf hf2 w h.blk)
  obtain ⟨fall', hfall⟩ : ∃ f : Int, f = if 0 < fall then fall - 1 else fall := ⟨_, rfl⟩
  rw [← hfall] at HTU ⊢
  clear hfall hf hf2
  have d0 : (nm == []) = false := by simpa using hm1
  have d1 : decide (80 < (nm.length : Int)) = false := by simp; omega
  have hsn : short nm := by unfold short; omega
  have hst : short t := by unfold short; omega
  have hkn := key_S hsn
  have HRE := hide hR
  have HH := hide h
  clear hR h hm1
  go_enter Try.func13, Try.ntmps13
  go_wp2_with fail
  refine HTU.out.mono ?_
  rintro e w1 ⟨rfl, hb1, hk1⟩
  have h1 := HH.out.turned hk1 hb1
  have HRO := hide (room_any g b N n c cs A room fall' false F R tot w1 h1.blk h1.txt h1.rd h1.len (by omega) hN h1.ok HRE.out hT ht hr)
  have H1 := hide h1
  have HK1 := hide hk1
  clear h1 hb1 hk1 HTU HH
  go_wp2_with fail
  refine HRO.out.mono ?_
  rintro e w2 ⟨rfl, hb2⟩
  have h2 := H1.out.below hb2
  have HFI := hide (files_any g b N n c cs A room fall' false F w2 h2.blk h2.txt h2.rd h2.len (by omega) hN h2.ok)
  rw [HRE.out] at HFI
  have HK2 := hide (Keep.of_below (F := fun _ => False) hb2 (fun k h1 h2 => by omega))
  have H2 := hide h2
  clear h2 hb2 HRO
  go_wp2_with fail
  refine HFI.out.mono ?_
  rintro e w3 ⟨rfl, ⟨D, hD, hRd⟩, hb3⟩
  have h3 := H2.out.below hb3
  have HK3 := hide (HK2.out.trans' (Keep.of_below (F := fun _ => False) hb3 (fun k h1 h2 => by omega)) (fun _ _ h => h))
  obtain ⟨o, ho⟩ : ∃ o, o = (R nm).getD [] := ⟨_, rfl⟩
  have hV : D.atKey (.string nm) (.held (S [])) = .held (S o) := by
    rw [(hRd.2 nm).2 (S []), ho]
    cases R nm <;> rfl
  have d2 : decide ((room : Int) - tot + o.length < t.length) = false := by rw [ho]; simp; omega
  have hx : wrap64 ((room : Int) - tot + o.length) = room - tot + o.length := by
    have := hT.le nm
    rw [← ho] at this
    unfold wrap64
    omega
  have H3 := hide h3
  have c1 : w3.cell? ⟨g, 1, none⟩ = some (.slice A n c) := h3.blk.cell 1
  have hB3 : B ≤ w3.heap.size := by have := h3.blk.lt; have := h3.gB; omega
  clear h3 hRd H2 HK2 HFI hb3 ho
  go_wp2_with (first | (at_lookup; refine lookup_held1 _ rfl _ _ 54 rfl 9 9 klaw Try.underlying54 (zero_str _) _ _ D rfl hD _ _ rfl hkn (S o) hV ?_) | (at_builtin; refine app_chg H3.out (by omega) hB3 ⟨0, nm, t⟩ ⟨⟨hsn, hst⟩, Nat.zero_le _⟩ rfl (.tmp 37) (.tmp 41) rfl rfl rfl ?_; intro q cap w5 c5 f5 hfin; have HF := hide hfin; clear hfin))
  go_ret
  have := HF.out
  exact ⟨rfl, ⟨q, cap, this.1, this.2.2.imp id (fun h => Nat.le_trans (Nat.le_trans HK1.out.size HK3.out.size) h)⟩, (HK1.out.mono (fun _ _ h => .inl h)).trans ((HK3.out.mono (fun _ _ h => h.elim)).trans this.2.1)⟩

set_option maxRecDepth 100000 in
set_option maxHeartbeats 2000000 in
theorem rename_ok2 (B g b N n c : Nat) (A : Option Addr) (cs : List Ch) (room : Nat) (fall : Int) (F R : Fl) (nm to : List UInt8) (w : World)
    (h : Dk w B g b N n c A cs room fall false F) (hf : fall ≠ 0) (hf2 : fall ≤ 9223372036854775807) (hn : n ≤ 90000) (hN : N ≤ 100000) (hR : cs.foldl chDo F = R)
    (hsn : short nm) (hm1 : to ≠ []) (hm2 : to.length ≤ 80) (hB1 : (R nm).isSome = true) :
    Calls Try.prog 19 #[.pointer (some ⟨g, 0, none⟩), S nm, S to] w (fun e w' => e = .returned (.int .i64 0) ∧
      (∃ q cap, Dk w' B g b N (n + 1) cap (some ⟨q, 0, none⟩) (cs ++ [⟨1, nm, to⟩]) room (if 0 < fall then fall - 1 else fall) false F ∧ ((Value.slice A n c).ownBlock = some q ∨ w.heap.size ≤ q)) ∧ Keep (fun k => k = g ∨ (Value.slice A n c).ownBlock = some k) w w') := by
  have HTU := hide (turn_go g b n c A room fall hf hf2 w h.blk)
  obtain ⟨fall', hfall⟩ : ∃ f : Int, f = if 0 < fall then fall - 1 else fall := ⟨_, rfl⟩
  rw [← hfall] at HTU ⊢
  clear hfall hf hf2
  have d0 : (to == []) = false := by simpa using hm1
  have d1 : decide (80 < (to.length : Int)) = false := by simp; omega
  have hst : short to := by unfold short; omega
  have hkn := key_S hsn
  have HRE := hide hR
  have HH := hide h
  clear hR h hm1
  go_enter Try.func19, Try.ntmps19
  go_wp2_with fail
  refine HTU.out.mono ?_
  rintro e w1 ⟨rfl, hb1, hk1⟩
  have h1 := HH.out.turned hk1 hb1
  have HFI := hide (files_any g b N n c cs A room fall' false F w1 h1.blk h1.txt h1.rd h1.len (by omega) hN h1.ok)
  rw [HRE.out] at HFI
  have H1 := hide h1
  have HK1 := hide hk1
  clear h1 hb1 hk1 HTU HH
  go_wp2_with fail
  refine HFI.out.mono ?_
  rintro e w3 ⟨rfl, ⟨D, hD, hRd⟩, hb3⟩
  have h3 := H1.out.below hb3
  have HK3 := hide (Keep.of_below (F := fun _ => False) hb3 (fun k h1 h2 => by omega))
  have hB := (hRd.2 nm).1.trans hB1
  obtain ⟨o, ho⟩ := Option.isSome_iff_exists.1 hB1
  have hV : D.atKey (.string nm) (.held (S [])) = .held (S o) := by
    rw [(hRd.2 nm).2 (S []), ho]
    rfl
  have H3 := hide h3
  have c1 : w3.cell? ⟨g, 1, none⟩ = some (.slice A n c) := h3.blk.cell 1
  have hB3 : B ≤ w3.heap.size := by have := h3.blk.lt; have := h3.gB; omega
  clear h3 hRd HFI hb3 ho hB1
  go_wp2_with (first | (at_lookup; refine lookup_held2 _ rfl _ _ 54 rfl 9 9 klaw Try.underlying54 (zero_str _) _ _ D rfl hD _ _ rfl hkn (S o) true hV hB ?_) | (at_builtin; refine app_chg H3.out (by omega) hB3 ⟨1, nm, to⟩ ⟨⟨hsn, hst⟩, Nat.le_succ _⟩ rfl (.tmp 37) (.tmp 41) rfl rfl rfl ?_; intro q cap w5 c5 f5 hfin; have HF := hide hfin; clear hfin))
  go_ret
  have := HF.out
  exact ⟨rfl, ⟨q, cap, this.1, this.2.2.imp id (fun h => Nat.le_trans (Nat.le_trans HK1.out.size HK3.out.size) h)⟩, (HK1.out.mono (fun _ _ h => .inl h)).trans ((HK3.out.mono (fun _ _ h => h.elim)).trans this.2.1)⟩

set_option maxRecDepth 100000 in
set_option maxHeartbeats 2000000 in
theorem remove_ok2 (B g b N n c : Nat) (A : Option Addr) (cs : List Ch) (room : Nat) (fall : Int) (F : Fl) (R : Fl) (nm : List UInt8) (w : World)
    (h : Dk w B g b N n c A cs room fall false F) (hf : fall ≠ 0) (hf2 : fall ≤ 9223372036854775807) (hn : n ≤ 90000) (hN : N ≤ 100000) (hR : cs.foldl chDo F = R) (hsn : short nm) (hB1 : (R nm).isSome = true) :
    Calls Try.prog 16 #[.pointer (some ⟨g, 0, none⟩), S nm] w (fun e w' => e = .returned (.int .i64 0) ∧
      (∃ q cap, Dk w' B g b N (n + 1) cap (some ⟨q, 0, none⟩) (cs ++ [⟨2, nm, []⟩]) room (if 0 < fall then fall - 1 else fall) false F ∧ ((Value.slice A n c).ownBlock = some q ∨ w.heap.size ≤ q)) ∧ Keep (fun k => k = g ∨ (Value.slice A n c).ownBlock = some k) w w') := by
  have HTU := hide (turn_go g b n c A room fall hf hf2 w h.blk)
  obtain ⟨fall', hfall⟩ : ∃ f : Int, f = if 0 < fall then fall - 1 else fall := ⟨_, rfl⟩
  rw [← hfall] at HTU ⊢
  clear hfall hf hf2
  have hkn := key_S hsn
  have hst : short [] := by simp [short]
  have HRE := hide hR
  clear hR
  have HH := hide h
  clear h
  go_enter Try.func16, Try.ntmps16
  go_wp2_with fail
  refine HTU.out.mono ?_
  rintro e w1 ⟨rfl, hb1, hk1⟩
  have h1 := HH.out.turned hk1 hb1
  have HFI := hide (files_any g b N n c cs A room fall' false F w1 h1.blk h1.txt h1.rd h1.len (by omega) hN h1.ok)
  rw [HRE.out] at HFI
  have H1 := hide h1
  have HK1 := hide hk1
  clear h1 hb1 hk1 HTU HH
  go_wp2_with fail
  refine HFI.out.mono ?_
  rintro e w3 ⟨rfl, ⟨D, hD, hRd⟩, hb3⟩
  have h3 := H1.out.below hb3
  have HK3 := hide (Keep.of_below (F := fun _ => False) hb3 (fun k h1 h2 => by omega))
  have hB := (hRd.2 nm).1
  have hV := (hRd.2 nm).2 (S [])
  obtain ⟨o, ho⟩ := Option.isSome_iff_exists.1 hB1
  rw [ho] at hB hV
  simp only [Option.isSome_some, Option.map_some, Option.getD_some] at hB hV
  have H3 := hide h3
  have c1 : w3.cell? ⟨g, 1, none⟩ = some (.slice A n c) := h3.blk.cell 1
  have hB3 : B ≤ w3.heap.size := by have := h3.blk.lt; have := h3.gB; omega
  clear h3 hRd HFI hb3 ho hB1
  go_wp2_with (first | (at_lookup; refine lookup_held2 _ rfl _ _ 54 rfl 9 9 klaw Try.underlying54 (zero_str _) _ _ D rfl hD _ _ rfl hkn (S o) true hV hB ?_) | (at_builtin; refine app_chg H3.out (by omega) hB3 ⟨2, nm, []⟩ ⟨⟨hsn, hst⟩, Nat.le_refl _⟩ rfl (.tmp 26) (.tmp 29) rfl rfl rfl ?_; intro q cap w5 c5 f5 hfin; have HF := hide hfin; clear hfin))
  go_ret
  have := HF.out
  exact ⟨rfl, ⟨q, cap, this.1, this.2.2.imp id (fun h => Nat.le_trans (Nat.le_trans HK1.out.size HK3.out.size) h)⟩, (HK1.out.mono (fun _ _ h => .inl h)).trans ((HK3.out.mono (fun _ _ h => h.elim)).trans this.2.1)⟩

/-- Behind an act; and where the changes lie. -/
def PostB (B g N n c : Nat) (A : Option Addr) (room : Nat) (s : St) (w : World) (w' : World) : Prop :=
  (∃ b' N' n' c' A', Dk w' B g b' N' n' c' A' s.cs room s.fall s.dn s.F ∧ N' + n' ≤ N + n + 1 ∧ ∀ q, (Value.slice A' n' c').ownBlock = some q → (Value.slice A n c).ownBlock = some q ∨ w.heap.size ≤ q) ∧
    Keep (fun k => k = g ∨ (Value.slice A n c).ownBlock = some k) w w'

section
variable {B g b N n c : Nat} {A : Option Addr} {room : Nat} {s : St} {a : Ac} {w : World} {tot : Nat}

theorem act2_write (h : Dk w B g b N n c A s.cs room s.fall s.dn s.F) (hf2 : s.fall ≤ 9223372036854775807) (hn : n ≤ 90000) (hN : N ≤ 100000) (hT : Tot s.R tot) (ht : tot ≤ 1000000000000) (hr : room ≤ 4194304)
    (htl : a.tx.length ≤ 1000000) (hk : a.kap ≤ 1) :
    Calls Try.prog 13 #[.pointer (some ⟨g, 0, none⟩), S a.nm, S a.tx] w (fun e w' => e = .returned (.int .i64 (s.err ((room : Int) - tot) a : Nat)) ∧ PostB B g N n c A room (s.nxt ((room : Int) - tot) a) w w') := by
  by_cases hst : s.dn = true ∨ s.fall = 0
  · rw [(stopped hst (by omega) _).1, (stopped hst (by omega) _).2]
    refine (write_stop B g b N n c A s.cs room s.fall s.dn s.F a.nm a.tx w h hst).mono ?_
    rintro e w' ⟨rfl, h1, h2⟩
    exact ⟨rfl, ⟨b, N, n, c, A, h1, by omega, fun _ h => .inl h⟩, h2.mono fun _ _ h => .inl h⟩
  · rw [(going hst (by omega) _).1, (going hst (by omega) _).2]
    obtain ⟨hd, hf⟩ := up_of hst
    rw [hd] at h
    by_cases h1 : a.nm = [] ∨ 80 < a.nm.length
    · have ha : ans s.R ((room : Int) - tot) a = 1 := by unfold ans; rw [if_pos hk, if_pos h1]
      rw [ha, if_pos (by decide)]
      refine (write_arg B g b N n c A s.cs room s.fall s.F a.nm a.tx w h hf hf2 h1).mono ?_
      rintro e w' ⟨rfl, h1, h2⟩
      exact ⟨rfl, ⟨b, N, n, c, A, h1, by omega, fun _ h => .inl h⟩, h2.mono fun _ _ h => .inl h⟩
    · have hm1 : a.nm ≠ [] := fun e => h1 (.inl e)
      have hm2 : a.nm.length ≤ 80 := Nat.le_of_not_lt fun e => h1 (.inr e)
      by_cases h7 : (room : Int) - tot + (((s.R a.nm).getD []).length : Int) < a.tx.length
      · have ha : ans s.R ((room : Int) - tot) a = 7 := by unfold ans; rw [if_pos hk, if_neg h1, if_pos h7]
        rw [ha, if_pos (by decide)]
        refine (write_full B g b N n c A s.cs room s.fall s.F s.R tot a.nm a.tx w h hf hf2 hn hN rfl hT ht hr hm1 hm2 h7).mono ?_
        rintro e w' ⟨rfl, h1, h2⟩
        exact ⟨rfl, ⟨b, N, n, c, A, h1, by omega, fun _ h => .inl h⟩, h2.mono fun _ _ h => .inl h⟩
      · have ha : ans s.R ((room : Int) - tot) a = 0 := by unfold ans; rw [if_pos hk, if_neg h1, if_neg h7]
        rw [ha, if_neg (by simp), if_neg (by omega)]
        refine (write_ok2 B g b N n c A s.cs room s.fall s.F s.R tot a.nm a.tx w h hf hf2 hn hN rfl hT ht hr hm1 hm2 htl (by omega)).mono ?_
        rintro e w' ⟨rfl, ⟨q, cap, h3, hq⟩, h2⟩
        exact ⟨rfl, ⟨b, N, n + 1, cap, _, by simpa [chOf, hk, fallS] using h3, by omega, fun _ h => row_at (P := fun q => (Value.slice A n c).ownBlock = some q ∨ w.heap.size ≤ q) hq h⟩, h2⟩

theorem act2_rename (h : Dk w B g b N n c A s.cs room s.fall s.dn s.F) (hf2 : s.fall ≤ 9223372036854775807) (hn : n ≤ 90000) (hN : N ≤ 100000) (hsn : short a.nm) (hk : a.kap = 2) (free : Int) :
    Calls Try.prog 19 #[.pointer (some ⟨g, 0, none⟩), S a.nm, S a.to] w (fun e w' => e = .returned (.int .i64 (s.err free a : Nat)) ∧ PostB B g N n c A room (s.nxt free a) w w') := by
  by_cases hst : s.dn = true ∨ s.fall = 0
  · rw [(stopped hst (by omega) _).1, (stopped hst (by omega) _).2]
    refine (rename_stop B g b N n c A s.cs room s.fall s.dn s.F a.nm a.to w h hst).mono ?_
    rintro e w' ⟨rfl, h1, h2⟩
    exact ⟨rfl, ⟨b, N, n, c, A, h1, by omega, fun _ h => .inl h⟩, h2.mono fun _ _ h => .inl h⟩
  · rw [(going hst (by omega) _).1, (going hst (by omega) _).2]
    obtain ⟨hd, hf⟩ := up_of hst
    rw [hd] at h
    have hk1 : ¬ a.kap ≤ 1 := by omega
    by_cases h1 : a.to = [] ∨ 80 < a.to.length
    · have ha : ans s.R free a = 1 := by unfold ans; rw [if_neg hk1, if_pos hk, if_pos h1]
      rw [ha, if_pos (by decide)]
      refine (rename_arg B g b N n c A s.cs room s.fall s.F s.R a.nm a.to w h hf hf2 hn hN rfl hsn h1).mono ?_
      rintro e w' ⟨rfl, h1, h2⟩
      exact ⟨rfl, ⟨b, N, n, c, A, h1, by omega, fun _ h => .inl h⟩, h2.mono fun _ _ h => .inl h⟩
    · have hm1 : a.to ≠ [] := fun e => h1 (.inl e)
      have hm2 : a.to.length ≤ 80 := Nat.le_of_not_lt fun e => h1 (.inr e)
      cases hR : s.R a.nm with
      | none =>
        have ha : ans s.R free a = 5 := by unfold ans; rw [if_neg hk1, if_pos hk, if_neg h1, hR]; rfl
        rw [ha, if_pos (by decide)]
        refine (rename_none B g b N n c A s.cs room s.fall s.F s.R a.nm a.to w h hf hf2 hn hN rfl hsn hm1 hm2 hR).mono ?_
        rintro e w' ⟨rfl, h1, h2⟩
        exact ⟨rfl, ⟨b, N, n, c, A, h1, by omega, fun _ h => .inl h⟩, h2.mono fun _ _ h => .inl h⟩
      | some o =>
        have ha : ans s.R free a = 0 := by unfold ans; rw [if_neg hk1, if_pos hk, if_neg h1, hR]; rfl
        rw [ha, if_neg (by simp), if_neg (by omega)]
        refine (rename_ok2 B g b N n c A s.cs room s.fall s.F s.R a.nm a.to w h hf hf2 hn hN rfl hsn hm1 hm2 (by rw [hR]; rfl)).mono ?_
        rintro e w' ⟨rfl, ⟨q, cap, h3, hq⟩, h2⟩
        exact ⟨rfl, ⟨b, N, n + 1, cap, _, by simpa [chOf, hk, fallS] using h3, by omega, fun _ h => row_at (P := fun q => (Value.slice A n c).ownBlock = some q ∨ w.heap.size ≤ q) hq h⟩, h2⟩

theorem act2_remove (h : Dk w B g b N n c A s.cs room s.fall s.dn s.F) (hf2 : s.fall ≤ 9223372036854775807) (hn : n ≤ 90000) (hN : N ≤ 100000) (hsn : short a.nm) (hk : a.kap = 3) (free : Int) :
    Calls Try.prog 16 #[.pointer (some ⟨g, 0, none⟩), S a.nm] w (fun e w' => e = .returned (.int .i64 (s.err free a : Nat)) ∧ PostB B g N n c A room (s.nxt free a) w w') := by
  by_cases hst : s.dn = true ∨ s.fall = 0
  · rw [(stopped hst (by omega) _).1, (stopped hst (by omega) _).2]
    refine (remove_stop B g b N n c A s.cs room s.fall s.dn s.F a.nm w h hst).mono ?_
    rintro e w' ⟨rfl, h1, h2⟩
    exact ⟨rfl, ⟨b, N, n, c, A, h1, by omega, fun _ h => .inl h⟩, h2.mono fun _ _ h => .inl h⟩
  · rw [(going hst (by omega) _).1, (going hst (by omega) _).2]
    obtain ⟨hd, hf⟩ := up_of hst
    rw [hd] at h
    have hk1 : ¬ a.kap ≤ 1 := by omega
    have hk2 : ¬ a.kap = 2 := by omega
    cases hR : s.R a.nm with
    | none =>
      have ha : ans s.R free a = 5 := by unfold ans; rw [if_neg hk1, if_neg hk2, if_pos hk, hR]; rfl
      rw [ha, if_pos (by decide)]
      refine (remove_none B g b N n c A s.cs room s.fall s.F s.R a.nm w h hf hf2 hn hN rfl hsn hR).mono ?_
      rintro e w' ⟨rfl, h1, h2⟩
      exact ⟨rfl, ⟨b, N, n, c, A, h1, by omega, fun _ h => .inl h⟩, h2.mono fun _ _ h => .inl h⟩
    | some o =>
      have ha : ans s.R free a = 0 := by unfold ans; rw [if_neg hk1, if_neg hk2, if_pos hk, hR]; rfl
      rw [ha, if_neg (by simp), if_neg (by omega)]
      refine (remove_ok2 B g b N n c A s.cs room s.fall s.F s.R a.nm w h hf hf2 hn hN rfl hsn (by rw [hR]; rfl)).mono ?_
      rintro e w' ⟨rfl, ⟨q, cap, h3, hq⟩, h2⟩
      exact ⟨rfl, ⟨b, N, n + 1, cap, _, by simpa [chOf, hk, fallS] using h3, by omega, fun _ h => row_at (P := fun q => (Value.slice A n c).ownBlock = some q ∨ w.heap.size ≤ q) hq h⟩, h2⟩

theorem act2_sync (h : Dk w B g b N n c A s.cs room s.fall s.dn s.F) (hf2 : s.fall ≤ 9223372036854775807) (hn : n ≤ 90000) (hN : N ≤ 100000) (hk : a.kap = 4) (free : Int) :
    Calls Try.prog 18 #[.pointer (some ⟨g, 0, none⟩)] w (fun e w' => e = .returned (.int .i64 (s.err free a : Nat)) ∧ PostB B g N n c A room (s.nxt free a) w w') := by
  by_cases hst : s.dn = true ∨ s.fall = 0
  · rw [(stopped hst (by omega) _).1, (stopped hst (by omega) _).2]
    refine (sync_stop B g b N n c A s.cs room s.fall s.dn s.F w h hst).mono ?_
    rintro e w' ⟨rfl, h1, h2⟩
    exact ⟨rfl, ⟨b, N, n, c, A, h1, by omega, fun _ h => .inl h⟩, h2.mono fun _ _ h => .inl h⟩
  · rw [(going hst (by omega) _).1, (going hst (by omega) _).2]
    obtain ⟨hd, hf⟩ := up_of hst
    rw [hd] at h
    have ha : ans s.R free a = 0 := by unfold ans; rw [if_neg (by omega), if_neg (by omega), if_neg (by omega)]
    rw [ha, if_neg (by simp), if_pos hk]
    refine (sync_dk B g b N n c A s.cs room s.fall s.F s.R w h hf hf2 hn hN rfl).mono ?_
    rintro e w' ⟨rfl, ⟨b', h3, _⟩, h2⟩
    exact ⟨rfl, ⟨b', N + n, 0, 0, none, h3, by omega, fun _ h => by simp [Value.ownBlock] at h⟩, h2.mono fun _ _ h => .inl h⟩

theorem act2_fall (h : Dk w B g b N n c A s.cs room s.fall s.dn s.F) (hk : a.kap = 5) (free : Int) :
    s.err free a = 0 ∧ Calls Try.prog 21 #[.pointer (some ⟨g, 0, none⟩), .int .i64 a.n] w (fun e w' => e = .returned (.tuple #[]) ∧ PostB B g N n c A room (s.nxt free a) w w') := by
  refine ⟨by unfold St.err; rw [if_pos hk], ?_⟩
  rw [show s.nxt free a = ⟨s.F, s.cs, max a.n 0, s.dn⟩ by unfold St.nxt; rw [if_pos hk]]
  refine (fall_dk B g b N n c A s.cs room s.fall s.dn s.F a.n w h).mono ?_
  rintro e w' ⟨rfl, h1, h2⟩
  exact ⟨rfl, ⟨b, N, n, c, A, h1, by omega, fun _ h => .inl h⟩, h2.mono fun _ _ h => .inl h⟩
end

set_option maxRecDepth 100000 in
set_option maxHeartbeats 2000000 in
theorem play2_any (B g b N n c : Nat) (A : Option Addr) (room : Nat) (s : St) (a : Ac) (tot : Nat) (w : World)
    (h : Dk w B g b N n c A s.cs room s.fall s.dn s.F) (ha : a.ok) (hf2 : s.fall ≤ 9223372036854775807) (hn : n ≤ 90000) (hN : N ≤ 100000) (hT : Tot s.R tot) (ht : tot ≤ 1000000000000) (hr : room ≤ 4194304) (htl : a.tx.length ≤ 1000000) :
    Calls Try.prog 25 #[.pointer (some ⟨g, 0, none⟩), a.val] w (fun e w' => e = .returned (.int .i64 (s.err ((room : Int) - tot) a : Nat)) ∧ PostB B g N n c A room (s.nxt ((room : Int) - tot) a) w w') := by
  have hb1 := (Below.refl w.heap.size w).alloc (Nat.le_refl _) (.cells #[.int .i64 a.k, .int .i64 a.n, S a.nm, S a.to, S a.tx] 49)
  have h1 := h.below hb1
  have hkb := Keep.of_below (F := fun k => k = g ∨ (Value.slice A n c).ownBlock = some k) hb1 (fun k h1 h2 => by omega)
  have hkp := kap_wrap a.k
  obtain ⟨κ, hκ⟩ : ∃ κ : Nat, κ = (a.k % 18446744073709551616 % 6).toNat := ⟨_, rfl⟩
  have hκ6 : κ < 6 := by omega
  have hkk : a.kap = κ := by unfold Ac.kap; exact hκ.symm
  rw [← hκ] at hkp
  clear hκ
  obtain ⟨E, hE⟩ : ∃ E, E = s.err ((room : Int) - tot) a := ⟨_, rfl⟩
  obtain ⟨T, hTT⟩ : ∃ T, T = s.nxt ((room : Int) - tot) a := ⟨_, rfl⟩
  have HW := hide (fun hk => act2_write h1 hf2 hn hN hT ht hr htl hk)
  have HRN := hide (fun hk => act2_rename h1 hf2 hn hN ha.2.2.1 hk ((room : Int) - tot))
  have HRM := hide (fun hk => act2_remove h1 hf2 hn hN ha.2.2.1 hk ((room : Int) - tot))
  have HSY := hide (fun hk => act2_sync (a := a) h1 hf2 hn hN hk ((room : Int) - tot))
  have HFA := hide (fun hk => act2_fall (a := a) h1 hk ((room : Int) - tot))
  rw [← hE, ← hTT] at HW HRN HRM HSY HFA
  rw [← hE, ← hTT]
  have HKB := hide hkb
  clear hE hTT h h1 hb1 hkb hT
  obtain ⟨k, nn, nm, to, tx⟩ := a
  have fin : ∀ w', PostB B g N n c A room T (w.alloc (.cells #[.int .i64 k, .int .i64 nn, S nm, S to, S tx] 49)) w' → PostB B g N n c A room T w w' := fun w' h => ⟨by obtain ⟨b', N', n', c', A', h1, h2, h3⟩ := h.1; exact ⟨b', N', n', c', A', h1, h2, fun q hq => (h3 q hq).imp id (fun h => by simp at h; omega)⟩, HKB.out.trans h.2⟩
  have FIN := hide fin
  clear fin HKB
  obtain rfl | rfl | rfl | rfl | rfl | rfl : κ = 0 ∨ κ = 1 ∨ κ = 2 ∨ κ = 3 ∨ κ = 4 ∨ κ = 5 := by omega
  · have hkp : wrap64 ((IntKind.u64.wrap k).tmod 6) = 0 := hkp
    have HC := hide (HW.out (by omega))
    clear HW HRN HRM HSY HFA hkk
    go_enter Try.func25, Try.ntmps25
    go_wp2_with fail
    refine HC.out.mono ?_
    rintro e w' ⟨rfl, hp⟩
    have HP := hide (FIN.out _ hp)
    clear hp
    go_wp2_with fail
    go_ret
    exact ⟨rfl, HP.out⟩
  · have hkp : wrap64 ((IntKind.u64.wrap k).tmod 6) = 1 := hkp
    have HC := hide (HW.out (by omega))
    clear HW HRN HRM HSY HFA hkk
    go_enter Try.func25, Try.ntmps25
    go_wp2_with fail
    refine HC.out.mono ?_
    rintro e w' ⟨rfl, hp⟩
    have HP := hide (FIN.out _ hp)
    clear hp
    go_wp2_with fail
    go_ret
    exact ⟨rfl, HP.out⟩
  · have hkp : wrap64 ((IntKind.u64.wrap k).tmod 6) = 2 := hkp
    have HC := hide (HRN.out (by omega))
    clear HW HRN HRM HSY HFA hkk
    go_enter Try.func25, Try.ntmps25
    go_wp2_with fail
    refine HC.out.mono ?_
    rintro e w' ⟨rfl, hp⟩
    have HP := hide (FIN.out _ hp)
    clear hp
    go_wp2_with fail
    go_ret
    exact ⟨rfl, HP.out⟩
  · have hkp : wrap64 ((IntKind.u64.wrap k).tmod 6) = 3 := hkp
    have HC := hide (HRM.out (by omega))
    clear HW HRN HRM HSY HFA hkk
    go_enter Try.func25, Try.ntmps25
    go_wp2_with fail
    refine HC.out.mono ?_
    rintro e w' ⟨rfl, hp⟩
    have HP := hide (FIN.out _ hp)
    clear hp
    go_wp2_with fail
    go_ret
    exact ⟨rfl, HP.out⟩
  · have hkp : wrap64 ((IntKind.u64.wrap k).tmod 6) = 4 := hkp
    have HC := hide (HSY.out (by omega))
    clear HW HRN HRM HSY HFA hkk
    go_enter Try.func25, Try.ntmps25
    go_wp2_with fail
    refine HC.out.mono ?_
    rintro e w' ⟨rfl, hp⟩
    have HP := hide (FIN.out _ hp)
    clear hp
    go_wp2_with fail
    go_ret
    exact ⟨rfl, HP.out⟩
  · have hkp : wrap64 ((IntKind.u64.wrap k).tmod 6) = 5 := hkp
    have HC := (HFA.out (by omega)).2
    obtain rfl : E = 0 := (HFA.out (by omega)).1
    clear HW HRN HRM HSY HFA hkk
    go_enter Try.func25, Try.ntmps25
    go_wp2_with fail
    refine HC.mono ?_
    rintro e w' ⟨rfl, hp⟩
    have HP := hide (FIN.out _ hp)
    clear hp
    go_wp2_with fail
    go_ret
    exact ⟨rfl, HP.out⟩
end Go.Proofs.Ytkgljicibjlabaa
