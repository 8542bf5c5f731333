/- What Write, Rename, Remove, Sync answer where they turn nothing; Remove where it does; no statement of the seat is proved here. -/
import Derived.Test.YtkgljicibjlabaaDiskDk
namespace Go.Proofs.Ytkgljicibjlabaa
open Go.RowKit Go.Maps

set_option maxRecDepth 100000 in
set_option maxHeartbeats 2000000 in
theorem write_stop (B g b N n c : Nat) (A : Option Addr) (cs : List Ch) (room : Nat) (fall : Int) (dn : Bool) (F : Fl) (nm t : List UInt8) (w : World)
    (h : Dk w B g b N n c A cs room fall dn F) (hf : dn = true ∨ fall = 0) :
    Calls Try.prog 13 #[.pointer (some ⟨g, 0, none⟩), S nm, S t] w (fun e w' => e = .returned (.int .i64 8) ∧ Dk w' B g b N n c A cs room fall true F ∧ Keep (fun k => k = g) w w') := by
  have HTU := hide (turn_stop g b n c A room fall dn hf w h.blk)
  have HH := hide h
  clear h hf
  go_enter Try.func13, Try.ntmps13
  go_wp2_with fail
  refine HTU.out.mono ?_
  rintro e w1 ⟨rfl, hb1, hk1⟩
  have h1 := HH.out.turned hk1 hb1
  have H1 := hide h1
  have HK1 := hide hk1
  clear h1 hb1 hk1 HTU HH
  go_wp2_with fail
  go_ret
  exact ⟨rfl, H1.out, HK1.out⟩

set_option maxRecDepth 100000 in
set_option maxHeartbeats 2000000 in
theorem rename_stop (B g b N n c : Nat) (A : Option Addr) (cs : List Ch) (room : Nat) (fall : Int) (dn : Bool) (F : Fl) (nm t : List UInt8) (w : World)
    (h : Dk w B g b N n c A cs room fall dn F) (hf : dn = true ∨ fall = 0) :
    Calls Try.prog 19 #[.pointer (some ⟨g, 0, none⟩), S nm, S t] w (fun e w' => e = .returned (.int .i64 8) ∧ Dk w' B g b N n c A cs room fall true F ∧ Keep (fun k => k = g) w w') := by
  have HTU := hide (turn_stop g b n c A room fall dn hf w h.blk)
  have HH := hide h
  clear h hf
  go_enter Try.func19, Try.ntmps19
  go_wp2_with fail
  refine HTU.out.mono ?_
  rintro e w1 ⟨rfl, hb1, hk1⟩
  have h1 := HH.out.turned hk1 hb1
  have H1 := hide h1
  have HK1 := hide hk1
  clear h1 hb1 hk1 HTU HH
  go_wp2_with fail
  go_ret
  exact ⟨rfl, H1.out, HK1.out⟩

set_option maxRecDepth 100000 in
set_option maxHeartbeats 2000000 in
theorem remove_stop (B g b N n c : Nat) (A : Option Addr) (cs : List Ch) (room : Nat) (fall : Int) (dn : Bool) (F : Fl) (nm : List UInt8) (w : World)
    (h : Dk w B g b N n c A cs room fall dn F) (hf : dn = true ∨ fall = 0) :
    Calls Try.prog 16 #[.pointer (some ⟨g, 0, none⟩), S nm] w (fun e w' => e = .returned (.int .i64 8) ∧ Dk w' B g b N n c A cs room fall true F ∧ Keep (fun k => k = g) w w') := by
  have HTU := hide (turn_stop g b n c A room fall dn hf w h.blk)
  have HH := hide h
  clear h hf
  go_enter Try.func16, Try.ntmps16
  go_wp2_with fail
  refine HTU.out.mono ?_
  rintro e w1 ⟨rfl, hb1, hk1⟩
  have h1 := HH.out.turned hk1 hb1
  have H1 := hide h1
  have HK1 := hide hk1
  clear h1 hb1 hk1 HTU HH
  go_wp2_with fail
  go_ret
  exact ⟨rfl, H1.out, HK1.out⟩

set_option maxRecDepth 100000 in
set_option maxHeartbeats 2000000 in
theorem sync_stop (B g b N n c : Nat) (A : Option Addr) (cs : List Ch) (room : Nat) (fall : Int) (dn : Bool) (F : Fl) (w : World)
    (h : Dk w B g b N n c A cs room fall dn F) (hf : dn = true ∨ fall = 0) :
    Calls Try.prog 18 #[.pointer (some ⟨g, 0, none⟩)] w (fun e w' => e = .returned (.int .i64 8) ∧ Dk w' B g b N n c A cs room fall true F ∧ Keep (fun k => k = g) w w') := by
  have HTU := hide (turn_stop g b n c A room fall dn hf w h.blk)
  have HH := hide h
  clear h hf
  go_enter Try.func18, Try.ntmps18
  go_wp2_with fail
  refine HTU.out.mono ?_
  rintro e w1 ⟨rfl, hb1, hk1⟩
  have h1 := HH.out.turned hk1 hb1
  have H1 := hide h1
  have HK1 := hide hk1
  clear h1 hb1 hk1 HTU HH
  go_wp2_with fail
  go_ret
  exact ⟨rfl, H1.out, HK1.out⟩

set_option maxRecDepth 100000 in
set_option maxHeartbeats 2000000 in
theorem write_arg (B g b N n c : Nat) (A : Option Addr) (cs : List Ch) (room : Nat) (fall : Int) (F : Fl) (nm t : List UInt8) (w : World)
    (h : Dk w B g b N n c A cs room fall false F) (hf : fall ≠ 0) (hf2 : fall ≤ 9223372036854775807) (hm : nm = [] ∨ 80 < nm.length) :
    Calls Try.prog 13 #[.pointer (some ⟨g, 0, none⟩), S nm, S t] w (fun e w' => e = .returned (.int .i64 1) ∧
      Dk w' B g b N n c A cs room (if 0 < fall then fall - 1 else fall) false F ∧ Keep (fun k => k = g) w w') := by
  have HTU := hide (turn_go g b n c A room fall hf hf2 w h.blk)
  obtain ⟨fall', hfall⟩ : ∃ f : Int, f = if 0 < fall then fall - 1 else fall := ⟨_, rfl⟩
  rw [← hfall] at HTU ⊢
  clear hfall hf hf2
  have HH := hide h
  clear h
  go_enter Try.func13, Try.ntmps13
  go_wp2_with fail
  refine HTU.out.mono ?_
  rintro e w1 ⟨rfl, hb1, hk1⟩
  have h1 := HH.out.turned hk1 hb1
  have H1 := hide h1
  have HK1 := hide hk1
  clear h1 hb1 hk1 HTU HH
  by_cases he : nm = []
  · have d0 : (nm == []) = true := by simpa using he
    go_wp2_with fail
    go_ret
    exact ⟨rfl, H1.out, HK1.out⟩
  · have d0 : (nm == []) = false := by simpa using he
    have d1 : decide (80 < (nm.length : Int)) = true := by
      rcases hm with h | h
      · exact absurd h he
      · simp; omega
    clear hm
    go_wp2_with fail
    go_ret
    exact ⟨rfl, H1.out, HK1.out⟩

set_option maxRecDepth 100000 in
set_option maxHeartbeats 2000000 in
theorem write_full (B g b N n c : Nat) (A : Option Addr) (cs : List Ch) (room : Nat) (fall : Int) (F : Fl) (R : Fl) (tot : Nat) (nm t : List UInt8) (w : World)
    (h : Dk w B g b N n c A cs room fall false F) (hf : fall ≠ 0) (hf2 : fall ≤ 9223372036854775807) (hn : n ≤ 90000) (hN : N ≤ 100000) (hR : cs.foldl chDo F = R) (hT : Tot R tot) (ht : tot ≤ 1000000000000) (hr : room ≤ 4194304)
    (hm1 : nm ≠ []) (hm2 : nm.length ≤ 80) (hfit : (room : Int) - tot + (((R nm).getD []).length : Int) < t.length) :
    Calls Try.prog 13 #[.pointer (some ⟨g, 0, none⟩), S nm, S t] w (fun e w' => e = .returned (.int .i64 7) ∧
      Dk w' B g b N n c A cs room (if 0 < fall then fall - 1 else fall) false F ∧ Keep (fun k => k = g) w w') := by
  have HTU := hide (turn_go g b n c A room fall hf hf2 w h.blk)
  obtain ⟨fall', hfall⟩ : ∃ f : Int, f = if 0 < fall then fall - 1 else fall := ⟨_, rfl⟩
  rw [← hfall] at HTU ⊢
  clear hfall hf hf2
  have d0 : (nm == []) = false := by simpa using hm1
  have d1 : decide (80 < (nm.length : Int)) = false := by simp; omega
  have hsn : short nm := by unfold short; omega
  have hkn := key_S hsn
  have HRE := hide hR
  clear hR hm1
  have HH := hide h
  clear h
  go_enter Try.func13, Try.ntmps13
  go_wp2_with fail
  refine HTU.out.mono ?_
  rintro e w1 ⟨rfl, hb1, hk1⟩
  have h1 := HH.out.turned hk1 hb1
  have HRO := hide (room_any g b N n c cs A room fall' false F R tot w1 h1.blk h1.txt h1.rd h1.len (by omega) hN h1.ok HRE.out hT ht hr)
  have H1 := hide h1
  have HK1 := hide hk1
  clear h1 hb1 hk1 HTU HH
  go_wp2_with fail
  refine HRO.out.mono ?_
  rintro e w2 ⟨rfl, hb2⟩
  have h2 := H1.out.below hb2
  have HFI := hide (files_any g b N n c cs A room fall' false F w2 h2.blk h2.txt h2.rd h2.len (by omega) hN h2.ok)
  rw [HRE.out] at HFI
  have HK2 := hide (Keep.of_below (F := fun _ => False) hb2 (fun k h1 h2 => by omega))
  have H2 := hide h2
  clear h2 hb2 HRO
  go_wp2_with fail
  refine HFI.out.mono ?_
  rintro e w3 ⟨rfl, ⟨D, hD, hRd⟩, hb3⟩
  have h3 := H2.out.below hb3
  have HK3 := hide (HK2.out.trans' (Keep.of_below (F := fun _ => False) hb3 (fun k h1 h2 => by omega)) (fun _ _ h => h))
  obtain ⟨o, ho⟩ : ∃ o, o = (R nm).getD [] := ⟨_, rfl⟩
  have hV : D.atKey (.string nm) (.held (S [])) = .held (S o) := by
    rw [(hRd.2 nm).2 (S []), ho]
    cases R nm <;> rfl
  have d2 : decide ((room : Int) - tot + o.length < t.length) = true := by rw [ho]; simp; omega
  have hx : wrap64 ((room : Int) - tot + o.length) = room - tot + o.length := by
    have := hT.le nm
    rw [← ho] at this
    unfold wrap64
    omega
  have H3 := hide h3
  clear h3 hRd H2 HK2 HFI hb3 ho
  go_wp2_with (at_lookup; refine lookup_held1 _ rfl _ _ 54 rfl 9 9 klaw Try.underlying54 (zero_str _) _ _ D rfl hD _ _ rfl hkn (S o) hV ?_)
  go_ret
  exact ⟨rfl, H3.out, HK1.out.trans (HK3.out.mono (fun _ _ h => h.elim))⟩

set_option maxRecDepth 100000 in
set_option maxHeartbeats 2000000 in
theorem rename_arg (B g b N n c : Nat) (A : Option Addr) (cs : List Ch) (room : Nat) (fall : Int) (F : Fl) (R : Fl) (nm t : List UInt8) (w : World)
    (h : Dk w B g b N n c A cs room fall false F) (hf : fall ≠ 0) (hf2 : fall ≤ 9223372036854775807) (hn : n ≤ 90000) (hN : N ≤ 100000) (hR : cs.foldl chDo F = R) (hsn : short nm) (hm : t = [] ∨ 80 < t.length) :
    Calls Try.prog 19 #[.pointer (some ⟨g, 0, none⟩), S nm, S t] w (fun e w' => e = .returned (.int .i64 1) ∧
      Dk w' B g b N n c A cs room (if 0 < fall then fall - 1 else fall) false F ∧ Keep (fun k => k = g) w w') := by
  have HTU := hide (turn_go g b n c A room fall hf hf2 w h.blk)
  obtain ⟨fall', hfall⟩ : ∃ f : Int, f = if 0 < fall then fall - 1 else fall := ⟨_, rfl⟩
  rw [← hfall] at HTU ⊢
  clear hfall hf hf2
  have hkn := key_S hsn
  have HRE := hide hR
  clear hR
  have HH := hide h
  clear h
  go_enter Try.func19, Try.ntmps19
  go_wp2_with fail
  refine HTU.out.mono ?_
  rintro e w1 ⟨rfl, hb1, hk1⟩
  have h1 := HH.out.turned hk1 hb1
  have HFI := hide (files_any g b N n c cs A room fall' false F w1 h1.blk h1.txt h1.rd h1.len (by omega) hN h1.ok)
  rw [HRE.out] at HFI
  have H1 := hide h1
  have HK1 := hide hk1
  clear h1 hb1 hk1 HTU HH
  go_wp2_with fail
  refine HFI.out.mono ?_
  rintro e w3 ⟨rfl, ⟨D, hD, hRd⟩, hb3⟩
  have h3 := H1.out.below hb3
  have HK3 := hide (Keep.of_below (F := fun _ => False) hb3 (fun k h1 h2 => by omega))
  have hB := (hRd.2 nm).1
  have hV := (hRd.2 nm).2 (S [])
  obtain ⟨bb, hbb⟩ : ∃ bb, bb = (R nm).isSome := ⟨_, rfl⟩
  obtain ⟨o, ho⟩ : ∃ o, S o = ((R nm).map S).getD (S []) := by
    cases R nm with
    | none => exact ⟨_, rfl⟩
    | some o => exact ⟨o, rfl⟩
  rw [← hbb] at hB
  rw [← ho] at hV
  have H3 := hide h3
  clear h3 hRd HFI hb3 ho hbb
  by_cases he : t = []
  · have d0 : (t == []) = true := by simpa using he
    go_wp2_with (at_lookup; refine lookup_held2 _ rfl _ _ 54 rfl 9 9 klaw Try.underlying54 (zero_str _) _ _ D rfl hD _ _ rfl hkn (S o) bb hV hB ?_)
    go_ret
    exact ⟨rfl, H3.out, HK1.out.trans (HK3.out.mono (fun _ _ h => h.elim))⟩
  · have d0 : (t == []) = false := by simpa using he
    have d1 : decide (80 < (t.length : Int)) = true := by
      rcases hm with h | h
      · exact absurd h he
      · simp; omega
    clear hm
    go_wp2_with (at_lookup; refine lookup_held2 _ rfl _ _ 54 rfl 9 9 klaw Try.underlying54 (zero_str _) _ _ D rfl hD _ _ rfl hkn (S o) bb hV hB ?_)
    go_ret
    exact ⟨rfl, H3.out, HK1.out.trans (HK3.out.mono (fun _ _ h => h.elim))⟩

set_option maxRecDepth 100000 in
set_option maxHeartbeats 2000000 in
theorem rename_none (B g b N n c : Nat) (A : Option Addr) (cs : List Ch) (room : Nat) (fall : Int) (F : Fl) (R : Fl) (nm t : List UInt8) (w : World)
    (h : Dk w B g b N n c A cs room fall false F) (hf : fall ≠ 0) (hf2 : fall ≤ 9223372036854775807) (hn : n ≤ 90000) (hN : N ≤ 100000) (hR : cs.foldl chDo F = R) (hsn : short nm) (hm1 : t ≠ []) (hm2 : t.length ≤ 80) (hB1 : R nm = none) :
    Calls Try.prog 19 #[.pointer (some ⟨g, 0, none⟩), S nm, S t] w (fun e w' => e = .returned (.int .i64 5) ∧
      Dk w' B g b N n c A cs room (if 0 < fall then fall - 1 else fall) false F ∧ Keep (fun k => k = g) w w') := by
  have HTU := hide (turn_go g b n c A room fall hf hf2 w h.blk)
  obtain ⟨fall', hfall⟩ : ∃ f : Int, f = if 0 < fall then fall - 1 else fall := ⟨_, rfl⟩
  rw [← hfall] at HTU ⊢
  clear hfall hf hf2
  have d0 : (t == []) = false := by simpa using hm1
  have d1 : decide (80 < (t.length : Int)) = false := by simp; omega
  have hkn := key_S hsn
  have HRE := hide hR
  clear hR hm1
  have HH := hide h
  clear h
  go_enter Try.func19, Try.ntmps19
  go_wp2_with fail
  refine HTU.out.mono ?_
  rintro e w1 ⟨rfl, hb1, hk1⟩
  have h1 := HH.out.turned hk1 hb1
  have HFI := hide (files_any g b N n c cs A room fall' false F w1 h1.blk h1.txt h1.rd h1.len (by omega) hN h1.ok)
  rw [HRE.out] at HFI
  have H1 := hide h1
  have HK1 := hide hk1
  clear h1 hb1 hk1 HTU HH
  go_wp2_with fail
  refine HFI.out.mono ?_
  rintro e w3 ⟨rfl, ⟨D, hD, hRd⟩, hb3⟩
  have h3 := H1.out.below hb3
  have HK3 := hide (Keep.of_below (F := fun _ => False) hb3 (fun k h1 h2 => by omega))
  have hB := (hRd.2 nm).1
  have hV := (hRd.2 nm).2 (S [])
  rw [hB1] at hB hV
  simp only [Option.isSome_none, Option.map_none, Option.getD_none] at hB hV
  have H3 := hide h3
  clear h3 hRd HFI hb3 hB1
  go_wp2_with (at_lookup; refine lookup_held2 _ rfl _ _ 54 rfl 9 9 klaw Try.underlying54 (zero_str _) _ _ D rfl hD _ _ rfl hkn (S []) false hV hB ?_)
  go_ret
  exact ⟨rfl, H3.out, HK1.out.trans (HK3.out.mono (fun _ _ h => h.elim))⟩

set_option maxRecDepth 100000 in
set_option maxHeartbeats 2000000 in
theorem remove_none (B g b N n c : Nat) (A : Option Addr) (cs : List Ch) (room : Nat) (fall : Int) (F : Fl) (R : Fl) (nm : List UInt8) (w : World)
    (h : Dk w B g b N n c A cs room fall false F) (hf : fall ≠ 0) (hf2 : fall ≤ 9223372036854775807) (hn : n ≤ 90000) (hN : N ≤ 100000) (hR : cs.foldl chDo F = R) (hsn : short nm) (hB1 : R nm = none) :
    Calls Try.prog 16 #[.pointer (some ⟨g, 0, none⟩), S nm] w (fun e w' => e = .returned (.int .i64 5) ∧
      Dk w' B g b N n c A cs room (if 0 < fall then fall - 1 else fall) false F ∧ Keep (fun k => k = g) w w') := by
  have HTU := hide (turn_go g b n c A room fall hf hf2 w h.blk)
  obtain ⟨fall', hfall⟩ : ∃ f : Int, f = if 0 < fall then fall - 1 else fall := ⟨_, rfl⟩
  rw [← hfall] at HTU ⊢
  clear hfall hf hf2
  have hkn := key_S hsn
  have HRE := hide hR
  clear hR
  have HH := hide h
  clear h
  go_enter Try.func16, Try.ntmps16
  go_wp2_with fail
  refine HTU.out.mono ?_
  rintro e w1 ⟨rfl, hb1, hk1⟩
  have h1 := HH.out.turned hk1 hb1
  have HFI := hide (files_any g b N n c cs A room fall' false F w1 h1.blk h1.txt h1.rd h1.len (by omega) hN h1.ok)
  rw [HRE.out] at HFI
  have H1 := hide h1
  have HK1 := hide hk1
  clear h1 hb1 hk1 HTU HH
  go_wp2_with fail
  refine HFI.out.mono ?_
  rintro e w3 ⟨rfl, ⟨D, hD, hRd⟩, hb3⟩
  have h3 := H1.out.below hb3
  have HK3 := hide (Keep.of_below (F := fun _ => False) hb3 (fun k h1 h2 => by omega))
  have hB := (hRd.2 nm).1
  have hV := (hRd.2 nm).2 (S [])
  rw [hB1] at hB hV
  simp only [Option.isSome_none, Option.map_none, Option.getD_none] at hB hV
  have H3 := hide h3
  clear h3 hRd HFI hb3 hB1
  go_wp2_with (at_lookup; refine lookup_held2 _ rfl _ _ 54 rfl 9 9 klaw Try.underlying54 (zero_str _) _ _ D rfl hD _ _ rfl hkn (S []) false hV hB ?_)
  go_ret
  exact ⟨rfl, H3.out, HK1.out.trans (HK3.out.mono (fun _ _ h => h.elim))⟩

set_option maxRecDepth 100000 in
set_option maxHeartbeats 2000000 in
theorem remove_ok (B g b N n c : Nat) (A : Option Addr) (cs : List Ch) (room : Nat) (fall : Int) (F : Fl) (R : Fl) (nm : List UInt8) (w : World)
    (h : Dk w B g b N n c A cs room fall false F) (hf : fall ≠ 0) (hf2 : fall ≤ 9223372036854775807) (hn : n ≤ 90000) (hN : N ≤ 100000) (hR : cs.foldl chDo F = R) (hsn : short nm) (hB1 : (R nm).isSome = true) :
    Calls Try.prog 16 #[.pointer (some ⟨g, 0, none⟩), S nm] w (fun e w' => e = .returned (.int .i64 0) ∧
      (∃ q cap, Dk w' B g b N (n + 1) cap (some ⟨q, 0, none⟩) (cs ++ [⟨2, nm, []⟩]) room (if 0 < fall then fall - 1 else fall) false F) ∧ Keep (fun k => k = g ∨ (Value.slice A n c).ownBlock = some k) w w') := by
  have HTU := hide (turn_go g b n c A room fall hf hf2 w h.blk)
  obtain ⟨fall', hfall⟩ : ∃ f : Int, f = if 0 < fall then fall - 1 else fall := ⟨_, rfl⟩
  rw [← hfall] at HTU ⊢
  clear hfall hf hf2
  have hkn := key_S hsn
  have hst : short [] := by simp [short]
  have HRE := hide hR
  clear hR
  have HH := hide h
  clear h
  go_enter Try.func16, Try.ntmps16
  go_wp2_with fail
  refine HTU.out.mono ?_
  rintro e w1 ⟨rfl, hb1, hk1⟩
  have h1 := HH.out.turned hk1 hb1
  have HFI := hide (files_any g b N n c cs A room fall' false F w1 h1.blk h1.txt h1.rd h1.len (by omega) hN h1.ok)
  rw [HRE.out] at HFI
  have H1 := hide h1
  have HK1 := hide hk1
  clear h1 hb1 hk1 HTU HH
  go_wp2_with fail
  refine HFI.out.mono ?_
  rintro e w3 ⟨rfl, ⟨D, hD, hRd⟩, hb3⟩
  have h3 := H1.out.below hb3
  have HK3 := hide (Keep.of_below (F := fun _ => False) hb3 (fun k h1 h2 => by omega))
  have hB := (hRd.2 nm).1
  have hV := (hRd.2 nm).2 (S [])
  obtain ⟨o, ho⟩ := Option.isSome_iff_exists.1 hB1
  rw [ho] at hB hV
  simp only [Option.isSome_some, Option.map_some, Option.getD_some] at hB hV
  have H3 := hide h3
  have c1 : w3.cell? ⟨g, 1, none⟩ = some (.slice A n c) := h3.blk.cell 1
  have hB3 : B ≤ w3.heap.size := by have := h3.blk.lt; have := h3.gB; omega
  clear h3 hRd HFI hb3 ho hB1
  go_wp2_with (first | (at_lookup; refine lookup_held2 _ rfl _ _ 54 rfl 9 9 klaw Try.underlying54 (zero_str _) _ _ D rfl hD _ _ rfl hkn (S o) true hV hB ?_) | (at_builtin; refine app_chg H3.out (by omega) hB3 ⟨2, nm, []⟩ ⟨⟨hsn, hst⟩, Nat.le_refl _⟩ rfl (.tmp 26) (.tmp 29) rfl rfl rfl ?_; intro q cap w5 c5 f5 hfin; have HF := hide hfin; clear hfin))
  go_ret
  have := HF.out
  exact ⟨rfl, ⟨q, cap, this.1⟩, (HK1.out.mono (fun _ _ h => .inl h)).trans ((HK3.out.mono (fun _ _ h => h.elim)).trans this.2.1)⟩
end Go.Proofs.Ytkgljicibjlabaa
