/- A file given another name: the contract of Disk.Rename where it does so; no statement of the seat is proved here. -/
import Derived.Test.YtkgljicibjlabaaDiskWrite
namespace Go.Proofs.Ytkgljicibjlabaa
open Go.RowKit Go.Maps

set_option maxRecDepth 100000 in
set_option maxHeartbeats 2000000 in
theorem rename_ok (B g b N n c : Nat) (A : Option Addr) (cs : List Ch) (room : Nat) (fall : Int) (F R : Fl) (nm to : List UInt8) (w : World)
    (h : Dk w B g b N n c A cs room fall false F) (hf : fall ≠ 0) (hf2 : fall ≤ 9223372036854775807) (hn : n ≤ 90000) (hN : N ≤ 100000) (hR : cs.foldl chDo F = R)
    (hsn : short nm) (hm1 : to ≠ []) (hm2 : to.length ≤ 80) (hB1 : (R nm).isSome = true) :
    Calls Try.prog 19 #[.pointer (some ⟨g, 0, none⟩), S nm, S to] w (fun e w' => e = .returned (.int .i64 0) ∧
      (∃ q cap, Dk w' B g b N (n + 1) cap (some ⟨q, 0, none⟩) (cs ++ [⟨1, nm, to⟩]) room (if 0 < fall then fall - 1 else fall) false F) ∧ Keep (fun k => k = g ∨ (Value.slice A n c).ownBlock = some k) w w') := by
  have HTU := hide (turn_go g b n c A room fall hf hf2 w h.blk)
  obtain ⟨fall', hfall⟩ : ∃ f : Int, f = if 0 < fall then fall - 1 else fall := ⟨_, rfl⟩
  rw [← hfall] at HTU ⊢
  clear hfall hf hf2
  have d0 : (to == []) = false := by simpa using hm1
  have d1 : decide (80 < (to.length : Int)) = false := by simp; omega
  have hst : short to := by unfold short; omega
  have hkn := key_S hsn
  have HRE := hide hR
  have HH := hide h
  clear hR h hm1
  go_enter Try.func19, Try.ntmps19
  go_wp2_with fail
  refine HTU.out.mono ?_
  rintro e w1 ⟨rfl, hb1, hk1⟩
  have h1 := HH.out.turned hk1 hb1
  have HFI := hide (files_any g b N n c cs A room fall' false F w1 h1.blk h1.txt h1.rd h1.len (by omega) hN h1.ok)
  rw [HRE.out] at HFI
  have H1 := hide h1
  have HK1 := hide hk1
  clear h1 hb1 hk1 HTU HH
  go_wp2_with fail
  refine HFI.out.mono ?_
  rintro e w3 ⟨rfl, ⟨D, hD, hRd⟩, hb3⟩
  have h3 := H1.out.below hb3
  have HK3 := hide (Keep.of_below (F := fun _ => False) hb3 (fun k h1 h2 => by omega))
  have hB := (hRd.2 nm).1.trans hB1
  obtain ⟨o, ho⟩ := Option.isSome_iff_exists.1 hB1
  have hV : D.atKey (.string nm) (.held (S [])) = .held (S o) := by
    rw [(hRd.2 nm).2 (S []), ho]
    rfl
  have H3 := hide h3
  have c1 : w3.cell? ⟨g, 1, none⟩ = some (.slice A n c) := h3.blk.cell 1
  have hB3 : B ≤ w3.heap.size := by have := h3.blk.lt; have := h3.gB; omega
  clear h3 hRd HFI hb3 ho hB1
  go_wp2_with (first | (at_lookup; refine lookup_held2 _ rfl _ _ 54 rfl 9 9 klaw Try.underlying54 (zero_str _) _ _ D rfl hD _ _ rfl hkn (S o) true hV hB ?_) | (at_builtin; refine app_chg H3.out (by omega) hB3 ⟨1, nm, to⟩ ⟨⟨hsn, hst⟩, Nat.le_succ _⟩ rfl (.tmp 37) (.tmp 41) rfl rfl rfl ?_; intro q cap w5 c5 f5 hfin; have HF := hide hfin; clear hfin))
  go_ret
  have := HF.out
  exact ⟨rfl, ⟨q, cap, this.1⟩, (HK1.out.mono (fun _ _ h => .inl h)).trans ((HK3.out.mono (fun _ _ h => h.elim)).trans this.2.1)⟩
end Go.Proofs.Ytkgljicibjlabaa
