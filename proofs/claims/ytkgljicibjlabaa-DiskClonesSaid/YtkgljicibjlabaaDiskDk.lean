/- The contracts of a disk's functions in the words of a disk as it stands: New, Sync, Read, Crash; no statement of the seat is proved here. -/
import Derived.Test.YtkgljicibjlabaaDiskRen
import Derived.Test.YtkgljicibjlabaaDiskCrash
namespace Go.Proofs.Ytkgljicibjlabaa
open Go.RowKit Go.Maps

theorem new_dk (room : Nat) (hr : room ≤ 4194304) (w : World) :
    Calls Try.prog 12 #[.int .i64 room] w (fun e w' => ∃ g b, e = .returned (.pointer (some ⟨g, 0, none⟩)) ∧ Dk w' w.heap.size g b 0 0 0 none [] room (-1) false (fun _ => none) ∧ Below w.heap.size w w') := by
  refine (dnew_any room hr w).mono ?_
  rintro e w' ⟨rfl, rfl⟩
  refine ⟨_, _, rfl, ⟨?_, ?_, ?_, by simp, Nat.le_refl _, by omega⟩, ((Below.refl _ _).alloc (Nat.le_refl _) _).alloc (by simp) _⟩
  · have := Blk.new (w.alloc (.map #[] 0)) 68 #[.map (some w.heap.size), .slice none 0 0, .int .i64 room, .int .i64 (-1), .bool false]
    rw [World.size_alloc] at this
    exact this
  · exact (TxtIs.made w).of_block (Below.heap_alloc _ _ _ (by simp))
  · simpa using World.ownsRow_nil _ w.heap.size 71 3

set_option maxRecDepth 100000 in
set_option maxHeartbeats 2000000 in
theorem sync_dk (B g b N n c : Nat) (A : Option Addr) (cs : List Ch) (room : Nat) (fall : Int) (F R : Fl) (w : World)
    (h : Dk w B g b N n c A cs room fall false F) (hf : fall ≠ 0) (hf2 : fall ≤ 9223372036854775807) (hn : n ≤ 90000) (hN : N ≤ 100000) (hR : cs.foldl chDo F = R) :
    Calls Try.prog 18 #[.pointer (some ⟨g, 0, none⟩)] w
      (fun e w' => e = .returned (.int .i64 0) ∧ (∃ b', Dk w' B g b' (N + n) 0 0 none [] room (if 0 < fall then fall - 1 else fall) false R ∧ w.heap.size ≤ b') ∧ Keep (fun k => k = g) w w') := by
  have HTU := hide (turn_go g b n c A room fall hf hf2 w h.blk)
  obtain ⟨fall', hfall⟩ : ∃ f : Int, f = if 0 < fall then fall - 1 else fall := ⟨_, rfl⟩
  rw [← hfall] at HTU ⊢
  clear hfall hf hf2
  have HRE := hide hR
  have HH := hide h
  clear hR h
  go_enter Try.func18, Try.ntmps18
  go_wp2_with fail
  refine HTU.out.mono ?_
  rintro e w1 ⟨rfl, hb1, hk1⟩
  have h1 := HH.out.turned hk1 hb1
  have HFI := hide (files_any g b N n c cs A room fall' false F w1 h1.blk h1.txt h1.rd h1.len (by omega) hN h1.ok)
  rw [HRE.out] at HFI
  have H1 := hide h1
  have HK1 := hide hk1
  clear h1 hb1 hk1 HTU HH
  go_wp2_with fail
  refine HFI.out.mono ?_
  rintro e w2 ⟨rfl, ht, hb⟩
  have h2 := H1.out.below hb
  have hk2 := h2.blk
  have f0 := hk2.frozen 0
  have f1 := hk2.frozen 1
  have p0 : w2.cell? ⟨g, 0, none⟩ = some (.map (some b)) := hk2.cell 0
  have p1 : w2.cell? ⟨g, 1, none⟩ = some (.slice A n c) := hk2.cell 1
  have hk3 := (hk2.set_ 0 (.map (some w1.heap.size))).set_ 1 (.slice none 0 0)
  have hne : w1.heap.size ≠ g := by have := H1.out.blk.lt; omega
  have ht3 := (ht.of_block (Below.heap_setCell w2 ⟨g, 0, none⟩ (.map (some w1.heap.size)) _ hne)).of_block (Below.heap_setCell (w2.setCell ⟨g, 0, none⟩ (.map (some w1.heap.size))) ⟨g, 1, none⟩ (.slice none 0 0) _ hne)
  have hk := ((Keep.of_below (F := fun k => k = g) hb (fun k h1 h2 => by omega)).setCell (p := ⟨g, 0, none⟩) (fun _ => rfl) (.map (some w1.heap.size))).setCell (p := ⟨g, 1, none⟩) (fun _ => rfl) (.slice none 0 0)
  have hon : ∀ w : World, w.ownsRow B 71 3 (.slice none 0 0) 0 (([] : List Ch).flatMap Ch.cells) := fun w => by simpa using World.ownsRow_nil w B 71 3
  have hBb : B ≤ w1.heap.size := by have := H1.out.blk.lt; have := H1.out.gB; omega
  have HF := hide (show Dk ((w2.setCell ⟨g, 0, none⟩ (.map (some w1.heap.size))).setCell ⟨g, 1, none⟩ (.slice none 0 0)) B g w1.heap.size (N + n) 0 0 none [] room fall' false R from ⟨hk3, ht3, hon _, by simp, hBb, H1.out.gB⟩)
  have HKK := hide (HK1.out.trans hk)
  clear hk3 ht3 hk ht hb hk2 h2 hon hne HRE HFI
  go_wp2_with fail
  go_ret
  exact ⟨rfl, ⟨_, HF.out, HK1.out.size⟩, HKK.out⟩

theorem read_dk (B g b N n c : Nat) (A : Option Addr) (cs : List Ch) (room : Nat) (fall : Int) (F R : Fl) (k : List UInt8) (hk : short k) (w : World)
    (h : Dk w B g b N n c A cs room fall false F) (hn : n ≤ 100000) (hN : N ≤ 100000) (hR : cs.foldl chDo F = R) :
    Calls Try.prog 15 #[.pointer (some ⟨g, 0, none⟩), S k] w
      (fun e w' => e = .returned (.tuple #[S ((R k).getD []), .int .i64 (if (R k).isSome then 0 else 5)]) ∧ Below w.heap.size w w') := by
  subst hR
  exact read_any g b N n c cs A room fall F k hk w h.blk h.txt h.rd h.len hn hN h.ok

theorem crash_dk (B g b N n c kn kc : Nat) (A KA : Option Addr) (cs : List Ch) (ks : List Bool) (room : Nat) (fall : Int) (dn : Bool) (F R : Fl) (w : World)
    (h : Dk w B g b N n c A cs room fall dn F) (hr : room ≤ 4194304) (hn : n ≤ 100000) (hN : N ≤ 100000) (hR : (kept ks cs).foldl chDo F = R) (hk : Rd w (fun k => w.heap.size ≤ k) 1 KA kn (ks.map .bool)) (hkl : ks.length = kn) :
    Calls Try.prog 14 #[.pointer (some ⟨g, 0, none⟩), .slice KA kn kc] w
      (fun e w' => ∃ g' b', e = .returned (.pointer (some ⟨g', 0, none⟩)) ∧ Dk w' w.heap.size g' b' (N + n) 0 0 none [] room (-1) false R ∧ Below w.heap.size w w') := by
  subst hR
  refine (crash_any g b N n c kn kc room cs A KA ks fall dn F w h.blk h.txt hr h.rd h.len hn hN h.ok hk hkl).mono ?_
  rintro e w' ⟨g', b', rfl, h1, h2, h3, h4, h5⟩
  exact ⟨g', b', rfl, ⟨h1, h2, by simpa using World.ownsRow_nil w' w.heap.size 71 3, by simp, h5, h4⟩, h3⟩
end Go.Proofs.Ytkgljicibjlabaa
