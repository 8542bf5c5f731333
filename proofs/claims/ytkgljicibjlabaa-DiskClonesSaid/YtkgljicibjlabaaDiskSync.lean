/- All made safe: the contract of Disk.Sync while no fall is set; no statement of the seat is proved here. -/
import Derived.Test.YtkgljicibjlabaaDiskRead
namespace Go.Proofs.Ytkgljicibjlabaa
open Go.RowKit Go.Maps

set_option maxRecDepth 100000 in
set_option maxHeartbeats 2000000 in
theorem sync_up (g b N n c : Nat) (cs : List Ch) (A : Option Addr) (room : Int) (F : Fl) (w : World)
    (hg : Blk w g 68 #[.map (some b), .slice A n c, .int .i64 room, .int .i64 (-1), .bool false]) (h : TxtIs w b N F)
    (hs : Rd w (fun k => w.heap.size ≤ k) 3 A n (cs.flatMap Ch.cells)) (hl : cs.length = n) (hn : n ≤ 100000) (hN : N ≤ 100000) (hok : ∀ c ∈ cs, c.ok ∧ c.k ≤ 2) :
    Calls Try.prog 18 #[.pointer (some ⟨g, 0, none⟩)] w
      (fun e w' => e = .returned (.int .i64 0) ∧ Blk w' g 68 #[.map (some w.heap.size), .slice none 0 0, .int .i64 room, .int .i64 (-1), .bool false] ∧
        TxtIs w' w.heap.size (N + n) (cs.foldl chDo F) ∧ Keep (fun k => k = g) w w') := by
  have HD := hide (turn_up g b n c A room w hg)
  have HL := hide (files_any g b N n c cs A room (-1) false F w hg h hs hl hn hN hok)
  have hgl := hg.lt
  clear h hs hl hn hN hok
  go_enter Try.func18, Try.ntmps18
  go_wp2_with fail
  refine HD.out.mono ?_
  rintro e w1 ⟨rfl, rfl⟩
  go_wp2_with fail
  refine HL.out.mono ?_
  rintro e w2 ⟨rfl, ht, hb⟩
  have hk2 := hg.below hb hgl
  have f0 := hk2.frozen 0
  have f1 := hk2.frozen 1
  have p0 : w2.cell? ⟨g, 0, none⟩ = some (.map (some b)) := hk2.cell 0
  have p1 : w2.cell? ⟨g, 1, none⟩ = some (.slice A n c) := hk2.cell 1
  have hk3 := (hk2.set_ 0 (.map (some w1.heap.size))).set_ 1 (.slice none 0 0)
  have ht3 := (ht.of_block (Below.heap_setCell w2 ⟨g, 0, none⟩ (.map (some w1.heap.size)) _ (by simp; omega))).of_block (Below.heap_setCell (w2.setCell ⟨g, 0, none⟩ (.map (some w1.heap.size))) ⟨g, 1, none⟩ (.slice none 0 0) _ (by simp; omega))
  have hk := ((Keep.of_below (F := fun k => k = g) hb (fun k h1 h2 => by omega)).setCell (p := ⟨g, 0, none⟩) (fun _ => rfl) (.map (some w1.heap.size))).setCell (p := ⟨g, 1, none⟩) (fun _ => rfl) (.slice none 0 0)
  have HK := hide hk3
  have HT := hide ht3
  have HKK := hide hk
  clear hk3 ht3 hk HL HD ht hb hg hk2
  go_wp2_with fail
  go_ret
  exact ⟨rfl, HK.out, HT.out, HKK.out⟩
end Go.Proofs.Ytkgljicibjlabaa
