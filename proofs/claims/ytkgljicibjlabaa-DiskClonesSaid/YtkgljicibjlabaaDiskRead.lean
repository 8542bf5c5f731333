/- A file's text read: the contracts of Disk.Down and Disk.Read while there is power; no statement of the seat is proved here. -/
import Derived.Test.YtkgljicibjlabaaDiskNew
namespace Go.Proofs.Ytkgljicibjlabaa
open Go.RowKit Go.Maps

set_option maxRecDepth 100000 in
theorem down_no (g b n c : Nat) (A : Option Addr) (room fall : Int) (w : World)
    (hg : Blk w g 68 #[.map (some b), .slice A n c, .int .i64 room, .int .i64 fall, .bool false]) :
    Calls Try.prog 22 #[.pointer (some ⟨g, 0, none⟩)] w (fun e w' => e = .returned (.bool false) ∧ w' = w) := by
  have c4 : w.cell? ⟨g, 4, none⟩ = some (.bool false) := hg.cell 4
  go_enter Try.func22, Try.ntmps22
  go_wp2_with fail
  go_ret
  exact ⟨rfl, rfl⟩

set_option maxRecDepth 100000 in
set_option maxHeartbeats 2000000 in
theorem read_any (g b N n c : Nat) (cs : List Ch) (A : Option Addr) (room fall : Int) (F : Fl) (k : List UInt8) (hk : short k) (w : World)
    (hg : Blk w g 68 #[.map (some b), .slice A n c, .int .i64 room, .int .i64 fall, .bool false]) (h : TxtIs w b N F)
    (hs : Rd w (fun k => w.heap.size ≤ k) 3 A n (cs.flatMap Ch.cells)) (hl : cs.length = n) (hn : n ≤ 100000) (hN : N ≤ 100000) (hok : ∀ c ∈ cs, c.ok ∧ c.k ≤ 2) :
    Calls Try.prog 15 #[.pointer (some ⟨g, 0, none⟩), S k] w
      (fun e w' => e = .returned (.tuple #[S (((cs.foldl chDo F) k).getD []), .int .i64 (if ((cs.foldl chDo F) k).isSome then 0 else 5)]) ∧ Below w.heap.size w w') := by
  have HD := hide (down_no g b n c A room fall w hg)
  have HL := hide (files_any g b N n c cs A room fall false F w hg h hs hl hn hN hok)
  have hkn := key_S hk
  clear hg h hs hl hn hN hok hk
  obtain ⟨R, hR⟩ : ∃ R, R = cs.foldl chDo F := ⟨_, rfl⟩
  rw [← hR] at HL
  rw [← hR]
  clear hR
  obtain ⟨E, hE⟩ : ∃ E : Int, E = if (R k).isSome then 0 else 5 := ⟨_, rfl⟩
  rw [← hE]
  have HE := hide hE
  clear hE
  go_enter Try.func15, Try.ntmps15
  go_wp2_with fail
  refine HD.out.mono ?_
  rintro e w1 ⟨rfl, rfl⟩
  go_wp2_with fail
  refine HL.out.mono ?_
  rintro e w2 ⟨rfl, ⟨D, hD, hRd⟩, hb⟩
  have hB := (hRd.2 k).1
  have hV := (hRd.2 k).2 (S [])
  clear hRd HL HD
  cases hF : R k with
  | none =>
    rw [hF] at hB hV
    simp only [Option.isSome_none, Option.map_none, Option.getD_none] at hB hV
    obtain rfl : E = 5 := by have := HE.out; rw [hF] at this; simpa using this
    go_wp2_with (at_lookup; refine lookup_held2 _ rfl _ _ 54 rfl 9 9 klaw Try.underlying54 (zero_str _) _ _ D rfl hD _ _ rfl hkn (S []) false hV hB ?_)
    go_ret2
    exact ⟨by rw [hF]; rfl, hb⟩
  | some o =>
    rw [hF] at hB hV
    simp only [Option.isSome_some, Option.map_some, Option.getD_some] at hB hV
    obtain rfl : E = 0 := by have := HE.out; rw [hF] at this; simpa using this
    go_wp2_with (at_lookup; refine lookup_held2 _ rfl _ _ 54 rfl 9 9 klaw Try.underlying54 (zero_str _) _ _ D rfl hD _ _ rfl hkn (S o) true hV hB ?_)
    go_ret2
    exact ⟨by rw [hF]; rfl, hb⟩
end Go.Proofs.Ytkgljicibjlabaa
