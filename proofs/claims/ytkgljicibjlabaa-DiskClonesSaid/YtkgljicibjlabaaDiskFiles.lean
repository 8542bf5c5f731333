/- What files there are: the contract of Disk.files; no statement of the seat is proved here. -/
import Derived.Test.YtkgljicibjlabaaDiskDo
import Derived.Test.YtkgljicibjlabaaRecs
import Derived.WalkKit
import Derived.Shelf.SlMaps.Clone
namespace Go.Proofs.Ytkgljicibjlabaa
open Go.RowKit Go.Maps Go.Shelf
def Try.cloneL_ren : Go.Shelf.Ren := ⟨fun | 5 => 33 | 7 => 38 | n => n, fun | 23 => 54 | 25 => 9 | 3 => 9 | 4 => 4 | 20 => 20 | n => n, fun n => n⟩
theorem Try.cloneL : SlLaysW.n5 Try.prog Try.cloneL_ren := {
  mixed := by kernel_rfl
  f5 := ⟨Try.f33.name, by decide, Try.func33.trans (congrArg some (by kernel_rfl))⟩
  f7 := Try.func38.trans (congrArg some (by kernel_rfl))
  t4 := Try.underlying4
  a4 := Try.isAgg4
  z4 := Try.sizeOf4
  v4 := Try.zeroValue4
  t20 := Try.underlying20
  a20 := Try.isAgg20
  z20 := Try.sizeOf20
  v20 := Try.zeroValue20
  t23 := Try.underlying54
  a23 := Try.isAgg54
  z23 := Try.sizeOf54
  v23 := Try.zeroValue54 }

theorem clone_any (b N : Nat) (F : Fl) (w : World) (h : TxtIs w b N F) :
    Calls Try.prog 33 #[.map (some b)] w (fun e w' => e = .returned (.map (some w.heap.size)) ∧ TxtIs w' w.heap.size N F ∧ Below w.heap.size w w') := by
  obtain ⟨D, hD, hR⟩ := h
  refine (AnyW.maps_Clone_owns Try.cloneL 9 heldR b N D w hD).mono ?_
  rintro e w' ⟨rfl, h1, _, h2⟩
  exact ⟨rfl, ⟨D, h1, hR⟩, h2⟩

theorem takeS {α : Type} {l : List α} {k : Nat} (hk : k < l.length) : l.take (k + 1) = l.take k ++ [l[k]] := by
  rw [List.take_add_one, List.getElem?_eq_getElem hk]; rfl

set_option maxRecDepth 100000 in
set_option maxHeartbeats 2000000 in
theorem files_any (g b N n c : Nat) (cs : List Ch) (A : Option Addr) (room fall : Int) (dn : Bool) (F : Fl) (w : World)
    (hg : Blk w g 68 #[.map (some b), .slice A n c, .int .i64 room, .int .i64 fall, .bool dn]) (h : TxtIs w b N F)
    (hs : Rd w (fun k => w.heap.size ≤ k) 3 A n (cs.flatMap Ch.cells)) (hl : cs.length = n) (hn : n ≤ 100000) (hN : N ≤ 100000) (hok : ∀ c ∈ cs, c.ok ∧ c.k ≤ 2) :
    Calls Try.prog 32 #[.pointer (some ⟨g, 0, none⟩)] w
      (fun e w' => e = .returned (.map (some w.heap.size)) ∧ TxtIs w' w.heap.size (N + n) (cs.foldl chDo F) ∧ Below w.heap.size w w') := by
  have c0 : w.cell? ⟨g, 0, none⟩ = some (.map (some b)) := hg.cell 0
  have HC := hide (clone_any b N F w h)
  go_enter Try.func32, Try.ntmps32
  go_wp2_with fail
  refine HC.out.mono ?_
  rintro e w1 ⟨rfl, ht, hb⟩
  have hg1 := hg.below hb hg.lt
  have c1 : w1.cell? ⟨g, 1, none⟩ = some (.slice A n c) := hg1.cell 1
  have HT := hide ht
  clear HC c0 ht
  go_wp2_with fail
  go_loopw [16] (fun i wr => ∃ k : Nat, k ≤ n ∧ i = .int .i64 k ∧ TxtIs wr w.heap.size (N + k) ((cs.take k).foldl chDo F) ∧ Below w.heap.size w wr) (fun i _ => n - (intOf i).toNat)
  case atStart => exact ⟨0, Nat.zero_le _, rfl, HT.out, hb⟩
  case round =>
    obtain ⟨k, hk, rfl, htr, hBr⟩ := hrel
    have HTR := hide htr
    clear htr
    by_cases hlt : k < n
    · obtain ⟨x, o, rfl, _, _, hcell⟩ := Rd.rec_ (size := 3) (fun _ => rfl) (hs.below hBr) hl k hlt
      have hlk : k < cs.length := by omega
      have hck := hok _ (List.getElem_mem hlk)
      have HF : Hid ((cs.take (k + 1)).foldl chDo F = chDo ((cs.take k).foldl chDo F) cs[k]) := hide (by rw [takeS hlk, List.foldl_append]; rfl)
      obtain ⟨d, hd⟩ : ∃ d, d = cs[k] := ⟨_, rfl⟩
      rw [← hd] at hcell hck HF
      clear hd
      obtain ⟨dk, dm, dt⟩ := d
      have q0 : wr.cell? ⟨x, o + k * 3, none⟩ = some (.int .i64 dk) := hcell 0 _ rfl
      have q1 : wr.cell? ⟨x, o + k * 3 + 1, none⟩ = some (S dm) := hcell 1 _ rfl
      have q2 : wr.cell? ⟨x, o + k * 3 + 2, none⟩ = some (S dt) := hcell 2 _ rfl
      have hdo := do_any ⟨dk, dm, dt⟩ hck.1 hck.2 w.heap.size (N + k) _ (wr.alloc (.cells #[.int .i64 dk, S dm, S dt] 71)) (HTR.out.of_block (Below.heap_alloc _ _ _ HTR.out.lt)) (by omega)
      have HDO := hide hdo
      clear hcell hdo
      go_wp2_with fail
      refine HDO.out.mono ?_
      rintro e w5 ⟨rfl, ht5, hk5⟩
      have hB5 := (hBr.alloc hBr.size (.cells #[.int .i64 dk, S dm, S dt] 71)).trans (hk5.below (B := w.heap.size) (by have := hBr.size; simp; omega) (fun k hk => by omega))
      have HT5 := hide ht5
      clear ht5 hk5 HDO
      go_wp2_with fail
      go_roundw
      case rel => exact ⟨k + 1, by omega, by go_num, by rw [HF.out]; exact HT5.out, hB5⟩
      case measure => simp [intOf]; omega
    · have HE : Hid (cs.take k = cs) := hide (List.take_of_length_le (by omega))
      have HN : Hid (k = n) := hide (by omega)
      go_wp2_with fail
      go_ret
      refine ⟨rfl, ?_, hBr⟩
      have := HTR.out
      rwa [HE.out, HN.out] at this
end Go.Proofs.Ytkgljicibjlabaa
