/- An entry, a read loaded whole and kept in a block of its own; no statement of the seat is proved here. -/
import Derived.Test.YtclgiapmbmbknaaMRepDig
import Derived.Test.YtclgiapmbmbknaaMRepB
import Derived.Test.YtclgiapmbmbknaaMRecs
import Derived.WalkLawsBesides
namespace Go.Proofs.Ytclgiapmbmbknaa
open Go.RowKit

theorem ba_toList (l : List UInt8) : (ByteArray.mk l.toArray).toList = l := Lib.toList_data _
attribute [go_sem] ba_toList

/-- An entry of noughts, a read of noughts, as the walk writes them. -/
def ZE : Array Value := #[.string ⟨#[]⟩, .int .u8 0, .int .u8 0, .int .u8 0, .int .u8 0, .int .u8 0, .int .u8 0, .int .u8 0, .int .u8 0, .int .u8 0, .int .u8 0, .int .u8 0, .int .u8 0, .int .u8 0, .int .u8 0, .int .u8 0, .int .u8 0, .int .u8 0, .int .u8 0, .int .u8 0, .int .u8 0, .int .u8 0, .int .u8 0, .int .u8 0, .int .u8 0, .int .u8 0, .int .u8 0, .int .u8 0, .int .u8 0, .int .u8 0, .int .u8 0, .int .u8 0, .int .u8 0, .slice none 0 0, .int .u8 0, .int .u8 0, .int .u8 0, .int .u8 0, .int .u8 0, .int .u8 0, .int .u8 0, .int .u8 0, .int .u8 0, .int .u8 0, .int .u8 0, .int .u8 0, .int .u8 0, .int .u8 0, .int .u8 0, .int .u8 0, .int .u8 0, .int .u8 0, .int .u8 0, .int .u8 0, .int .u8 0, .int .u8 0, .int .u8 0, .int .u8 0, .int .u8 0, .int .u8 0, .int .u8 0, .int .u8 0, .int .u8 0, .int .u8 0, .int .u8 0, .int .u8 0]
def ZR : Array Value := #[.string ⟨#[]⟩, .int .u8 0, .int .u8 0, .int .u8 0, .int .u8 0, .int .u8 0, .int .u8 0, .int .u8 0, .int .u8 0, .int .u8 0, .int .u8 0, .int .u8 0, .int .u8 0, .int .u8 0, .int .u8 0, .int .u8 0, .int .u8 0, .int .u8 0, .int .u8 0, .int .u8 0, .int .u8 0, .int .u8 0, .int .u8 0, .int .u8 0, .int .u8 0, .int .u8 0, .int .u8 0, .int .u8 0, .int .u8 0, .int .u8 0, .int .u8 0, .int .u8 0, .int .u8 0]
theorem ZE_size : ZE.size = 66 := rfl
theorem ZR_size : ZR.size = 33 := rfl
theorem en_info : (Try.prog.info? 44).map (·.size) = some 66 := by kernel_rfl
theorem rd_info : (Try.prog.info? 87).map (·.size) = some 33 := by kernel_rfl
theorem zero_en (w : World) : (zeroValue 44).run Try.prog w = .ok (.agg ZE) w := by kernel_rfl
theorem zero_rd (w : World) : (zeroValue 87).run Try.prog w = .ok (.agg ZR) w := by kernel_rfl
/-- A value laid whole into a new block. -/
theorem box_any (w : World) (t : TypeId) (Z cs : Array Value) (hs : cs.size = Z.size) : Blk ((w.alloc (.cells Z t)).setCells w.heap.size 0 cs.toList) w.heap.size t cs ∧ Below w.heap.size w ((w.alloc (.cells Z t)).setCells w.heap.size 0 cs.toList) := by
  refine ⟨?_, bcells (Nat.le_refl _) _ _ ((Below.refl _ _).alloc (Nat.le_refl _) _)⟩
  have := (Blk.new w t Z).cells_all cs.toList (by rw [Array.length_toList, hs])
  rwa [Array.toArray_toList] at this
theorem B8_one (l : List UInt8) : ∀ v ∈ l.map B8, v.oneCell' = true := by
  intro v hv
  obtain ⟨b, _, rfl⟩ := List.mem_map.1 hv
  rfl
/-- What an entry's cells are. -/
structure EnV (e : Enq) (v : Array Value) : Prop where
  is : v = e.cells.toArray
  size : v.size = 66
  one : v.all (·.oneCell') = true
  c0 : v[0]? = some (S e.n)
  cr : v[33]? = some (.slice e.A e.k e.c)
theorem EnV.mk_ (e : Enq) : EnV e e.cells.toArray where
  is := rfl
  size := by simp [Enq.cells_len]
  one := all_oneCell_toArray (fun v hv => by
    simp only [Enq.cells, List.mem_cons, List.mem_append] at hv
    rcases hv with rfl | hv | rfl | hv
    · rfl
    · exact B8_one _ v hv
    · rfl
    · exact B8_one _ v hv)
  c0 := rfl
  cr := by simp [Enq.cells, dpad_len]
structure RdV (x : Rdq) (v : Array Value) : Prop where
  is : v = x.cells.toArray
  size : v.size = 33
  one : v.all (·.oneCell') = true
  c0 : v[0]? = some (S x.n)
theorem RdV.mk_ (x : Rdq) : RdV x x.cells.toArray where
  is := rfl
  size := by simp [Rdq.cells_len]
  one := all_oneCell_toArray (fun v hv => by
    simp only [Rdq.cells, List.mem_cons] at hv
    rcases hv with rfl | hv
    · rfl
    · exact B8_one _ v hv)
  c0 := rfl
/-- The digests' bytes in an entry's block, in a read's. -/
theorem EnV.src {e : Enq} {v : Array Value} (h : EnV e v) {w : World} {g : Nat} {t : TypeId} (hb : Blk w g t v) (j : Nat) (hj : j < 32) : w.cell? ⟨g, 1 + j, none⟩ = some (B8 ((dpad e.s)[j]'(by rw [dpad_len]; exact hj))) := by
  rw [hb.cell, h.is]
  have hl := dpad_len e.s
  have : 1 + j = j + 1 := by omega
  simp [Enq.cells, this, List.getElem?_append, hl, hj]
theorem EnV.blob {e : Enq} {v : Array Value} (h : EnV e v) {w : World} {g : Nat} {t : TypeId} (hb : Blk w g t v) (j : Nat) (hj : j < 32) : w.cell? ⟨g, 34 + j, none⟩ = some (B8 ((dpad e.b)[j]'(by rw [dpad_len]; exact hj))) := by
  rw [hb.cell, h.is]
  have hl := dpad_len e.s
  have hl2 := dpad_len e.b
  obtain ⟨m, hm⟩ : ∃ m, 34 + j = m + 1 + 32 + 1 ∧ m = j := ⟨j, by omega, rfl⟩
  rw [hm.1]
  simp only [Enq.cells, List.getElem?_toArray, List.getElem?_cons_succ]
  rw [List.getElem?_append_right (by simp [hl])]
  simp [hl, hm.2, hl2, hj]
theorem RdV.face {x : Rdq} {v : Array Value} (h : RdV x v) {w : World} {g : Nat} {t : TypeId} (hb : Blk w g t v) (j : Nat) (hj : j < 32) : w.cell? ⟨g, 1 + j, none⟩ = some (B8 ((dpad x.d)[j]'(by rw [dpad_len]; exact hj))) := by
  rw [hb.cell, h.is]
  have hl := dpad_len x.d
  have : 1 + j = j + 1 := by omega
  simp [Rdq.cells, this, hl, hj]
/-- 'string(x.d[:])', x.d thirty-two bytes that lie in a row. -/
theorem conv_32 {w : World} {g o : Nat} {l : List UInt8} (hl : l.length = 32) (h : ∀ j (hj : j < 32), w.cell? ⟨g, o + j, none⟩ = some (B8 (l[j]'(by omega)))) : (convert 67 9 (.slice (some ⟨g, o, none⟩) 32 32)).run Try.prog w = .ok (S l) w := by
  have := run_convert_bytes_back (P := Try.prog) w 67 9 5 ⟨g, o, none⟩ 32 l Try.underlying67 Try.underlying5 Try.underlying9 (fun j hj => by
    rw [Addr.add_mid]
    exact h j (by omega))
  rw [hl] at this
  exact this
end Go.Proofs.Ytclgiapmbmbknaa
