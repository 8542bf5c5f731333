/- deps.Fresh, walked; no statement of the seat is proved here. -/
import Derived.Test.YthehimjdjgmnjaaIdxRd
namespace Go.Proofs.Ythehimjdjgmnjaa
open Go.RowKit Go.Maps
set_option linter.unusedVariables false

theorem darr_range {w : World} {q : Nat} {t : TypeId} {l : List UInt8} {dz : Array Value} (hd : dz = darr l) (h : Blk w q t dz) : w.rangeAt q 0 dz.toList := fun j v hj => by rw [h.cell (0 + j), Nat.zero_add]; simpa using hj
theorem EnV.src_range {e : Enq} {v : Array Value} (h : EnV e v) (hs : e.s.length = 32) {w : World} {g : Nat} {t : TypeId} (hb : Blk w g t v) : w.rangeAt g 1 (darr e.s).toList := fun j x hj => by
  have hj2 : j < 32 := by
    have := (List.getElem?_eq_some_iff.1 hj).1
    rw [Array.length_toList, darr_size, hs] at this
    exact this
  rw [h.src hb j hj2]
  have e2 : (darr e.s).toList = e.s.map B8 := by simp [darr]
  rw [e2, List.getElem?_map] at hj
  have e3 : j < e.s.length := by omega
  rw [List.getElem?_eq_getElem e3] at hj
  simp only [dpad_id hs]
  simpa using hj
/-- An entry is fresh. -/
def freshM (T : List Fc) (e : Enq) (src : List UInt8) : Bool := (e.s == src) && !(e.rs.any (othr T))

set_option maxRecDepth 100000 in
set_option maxHeartbeats 4000000 in
theorem fresh_any (w0 : World) (g m s n : Nat) (T : List Fc) (e : Enq) (src : List UInt8) (ev dz : Array Value) (w : World) (h : Tab w g m s T n) (hn : n + e.k ≤ 1000000) (hrk : e.rs.length = e.k) (hok : RdsOk e.rs) (hes : e.s.length = 32) (hsr : src.length = 32)
    (hr : Rd w (fun b => b = s) 33 e.A e.k (e.rs.flatMap Rdq.cells)) (hT : FcsOk w0 T) (hB0 : Below w0.heap.size w0 w) (hs0 : w0.heap.size ≤ s) (hev : ev = e.cells.toArray) (hdz : dz = darr src) :
    Calls Try.prog 12 #[.pointer (some ⟨g, 0, none⟩), .agg ev, .agg dz] w (fun x w' => x = .returned (.bool (freshM T e src)) ∧ Tab w' g m s T (n + e.k) ∧ Keep (fun b => b = s) w w') := by
  have HV := hide (EnV.mk_ e)
  rw [← hev] at HV
  obtain ⟨wB, hwB⟩ : ∃ wB, wB = ((w.alloc (.cells #[.pointer (some ⟨g, 0, none⟩)] 28)).alloc (.cells ev 39)).alloc (.cells dz 35) := ⟨_, rfl⟩
  have hb1 : Below w.heap.size w wB := by rw [hwB]; exact (((Below.refl _ w).alloc (Nat.le_refl _) _).alloc (by simp) _).alloc (by simp; omega) _
  have hk1 : Keep (fun b => b = s) w wB := by rw [hwB]; exact (((Keep.refl _ w).alloc _).alloc _).alloc _
  have HB1 : Hid (Blk wB w.heap.size 28 #[.pointer (some ⟨g, 0, none⟩)]) := hide (by rw [hwB]; exact ((Blk.new _ _ _).alloc _).alloc _)
  have HB2 : Hid (Blk wB (w.heap.size + 1) 39 ev) := hide (by
    rw [hwB]
    have := (Blk.new (w.alloc (.cells #[.pointer (some ⟨g, 0, none⟩)] 28)) 39 ev).alloc (.cells dz 35)
    rwa [World.size_alloc] at this)
  have HB3 : Hid (Blk wB (w.heap.size + 1 + 1) 35 dz) := hide (by
    rw [hwB]
    have := Blk.new ((w.alloc (.cells #[.pointer (some ⟨g, 0, none⟩)] 28)).alloc (.cells ev 39)) 35 dz
    rwa [World.size_alloc, World.size_alloc] at this)
  have HR1 := hide (HV.out.src_range hes HB2.out)
  have HR2 := hide (darr_range hdz HB3.out)
  have q33 : wB.cell? ⟨w.heap.size + 1, 33, none⟩ = some (.slice e.A e.k e.c) := (HB2.out.cell 33).trans HV.out.cr
  have HHA := hide (hasrd_any w0 g m s n w.heap.size T e.A e.k e.c e.rs wB (h.below hb1) hn hrk hok (hr.keep hk1) hT (hB0.trans (hb1.mono hB0.size)) hs0 HB1.out)
  obtain ⟨R, hR⟩ : ∃ R, R = e.rs.any (othr T) := ⟨_, rfl⟩
  obtain ⟨B, hB⟩ : ∃ B, B = (e.s == src) := ⟨_, rfl⟩
  have HF : Hid (freshM T e src = (B && !R)) := hide (by rw [hR, hB]; rfl)
  rw [← hR] at HHA
  obtain ⟨ez, hez⟩ : ∃ d, d = darr e.s := ⟨_, rfl⟩
  rw [← hez] at HR1
  have heq : ∀ w, (binOp .eql 35 (.agg ez) (.agg dz)).run Try.prog w = .ok (.bool B) w := fun w => by rw [hez, hdz, hB]; exact run_eql_darr e.s src hes hsr w
  have HZ1 : Hid (ez.size = 32) := hide (by rw [hez, darr_size, hes])
  have HZ2 : Hid (dz.size = 32) := hide (by rw [hdz, darr_size, hsr])
  have HTB : Hid (Tab wB g m s T (n + e.k)) := hide ((h.below hb1).mono (by omega))
  have HKB := hide hk1
  clear h hn hrk hok hes hsr hr hT hB0 hs0 hev hdz hb1 hk1 hR hB hez
  obtain ⟨en, es, eA, ek, ec, ers, eb⟩ := e
  simp only at q33 HHA HTB
  go_enter Try.func12, Try.ntmps12
  go_upto_region 1 with fail
  try simp only [Value.cells]
  rw [← hwB]
  clear hwB
  cases B
  case false =>
    go_wp2_with (first
      | (refine wpList_load_mid rfl 35 (.tmp 7) rfl (w.heap.size + 1) 1 rfl ez.toList _ HR1.out Try.underlying35 rfl (by rw [Array.length_toList, HZ1.out]; exact dig_info) ?_; rw [Array.toArray_toList])
      | (refine wpList_load_mid rfl 35 (.tmp 5) rfl (w.heap.size + 1 + 1) 0 rfl dz.toList _ HR2.out Try.underlying35 rfl (by rw [Array.length_toList, HZ2.out]; exact dig_info) ?_; rw [Array.toArray_toList]))
    go_ret
    exact ⟨by rw [HF.out]; rfl, HTB.out, HKB.out⟩
  case true =>
    go_wp2_with (first
      | (refine wpList_load_mid rfl 35 (.tmp 7) rfl (w.heap.size + 1) 1 rfl ez.toList _ HR1.out Try.underlying35 rfl (by rw [Array.length_toList, HZ1.out]; exact dig_info) ?_; rw [Array.toArray_toList])
      | (refine wpList_load_mid rfl 35 (.tmp 5) rfl (w.heap.size + 1 + 1) 0 rfl dz.toList _ HR2.out Try.underlying35 rfl (by rw [Array.length_toList, HZ2.out]; exact dig_info) ?_; rw [Array.toArray_toList])
      | (refine HHA.out.mono ?_; rintro x w2 ⟨rfl, ht2, hk2⟩; have HT2 := hide ht2; have HK2 := hide hk2; clear ht2 hk2))
    go_ret
    exact ⟨by rw [HF.out]; rfl, HT2.out, HKB.out.trans HK2.out⟩
end Go.Proofs.Ythehimjdjgmnjaa
