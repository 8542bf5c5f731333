/- A digest read: repo.digest, walked; no statement of the seat is proved here. -/
import Derived.Test.YtclgiapmbmbknaaMRepM
import Derived.Test.YtclgiapmbmbknaaMReader
import Derived.Lib.LazyBuf
import Derived.Lib.SlBuf
namespace Go.Proofs.Ytclgiapmbmbknaa
open Go.RowKit

/-- Thirty-two noughts, as the walk writes them. -/
def Z32 : List UInt8 := List.replicate 32 0
def ZC : Array Value := #[.int .u8 0, .int .u8 0, .int .u8 0, .int .u8 0, .int .u8 0, .int .u8 0, .int .u8 0, .int .u8 0, .int .u8 0, .int .u8 0, .int .u8 0, .int .u8 0, .int .u8 0, .int .u8 0, .int .u8 0, .int .u8 0, .int .u8 0, .int .u8 0, .int .u8 0, .int .u8 0, .int .u8 0, .int .u8 0, .int .u8 0, .int .u8 0, .int .u8 0, .int .u8 0, .int .u8 0, .int .u8 0, .int .u8 0, .int .u8 0, .int .u8 0, .int .u8 0]
theorem ZC_is : ZC = darr Z32 := by rfl
theorem dig_info : (Try.prog.info? 41).map (·.size) = some 32 := by kernel_rfl
theorem darr_one (l : List UInt8) : (darr l).all (·.oneCell') = true := by simp [darr, Value.oneCell']
theorem darr_size (l : List UInt8) : (darr l).size = l.length := by simp [darr]
theorem results_cell_slot {P : Program} {fn : Func} {p q : Tmp} {tp : TypeId} (h : fn.results = #[.cell p tp, .tmp q]) (tmps : Array Value) (w : World) (a : Addr) (v u : Value)
    (hp : tmps.getD p undef = .pointer (some a)) (hl : (loadVar tp a).run P w = .ok v w) (hq : tmps.getD q undef = u) : (results fn tmps).run P w = .ok (.tuple #[v, u]) w := by
  have hp' : tmps[p]?.getD undef = .pointer (some a) := by simpa using hp
  have hq' : tmps[q]?.getD undef = u := by simpa using hq
  simp [results, h, hp', hq', asAddr, hl]
/-- Two new digests of noughts. -/
theorem two_new (w : World) (t : TypeId) (cs ds : Array Value) : Blk ((w.alloc (.cells cs t)).alloc (.cells ds t)) w.heap.size t cs ∧ Blk ((w.alloc (.cells cs t)).alloc (.cells ds t)) (w.heap.size + 1) t ds ∧ Below w.heap.size w ((w.alloc (.cells cs t)).alloc (.cells ds t)) := by
  refine ⟨(Blk.new _ _ _).alloc _, ?_, ((Below.refl _ _).alloc (Nat.le_refl _) _).alloc (by simp) _⟩
  have := Blk.new (w.alloc (.cells cs t)) t ds
  rwa [show (w.alloc (.cells cs t)).heap.size = w.heap.size + 1 by simp] at this
theorem textR_le {m : Nat} {st : St} : (textR m st).1.length ≤ m := by
  have h := numR_le m st
  cases hm : (numR m st).2 with
  | none => simp [textR, hm]
  | some l =>
    simp only [textR, hm]
    split
    · simp
    · simp only [List.length_take]
      omega
/-- The bytes of a text over noughts. -/
theorem over_pad {w w' : World} {g : Nat} {t : TypeId} {l : List UInt8} (h : Blk w g t (darr Z32)) (hl : l.length ≤ 32) (hw : w' = w.setCells g 0 (l.map B8)) : Blk w' g t (darr (dpad l)) := by
  obtain ⟨ds, h1, h2, h3⟩ := Blk.cells_ (l.map B8) 0 h (by rw [darr_size]; simp [Z32]; omega)
  have : ds = darr (dpad l) := by
    apply Array.ext_getElem?
    intro i
    rw [h3 i]
    unfold darr dpad Z32
    simp only [Nat.zero_le, Nat.zero_add, true_and, List.length_map, Nat.sub_zero, List.getElem?_toArray, List.getElem?_map]
    by_cases hi : i < l.length
    · rw [if_pos hi, List.getElem?_take_of_lt (by omega), List.getElem?_append_left hi]
    · rw [if_neg hi]
      by_cases hi2 : i < 32
      · rw [List.getElem?_take_of_lt hi2, List.getElem?_append_right (by omega), List.getElem?_replicate_of_lt hi2, List.getElem?_replicate_of_lt (by omega)]
      · rw [List.getElem?_eq_none (by simp; omega), List.getElem?_eq_none (by simp; omega)]
  rw [hw, ← this]
  exact h1

set_option maxRecDepth 100000 in
set_option maxHeartbeats 4000000 in
theorem digest_any (g : Nat) (st : St) (w : World) (h : Rl w g st) : Calls Try.prog 46 #[.pointer (some ⟨g, 0, none⟩)] w (fun e w' => e = .returned (.tuple #[.agg (darr (dpad (textR 32 st).1)), .bool ((textR 32 st).1.length == 32)]) ∧ Rl w' g (textR 32 st).2 ∧ Keep (fun k => k = g) w w') := by
  obtain ⟨hb0, hb1, hbel⟩ := two_new w 41 ZC ZC
  have HGW : Hid (g < w.heap.size) := hide h.lt
  have HRL := hide ((h.alloc (.cells ZC 41)).alloc (.cells ZC 41))
  have HK0 : Hid (Keep (fun k => k = g) w ((w.alloc (.cells ZC 41)).alloc (.cells ZC 41))) := hide (((Keep.refl _ w).alloc _).alloc _)
  obtain ⟨wA, hwA⟩ : ∃ wA, wA = (w.alloc (.cells ZC 41)).alloc (.cells ZC 41) := ⟨_, rfl⟩
  rw [← hwA] at hb0 hb1 HRL HK0
  obtain ⟨dz, hdz⟩ : ∃ d, d = ZC := ⟨_, rfl⟩
  rw [← hdz] at hb0 hb1
  have HB0 := hide hb0
  have HB1 := hide hb1
  have HT := hide (rtext_any g 32 st wA HRL.out (by omega))
  rw [show (32 : Int).toNat = 32 from rfl] at HT
  have HTL : Hid ((textR 32 st).1.length ≤ 32) := hide textR_le
  obtain ⟨t, ht⟩ : ∃ t, t = (textR 32 st).1 := ⟨_, rfl⟩
  obtain ⟨st2, hst2⟩ : ∃ s, s = (textR 32 st).2 := ⟨_, rfl⟩
  rw [← ht, ← hst2] at HT
  rw [← ht] at HTL
  rw [← ht, ← hst2]
  have HZ : Hid (∀ _ : Unit, dz = darr Z32) := hide (fun _ => hdz.trans ZC_is)
  have HZC : Hid (∀ _ : Unit, ZC = dz) := hide (fun _ => hdz.symm)
  clear hb0 hb1 hbel ht hst2 h HRL
  go_enter Try.func46, Try.ntmps46
  go_upto_region 2 with fail
  simp only [show (#[Value.int IntKind.u8 0, .int .u8 0, .int .u8 0, .int .u8 0, .int .u8 0, .int .u8 0, .int .u8 0, .int .u8 0, .int .u8 0, .int .u8 0, .int .u8 0, .int .u8 0, .int .u8 0, .int .u8 0, .int .u8 0, .int .u8 0, .int .u8 0, .int .u8 0, .int .u8 0, .int .u8 0, .int .u8 0, .int .u8 0, .int .u8 0, .int .u8 0, .int .u8 0, .int .u8 0, .int .u8 0, .int .u8 0, .int .u8 0, .int .u8 0, .int .u8 0, .int .u8 0] : Array Value) = ZC from rfl]
  rw [← hwA]
  clear hwA hdz
  go_upto_region 3 with (go_at_call 45; refine HT.out.mono ?_; rintro e w1 ⟨rfl, h1, k1⟩)
  have HR1 := hide h1
  have HK1 := hide (HK0.out.trans k1)
  have HB0' := hide (HB0.out.keep k1 (by have := HGW.out; omega))
  have HB1' := hide (HB1.out.keep k1 (by have := HGW.out; omega))
  clear h1 k1 HT HB0 HB1 HK0
  have HP : Hid (Blk (w1.setCells (w.heap.size + 1) 0 (t.map B8)) (w.heap.size + 1) 41 (darr (dpad t))) := hide (over_pad (w := w1) (by rw [← HZ.out ()]; exact HB1'.out) HTL.out rfl)
  have HQ : Hid (Blk (w1.setCells (w.heap.size + 1) 0 (t.map B8)) w.heap.size 41 dz) := hide (HB0'.out.cfar (by omega) _ _)
  have HRQ : Hid (Rl (w1.setCells (w.heap.size + 1) 0 (t.map B8)) g st2) := hide (HR1.out.keep (F := fun k => k = w.heap.size + 1) (Keep.setCells (F := fun k => k = w.heap.size + 1) (b := w.heap.size + 1) (fun _ => rfl) _ _ (Keep.refl _ _)) (by have := HGW.out; omega))
  have HKQ : Hid (Keep (fun k => k = g) w (w1.setCells (w.heap.size + 1) 0 (t.map B8))) := hide (Keep.setCells (fun h => absurd h (by omega)) _ _ HK1.out)
  have hrun : (Builtin.copy_ #[67, 9] 3 #[.slice (some ⟨w.heap.size + 1, 0, none⟩) 32 32, S t]).run Try.prog w1 = .ok (.int .i64 t.length) (w1.setCells (w.heap.size + 1) 0 (t.map B8)) := by
    have hsz : dz.size = 32 := by rw [HZ.out ()]; rfl
    exact run_copy_string (P := Try.prog) w1 67 9 3 5 (w.heap.size + 1) 0 32 32 ⟨t.toArray⟩ Try.underlying67 (fun w => by kernel_rfl) HTL.out
      (fun j hj => (HB1'.out.there_ hsz.symm j (Nat.lt_of_lt_of_le hj HTL.out)).1)
      (fun j hj => (HB1'.out.there_ hsz.symm j (Nat.lt_of_lt_of_le hj HTL.out)).2)
  obtain ⟨w2, hw2⟩ : ∃ w2, w2 = w1.setCells (w.heap.size + 1) 0 (t.map B8) := ⟨_, rfl⟩
  rw [← hw2] at HP HQ HRQ HKQ hrun
  obtain ⟨dd, hdd⟩ : ∃ d, d = darr (dpad t) := ⟨_, rfl⟩
  rw [← hdd] at HP
  have HDD : Hid (∀ _ : Unit, dd = darr (dpad t)) := hide (fun _ => hdd)
  have HS : Hid (dd.size = 32) := hide (by rw [hdd, darr_size, dpad_len])
  have HO : Hid (dd.all (·.oneCell') = true) := hide (by rw [hdd]; exact darr_one _)
  have HZS : Hid (dz.size = 32) := hide (by rw [HZ.out ()]; rfl)
  have e1 : ((t.length : Int) == 32) = (t.length == 32) := by rw [Bool.eq_iff_iff]; simp; omega
  clear hw2 hdd HK1 HR1 HB0' HB1'
  go_wp2_with (first
    | (at_builtin; refine Lib.wpList_copy_run _ rfl (.tmp 8) (.tmp 9) 67 9 rfl _ _ rfl rfl hrun ?_)
    | (refine wpList_load_mid rfl 41 (.tmp 4) rfl (w.heap.size + 1) 0 rfl dd.toList _ HP.out.range Try.underlying41 rfl (by rw [Array.length_toList, HS.out]; exact dig_info) ?_; rw [Array.toArray_toList])
    | (refine wpList_store_mid rfl 41 (.tmp 2) (.tmp 11) rfl w.heap.size 0 dd rfl rfl (HQ.out.there_ (by rw [HS.out, HZS.out])) (by rw [HS.out]; exact dig_info) HO.out ?_))
  have HFF := HQ.out.cells_all dd.toList (by rw [Array.length_toList, HS.out, HZS.out])
  rw [Array.toArray_toList] at HFF
  refine bodyPost_ret (results_cell_slot rfl _ _ ⟨w.heap.size, 0, none⟩ (.agg dd) (.bool (t.length == 32)) rfl (HFF.loads Try.underlying41 rfl (by rw [HS.out]; exact dig_info)) rfl) rfl ⟨by rw [HDD.out ()], HRQ.out.keep (F := fun k => k = w.heap.size) (Keep.setCells (F := fun k => k = w.heap.size) (b := w.heap.size) (fun _ => rfl) _ _ (Keep.refl _ _)) (by have := HGW.out; omega), Keep.setCells (fun h => absurd h (by omega)) _ _ HKQ.out⟩
end Go.Proofs.Ytclgiapmbmbknaa
