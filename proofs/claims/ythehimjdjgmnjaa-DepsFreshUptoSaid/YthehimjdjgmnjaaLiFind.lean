/- List.Find, walked; no statement of the seat is proved here. -/
import Derived.Test.YthehimjdjgmnjaaDepFresh
namespace Go.Proofs.Ythehimjdjgmnjaa
open Go.RowKit Go.Maps
set_option linter.unusedVariables false

def zeroEn : Enq := ⟨[], [], none, 0, 0, [], []⟩
theorem zeroEn_is : zeroEn.cells.toArray = ZE := by rfl
/-- The first entry of a name. -/
def findM (L : List Enq) (k : List UInt8) : Option Enq := L.find? (fun e => e.n == k)
theorem find_none {L : List Enq} {k : List UInt8} (h : ∀ i (hi : i < L.length), (L[i].n == k) = false) : findM L k = none := by
  unfold findM
  rw [List.find?_eq_none]
  intro x hx
  obtain ⟨i, hi, rfl⟩ := List.getElem_of_mem hx
  simp [h i hi]
theorem find_some {L : List Enq} {k : List UInt8} {t : Nat} (ht : t < L.length) (h : ∀ i (hi : i < L.length), i < t → (L[i].n == k) = false) (hk : (L[t].n == k) = true) : findM L k = some L[t] := by
  unfold findM
  rw [List.find?_eq_some_iff_getElem]
  exact ⟨hk, t, ht, rfl, fun j hj => by simp [h j (by omega) hj]⟩

set_option maxRecDepth 100000 in
set_option maxHeartbeats 4000000 in
theorem find_any (A : Option Addr) (n c : Nat) (L : List Enq) (k : List UInt8) (w : World) (h : Rd w (fun b => w.heap.size ≤ b) 66 A n (L.flatMap Enq.cells)) (hl : L.length = n) (hn : n ≤ 1000000) :
    Calls Try.prog 22 #[.slice A n c, S k] w (fun e w' => e = .returned (.tuple #[.agg ((findM L k).getD zeroEn).cells.toArray, .bool (findM L k).isSome]) ∧ Below w.heap.size w w') := by
  have HL := hide hl
  have hn9 : n ≤ 9223372036854775807 := by omega
  clear hl hn
  obtain ⟨ze, hze⟩ : ∃ z, z = ZE := ⟨_, rfl⟩
  have hzero : ∀ w, (zeroValue 39).run Try.prog w = .ok (.agg ze) w := fun w => by rw [hze]; exact zero_en w
  have HZS : Hid (ze.size = 66) := hide (by rw [hze]; rfl)
  have HZE : Hid (∀ _ : Unit, ze = zeroEn.cells.toArray) := hide (fun _ => hze)
  have HZO : Hid (ze.all (·.oneCell') = true) := hide (by rw [hze, ← zeroEn_is]; exact (EnV.mk_ zeroEn).one)
  have HBU : Hid (Try.prog.built 39 [] = some ze) := hide (by rw [hze]; kernel_rfl)
  clear hze
  have HFN := hide (@find_none L k)
  have HFS := hide (fun t ht => @find_some L k t ht)
  go_enter Try.func22, Try.ntmps22
  go_wp2_with fail
  refine name_world ?_
  intro wB hwB
  have HB0 : Hid (Below w.heap.size w wB) := hide (by rw [hwB]; exact (Below.refl _ w).alloc (Nat.le_refl _) _)
  have HZ0 : Hid (Blk wB w.heap.size 39 ze) := hide (by rw [hwB]; exact Blk.new _ _ _)
  clear hwB
  go_loopw [10] (fun i wr => ∃ t : Nat, t ≤ n ∧ i = .int .i64 t ∧ Hid (Below w.heap.size w wr) ∧ Hid (Blk wr w.heap.size 39 ze) ∧ Hid (∀ i (hi : i < L.length), i < t → (L[i].n == k) = false)) (fun i _ => n - (intOf i).toNat)
  case atStart => exact ⟨0, Nat.zero_le _, rfl, HB0, HZ0, hide (by omega)⟩
  case round =>
    obtain ⟨t, ht, rfl, HBR, HZR, HA⟩ := hrel
    by_cases hlt : t < n
    · obtain ⟨x, o, rfl, _, hxl, hcell⟩ := Rd.rec_ (f := Enq.cells) (size := 66) Enq.cells_len (h.below HBR.out) HL.out t hlt
      have hlk : t < L.length := by have := HL.out; omega
      have HFT := hide (HFS.out t hlk HA.out)
      obtain ⟨R, hR⟩ : ∃ b, b = (L[t].n == k) := ⟨_, rfl⟩
      have HR := hide hR
      generalize hex : L[t] = ex at hcell HFT HR hR
      have HEX := hide hex
      have HV' := hide (EnV.mk_ ex)
      obtain ⟨xv, hxv⟩ : ∃ v, v = ex.cells.toArray := ⟨_, rfl⟩
      rw [← hxv] at HV' 
      have HXV : Hid (∀ _ : Unit, xv = ex.cells.toArray) := hide (fun _ => hxv)
      have HRG : Hid (wr.rangeAt x (o + t * 66) xv.toList) := hide (fun i v hv => hcell i v (by rw [hxv] at hv; simpa using hv))
      clear hxv hcell hex
      obtain ⟨w1, hw1⟩ : ∃ w1, w1 = (wr.alloc (.cells ze 39)).setCells wr.heap.size 0 xv.toList := ⟨_, rfl⟩
      have HBX := hide (box_any wr 39 ze xv (by rw [HV'.out.size, HZS.out]))
      rw [← hw1] at HBX
      have HZT : Hid ((wr.alloc (.cells ze 39)).there wr.heap.size 0 xv.size) := hide ((Blk.new wr 39 ze).there_ (by rw [HV'.out.size, HZS.out]))
      go_upto_region 3 with fail
      go_upto_region 4 with (first
        | (refine wpList_load_mid rfl 39 (.tmp 12) rfl x (o + t * 66) rfl xv.toList _ HRG.out Try.underlying39 rfl (by rw [Array.length_toList, HV'.out.size]; exact en_info) ?_; rw [Array.toArray_toList])
        | (refine wpList_store_mid rfl 39 (.tmp 7) (.tmp 13) rfl wr.heap.size 0 xv rfl rfl HZT.out (by rw [HV'.out.size]; exact en_info) HV'.out.one ?_))
      rw [← hw1]
      have HB7 : Hid (Blk w1 wr.heap.size 39 xv) := hide HBX.out.1
      have HW7 : Hid (Below w.heap.size w w1) := hide (HBR.out.trans (HBX.out.2.mono HBR.out.size))
      have HZ7 : Hid (Blk w1 w.heap.size 39 ze) := hide (HZR.out.below HBX.out.2 HZR.out.lt)
      clear hw1 HBX HZT HRG
      obtain ⟨g7, hg7⟩ : ∃ g, g = wr.heap.size := ⟨_, rfl⟩
      rw [← hg7] at HB7 ⊢
      clear hg7
      have q0 : w1.cell? ⟨g7, 0, none⟩ = some (S ex.n) := (HB7.out.cell 0).trans HV'.out.c0
      cases R with
      | true =>
        have hrr : (ex.n == k) = true := hR.symm
        have HF : Hid (findM L k = some ex) := hide (HFT.out hrr)
        clear hR
        go_wp2_with (first
          | (refine wpList_load_mid rfl 39 (.tmp 7) rfl g7 0 rfl xv.toList _ HB7.out.range Try.underlying39 rfl (by rw [Array.length_toList, HV'.out.size]; exact en_info) ?_; rw [Array.toArray_toList])
          | (refine wpList_store_mid rfl 39 (.tmp 4) (.tmp 18) rfl w.heap.size 0 xv rfl rfl (HZ7.out.there_ (by rw [HV'.out.size, HZS.out])) (by rw [HV'.out.size]; exact en_info) HV'.out.one ?_))
        have HFF := HZ7.out.cells_all xv.toList (by rw [Array.length_toList, HV'.out.size, HZS.out])
        rw [Array.toArray_toList] at HFF
        refine bodyPost_ret (results_cell_slot rfl _ _ ⟨w.heap.size, 0, none⟩ (.agg xv) (.bool true) rfl (HFF.loads Try.underlying39 rfl (by rw [HV'.out.size]; exact en_info)) rfl) rfl ⟨by rw [HF.out, HXV.out ()]; rfl, ?_⟩
        exact bcells (Nat.le_refl _) _ _ HW7.out
      | false =>
        have hrr : (ex.n == k) = false := hR.symm
        have HAN : Hid (∀ i (hi : i < L.length), i < t + 1 → (L[i].n == k) = false) := hide (fun i hi h1 => by
          by_cases h2 : i < t
          · exact HA.out i hi h2
          · obtain rfl : i = t := by omega
            rw [HEX.out]; exact hrr)
        clear hR
        go_wp2_with fail
        go_roundw
        · exact ⟨t + 1, by omega, by go_num, HW7, HZ7, HAN⟩
        · simp [intOf]; omega
    · obtain rfl : t = n := by omega
      have HF : Hid (findM L k = none) := hide (HFN.out (fun i hi => HA.out i hi (by rw [← HL.out]; exact hi)))
      clear hlt
      go_wp2_with (first
        | (refine Go.wpList_buildTo rfl 39 #[] rfl (some 20) rfl ze HBU.out ?_)
        | (refine wpList_store_mid rfl 39 (.tmp 4) (.tmp 20) rfl w.heap.size 0 ze rfl rfl (HZR.out.there_ rfl) (by rw [HZS.out]; exact en_info) HZO.out ?_))
      have HFF := HZR.out.cells_all ze.toList (by rw [Array.length_toList])
      rw [Array.toArray_toList] at HFF
      refine bodyPost_ret (results_cell_slot rfl _ _ ⟨w.heap.size, 0, none⟩ (.agg ze) (.bool false) rfl (HFF.loads Try.underlying39 rfl (by rw [HZS.out]; exact en_info)) rfl) rfl ⟨by rw [HF.out, HZE.out ()]; rfl, ?_⟩
      exact bcells (Nat.le_refl _) _ _ HBR.out
end Go.Proofs.Ythehimjdjgmnjaa
