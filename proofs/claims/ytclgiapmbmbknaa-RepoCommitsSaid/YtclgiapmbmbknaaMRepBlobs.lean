/- The digests of a list's files: List.Blobs, walked; no statement of the seat is proved here. -/
import Derived.Test.YtclgiapmbmbknaaMRepKeep
namespace Go.Proofs.Ytclgiapmbmbknaa
open Go.RowKit Go.Maps
set_option linter.unusedVariables false
set_option linter.unusedSimpArgs false

/-- A digest's cells. -/
def dgC (d : List UInt8) : List Value := (dpad d).map B8
theorem dgC_len (d : List UInt8) : (dgC d).length = 32 := by simp [dgC, dpad_len]
theorem dgC_is {d : List UInt8} (h : d.length = 32) : (darr d).toList = dgC d := by simp [darr, dgC, dpad_id h]
theorem dg_info2 : (Try.prog.info? 41).map (fun i => (i.zero.isSome, i.size)) = some (true, 32) := by kernel_rfl
theorem dg_info3 : (Try.prog.info? 41).map (fun i => (i.zero, i.size, i.bytes)) = some (some (.agg ZC), 32, 32) := by kernel_rfl
set_option maxRecDepth 100000 in
set_option maxHeartbeats 4000000 in
theorem blobs_any (A : Option Addr) (n c : Nat) (L : List Enq) (w : World) (h : LiAt w (fun k => w.heap.size ≤ k) A n L) (hn : n ≤ 1000) :
    Calls Try.prog 28 #[.slice A n c] w (fun e w' => ∃ A2 c2, e = .returned (.slice A2 n c2) ∧ w'.ownsRow w.heap.size 41 32 (.slice A2 n c2) n ((L.map Enq.b).flatMap dgC) ∧ Below w.heap.size w w') := by
  have HL := hide h
  have HLL := hide h.ll
  have hlb := h.lb
  clear h
  obtain ⟨ze, hze⟩ : ∃ ze, ze = ZE := ⟨_, rfl⟩
  have hzero : ∀ w, (zeroValue 44).run Try.prog w = .ok (.agg ze) w := fun w => by rw [hze]; exact zero_en w
  have HZS : Hid (ze.size = 66) := hide (by rw [hze]; rfl)
  have HZC : Hid ((Value.agg ZC).cells.size = 32) := hide rfl
  clear hze
  go_enter Try.func28, Try.ntmps28
  go_wp2_with fail
  go_loopw [8, 3] (fun i u wr => ∃ (j : Nat) (A2 : Option Addr) (c2 : Nat), j ≤ n ∧ i = .int .i64 j ∧ u = .slice A2 j c2 ∧ Hid (wr.ownsRow w.heap.size 41 32 (.slice A2 j c2) j (((L.take j).map Enq.b).flatMap dgC)) ∧ Hid (Below w.heap.size w wr)) (fun i _ _ => n - (intOf i).toNat)
  case atStart => exact ⟨0, none, 0, Nat.zero_le _, rfl, rfl, hide (World.ownsRow_nil _ _ _ _), hide (Below.refl _ _)⟩
  case round =>
    obtain ⟨j, A2, c2, hj, rfl, rfl, HO, HB⟩ := hrel
    by_cases hlt : j < n
    case neg =>
      obtain rfl : j = n := by omega
      go_wp2_with fail
      go_ret
      have h1 := HO.out
      rw [List.take_of_length_le (by rw [HLL.out]; exact Nat.le_refl _)] at h1
      exact ⟨A2, c2, rfl, h1, HB.out⟩
    case pos =>
      obtain ⟨b, o, rfl, _, hbl, hcs⟩ := Rd.rec_ (f := Enq.cells) (size := 66) Enq.cells_len (HL.out.lr.below HB.out) HLL.out j hlt
      have hlk : j < L.length := by have := HLL.out; omega
      have HTK : Hid ((L.take (j + 1)).map Enq.b = (L.take j).map Enq.b ++ [(L[j]).b]) := hide (by rw [List.take_add_one, List.getElem?_eq_getElem hlk, List.map_append]; rfl)
      generalize L[j] = e at hcs HTK
      have HV := hide (EnV.mk_ e)
      obtain ⟨ev, hev⟩ : ∃ ev, ev = e.cells.toArray := ⟨_, rfl⟩
      rw [← hev] at HV
      have HRG : Hid (wr.rangeAt b (o + j * 66) ev.toList) := hide (fun i v hv => hcs i v (by rw [hev] at hv; simpa using hv))
      clear hev hcs
      obtain ⟨wE, hwE⟩ : ∃ w1, w1 = (wr.alloc (.cells ze 44)).setCells wr.heap.size 0 ev.toList := ⟨_, rfl⟩
      have HBX := hide (box_any wr 44 ze ev (by rw [HV.out.size, HZS.out]))
      rw [← hwE] at HBX
      have HZT : Hid ((wr.alloc (.cells ze 44)).there wr.heap.size 0 ev.size) := hide ((Blk.new wr 44 ze).there_ (by rw [HV.out.size, HZS.out]))
      obtain ⟨dz, hdz⟩ : ∃ z, z = darr (dpad e.b) := ⟨_, rfl⟩
      have HDZ := hide (dg_size hdz (dpad_len _))
      have HDL : Hid (dz.toList = dgC e.b) := hide (by rw [hdz, dgC_is (dpad_len _)]; simp [dgC, dpad_id (dpad_len _)])
      have HR2 : Hid (wE.rangeAt wr.heap.size 34 dz.toList) := hide (fun i v hv => by
        rw [HDL.out] at hv
        unfold dgC at hv
        have hi : i < 32 := by have := (List.getElem?_eq_some_iff.1 hv).1; simpa [dpad_len] using this
        have h1 := HV.out.blob HBX.out.1 i hi
        rw [h1]
        rw [List.getElem?_map, List.getElem?_eq_getElem (by rw [dpad_len]; exact hi)] at hv
        exact hv)
      go_upto_region 5 with (first
        | (refine wpList_load_mid rfl 44 (.tmp 10) rfl b (o + j * 66) rfl ev.toList _ HRG.out Try.underlying44 rfl (by rw [Array.length_toList, HV.out.size]; exact en_info) ?_; rw [Array.toArray_toList])
        | (refine wpList_store_mid rfl 44 (.tmp 5) (.tmp 11) rfl wr.heap.size 0 ev rfl rfl HZT.out (by rw [HV.out.size]; exact en_info) HV.out.one ?_))
      simp only [show ∀ (x : Act), x.put none undef = x from fun _ => rfl]
      rw [← hwE]
      have HBE : Hid (Below w.heap.size w wE) := hide (HB.out.trans (HBX.out.2.mono HB.out.size))
      have HOE : Hid (wE.ownsRow w.heap.size 41 32 (.slice A2 j c2) j (((L.take j).map Enq.b).flatMap dgC)) := hide (own_keep (F := fun _ => False) HO.out (Keep.of_below HBX.out.2 (fun k h1 h2 => by omega)) (fun _ _ h => h))
      obtain ⟨q, hq⟩ : ∃ q, q = wr.heap.size := ⟨_, rfl⟩
      rw [← hq] at HR2 ⊢
      clear hwE hq HBX HZT HRG HV hdz
      go_upto_region 6 with (first
        | (refine wpList_load_mid rfl 41 (.tmp 13) rfl q 34 rfl dz.toList _ HR2.out Try.underlying41 rfl (by rw [Array.length_toList, HDZ.out.1]; exact dig_info) ?_; rw [Array.toArray_toList])
        | (refine wpList_part rfl 72 41 (.tmp 14) rfl 32 dz rfl HDZ.out.1 (by decide) (by decide) Try.underlying72 dg_info2 ?_)
        | (at_builtin; have e1 := HOE.out.alloc (.cells dz 41); have e2 : Blk (wE.alloc (.cells dz 41)) wE.heap.size 41 dz.toList.toArray := (by rw [Array.toArray_toList]; exact Blk.new _ _ _); refine wpList_appB rfl (.tmp 12) (.tmp 15) 72 rfl w.heap.size 41 (.agg ZC) 32 32 Try.underlying72 dg_info3 HZC.out (by decide) (.slice A2 j c2) j (((L.take j).map Enq.b).flatMap dgC) ?hs e1 wE.heap.size dz.toList ?hx ?hl e2 ?h1 ?h63 ?hbytes ?hbase ?h; (case hs => exact rfl); (case hx => exact rfl); (case hl => (rw [Array.length_toList]; exact HDZ.out.1)); (case h1 => exact all_one HDZ.out.2); (case h63 => (unfold maxLen; omega)); (case hbytes => omega); (case hbase => (have := HBE.out.size; simp; omega)); intro A4 c4 w9 hown9 hg9; clear e1 e2; have HOWN9 := hide hown9; have HG9 := hide hg9; clear hown9 hg9))
      have HOT : Hid (w9.ownsRow w.heap.size 41 32 (.slice A4 (j + 1) c4) (j + 1) (((L.take (j + 1)).map Enq.b).flatMap dgC)) := hide (by
        rw [HTK.out, List.flatMap_append, List.flatMap_singleton, ← HDL.out]
        exact HOWN9.out)
      have HBT : Hid (Below w.heap.size w w9) := hide (HBE.out.trans ((((Keep.refl _ wE).alloc _).grown HG9.out (fun i hi _ => hi.symm)).below (B := w.heap.size) HBE.out.size (fun k hk => own_base HOE.out hk.symm)))
      clear HOWN9 HG9
      go_wp2_with fail
      go_roundw
      · exact ⟨j + 1, A4, c4, by omega, by go_num, rfl, HOT, HBT⟩
      · simp [intOf]; omega
end Go.Proofs.Ytclgiapmbmbknaa
