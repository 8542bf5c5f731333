/- How the table is made, walked; no statement of the seat is proved here. -/
import Derived.Test.YthehimjdjgmnjaaHierTabD
namespace Go.Proofs.Ythehimjdjgmnjaa
open Go.RowKit Go.Maps

set_option maxRecDepth 100000 in
set_option maxHeartbeats 1000000 in
theorem new_any (A : Option Addr) (n c : Nat) (T : List Fc) (w : World) (h : FcsAt w (fun k => w.heap.size ≤ k) A n T) (hn : n ≤ 1000) :
    Calls Try.prog 7 #[.slice A n c] w
      (fun e w' => ∃ g m s, e = .returned (.pointer (some ⟨g, 0, none⟩)) ∧ Tab w' g m s T 0 ∧ Below w.heap.size w w' ∧ w.heap.size ≤ g ∧ w.heap.size ≤ m ∧ w.heap.size ≤ s) := by
  obtain ⟨hr, hl, hm, hok⟩ := h
  have HL := hide hl
  have HO := hide hok
  clear hl hok
  have hmm := @run_makeMap Try.prog
  obtain ⟨wA, hwA⟩ : ∃ wA, wA = ((w.alloc (.map #[] 0)).alloc (.map #[] 0)).alloc (.cells #[.map (some w.heap.size), .map (some (w.heap.size + 1))] 64) := ⟨_, rfl⟩
  have hbA : Below w.heap.size w wA := by rw [hwA]; exact (((Below.refl _ _).alloc (Nat.le_refl _) _).alloc (by simp) _).alloc (by simp; omega) _
  have hM : MapIs wA w.heap.size 0 [] := by
    rw [hwA]
    refine ((MapIs.made w).of_block (Below.heap_alloc _ _ _ ?_)).of_block (Below.heap_alloc _ _ _ ?_) <;> simp <;> omega
  have hE : ∃ D : DataW Value, wA.ownsMap Try.prog 9 heldR (w.heap.size + 1) 0 D := by
    rw [hwA]
    have := World.ownsMap_made (w.alloc (.map #[] 0)) Try.prog 9 heldR
    rw [World.size_alloc] at this
    exact ⟨_, this.alloc _⟩
  have hg : Blk wA (w.heap.size + 1 + 1) 64 #[.map (some w.heap.size), .map (some (w.heap.size + 1))] := by
    rw [hwA]
    have := Blk.new ((w.alloc (.map #[] 0)).alloc (.map #[] 0)) 64 #[.map (some w.heap.size), .map (some (w.heap.size + 1))]
    rwa [World.size_alloc, World.size_alloc] at this
  go_enter Try.func7, Try.ntmps7
  go_wp2_with fail
  rw [← hwA]
  clear hwA hmm
  go_loopw [12] (fun i wr => ∃ k : Nat, k ≤ n ∧ i = .int .i64 k ∧ MapIs wr w.heap.size k (T.take k) ∧ Keep (fun b => b = w.heap.size) wA wr) (fun i _ => n - (intOf i).toNat)
  case atStart => exact ⟨0, Nat.zero_le _, rfl, by rw [List.take_zero]; exact hM, Keep.refl _ _⟩
  case round =>
    obtain ⟨k, hk, rfl, hmk, hkp⟩ := hrel
    have hbr := hbA.trans (hkp.below (B := w.heap.size) hbA.size (fun k hk => by omega))
    by_cases hlt : k < n
    · obtain ⟨x, o, rfl, hx1, _, hcell⟩ := Rd.rec_ (size := 4) (fun _ => rfl) (hr.below hbr) HL.out k hlt
      have hlk : k < T.length := by have := HL.out; omega
      have hsh := (HO.out _ (List.getElem_mem hlk)).2.2.1
      have HT : Hid (T.take (k + 1) = T.take k ++ [T[k]]) := hide (by rw [List.take_add_one, List.getElem?_eq_getElem hlk]; rfl)
      obtain ⟨f, hf⟩ : ∃ f, f = T[k] := ⟨_, rfl⟩
      rw [← hf] at hcell hsh HT
      clear hf
      have q0 : wr.cell? ⟨x, o + k * 4, none⟩ = some (S f.n) := hcell 0 _ rfl
      have q1 : wr.cell? ⟨x, o + k * 4 + 1, none⟩ = some (S f.su) := hcell 1 _ rfl
      have q2 : wr.cell? ⟨x, o + k * 4 + 2, none⟩ = some (.slice f.fA f.fl f.fc) := hcell 2 _ rfl
      have q3 : wr.cell? ⟨x, o + k * 4 + 3, none⟩ = some (.slice f.mA f.ml f.mc) := hcell 3 _ rfl
      clear hcell
      obtain ⟨wb, hwb⟩ : ∃ wb, wb = wr.alloc (.cells #[S f.n, S f.su, .slice f.fA f.fl f.fc, .slice f.mA f.ml f.mc] 47) := ⟨_, rfl⟩
      have hkb : Keep (fun b => b = w.heap.size) wA wb := by rw [hwb]; exact hkp.alloc _
      have hgb := hg.keep hkb (by omega)
      have d0 : wb.cell? ⟨w.heap.size + 1 + 1, 0, none⟩ = some (.map (some w.heap.size)) := hgb.cell 0
      have hnb : Blk wb wr.heap.size 47 #[S f.n, S f.su, .slice f.fA f.fl f.fc, .slice f.mA f.ml f.mc] := by rw [hwb]; exact Blk.new _ _ _
      have d1 : wb.cell? ⟨wr.heap.size, 0, none⟩ = some (S f.n) := hnb.cell 0
      have d2 : wb.cell? ⟨wr.heap.size, 1, none⟩ = some (S f.su) := hnb.cell 1
      have d3 : wb.cell? ⟨wr.heap.size, 2, none⟩ = some (.slice f.fA f.fl f.fc) := hnb.cell 2
      have d4 : wb.cell? ⟨wr.heap.size, 3, none⟩ = some (.slice f.mA f.ml f.mc) := hnb.cell 3
      have hmb := hmk.of_block (w' := wb) (by rw [hwb]; exact Below.heap_alloc _ _ _ hmk.lt)
      obtain ⟨D, hD, hat⟩ := hmb
      have HD := hide hD
      have HAt := hide hat
      have hkey := key_S hsh
      clear hD hat
      go_wp2_with fail
      rw [← hwb]
      clear hwb q0 q1 q2 q3 hgb hnb
      go_still_tail 7, (by kernel_rfl)
      refine wpList_mapUpdate_own wb.drew rfl _ _ _ 61 rfl 9 47 klaw Try.underlying61 heldR w.heap.size k D rfl HD.out.drew (by unfold maxLen; omega) _ _ _ rfl rfl hkey (.held f.val) [] rfl ?_
      intro w2 hown2 hgrow2
      have hk2 : Keep (fun b => b = w.heap.size) wA w2 := hkb.drew.grown hgrow2 (fun k hk _ => by injection hk with hk; exact hk.symm)
      have hm2 : Hid (MapIs w2 w.heap.size (k + 1) (T.take (k + 1))) := hide (by
        rw [HT.out]
        exact ⟨_, hown2, put_is HD.out.isMap HAt.out⟩)
      clear hown2 hgrow2 d0 d1 d2 d3 d4
      go_wp2
      go_roundw
      case rel => exact ⟨k + 1, by omega, by go_num, hm2.out, hk2⟩
      case measure => simp [intOf]; omega
    · have hTk : T.take k = T := List.take_of_length_le (by have := HL.out; omega)
      have hkn : k = T.length := by have := HL.out; omega
      rw [hTk, hkn] at hmk
      have HM := hide hmk
      have HG := hide (hg.keep hkp (by omega))
      obtain ⟨D, hD⟩ := hE
      have HE := hide (owns_of_block hD (hkp.block _ hD.lt (by omega)))
      clear hmk hTk hkn hM hg hD
      go_wp2
      go_ret
      exact ⟨_, _, _, rfl, ⟨HG.out, HM.out, ⟨D, HE.out⟩, by omega⟩, hbr, by omega, by omega, by omega⟩
end Go.Proofs.Ythehimjdjgmnjaa
