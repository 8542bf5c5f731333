/- The tables of roots, walked; no statement of the seat is proved here. -/
import Derived.Test.YthehimjdjgmnjaaShaTables
import Derived.Test.YthehimjdjgmnjaaArr
import Derived.BigRegion
import Derived.Deep.RegionHeld3
namespace Go.Proofs.Ythehimjdjgmnjaa
open Go.RowKit

def arr (l : List Int) : Array Value := (l.map U).toArray
theorem arr_set (l : List Int) (i : Nat) (x : Int) : (arr l).setIfInBounds i (U x) = arr (l.set i x) := by simp [arr]
theorem arr_at (l : List Int) (i : Nat) : (arr l)[i]? = (l[i]?).map U := by simp [arr]
/-- A table as far as it is filled. -/
def part (T : List Int) (n i : Nat) : List Int := T.take i ++ List.replicate (n - i) 0
theorem part_k : ∀ i : Fin 64, (part KT 64 i.val).set i.val (KT.getD i.val 0) = part KT 64 (i.val + 1) := by decide +kernel
theorem part_h : ∀ i : Fin 8, (part HT 8 i.val).set i.val (HT.getD i.val 0) = part HT 8 (i.val + 1) := by decide +kernel
theorem part_hh : ∀ i : Fin 65, 8 ≤ i.val → part HT 8 i.val = HT := by decide +kernel
theorem part_k64 : part KT 64 64 = KT := by decide +kernel
theorem part_len : ∀ i : Fin 65, (part KT 64 i.val).length = 64 ∧ (part HT 8 i.val).length = 8 := by decide +kernel
theorem p64_get : ∀ i : Fin 64, P64[i.val]? = some (P64.getD i.val 0) := by decide +kernel
theorem p64_at (i : Fin 64) : (P64.map Q64)[i.val]? = some (Q64 (P64.getD i.val 0)) := by rw [List.getElem?_map, p64_get]; rfl

theorem four_new {w wp : World} {a b c d : Obj} (hb : Below ((((w.alloc a).alloc b).alloc c).alloc d).heap.size ((((w.alloc a).alloc b).alloc c).alloc d) wp) :
    wp.heap[w.heap.size]? = some a ∧ wp.heap[w.heap.size + 1]? = some b ∧ wp.heap[w.heap.size + 2]? = some c ∧ wp.heap[w.heap.size + 3]? = some d ∧ Below w.heap.size w wp := by
  have e1 : (w.alloc a).heap.size = w.heap.size + 1 := by simp
  have e2 : ((w.alloc a).alloc b).heap.size = w.heap.size + 2 := by simp
  have e3 : (((w.alloc a).alloc b).alloc c).heap.size = w.heap.size + 3 := by simp
  have e4 : ((((w.alloc a).alloc b).alloc c).alloc d).heap.size = w.heap.size + 4 := by simp
  rw [e4] at hb
  refine ⟨?_, ?_, ?_, ?_, ?_⟩
  · rw [hb.block _ (by omega), Below.heap_alloc _ _ _ (by simp; try omega), Below.heap_alloc _ _ _ (by simp; try omega), Below.heap_alloc _ _ _ (by simp; try omega)]; exact heap_alloc_new _ _
  · rw [hb.block _ (by omega), Below.heap_alloc _ _ _ (by simp; try omega), Below.heap_alloc _ _ _ (by simp; try omega), ← e1]; exact heap_alloc_new _ _
  · rw [hb.block _ (by omega), Below.heap_alloc _ _ _ (by simp; try omega), ← e2]; exact heap_alloc_new _ _
  · rw [hb.block _ (by omega), ← e3]; exact heap_alloc_new _ _
  · exact ((((Below.refl _ _).alloc (Nat.le_refl _) _).alloc (by simp) _).alloc (by simp; omega) _).alloc (by simp; omega) _ |>.trans (hb.mono (by omega))

structure TabInv (w wr : World) (A : Option Addr) (k : Nat) : Prop where
  b0 : Blk wr w.heap.size 66 (arr (List.replicate 8 0))
  b1 : Blk wr (w.heap.size + 1) 67 (arr (List.replicate 64 0))
  b2 : Blk wr (w.heap.size + 2) 66 (arr (part HT 8 k))
  b3 : Blk wr (w.heap.size + 3) 67 (arr (part KT 64 k))
  rd : Rd wr (fun x => x < w.heap.size + 4) 1 A 64 (P64.map Q64)
  bel : Below w.heap.size w wr

theorem tab_next1 {w wr : World} {A : Option Addr} {k : Nat} (h : TabInv w wr A k) (hk : k < 64) (h8 : ¬ k < 8) {x : Int} (h3 : x = KT.getD k 0) :
    TabInv w (wr.setCell ⟨w.heap.size + 3, k, none⟩ (.int .u32 x)) A (k + 1) := by
  subst h3
  refine ⟨h.b0.far (by simp) _, h.b1.far (by simp) _, ?_, ?_, ?_, h.bel.setCell (by simp) _⟩
  · have := h.b2.far (p := ⟨w.heap.size + 3, k, none⟩) (by simp) (.int .u32 (KT.getD k 0))
    rw [part_hh ⟨k + 1, by omega⟩ (show 8 ≤ k + 1 by omega)]
    rwa [part_hh ⟨k, by omega⟩ (show 8 ≤ k by omega)] at this
  · have := h.b3.set_ k (.int .u32 (KT.getD k 0))
    rwa [arr_set, part_k ⟨k, hk⟩] at this
  · exact h.rd.keep ((Keep.refl _ _).setCell (by simp) _)
theorem tab_next2 {w wr : World} {A : Option Addr} {k : Nat} (h : TabInv w wr A k) (hk : k < 64) (h8 : k < 8) {x y : Int} (h2 : y = HT.getD k 0) (h3 : x = KT.getD k 0) :
    TabInv w ((wr.setCell ⟨w.heap.size + 2, k, none⟩ (.int .u32 y)).setCell ⟨w.heap.size + 3, k, none⟩ (.int .u32 x)) A (k + 1) := by
  subst h3 h2
  refine ⟨(h.b0.far (by simp) _).far (by simp) _, (h.b1.far (by simp) _).far (by simp) _, ?_, ?_, ?_, (h.bel.setCell (by simp) _).setCell (by simp) _⟩
  · have := (h.b2.set_ k (.int .u32 (HT.getD k 0))).far (p := ⟨w.heap.size + 3, k, none⟩) (by simp) (.int .u32 (KT.getD k 0))
    rwa [arr_set, part_h ⟨k, h8⟩] at this
  · have := (h.b3.far (p := ⟨w.heap.size + 2, k, none⟩) (by simp) (.int .u32 (HT.getD k 0))).set_ k (.int .u32 (KT.getD k 0))
    rwa [arr_set, part_k ⟨k, hk⟩] at this
  · exact h.rd.keep (((Keep.refl _ _).setCell (by simp) _).setCell (by simp) _)

structure EndInv (w wr : World) : Prop where
  b0 : ∃ cs, cs.size = 8 ∧ Blk wr w.heap.size 66 cs
  b1 : ∃ cs, cs.size = 64 ∧ Blk wr (w.heap.size + 1) 67 cs
  b2 : Blk wr (w.heap.size + 1 + 1) 66 (arr HT)
  b3 : Blk wr (w.heap.size + 1 + 1 + 1) 67 (arr KT)
  bel : Below w.heap.size w wr
theorem end_start {w wr : World} {A : Option Addr} (h : TabInv w wr A 64) : EndInv w wr.drew := by
  refine ⟨⟨_, by simp [arr], h.b0⟩, ⟨_, by simp [arr], h.b1⟩, ?_, ?_, h.bel.drew⟩
  · have := h.b2
    rwa [part_hh ⟨64, by omega⟩ (by simp)] at this
  · have := h.b3
    rwa [part_k64] at this

theorem end_there0 {w wr : World} (h : EndInv w wr) : wr.there w.heap.size 0 (arr HT).size := by
  obtain ⟨cs, hl, hB⟩ := h.b0
  exact hB.there_ (by rw [hl]; rfl)
theorem end_there1 {w wr : World} (h : EndInv w wr) : wr.there (w.heap.size + 1) 0 (arr KT).size := by
  obtain ⟨cs, hl, hB⟩ := h.b1
  exact hB.there_ (by rw [hl]; rfl)
theorem end_s0 {w wr : World} (h : EndInv w wr) : EndInv w (wr.setCells w.heap.size 0 (arr HT).toList) := by
  obtain ⟨cs, hl, hB⟩ := h.b0
  obtain ⟨ds, hm, hD⟩ := h.b1
  exact ⟨⟨_, by simp [arr, HT], hB.cells_all _ (by rw [hl]; rfl)⟩, ⟨ds, hm, hD.cells_far (by omega) _ _ hD⟩, h.b2.cells_far (by omega) _ _ h.b2, h.b3.cells_far (by omega) _ _ h.b3, bcells (Nat.le_refl _) _ _ h.bel⟩
theorem end_s1 {w wr : World} (h : EndInv w wr) : EndInv w (wr.setCells (w.heap.size + 1) 0 (arr KT).toList) := by
  obtain ⟨cs, hl, hB⟩ := h.b0
  obtain ⟨ds, hm, hD⟩ := h.b1
  exact ⟨⟨cs, hl, hB.cells_far (by omega) _ _ hB⟩, ⟨_, by simp [arr, KT], hD.cells_all _ (by rw [hm]; rfl)⟩, h.b2.cells_far (by omega) _ _ h.b2, h.b3.cells_far (by omega) _ _ h.b3, bcells (by omega) _ _ h.bel⟩

theorem end_all {w wr : World} (h : EndInv w wr) : Blk ((wr.setCells w.heap.size 0 (arr HT).toList).setCells (w.heap.size + 1) 0 (arr KT).toList) w.heap.size 66 (arr HT) ∧
    Blk ((wr.setCells w.heap.size 0 (arr HT).toList).setCells (w.heap.size + 1) 0 (arr KT).toList) (w.heap.size + 1) 67 (arr KT) ∧ Below w.heap.size w ((wr.setCells w.heap.size 0 (arr HT).toList).setCells (w.heap.size + 1) 0 (arr KT).toList) := by
  obtain ⟨cs, hl, hB⟩ := h.b0
  obtain ⟨ds, hm, hD⟩ := (end_s0 h).b1
  have h0 := hB.cells_all (arr HT).toList (by rw [hl]; rfl)
  have h1 := hD.cells_all (arr KT).toList (by rw [hm]; rfl)
  rw [Array.toArray_toList] at h0 h1
  exact ⟨h0.cells_far (by omega) _ _ h0, h1, (end_s1 (end_s0 h)).bel⟩

set_option maxRecDepth 100000 in
set_option maxHeartbeats 4000000 in
theorem tables_any (w : World) : Calls Try.prog 16 #[] w fun e w' => e = .returned (.tuple #[.agg (arr HT), .agg (arr KT)]) ∧ Below w.heap.size w w' := by
  go_enter Try.func16, Try.ntmps16
  go_wp2_with (go_at_call 27; refine (primes_any _).mono ?_; rintro e wp ⟨A, c, rfl, hbp, hown⟩; obtain ⟨h0, h1, h2, h3, hb⟩ := four_new hbp; have hrd := hide (Rd.of_own2 (F := fun x => x < w.heap.size + 4) hown (fun x hx => by simp at hx; omega)); clear hbp hown)
  go_loopw [8] (fun i wr => ∃ k : Nat, k ≤ 64 ∧ i = .int .i64 k ∧ TabInv w wr A k) (fun i _ => 64 - (intOf i).toNat)
  case atStart => exact ⟨0, by omega, rfl, h0, h1, h2, h3, hrd.out, hb⟩
  case round =>
    clear h0 h1 h2 h3 hb hrd
    obtain ⟨k, hk, rfl, hI⟩ := hrel
    have HI := hide hI
    clear hI
    by_cases hlt : k < 64
    · obtain ⟨b, o, u, rfl, hu, hc⟩ := HI.out.rd.at_ k hlt
      obtain rfl : Q64 (P64.getD k 0) = u := by have := p64_at ⟨k, hlt⟩; simp only [this] at hu; injection hu
      clear hu
      obtain ⟨p, hp⟩ : ∃ p : Int, p = (P64.getD k 0 : Nat) := ⟨_, rfl⟩
      rw [show Q64 (P64.getD k 0) = .int .u64 p by rw [hp]] at hc
      have HP := hide hp
      clear hp
      have HK3 : Hid (rootM p true = KT.getD k 0) := by rw [HP.out]; exact root_k ⟨k, hlt⟩
      have g3 : wr.cell? ⟨w.heap.size + 3, k, none⟩ = some (U ((part KT 64 k).getD k 0)) := by
        rw [HI.out.b3.cell, arr_at]
        have := (part_len ⟨k, by omega⟩).1
        simp at this
        simp [this, hlt]
      have f3 : wr.frozen? ⟨w.heap.size + 3, k, none⟩ = false := HI.out.b3.frozen k
      by_cases h8 : k < 8
      · have HK2 : Hid (rootM p false = HT.getD k 0) := by rw [HP.out]; exact root_h ⟨k, h8⟩
        have g2 : wr.cell? ⟨w.heap.size + 2, k, none⟩ = some (U ((part HT 8 k).getD k 0)) := by
          rw [HI.out.b2.cell, arr_at]
          have := (part_len ⟨k, by omega⟩).2
          simp at this
          simp [this, h8]
        have f2 : wr.frozen? ⟨w.heap.size + 2, k, none⟩ = false := HI.out.b2.frozen k
        go_wp2_with (first | (go_at_call 28; refine (root_any _ _ _).mono ?_; rintro e w' ⟨rfl, hw'⟩; subst hw'))
        go_roundw
        case rel => exact ⟨k + 1, by omega, by go_num, tab_next2 HI.out hlt h8 HK2.out HK3.out⟩
        case measure => simp [intOf]; omega
      · go_wp2_with (first | (go_at_call 28; refine (root_any _ _ _).mono ?_; rintro e w' ⟨rfl, hw'⟩; subst hw'))
        go_roundw
        case rel => exact ⟨k + 1, by omega, by go_num, tab_next1 HI.out hlt h8 HK3.out⟩
        case measure => simp [intOf]; omega
    · obtain rfl : k = 64 := by omega
      clear hlt
      go_wp2_with fail
      refine wp_region_noPanic ?_
      refine wp_region_held_drew (S := fun w' => EndInv w w') (by kernel_rfl) ?_ (fun hHeld => ?_)
      · exact end_start HI.out
      clear HI
      have H0 := hHeld
      refine wpAnyH_take (i := 0) (by simp only [List.getElem?_toArray, List.getElem?_cons_zero]; rfl) (by kernel_rfl) (by kernel_rfl) (by kernel_rfl) (fun _ _ _ h => h) (yieldsIf_load_mid (by rfl) _ _ rfl _ _ rfl (arr HT).toList _ (fun _ h => h.b2.range) Try.underlying66 rfl (by kernel_rfl)) (by assumption) ?_
      simp only [Act.put, List.setIfInBounds_toArray, List.set_cons_zero, List.set_cons_succ, Array.toArray_toList]
      refine wpAnyH_take (i := 1) (by simp only [List.getElem?_toArray, List.getElem?_cons_zero, List.getElem?_cons_succ]; rfl) (by kernel_rfl) (by kernel_rfl) (by kernel_rfl) (fun _ _ _ h => h) (yieldsIf_load_mid (by rfl) _ _ rfl _ _ rfl (arr KT).toList _ (fun _ h => h.b3.range) Try.underlying67 rfl (by kernel_rfl)) (by assumption) ?_
      simp only [Act.put, List.setIfInBounds_toArray, List.set_cons_zero, List.set_cons_succ, Array.toArray_toList]
      refine wpAnyH_ready (rs := [2]) (by kernel_rfl) (by simp) ?_
      refine AllReadyH.cons (by simp only [List.getElem?_toArray, List.getElem?_cons_zero, List.getElem?_cons_succ]; rfl) (fun K hK => ?_) AllReadyH.nil
      rw [if_pos (by rfl)]
      refine wp_store_mid _ _ _ rfl _ _ (arr HT) rfl rfl (end_there0 hHeld) (by kernel_rfl) (by simp [arr, Value.oneCell']) ?_
      simp only [Act.put]
      refine hK.out _ _ (end_s0 hHeld) (fun hHeld => ?_)
      clear hK K
      refine wpAnyH_ready (rs := [3]) (by kernel_rfl) (by simp) ?_
      refine AllReadyH.cons (by simp only [List.getElem?_toArray, List.getElem?_cons_zero, List.getElem?_cons_succ]; rfl) (fun K hK => ?_) AllReadyH.nil
      rw [if_pos (by rfl)]
      have q1 := end_there1 hHeld
      have q2 : (Try.prog.info? 67).map (·.size) = some (arr KT).size := by kernel_rfl
      have q3 : (arr KT).all (·.oneCell') = true := by simp [arr, Value.oneCell']
      generalize hKT : arr KT = ak at q1 q2 q3 ⊢
      refine wp_store_mid _ _ _ rfl _ _ ak rfl rfl q1 q2 q3 ?_
      clear q1 q2 q3
      subst hKT
      simp only [Act.put]
      refine hK.out _ _ (end_s1 hHeld) (fun hHeld => ?_)
      clear hK K
      refine wpAnyH_done (by kernel_rfl) ?_ _
      refine NoPanic.normal ?_
      have HF := hide (end_all H0)
      clear H0 hHeld
      go_wp2_with fail
      exact bodyPost_ret (results_cell2 rfl _ _ ⟨w.heap.size, 0, none⟩ ⟨w.heap.size + 1, 0, none⟩ (.agg (arr HT)) (.agg (arr KT)) rfl (HF.out.1.loads Try.underlying66 rfl (by kernel_rfl)) rfl (HF.out.2.1.loads Try.underlying67 rfl (by kernel_rfl))) rfl ⟨rfl, HF.out.2.2⟩
end Go.Proofs.Ythehimjdjgmnjaa
