/- ShaLong, walked; no statement of the seat is proved here. -/
import Derived.Test.YtdnpcpeibjckmaaShaDig
import Derived.Deep.RegionHeld3
namespace Go.Proofs.Ytdnpcpeibjckmaa
open Go.RowKit

theorem and_255 (x : Int) : ∃ m : Nat, bits .and .i64 x 255 = (m : Int) ∧ m ≤ 255 := by
  refine ⟨((BitVec.ofInt 64 x &&& BitVec.ofInt 64 255).toNat), ?_, ?_⟩
  · show IntKind.i64.wrap ((BitVec.ofInt 64 x &&& BitVec.ofInt 64 255).toNat : Int) = _
    have h : (BitVec.ofInt 64 x &&& BitVec.ofInt 64 255).toNat ≤ 255 := by
      rw [BitVec.toNat_and]
      exact Nat.le_trans Nat.and_le_right (by decide)
    rw [IntWalk.i64_in _ (by omega)]
  · rw [BitVec.toNat_and]
    exact Nat.le_trans Nat.and_le_right (by decide)
theorem mkN (w : World) (n : Nat) (hn : n ≤ 255) : (Instr.makeSlice 31 (.int .i64 (n : Int)) (.int .i64 (n : Int))).run Try.prog w = .ok (.slice (some ⟨w.heap.size, 0, none⟩) n n) (w.alloc (.cells (darr (List.replicate n 0)) 5)) := by
  obtain ⟨i, hi, hz, hz1, hz2⟩ := info_parts u8_info
  have h := run_make (P := Try.prog) w 31 5 i (.int .u8 0) Try.underlying31 hi hz .i64 .i64 n n (by omega) (by omega) (by rw [hz2]; omega) (by omega)
  rw [hz1, made_one _ _ rfl] at h
  have e : Array.replicate (Int.toNat n * 1) (Value.int .u8 0) = darr (List.replicate n 0) := by
    rw [darr, List.map_replicate, Int.toNat_natCast, Nat.mul_one]
    simp [B8]
  rw [e, Int.toNat_natCast] at h
  exact h
theorem fill_next (c : UInt8) (n k : Nat) (hk : k < n) : (List.replicate k c ++ List.replicate (n - k) 0).set k c = List.replicate (k + 1) c ++ List.replicate (n - (k + 1)) (0 : UInt8) := by
  rw [show n - k = (n - (k + 1)) + 1 by omega, List.replicate_succ, List.replicate_succ']
  simp
theorem blk_keep {w1 w2 : World} {g t : Nat} {cs : Array Value} {w : World} (h : Blk w1 g t cs ∧ Below w.heap.size w w1) (hb : Below w1.heap.size w1 w2) : Blk w2 g t cs ∧ Below w.heap.size w w2 :=
  ⟨h.1.below hb h.1.lt, h.2.trans (hb.mono h.2.size)⟩

/-- Sum of one text that lies in a block. -/
theorem sum_at (W : World) (g : Nat) (l : List UInt8) (hl : l.length ≤ 65536) (h : Blk W g 9 #[S l]) :
    Calls Try.prog 9 #[.slice (some ⟨g, 0, none⟩) 1 1] W fun e w' => e = .returned (.agg (darr (sumM l))) ∧ Below W.heap.size W w' := by
  have := sum_any W (some ⟨g, 0, none⟩) 1 1 [l] ⟨rfl, fun _ => ⟨g, 0, rfl, by have := h.lt; omega, h.lt, fun j u hu => by
    rw [h.cell, Nat.zero_add]
    simpa using hu⟩⟩ rfl (by simpa using hl) (by decide)
  simpa using this

set_option maxRecDepth 100000 in
set_option maxHeartbeats 2000000 in
theorem long_any (w : World) (x : Int) (c : UInt8) : Calls Try.prog 5 #[.int .i64 x, B8 c] w (Gives w (.bool true)) := by
  obtain ⟨n, hn, hn2⟩ := and_255 x
  have hmk := fun w => mkN w n hn2
  go_enter Try.func5, Try.ntmps5
  go_wp2_with (first | (go_at_call 8; refine (head_any _).mono ?_; rintro e w1 ⟨rfl, hb⟩; have HB1 := hide hb; clear hb))
  clear hmk hn
  have HB2 := hide (HB1.out.alloc HB1.out.size (.cells (darr (List.replicate n 0)) 5))
  have HK2 : Hid (Blk (w1.alloc (.cells (darr (List.replicate n 0)) 5)) w1.heap.size 5 (darr (List.replicate 0 c ++ List.replicate (n - 0) 0))) := hide (Blk.new _ _ _)
  have hlt0 := HB1.out.size
  generalize w1.alloc (.cells (darr (List.replicate n 0)) 5) = w2 at HB2 HK2 ⊢
  generalize w1.heap.size = g at HK2 hlt0 ⊢
  clear HB1
  go_loopw [15] (fun i wr => ∃ k : Nat, k ≤ n ∧ i = .int .i64 (k : Int) ∧ Below w.heap.size w wr ∧ Blk wr g 5 (darr (List.replicate k c ++ List.replicate (n - k) 0))) (fun i _ => n - (intOf i).toNat)
  case atStart => exact ⟨0, by omega, rfl, HB2.out, HK2.out⟩
  case round =>
    clear HB2 HK2
    obtain ⟨k, hk, rfl, hb, hbk⟩ := hrel
    have HB := hide hb
    have HK := hide hbk
    clear hb hbk
    by_cases hlt : k < n
    · have hc := HK.out.darr_at (i := k) (by simp; omega)
      generalize (List.replicate k c ++ List.replicate (n - k) 0).getD k 0 = y at hc
      have hf := HK.out.frozen k
      go_wp2_with fail
      clear hc hf
      go_roundw
      case rel => exact ⟨k + 1, by omega, by go_num, HB.out.setCell hlt0 _, by rw [← fill_next c n k hlt]; exact HK.out.darr_set k c⟩
      case measure => simp [intOf]; omega
    · obtain rfl : k = n := by omega
      obtain ⟨L, hL⟩ : ∃ L, L = List.replicate k c := ⟨_, rfl⟩
      have hLl : L.length = k := by rw [hL]; simp
      have hbk := HK.out
      rw [Nat.sub_self, List.replicate_zero, List.append_nil, ← hL] at hbk
      have H1 := fun W g h => hide (sum_at W g L (by omega) h)
      have H2 := fun W => hide (digest_any W L (by omega))
      have HQ := fun W => hide (run_eql_darr (sumM L) (sumM L) (sumM_len L) (sumM_len L) W)
      have HCV : Hid (∀ W, Blk W g 5 (darr L) → (convert 31 9 (.slice (some ⟨g, 0, none⟩) k k)).run Try.prog W = .ok (S L) W) := hide (fun W h => by
        have := run_convert_bytes_back (P := Try.prog) W 31 9 5 ⟨g, 0, none⟩ k L Try.underlying31 Try.underlying5 Try.underlying9 (fun j hj => by
          rw [Addr.add_mid, h.darr_at (i := 0 + j) (by omega)]
          simp [hj])
        rwa [hLl] at this)
      obtain ⟨dz, hdz⟩ : ∃ dz, dz = darr (sumM L) := ⟨_, rfl⟩
      obtain ⟨lz, hlz⟩ : ∃ dz, dz = darr L := ⟨_, rfl⟩
      simp only [← hdz] at H1 H2 HQ
      rw [← hlz] at HCV hbk
      have he : ∀ W, (binOp .eql 24 (.agg dz) (.agg dz)).run Try.prog W = .ok (.bool true) W := fun W => by
        have := (HQ W).out
        rwa [show (sumM L == sumM L) = true by simp] at this
      have HE := hide he
      have H0 : Blk wr.drew g 5 lz ∧ Below w.heap.size w wr.drew := ⟨hbk, HB.out.drew⟩
      clear HQ he hdz hlz hbk HK HB hlt hk hL hLl
      go_wp2_with fail
      have he := HE.out
      -- REGION
      refine wp_region_noPanic ?_
      refine wp_region_held_drew (S := fun w' => Blk w' g 5 lz ∧ Below w.heap.size w w') (by kernel_rfl) H0 (fun hHeld => ?_)
      refine wpAnyH_take (i := 0) (v := ?_) (by simp only [List.getElem?_toArray, List.getElem?_cons_zero]; rfl) (by kernel_rfl) (by kernel_rfl) (by kernel_rfl) (fun _ _ _ h => h) (Or.inl ⟨by rfl, ?_⟩) (by assumption) ?_
      rotate_left
      · (intro w hSw; go_simp; try with_reducible rfl)
      try simp only [Act.put, List.setIfInBounds_toArray, List.set_cons_zero, List.set_cons_succ]
      refine wpAnyH_take (i := 1) (v := ?_) (by simp only [List.getElem?_toArray, List.getElem?_cons_zero, List.getElem?_cons_succ]; rfl) (by kernel_rfl) (by kernel_rfl) (by kernel_rfl) (fun _ _ _ h => h) (Or.inl ⟨by rfl, ?_⟩) (by assumption) ?_
      rotate_left
      · (intro w hSw; have hcv := HCV.out w hSw.1; clear hSw; go_simp; try with_reducible rfl)
      try simp only [Act.put, List.setIfInBounds_toArray, List.set_cons_zero, List.set_cons_succ]
      refine wpAnyH_take (i := 4) (v := ?_) (by simp only [List.getElem?_toArray, List.getElem?_cons_zero, List.getElem?_cons_succ]; rfl) (by kernel_rfl) (by kernel_rfl) (by kernel_rfl) (fun _ _ _ h => h) (Or.inl ⟨by rfl, ?_⟩) (by assumption) ?_
      rotate_left
      · (intro w hSw; go_simp; try with_reducible rfl)
      try simp only [Act.put, List.setIfInBounds_toArray, List.set_cons_zero, List.set_cons_succ]
      refine wpAnyH_take (i := 5) (v := ?_) (by simp only [List.getElem?_toArray, List.getElem?_cons_zero, List.getElem?_cons_succ]; rfl) (by kernel_rfl) (by kernel_rfl) (by kernel_rfl) (fun _ _ _ h => h) (Or.inl ⟨by rfl, ?_⟩) (by assumption) ?_
      rotate_left
      · (intro w hSw; have hcv := HCV.out w hSw.1; clear hSw; go_simp; try with_reducible rfl)
      try simp only [Act.put, List.setIfInBounds_toArray, List.set_cons_zero, List.set_cons_succ]
      refine wpAnyH_ready (rs := [2]) (by kernel_rfl) (by simp) ?_
      refine AllReadyH.cons (by simp only [List.getElem?_toArray, List.getElem?_cons_zero, List.getElem?_cons_succ]; rfl) (fun K hK => ?_) AllReadyH.nil
      go_simp
      refine hK.out _ _ ⟨hHeld.1.alloc _, hHeld.2.alloc hHeld.2.size _⟩ (fun hHeld => ?_)
      clear hK K
      try simp only [Act.put, List.setIfInBounds_toArray, List.set_cons_zero, List.set_cons_succ]
      have hbs : Blk (wr.alloc (.cells #[S L] 9)).drew wr.heap.size 9 #[S L] := (Blk.new _ _ _).drew
      have HBS := hide hbs
      clear hbs
      refine wpAnyH_ready (rs := [3]) (by kernel_rfl) (by simp) ?_
      refine AllReadyH.cons (by simp only [List.getElem?_toArray, List.getElem?_cons_zero, List.getElem?_cons_succ]; rfl) (fun K hK => ?_) AllReadyH.nil
      go_simp
      go_at_call 9
      refine (H1 _ _ HBS.out).out.mono ?_
      rintro e w4 ⟨rfl, hb4⟩
      go_wp2_with fail
      refine hK.out _ _ (blk_keep hHeld hb4) (fun hHeld => ?_)
      clear hK K hb4
      try simp only [Act.put, List.setIfInBounds_toArray, List.set_cons_zero, List.set_cons_succ]
      refine wpAnyH_ready (rs := [6]) (by kernel_rfl) (by simp) ?_
      refine AllReadyH.cons (by simp only [List.getElem?_toArray, List.getElem?_cons_zero, List.getElem?_cons_succ]; rfl) (fun K hK => ?_) AllReadyH.nil
      go_simp
      go_at_call 10
      refine (H2 _).out.mono ?_
      rintro e w5 ⟨rfl, hb5⟩
      go_wp2_with fail
      refine hK.out _ _ (blk_keep hHeld hb5) (fun hHeld => ?_)
      clear hK K hb5
      try simp only [Act.put, List.setIfInBounds_toArray, List.set_cons_zero, List.set_cons_succ]
      refine wpAnyH_take (i := 7) (v := ?_) (by simp only [List.getElem?_toArray, List.getElem?_cons_zero, List.getElem?_cons_succ]; rfl) (by kernel_rfl) (by kernel_rfl) (by kernel_rfl) (fun _ _ _ h => h) (Or.inl ⟨by rfl, ?_⟩) (by assumption) ?_
      rotate_left
      · (intro w hSw; go_simp; try with_reducible rfl)
      try simp only [Act.put, List.setIfInBounds_toArray, List.set_cons_zero, List.set_cons_succ]
      refine wpAnyH_take (i := 8) (v := ?_) (by simp only [List.getElem?_toArray, List.getElem?_cons_zero, List.getElem?_cons_succ]; rfl) (by kernel_rfl) (by kernel_rfl) (by kernel_rfl) (fun _ _ _ h => h) (Or.inl ⟨by rfl, ?_⟩) (by assumption) ?_
      rotate_left
      · (intro w hSw; go_simp; try with_reducible rfl)
      try simp only [Act.put, List.setIfInBounds_toArray, List.set_cons_zero, List.set_cons_succ]
      refine wpAnyH_done (by kernel_rfl) ?_ _
      refine NoPanic.normal ?_
      have HF := hide hHeld.2
      go_wp2_with fail
      go_ret
      exact ⟨rfl, HF.out⟩
      -- END
end Go.Proofs.Ytdnpcpeibjckmaa
