/- The disk behind a loss of power: the contract of Disk.Crash; no statement of the seat is proved here. -/
import Derived.Test.YtkgljicibjlabaaDiskRead
namespace Go.Proofs.Ytkgljicibjlabaa
open Go.RowKit Go.Maps

/-- What of the changes was kept. -/
def kept (ks : List Bool) (cs : List Ch) : List Ch := (cs.zipIdx.filter fun x => ks.getD x.2 false).map Prod.fst
theorem kept_succ (ks : List Bool) (cs : List Ch) {k : Nat} (hk : k < cs.length) : kept ks (cs.take (k + 1)) = kept ks (cs.take k) ++ (if ks.getD k false then [cs[k]] else []) := by
  unfold kept
  rw [takeS hk, List.zipIdx_append, List.filter_append, List.map_append]
  congr 1
  simp only [List.length_take, Nat.min_eq_left (Nat.le_of_lt hk), List.zipIdx_singleton, List.getD_eq_getElem?_getD]
  cases h : ks[k]?.getD false <;> simp [h]

set_option maxRecDepth 100000 in
set_option maxHeartbeats 4000000 in
theorem crash_any (g b N n c kn kc room : Nat) (cs : List Ch) (A KA : Option Addr) (ks : List Bool) (fall : Int) (dn : Bool) (F : Fl) (w : World)
    (hg : Blk w g 68 #[.map (some b), .slice A n c, .int .i64 room, .int .i64 fall, .bool dn]) (h : TxtIs w b N F) (hroom : room ≤ 4194304)
    (hs : Rd w (fun k => w.heap.size ≤ k) 3 A n (cs.flatMap Ch.cells)) (hl : cs.length = n) (hn : n ≤ 100000) (hN : N ≤ 100000) (hok : ∀ c ∈ cs, c.ok ∧ c.k ≤ 2)
    (hk : Rd w (fun k => w.heap.size ≤ k) 1 KA kn (ks.map .bool)) (hkl : ks.length = kn) :
    Calls Try.prog 14 #[.pointer (some ⟨g, 0, none⟩), .slice KA kn kc] w
      (fun e w' => ∃ g' b', e = .returned (.pointer (some ⟨g', 0, none⟩)) ∧ Blk w' g' 68 #[.map (some b'), .slice none 0 0, .int .i64 room, .int .i64 (-1), .bool false] ∧
        TxtIs w' b' (N + n) ((kept ks cs).foldl chDo F) ∧ Below w.heap.size w w' ∧ w.heap.size ≤ g' ∧ w.heap.size ≤ b') := by
  have c2 : w.cell? ⟨g, 2, none⟩ = some (.int .i64 room) := hg.cell 2
  have HNW := hide (dnew_any room hroom w)
  go_enter Try.func14, Try.ntmps14
  go_wp2_with fail
  refine HNW.out.mono ?_
  rintro e w1 ⟨rfl, hw1⟩
  have hb1 : Below w.heap.size w w1 := by rw [hw1]; exact ((Below.refl _ _).alloc (Nat.le_refl _) _).alloc (by simp) _
  have hsz1 : w1.heap.size = w.heap.size + 2 := by rw [hw1]; simp
  have hg1 := hg.below hb1 hg.lt
  have hk1 : Blk w1 (w.heap.size + 1) 68 #[.map (some w.heap.size), .slice none 0 0, .int .i64 room, .int .i64 (-1), .bool false] := by
    have := Blk.new (w.alloc (.map #[] 0)) 68 #[.map (some w.heap.size), .slice none 0 0, .int .i64 room, .int .i64 (-1), .bool false]
    rw [World.size_alloc] at this
    rw [hw1]
    exact this
  have hcl := clone_any b N F w1 (h.of_block (hb1.block b h.lt))
  have c0 : w1.cell? ⟨g, 0, none⟩ = some (.map (some b)) := hg1.cell 0
  have HCL := hide hcl
  clear hw1 HNW c2 hcl
  go_wp2_with fail
  refine HCL.out.mono ?_
  rintro e w2 ⟨rfl, ht2, hb2⟩
  have hk2 := hk1.below hb2 hk1.lt
  have f0 := hk2.frozen 0
  have p0 : w2.cell? ⟨w.heap.size + 1, 0, none⟩ = some (.map (some w.heap.size)) := hk2.cell 0
  have c1 : w2.cell? ⟨g, 1, none⟩ = some (.slice A n c) := (hg1.below hb2 hg1.lt).cell 1
  have hne : g ≠ w.heap.size + 1 := by have := hg.lt; omega
  go_wp2_with fail
  rw [hsz1] at ht2
  have hk3 := hk2.set_ 0 (.map (some (w.heap.size + 2)))
  have ht3 : TxtIs (w2.setCell ⟨w.heap.size + 1, 0, none⟩ (.map (some (w.heap.size + 2)))) (w.heap.size + 2) N F := ht2.of_block (Below.heap_setCell _ _ _ _ (by simp))
  have hb3 := (hb1.trans (hb2.mono (by omega))).setCell (p := ⟨w.heap.size + 1, 0, none⟩) (by simp) (.map (some (w.heap.size + 2)))
  obtain ⟨w3, hw3⟩ : ∃ w3, w3 = w2.setCell ⟨w.heap.size + 1, 0, none⟩ (.map (some (w.heap.size + 2))) := ⟨_, rfl⟩
  rw [← hw3] at hk3 ht3 hb3
  rw [← hw3]
  clear hw3 f0 p0 c1 hk2 ht2 hb2 HCL c0
  go_loopw [29] (fun i wr => ∃ k : Nat, k ≤ n ∧ i = .int .i64 k ∧ Blk wr (w.heap.size + 1) 68 #[.map (some (w.heap.size + 2)), .slice none 0 0, .int .i64 room, .int .i64 (-1), .bool false] ∧ TxtIs wr (w.heap.size + 2) (N + k) ((kept ks (cs.take k)).foldl chDo F) ∧ Below w.heap.size w wr) (fun i _ => n - (intOf i).toNat)
  case atStart => exact ⟨0, Nat.zero_le _, rfl, hk3, ht3, hb3⟩
  case round =>
    obtain ⟨k, hkn, rfl, hkr, htr, hBr⟩ := hrel
    have HTR := hide htr
    clear htr
    by_cases hlt : k < n
    · obtain ⟨x, o, rfl, _, _, hcell⟩ := Rd.rec_ (size := 3) (fun _ => rfl) (hs.below hBr) hl k hlt
      have hlk : k < cs.length := by omega
      have hck := hok _ (List.getElem_mem hlk)
      have HKS : Hid (kept ks (cs.take (k + 1)) = kept ks (cs.take k) ++ (if ks.getD k false then [cs[k]] else [])) := hide (kept_succ ks cs hlk)
      obtain ⟨d, hd⟩ : ∃ d, d = cs[k] := ⟨_, rfl⟩
      rw [← hd] at hcell hck HKS
      clear hd
      obtain ⟨dk, dm, dt⟩ := d
      have q0 : wr.cell? ⟨x, o + k * 3, none⟩ = some (.int .i64 dk) := hcell 0 _ rfl
      have q1 : wr.cell? ⟨x, o + k * 3 + 1, none⟩ = some (S dm) := hcell 1 _ rfl
      have q2 : wr.cell? ⟨x, o + k * 3 + 2, none⟩ = some (S dt) := hcell 2 _ rfl
      clear hcell
      by_cases hlk2 : k < kn
      · obtain ⟨x2, o2, u, rfl, hu, hcu⟩ := (hk.below hBr).at_ k hlk2
        have hlk3 : k < ks.length := by omega
        obtain rfl : Value.bool ks[k] = u := by simpa [hlk3] using hu
        have hgd : ks.getD k false = ks[k] := by simp [hlk3]
        obtain ⟨B, hB⟩ : ∃ B, B = ks[k] := ⟨_, rfl⟩
        rw [hgd, ← hB] at HKS
        rw [← hB] at hcu
        have hcv : wr.cell? ⟨x2, o2 + k, none⟩ = some (.bool B) := by simpa using hcu
        have q5 : (wr.alloc (.cells #[.int .i64 dk, S dm, S dt] 71)).cell? ⟨x2, o2 + k, none⟩ = some (.bool B) := (World.cell?_alloc_lt wr _ _ (World.block_lt_of_cell? _ _ hcv)).trans hcv
        clear hu hgd hB hcu hcv
        cases B
        case false =>
          have hL := HKS.out
          simp at hL
          have HL := hide hL
          clear hL
          go_wp2_with fail
          go_roundw
          case rel => exact ⟨k + 1, by omega, by go_num, hkr.alloc _, by rw [HL.out]; exact (HTR.out.of_block (Below.heap_alloc _ _ _ HTR.out.lt)).mono (by omega), hBr.alloc hBr.size _⟩
          case measure => simp [intOf]; omega
        case true =>
          have hL := HKS.out
          simp at hL
          have HL : Hid ((kept ks (cs.take (k + 1))).foldl chDo F = chDo ((kept ks (cs.take k)).foldl chDo F) ⟨dk, dm, dt⟩) := hide (by rw [hL, List.foldl_append]; rfl)
          clear hL
          go_wp2_with fail
          have p0 : (wr.alloc (.cells #[.int .i64 dk, S dm, S dt] 71)).cell? ⟨w.heap.size + 1, 0, none⟩ = some (.map (some (w.heap.size + 2))) := (hkr.alloc _).cell 0
          have hkd := (hkr.alloc (.cells #[.int .i64 dk, S dm, S dt] 71)).drew
          have hBd := (hBr.alloc hBr.size (.cells #[.int .i64 dk, S dm, S dt] 71)).drew
          have HDO := hide (do_any ⟨dk, dm, dt⟩ hck.1 hck.2 (w.heap.size + 2) (N + k) _ (wr.alloc (.cells #[.int .i64 dk, S dm, S dt] 71)).drew (HTR.out.of_block (Below.heap_alloc _ _ _ HTR.out.lt)) (by omega))
          have kn5 := Blk.new wr 71 #[.int .i64 dk, S dm, S dt]
          have r0 : (wr.alloc (.cells #[.int .i64 dk, S dm, S dt] 71)).cell? ⟨wr.heap.size, 0, none⟩ = some (.int .i64 dk) := kn5.cell 0
          have r1 : (wr.alloc (.cells #[.int .i64 dk, S dm, S dt] 71)).cell? ⟨wr.heap.size, 1, none⟩ = some (S dm) := kn5.cell 1
          have r2 : (wr.alloc (.cells #[.int .i64 dk, S dm, S dt] 71)).cell? ⟨wr.heap.size, 2, none⟩ = some (S dt) := kn5.cell 2
          obtain ⟨wB, hwB⟩ : ∃ wB, wB = wr.alloc (.cells #[.int .i64 dk, S dm, S dt] 71) := ⟨_, rfl⟩
          rw [← hwB] at p0 r0 r1 r2 hkd hBd HDO
          rw [← hwB]
          clear hwB kn5 q0 q1 q2 q5
          go_still_tail 5, (by kernel_rfl)
          go_wp2_with fail
          refine HDO.out.mono ?_
          rintro e w5 ⟨rfl, ht5, hk5⟩
          have hk6 := hkd.keep hk5 (by omega)
          have hB6 := hBd.trans (hk5.below (B := w.heap.size) hBd.size (fun k hk => by omega))
          have HT5 := hide ht5
          clear p0 hkd hBd HDO ht5 hk5
          go_wp2_with fail
          go_roundw
          case rel => exact ⟨k + 1, by omega, by go_num, hk6, by rw [HL.out]; exact HT5.out, hB6⟩
          case measure => simp [intOf]; omega
      · have hL := HKS.out
        rw [show ks.getD k false = false by simp [List.getD_eq_getElem?_getD, List.getElem?_eq_none (show ks.length ≤ k by omega)]] at hL
        simp at hL
        have HL := hide hL
        clear hL
        go_wp2_with fail
        go_roundw
        case rel => exact ⟨k + 1, by omega, by go_num, hkr.alloc _, by rw [HL.out]; exact (HTR.out.of_block (Below.heap_alloc _ _ _ HTR.out.lt)).mono (by omega), hBr.alloc hBr.size _⟩
        case measure => simp [intOf]; omega
    · have HE : Hid (cs.take k = cs) := hide (List.take_of_length_le (by omega))
      have HN : Hid (k = n) := hide (by omega)
      go_wp2_with fail
      go_ret
      refine ⟨_, _, rfl, hkr, ?_, hBr, by omega, by omega⟩
      have := HTR.out
      rwa [HE.out, HN.out] at this
end Go.Proofs.Ytkgljicibjlabaa
