/- CompatGrows, walked: it returns true for every input. -/
import Derived.Test.YtbnplghbokpfmaaGrowsLaw
import Derived.Test.YtbnplghbokpfmaaPassHead
import Derived.Test.YtbnplghbokpfmaaAppRd
import Derived.Test.YtbnplghbokpfmaaGoesW
import Derived.Deep.DeepCutAuto
import Derived.Deep.RegionLaw
import Derived.Deep.RegionHeld3
import Derived.Deep.CutBlock
namespace Go.Proofs.Ytbnplghbokpfmaa
open Go.RowKit

theorem sig_info : (Try.prog.info? 34).map (fun i => (i.zero, i.size, i.bytes)) = some (some (.agg #[.string { data := #[] }, .bool false, .slice none 0 0, .string { data := #[] }, .bool false]), 5, 72) := by kernel_rfl
theorem sg_one (l : List Sg) : ∀ u ∈ l.flatMap Sg.cells, u.oneCell' = true := by
  intro u hu
  obtain ⟨m, _, hm⟩ := List.mem_flatMap.1 hu
  simp only [Sg.cells, List.mem_cons, List.not_mem_nil, or_false] at hm
  rcases hm with rfl | rfl | rfl | rfl | rfl <;> rfl

/-- k methods more lie in the copy's slice. -/
structure Gst (w wr : World) (bB : Nat) (a : Fc) (N : Nat) (last : Bool) (k : Nat) (A : Option Addr) (c : Nat) : Prop where
  blk : Blk wr bB 25 #[S a.n, S a.su, .slice a.fA a.fl a.fc, .slice A (a.ml + k) c]
  own : wr.ownsRow w.heap.size 34 5 (.slice A (a.ml + k) c) (a.ml + k) ((a.ms ++ newsG N last k).flatMap Sg.cells)
  bel : Below w.heap.size w wr
  box : Blk wr w.heap.size 25 a.arr
  lt : w.heap.size < bB

theorem Gst.next {w wr W w1 : World} {bB : Nat} {a : Fc} {N : Nat} {last : Bool} {k : Nat} {A A' : Option Addr} {c c' : Nat} (h : Gst w wr bB a N last k A c) (hW : Below wr.heap.size wr W)
    (hown : w1.ownsRow w.heap.size 34 5 (.slice A' (a.ml + k + 1) c') (a.ml + k + 1) ((a.ms ++ newsG N last k).flatMap Sg.cells ++ (newG N last k).cells)) (hg : W.grownBy w1 (Value.slice A (a.ml + k) c).ownBlock) :
    Gst w (w1.setCell ⟨bB, 3, none⟩ (.slice A' (a.ml + k + 1) c')) bB a N last (k + 1) A' c' := by
  have hb := h.blk.below hW h.blk.lt
  have hx := h.box.below hW h.box.lt
  have hne : some bB ≠ (Value.slice A (a.ml + k) c).ownBlock := fun e => own_blk_ne h.own h.blk (by decide) e.symm
  have hne' : some w.heap.size ≠ (Value.slice A (a.ml + k) c).ownBlock := fun e => own_blk_ne h.own h.box (by decide) e.symm
  have hb1 := hb.grown hg hne
  have hx1 := hx.grown hg hne'
  have hs := h.bel.size
  have ho : ∀ i, (Value.slice A (a.ml + k) c).ownBlock = some i → w.heap.size ≤ i := fun i hi => by
    rcases h.own.2 with ⟨e, _⟩ | ⟨g, cap, cur, e, hbg, _⟩
    · rw [e] at hi; simp [Value.ownBlock] at hi
    · rw [e] at hi; simp [Value.ownBlock] at hi; omega
  have hk : Keep (fun i => w.heap.size ≤ i) w w1 := (Keep.of_below (h.bel.trans (hW.mono hs)) (fun i _ hi => hi)).grown hg (fun i hi _ => ho i hi)
  have hn2 : ∀ i, (Value.slice A' (a.ml + k + 1) c').ownBlock = some i → ¬ i = bB := fun i hi e => by subst e; exact own_blk_ne hown hb1 (by decide) hi
  refine ⟨hb1.set_ 3 _, ?_, (hk.setCell (fun _ => by have := h.lt; simp; omega) _).below (Nat.le_refl _) (fun i hi => hi), hx1.far (by have := h.lt; simp; omega) _, h.lt⟩
  have := own_keep hown ((Keep.refl (fun i => i = bB) w1).setCell (p := ⟨bB, 3, none⟩) (fun _ => rfl) (.slice A' (a.ml + k + 1) c')) hn2
  rw [newsG_succ, ← List.append_assoc, List.flatMap_append]
  simpa [Nat.add_assoc] using this

theorem own_below {w w' : World} {base n size : Nat} {e : TypeId} {v : Value} {xs : List Value} (h : w.ownsRow base e size v n xs) (hb : Below w.heap.size w w') : w'.ownsRow base e size v n xs :=
  own_keep h (Keep.of_below (F := fun _ => False) hb (fun k h1 h2 => by omega)) (fun _ _ h => h)

theorem Rd.of_own {w : World} {base n size : Nat} {e : TypeId} {A : Option Addr} {c : Nat} {xs : List Value} (h : w.ownsRow base e size (.slice A n c) n xs) : Rd w (fun k => w.heap.size ≤ k) size A n xs := by
  refine ⟨h.1, fun hn => ?_⟩
  obtain ⟨g, cap, hv, _, hlt⟩ := h.form hn
  have hA : A = some ⟨g, 0, none⟩ := by injection hv
  subst hA
  refine ⟨g, 0, rfl, by omega, hlt, fun j u hu => ?_⟩
  have := h.cells (g := g) rfl j u hu
  unfold Addr.add at this
  split at this
  · rename_i h0; subst h0; simpa using this
  · simpa using this

theorem growF_at {w wr : World} {bB : Nat} {a : Fc} {N : Nat} {last : Bool} {A : Option Addr} {c : Nat} (h : Gst w wr bB a N last N A c) (ha : a.at_ w (fun k => w.heap.size ≤ k)) (hl : a.ml ≤ 12) (hN : N < 8) :
    (growF a N last A c).at_ wr (fun k => wr.heap.size ≤ k) := by
  have hs := h.bel.size
  have hw := (ha.below h.bel).weak (G := fun k => wr.heap.size ≤ k) (fun k hk => by omega)
  refine ⟨hw.1, ⟨Rd.of_own h.own, ?_, by simp only [growF]; omega, fun m hm => ?_⟩, hw.2.2⟩
  · simp [growF, newsG, hw.2.1.2.1]
  · rcases List.mem_append.1 hm with hm | hm
    · exact hw.2.1.2.2.2 m hm
    · obtain ⟨i, _, rfl⟩ := List.mem_map.1 hm
      exact ⟨Rd.nil _ _ _ _, rfl, by simp [newG], by simp [newG, short, zz], by simp [newG, Ty.ok, short], by simp [newG]⟩

set_option maxRecDepth 100000 in
set_option maxHeartbeats 8000000 in
theorem grows_walk (a : Fc) (x : Int) (last : Bool) (w : World) (ha : a.at_ w (fun k => w.heap.size ≤ k)) :
    Calls Try.prog 3 #[a.val, .int .i64 x, .bool last] w (Gives w (.bool true)) := by
  have few : ∀ w', Below w.heap.size w w' → Calls Try.prog 7 #[a.val] w' (Asks w' a.few) := fun w' hb => few_any a w' ((ha.below hb).weak (fun k hk => by have := hb.size; omega))
  have hra : ∀ w', Below w.heap.size w w' → Calls Try.prog 8 #[a.val] w' (Gives w' (.bool a.right)) := fun w' h' => right_any a w' ((ha.below h').weak (fun k hk => by have := h'.size; omega))
  have HFA := hide few
  obtain ⟨Y, hY⟩ : ∃ Y, Y = a.right := ⟨_, rfl⟩
  rw [← hY] at hra
  have HRA := hide hra
  have HY := hide hY
  have HA := hide ha
  clear few hra hY ha
  obtain ⟨N, hN8, h7⟩ := and7_nat x
  obtain ⟨wB, hwB⟩ : ∃ wB, wB = w.alloc (.cells a.arr 25) := ⟨_, rfl⟩
  have hB0 : Below w.heap.size w wB := by rw [hwB]; exact (Below.refl _ _).alloc (Nat.le_refl _) _
  have kA : Blk wB w.heap.size 25 a.arr := by rw [hwB]; exact Blk.new _ _ _
  go_enter Try.func3, Try.ntmps3
  go_wp2_with fail
  rw [← hwB]
  clear hwB
  refine (head_any wB).mono ?_
  rintro e w1 ⟨rfl, hb1⟩
  have hB1 := hB0.trans (hb1.mono hB0.size)
  have kA1 := kA.below hb1 kA.lt
  obtain ⟨a0, a1, a2, a3⟩ := fcells kA1
  clear kA hb1 hB0
  go_wp2_with fail
  refine (HFA.out w1 hB1).mono ?_
  rintro e w2 ⟨R, rfl, hb2, hfew⟩
  have HFW := hide hfew
  have hB2 := hB1.trans (hb2.mono hB1.size)
  have kA2 := kA1.below hb2 kA1.lt
  clear kA1 hb2 hB1 a0 a1 a2 a3 hfew
  cases R
  case false =>
    go_wp2_with fail
    go_ret
    exact ⟨rfl, hB2⟩
  case true =>
  have hml := (HFW.out rfl).2.1
  obtain ⟨a0, a1, a2, a3⟩ := fcells kA2
  go_wp2_with fail
  refine (HRA.out w2 hB2).mono ?_
  rintro e w3 ⟨rfl, hb3⟩
  have hB3 := hB2.trans (hb3.mono hB2.size)
  have kA3 := kA2.below hb3 kA2.lt
  clear kA2 hb3 hB2 a0 a1 a2 a3
  cases Y
  case false =>
    go_wp2_with fail
    go_ret
    exact ⟨rfl, hB3⟩
  case true =>
  obtain ⟨a0, a1, a2, a3⟩ := fcells kA3
  obtain ⟨i0, hi0, hz0, hz1, hz2⟩ := info_parts sig_info
  obtain ⟨w4, hw4⟩ : ∃ w4, w4 = (w3.alloc (.cells a.arr 25)).alloc (.cells #[] 34) := ⟨_, rfl⟩
  have hs3 := hB3.size
  have hB4 : Below w.heap.size w w4 := by rw [hw4]; exact (hB3.alloc hB3.size _).alloc (by simp; omega) _
  have kA4 : Blk w4 w.heap.size 25 a.arr := by rw [hw4]; exact (kA3.alloc _).alloc _
  have kB4 : Blk w4 w3.heap.size 25 a.arr := by rw [hw4]; exact (Blk.new _ _ _).alloc _
  have hown4 : w4.ownsRow w.heap.size 34 5 (.slice (some ⟨w3.heap.size + 1, 0, none⟩) 0 0) 0 [] := by
    rw [hw4]
    refine ⟨by simp, .inr ⟨w3.heap.size + 1, 0, #[], rfl, by omega, ?_, by omega, by unfold maxLen; omega, by simp, by simp⟩⟩
    have := heap_alloc_new (w3.alloc (.cells a.arr 25)) (.cells #[] 34)
    rw [World.size_alloc] at this
    exact this
  have hrd4 : Rd w4 (fun k => w.heap.size ≤ k) 5 a.mA a.ml (a.ms.flatMap Sg.cells) := HA.out.2.1.1.below hB4
  have hs4 : w.heap.size ≤ w4.heap.size := hB4.size
  have c3 : w4.cell? ⟨w.heap.size, 3, none⟩ = some (.slice a.mA a.ml a.mc) := kA4.cell 3
  rw [hw4] at hown4 hrd4 hs4 c3
  go_wp2_with (at_builtin; refine app_rd rfl (.tmp 22) (.tmp 24) 23 rfl w.heap.size 34 _ 5 72 Try.underlying23 sig_info rfl (by decide) (.slice (some ⟨w3.heap.size + 1, 0, none⟩) 0 0) 0 [] rfl hown4 a.mA a.ml a.mc (a.ms.flatMap Sg.cells) rfl hrd4 (sg_one _) (by unfold maxLen; omega) (by omega) hs4 ?_; intro A5 c5 w5 hown5 hgrow5 hat5; rw [← hw4] at hgrow5; have kB5 := kB4.grown hgrow5 (by simp [Value.ownBlock]); have f5 : ∀ i, w5.frozen? ⟨w3.heap.size, i, none⟩ = false := kB5.frozen; have p5 : w5.cell? ⟨w3.heap.size, 3, none⟩ = some (.slice a.mA a.ml a.mc) := kB5.cell 3)
  have hst : Gst w (w5.setCell ⟨w3.heap.size, 3, none⟩ (.slice A5 a.ml c5)) w3.heap.size a N last 0 A5 c5 := by
    have hown6 : w5.ownsRow w.heap.size 34 5 (.slice A5 a.ml c5) a.ml (a.ms.flatMap Sg.cells) := by simpa using hown5
    have kA5 := kA4.grown hgrow5 (by simp [Value.ownBlock]; omega)
    have hk : Keep (fun i => w.heap.size ≤ i) w w5 := (Keep.of_below hB4 (fun i _ hi => hi)).grown hgrow5 (fun i hi _ => by simp [Value.ownBlock] at hi; omega)
    have hlt3 := kA3.lt
    refine ⟨kB5.set_ 3 _, ?_, (hk.setCell (fun _ => by simp; omega) _).below (Nat.le_refl _) (fun i hi => hi), kA5.far (by simp; omega) _, hlt3⟩
    have := own_keep hown6 ((Keep.refl (fun i => i = w3.heap.size) w5).setCell (p := ⟨w3.heap.size, 3, none⟩) (fun _ => rfl) (.slice A5 a.ml c5)) (fun i hi e => by subst e; exact own_blk_ne hown6 kB5 (by decide) hi)
    simpa [newsG] using this
  obtain ⟨wS, hwS⟩ : ∃ wS, wS = w5.setCell ⟨w3.heap.size, 3, none⟩ (.slice A5 a.ml c5) := ⟨_, rfl⟩
  rw [← hwS] at hst
  rw [← hwS]
  obtain ⟨bB, hbB⟩ : ∃ bB, bB = w3.heap.size := ⟨_, rfl⟩
  rw [← hbB] at hst
  rw [← hbB]
  clear hwS hbB p5 f5 kB5 hat5 hgrow5 hown5 c3 hs4 hrd4 hown4 kB4 kA4 hB4 hs3 hw4 a0 a1 a2 a3 kA3 hB3 h7
  have HI : Hid (∀ w, Calls Try.prog 9 #[] w (Gives w (.agg #[S [105, 110, 116], .bool false]))) := hide int_any
  go_loopw [8] (fun i wr => ∃ (k : Nat) (A : Option Addr) (c : Nat), k ≤ N ∧ i = .int .i64 k ∧ Gst w wr bB a N last k A c) (fun i _ => N - (intOf i).toNat)
  case atStart => exact ⟨0, A5, c5, Nat.zero_le _, rfl, hst⟩
  case round =>
    obtain ⟨k, A, c, hk, rfl, hg⟩ := hrel
    have HG := hide hg
    clear hg hst
    by_cases hlt : k < N
    · have hki : (k : Int) < (N : Int) := by omega
      go_upto_block 1 with (fail)
      go_cut [8] (fun v wx => v = .int .i64 k ∧ ∃ A' c', Gst w wx bB a N last (k + 1) A' c')
      case first =>
        have g3 : wr.cell? ⟨bB, 3, none⟩ = some (.slice A (a.ml + k) c) := HG.out.blk.cell 3
        have hc1 : IntKind.u8.wrap (k : Int) = (k : Int) := by unfold IntKind.wrap; simp [IntKind.bits, IntKind.signed]; omega
        have hc2 : IntKind.u8.wrap (97 + (k : Int)) = 97 + (k : Int) := by unfold IntKind.wrap; simp [IntKind.bits, IntKind.signed]; omega
        have hc3 : IntKind.i64.wrap ((N : Int) - 1) = (N : Int) - 1 := by rw [IntKind.wrap_i64]; omega
        obtain ⟨bb, hbb⟩ : ∃ bb, bb = UInt8.ofNat (97 + k) := ⟨_, rfl⟩
        have hbv : (bb.toNat : Int) = 97 + (k : Int) := by rw [hbb]; simp; omega
        have hconv : ∀ (W : World) (g : Nat), W.cell? ⟨g, 0, none⟩ = some (.int .u8 (97 + (k : Int))) → (convert 28 9 (.slice (some ⟨g, 0, none⟩) 1 1)).run Try.prog W = .ok (S [bb]) W := fun W g h => by
          refine run_convert_bytes_back W 28 9 5 ⟨g, 0, none⟩ 1 [bb] Try.underlying28 Try.underlying5 Try.underlying9 fun j hj => ?_
          obtain rfl : j = 0 := by simpa using hj
          simpa [hbv, Addr.add] using h
        have hfz : wr.frozen? ⟨bB, 3, none⟩ = false := HG.out.blk.frozen 3
        have hkeep : ∀ W, Below wr.heap.size wr W → W.cell? ⟨bB, 3, none⟩ = some (.slice A (a.ml + k) c) ∧ W.frozen? ⟨bB, 3, none⟩ = false := fun W h => ⟨(HG.out.blk.below h HG.out.blk.lt).cell 3, (HG.out.blk.below h HG.out.blk.lt).frozen 3⟩
        have HKP := hide hkeep
        obtain ⟨st, hst⟩ : ∃ st, decide ((k : Int) < (N : Int) - 1) = st := ⟨_, rfl⟩
        have HBB := hide hbb
        have HST := hide hst
        clear hbv hbb hkeep
        have hne : some bB ≠ (Value.slice A (a.ml + k) c).ownBlock := fun e => own_blk_ne HG.out.own HG.out.blk (by decide) e.symm
        have h1c : ∀ b : Bool, ∀ u ∈ [S [122, 122, 122, 122, 122, 122, 122, 122, 122, 122, 122, 122, 122, 122, 122, 122, 122, 122, 122, 122, bb], .bool b, .slice none 0 0, S [105, 110, 116], .bool false], u.oneCell' = true := by
          intro b u hu
          simp only [List.mem_cons, List.not_mem_nil, or_false] at hu
          rcases hu with rfl | rfl | rfl | rfl | rfl <;> rfl
        cases st
        case true =>
          have HNC : Hid ((newG N last k).cells = [S [122, 122, 122, 122, 122, 122, 122, 122, 122, 122, 122, 122, 122, 122, 122, 122, 122, 122, 122, 122, bb], .bool true, .slice none 0 0, S [105, 110, 116], .bool false]) := hide (by rw [HBB.out]; simp [newG, zz, HST.out])
          have h1c := h1c true
          go_wp2_with fail
          refine wp_region_noPanic ?_
          refine wp_region_held_drew (S := fun _ => True) (by kernel_rfl) trivial (fun _ => ?_)
          obtain ⟨w20, hw0⟩ : ∃ wn, wn = wr.drew := ⟨_, rfl⟩
          have hW0 : Below wr.heap.size wr w20 := by rw [hw0]; exact (Below.refl _ _).drew
          rw [← hw0]
          clear hw0
          refine wpAnyH_take (i := 0) (v := ?_) (by simp only [List.getElem?_toArray, List.getElem?_cons_zero]; rfl) (by kernel_rfl) (by kernel_rfl) (by kernel_rfl) (fun _ _ _ h => h) (Or.inl ⟨by rfl, ?_⟩) trivial ?_
          rotate_left
          · (intro w hSw; go_simp; try with_reducible rfl)
          try simp only [Act.put, List.setIfInBounds_toArray, List.set_cons_zero, List.set_cons_succ]
          refine wpAnyH_take (i := 2) (v := ?_) (by simp only [List.getElem?_toArray, List.getElem?_cons_zero, List.getElem?_cons_succ]; rfl) (by kernel_rfl) (by kernel_rfl) (by kernel_rfl) (fun _ _ _ h => h) (Or.inl ⟨by rfl, ?_⟩) trivial ?_
          rotate_left
          · (intro w hSw; go_simp; try with_reducible rfl)
          try simp only [Act.put, List.setIfInBounds_toArray, List.set_cons_zero, List.set_cons_succ]
          refine wpAnyH_take (i := 3) (v := ?_) (by simp only [List.getElem?_toArray, List.getElem?_cons_zero, List.getElem?_cons_succ]; rfl) (by kernel_rfl) (by kernel_rfl) (by kernel_rfl) (fun _ _ _ h => h) (Or.inl ⟨by rfl, ?_⟩) trivial ?_
          rotate_left
          · (intro w hSw; go_simp; try with_reducible rfl)
          try simp only [Act.put, List.setIfInBounds_toArray, List.set_cons_zero, List.set_cons_succ]
          refine wpAnyH_take (i := 4) (v := ?_) (by simp only [List.getElem?_toArray, List.getElem?_cons_zero, List.getElem?_cons_succ]; rfl) (by kernel_rfl) (by kernel_rfl) (by kernel_rfl) (fun _ _ _ h => h) (Or.inl ⟨by rfl, ?_⟩) trivial ?_
          rotate_left
          · (intro w hSw; go_simp; try with_reducible rfl)
          try simp only [Act.put, List.setIfInBounds_toArray, List.set_cons_zero, List.set_cons_succ]
          refine wpAnyH_take (i := 8) (v := ?_) (by simp only [List.getElem?_toArray, List.getElem?_cons_zero, List.getElem?_cons_succ]; rfl) (by kernel_rfl) (by kernel_rfl) (by kernel_rfl) (fun _ _ _ h => h) (Or.inl ⟨by rfl, ?_⟩) trivial ?_
          rotate_left
          · (intro w hSw; go_simp; try with_reducible rfl)
          try simp only [Act.put, List.setIfInBounds_toArray, List.set_cons_zero, List.set_cons_succ]
          refine wpAnyH_take (i := 9) (v := ?_) (by simp only [List.getElem?_toArray, List.getElem?_cons_zero, List.getElem?_cons_succ]; rfl) (by kernel_rfl) (by kernel_rfl) (by kernel_rfl) (fun _ _ _ h => h) (Or.inl ⟨by rfl, ?_⟩) trivial ?_
          rotate_left
          · (intro w hSw; go_simp; try with_reducible rfl)
          try simp only [Act.put, List.setIfInBounds_toArray, List.set_cons_zero, List.set_cons_succ]
          refine wpAnyH_take (i := 10) (v := ?_) (by simp only [List.getElem?_toArray, List.getElem?_cons_zero, List.getElem?_cons_succ]; rfl) (by kernel_rfl) (by kernel_rfl) (by kernel_rfl) (fun _ _ _ h => h) (Or.inl ⟨by rfl, ?_⟩) trivial ?_
          rotate_left
          · (intro w hSw; go_simp; try with_reducible rfl)
          try simp only [Act.put, List.setIfInBounds_toArray, List.set_cons_zero, List.set_cons_succ]
          refine wpAnyH_take (i := 11) (v := ?_) (by simp only [List.getElem?_toArray, List.getElem?_cons_zero, List.getElem?_cons_succ]; rfl) (by kernel_rfl) (by kernel_rfl) (by kernel_rfl) (fun _ _ _ h => h) (Or.inl ⟨by rfl, ?_⟩) trivial ?_
          rotate_left
          · (intro w hSw; go_simp; try with_reducible rfl)
          try simp only [Act.put, List.setIfInBounds_toArray, List.set_cons_zero, List.set_cons_succ]
          refine wpAnyH_take (i := 12) (v := ?_) (by simp only [List.getElem?_toArray, List.getElem?_cons_zero, List.getElem?_cons_succ]; rfl) (by kernel_rfl) (by kernel_rfl) (by kernel_rfl) (fun _ _ _ h => h) (Or.inl ⟨by rfl, ?_⟩) trivial ?_
          rotate_left
          · (intro w hSw; go_simp; try with_reducible rfl)
          try simp only [Act.put, List.setIfInBounds_toArray, List.set_cons_zero, List.set_cons_succ]
          refine wpAnyH_take (i := 13) (v := undef) (by simp only [List.getElem?_toArray, List.getElem?_cons_zero, List.getElem?_cons_succ]; rfl) (by kernel_rfl) (by kernel_rfl) (by kernel_rfl) (fun _ _ _ h => h) (Or.inr ⟨by rfl, rfl⟩) trivial ?_
          try simp only [Act.put, List.setIfInBounds_toArray, List.set_cons_zero, List.set_cons_succ]
          refine wpAnyH_take (i := 14) (v := ?_) (by simp only [List.getElem?_toArray, List.getElem?_cons_zero, List.getElem?_cons_succ]; rfl) (by kernel_rfl) (by kernel_rfl) (by kernel_rfl) (fun _ _ _ h => h) (Or.inl ⟨by rfl, ?_⟩) trivial ?_
          rotate_left
          · (intro w hSw; go_simp; try with_reducible rfl)
          try simp only [Act.put, List.setIfInBounds_toArray, List.set_cons_zero, List.set_cons_succ]
          refine wpAnyH_ready (rs := [1, 5, 15]) (by kernel_rfl) (by simp) ?_
          refine AllReadyH.cons (by simp only [List.getElem?_toArray, List.getElem?_cons_zero, List.getElem?_cons_succ]; rfl) (fun K hK => ?_) ?_
          · skip
            have gL := (HKP.out w20 hW0).1
            go_simp
            refine hK.out _ _ trivial (fun _ => ?_)
            clear hK K gL
            refine wpAnyH_ready (rs := [5, 15]) (by kernel_rfl) (by simp) ?_
            refine AllReadyH.cons (by simp only [List.getElem?_toArray, List.getElem?_cons_zero, List.getElem?_cons_succ]; rfl) (fun K hK => ?_) ?_
            · skip
              go_simp
              refine hK.out _ _ trivial (fun _ => ?_)
              clear hK K
              obtain ⟨w21, hw1⟩ : ∃ wn, wn = w20.alloc (.cells #[.int .u8 (97 + (k : Int))] 5) := ⟨_, rfl⟩
              have hW1 : Below wr.heap.size wr w21 := by rw [hw1]; exact hW0.alloc hW0.size _
              have cb1 : w21.cell? ⟨w20.heap.size, 0, none⟩ = some (.int .u8 (97 + (k : Int))) := by rw [hw1]; exact (Blk.new _ _ #[.int .u8 (97 + (k : Int))]).cell 0
              rw [← hw1]
              clear hw1
              refine wpAnyH_ready (rs := [6, 15]) (by kernel_rfl) (by simp) ?_
              refine AllReadyH.cons (by simp only [List.getElem?_toArray, List.getElem?_cons_zero, List.getElem?_cons_succ]; rfl) (fun K hK => ?_) ?_
              · skip
                have hcv := hconv w21 w20.heap.size cb1
                go_simp
                refine hK.out _ _ trivial (fun _ => ?_)
                clear hK K hcv
                refine wpAnyH_take (i := 7) (v := ?_) (by simp only [List.getElem?_toArray, List.getElem?_cons_zero, List.getElem?_cons_succ]; rfl) (by kernel_rfl) (by kernel_rfl) (by kernel_rfl) (fun _ _ _ h => h) (Or.inl ⟨by rfl, ?_⟩) trivial ?_
                rotate_left
                · (intro w hSw; go_simp; try with_reducible rfl)
                try simp only [Act.put, List.setIfInBounds_toArray, List.set_cons_zero, List.set_cons_succ]
                refine wpAnyH_ready (rs := [15]) (by kernel_rfl) (by simp) ?_
                refine AllReadyH.cons (by simp only [List.getElem?_toArray, List.getElem?_cons_zero, List.getElem?_cons_succ]; rfl) (fun K hK => ?_) ?_
                · skip
                  go_simp
                  go_at_call 9
                  refine (HI.out _).mono ?_
                  rintro e w22 ⟨rfl, hb2⟩
                  go_wp2_with fail
                  refine hK.out _ _ trivial (fun _ => ?_)
                  clear hK K
                  have hW2 := hW1.trans (hb2.mono hW1.size)
                  refine wpAnyH_take (i := 16) (v := ?_) (by simp only [List.getElem?_toArray, List.getElem?_cons_zero, List.getElem?_cons_succ]; rfl) (by kernel_rfl) (by kernel_rfl) (by kernel_rfl) (fun _ _ _ h => h) (Or.inl ⟨by rfl, ?_⟩) trivial ?_
                  rotate_left
                  · (intro w hSw; go_simp; try with_reducible rfl)
                  try simp only [Act.put, List.setIfInBounds_toArray, List.set_cons_zero, List.set_cons_succ]
                  refine wpAnyH_ready (rs := [17]) (by kernel_rfl) (by simp) ?_
                  refine AllReadyH.cons (by simp only [List.getElem?_toArray, List.getElem?_cons_zero, List.getElem?_cons_succ]; rfl) (fun K hK => ?_) ?_
                  · skip
                    go_simp
                    refine hK.out _ _ trivial (fun _ => ?_)
                    clear hK K
                    obtain ⟨w23, hw3⟩ : ∃ wn, wn = w22.alloc (.cells #[S [122, 122, 122, 122, 122, 122, 122, 122, 122, 122, 122, 122, 122, 122, 122, 122, 122, 122, 122, 122, bb], .bool true, .slice none 0 0, .string { data := #[105, 110, 116] }, .bool false] 34) := ⟨_, rfl⟩
                    have hW3 : Below wr.heap.size wr w23 := by rw [hw3]; exact hW2.alloc hW2.size _
                    have nb : Blk w23 w22.heap.size 34 #[S [122, 122, 122, 122, 122, 122, 122, 122, 122, 122, 122, 122, 122, 122, 122, 122, 122, 122, 122, 122, bb], .bool true, .slice none 0 0, S [105, 110, 116], .bool false] := by rw [hw3]; exact Blk.new _ _ _
                    rw [← hw3]
                    clear hw3
                    refine wpAnyH_ready (rs := [18]) (by kernel_rfl) (by simp) ?_
                    refine AllReadyH.cons (by simp only [List.getElem?_toArray, List.getElem?_cons_zero, List.getElem?_cons_succ]; rfl) (fun K hK => ?_) ?_
                    · skip
                      refine step_append_lies _ rfl (.tmp 33) (.tmp 49) 23 rfl w.heap.size 34 i0 _ 5 72 Try.underlying23 hi0 hz0 hz1 hz2 rfl (by decide) (.slice A (a.ml + k) c) (a.ml + k) _ rfl (own_below HG.out.own hW3) ⟨w22.heap.size, 0, none⟩ 1 1 [S [122, 122, 122, 122, 122, 122, 122, 122, 122, 122, 122, 122, 122, 122, 122, 122, 122, 122, 122, 122, bb], .bool true, .slice none 0 0, S [105, 110, 116], .bool false] rfl rfl (World.news_of_block nb) h1c (by decide) (by unfold maxLen; omega) (by omega) (Nat.le_trans HG.out.bel.size hW3.size) _ rfl ?_
                      intro g' cap' w9 hown9 hgrow9 _ _
                      refine hK.out _ _ trivial (fun _ => ?_)
                      clear hK K
                      refine wpAnyH_take (i := 19) (v := ?_) (by simp only [List.getElem?_toArray, List.getElem?_cons_zero, List.getElem?_cons_succ]; rfl) (by kernel_rfl) (by kernel_rfl) (by kernel_rfl) (fun _ _ _ h => h) (Or.inl ⟨by rfl, ?_⟩) trivial ?_
                      rotate_left
                      · (intro w hSw; go_simp; try with_reducible rfl)
                      try simp only [Act.put, List.setIfInBounds_toArray, List.set_cons_zero, List.set_cons_succ]
                      have kb := (HG.out.blk.below hW3 HG.out.blk.lt).grown hgrow9 hne
                      have f9 := kb.frozen 3
                      have p9 : w9.cell? ⟨bB, 3, none⟩ = some (.slice A (a.ml + k) c) := kb.cell 3
                      refine wpAnyH_ready (rs := [20]) (by kernel_rfl) (by simp) ?_
                      refine AllReadyH.cons (by simp only [List.getElem?_toArray, List.getElem?_cons_zero, List.getElem?_cons_succ]; rfl) (fun K hK => ?_) AllReadyH.nil
                      go_simp
                      refine hK.out _ _ trivial (fun _ => ?_)
                      clear hK K
                      refine wpAnyH_done (by kernel_rfl) ?_ _
                      refine NoPanic.normal ?_
                      have HS := hide (HG.out.next hW3 (by rw [HNC.out]; exact hown9) hgrow9)
                      clear f9 p9 kb hown9 hgrow9
                      go_wp2_with fail
                      go_meet
                      exact ⟨rfl, _, _, HS.out⟩
                    exact AllReadyH.nil
                  exact AllReadyH.nil
                exact AllReadyH.nil
              refine AllReadyH.cons (by simp only [List.getElem?_toArray, List.getElem?_cons_zero, List.getElem?_cons_succ]; rfl) (fun K hK => ?_) ?_
              · skip
                go_simp
                go_at_call 9
                refine (HI.out _).mono ?_
                rintro e w22 ⟨rfl, hb2⟩
                go_wp2_with fail
                refine hK.out _ _ trivial (fun _ => ?_)
                clear hK K
                have hW2 := hW1.trans (hb2.mono hW1.size)
                have cb2 := (hb2.cell (p := ⟨w20.heap.size, 0, none⟩) (World.block_lt_of_cell? _ _ cb1)).trans cb1
                refine wpAnyH_ready (rs := [6]) (by kernel_rfl) (by simp) ?_
                refine AllReadyH.cons (by simp only [List.getElem?_toArray, List.getElem?_cons_zero, List.getElem?_cons_succ]; rfl) (fun K hK => ?_) ?_
                · skip
                  have hcv := hconv w22 w20.heap.size cb2
                  go_simp
                  refine hK.out _ _ trivial (fun _ => ?_)
                  clear hK K hcv
                  refine wpAnyH_take (i := 7) (v := ?_) (by simp only [List.getElem?_toArray, List.getElem?_cons_zero, List.getElem?_cons_succ]; rfl) (by kernel_rfl) (by kernel_rfl) (by kernel_rfl) (fun _ _ _ h => h) (Or.inl ⟨by rfl, ?_⟩) trivial ?_
                  rotate_left
                  · (intro w hSw; go_simp; try with_reducible rfl)
                  try simp only [Act.put, List.setIfInBounds_toArray, List.set_cons_zero, List.set_cons_succ]
                  refine wpAnyH_take (i := 16) (v := ?_) (by simp only [List.getElem?_toArray, List.getElem?_cons_zero, List.getElem?_cons_succ]; rfl) (by kernel_rfl) (by kernel_rfl) (by kernel_rfl) (fun _ _ _ h => h) (Or.inl ⟨by rfl, ?_⟩) trivial ?_
                  rotate_left
                  · (intro w hSw; go_simp; try with_reducible rfl)
                  try simp only [Act.put, List.setIfInBounds_toArray, List.set_cons_zero, List.set_cons_succ]
                  refine wpAnyH_ready (rs := [17]) (by kernel_rfl) (by simp) ?_
                  refine AllReadyH.cons (by simp only [List.getElem?_toArray, List.getElem?_cons_zero, List.getElem?_cons_succ]; rfl) (fun K hK => ?_) ?_
                  · skip
                    go_simp
                    refine hK.out _ _ trivial (fun _ => ?_)
                    clear hK K
                    obtain ⟨w23, hw3⟩ : ∃ wn, wn = w22.alloc (.cells #[S [122, 122, 122, 122, 122, 122, 122, 122, 122, 122, 122, 122, 122, 122, 122, 122, 122, 122, 122, 122, bb], .bool true, .slice none 0 0, .string { data := #[105, 110, 116] }, .bool false] 34) := ⟨_, rfl⟩
                    have hW3 : Below wr.heap.size wr w23 := by rw [hw3]; exact hW2.alloc hW2.size _
                    have nb : Blk w23 w22.heap.size 34 #[S [122, 122, 122, 122, 122, 122, 122, 122, 122, 122, 122, 122, 122, 122, 122, 122, 122, 122, 122, 122, bb], .bool true, .slice none 0 0, S [105, 110, 116], .bool false] := by rw [hw3]; exact Blk.new _ _ _
                    rw [← hw3]
                    clear hw3
                    refine wpAnyH_ready (rs := [18]) (by kernel_rfl) (by simp) ?_
                    refine AllReadyH.cons (by simp only [List.getElem?_toArray, List.getElem?_cons_zero, List.getElem?_cons_succ]; rfl) (fun K hK => ?_) ?_
                    · skip
                      refine step_append_lies _ rfl (.tmp 33) (.tmp 49) 23 rfl w.heap.size 34 i0 _ 5 72 Try.underlying23 hi0 hz0 hz1 hz2 rfl (by decide) (.slice A (a.ml + k) c) (a.ml + k) _ rfl (own_below HG.out.own hW3) ⟨w22.heap.size, 0, none⟩ 1 1 [S [122, 122, 122, 122, 122, 122, 122, 122, 122, 122, 122, 122, 122, 122, 122, 122, 122, 122, 122, 122, bb], .bool true, .slice none 0 0, S [105, 110, 116], .bool false] rfl rfl (World.news_of_block nb) h1c (by decide) (by unfold maxLen; omega) (by omega) (Nat.le_trans HG.out.bel.size hW3.size) _ rfl ?_
                      intro g' cap' w9 hown9 hgrow9 _ _
                      refine hK.out _ _ trivial (fun _ => ?_)
                      clear hK K
                      refine wpAnyH_take (i := 19) (v := ?_) (by simp only [List.getElem?_toArray, List.getElem?_cons_zero, List.getElem?_cons_succ]; rfl) (by kernel_rfl) (by kernel_rfl) (by kernel_rfl) (fun _ _ _ h => h) (Or.inl ⟨by rfl, ?_⟩) trivial ?_
                      rotate_left
                      · (intro w hSw; go_simp; try with_reducible rfl)
                      try simp only [Act.put, List.setIfInBounds_toArray, List.set_cons_zero, List.set_cons_succ]
                      have kb := (HG.out.blk.below hW3 HG.out.blk.lt).grown hgrow9 hne
                      have f9 := kb.frozen 3
                      have p9 : w9.cell? ⟨bB, 3, none⟩ = some (.slice A (a.ml + k) c) := kb.cell 3
                      refine wpAnyH_ready (rs := [20]) (by kernel_rfl) (by simp) ?_
                      refine AllReadyH.cons (by simp only [List.getElem?_toArray, List.getElem?_cons_zero, List.getElem?_cons_succ]; rfl) (fun K hK => ?_) AllReadyH.nil
                      go_simp
                      refine hK.out _ _ trivial (fun _ => ?_)
                      clear hK K
                      refine wpAnyH_done (by kernel_rfl) ?_ _
                      refine NoPanic.normal ?_
                      have HS := hide (HG.out.next hW3 (by rw [HNC.out]; exact hown9) hgrow9)
                      clear f9 p9 kb hown9 hgrow9
                      go_wp2_with fail
                      go_meet
                      exact ⟨rfl, _, _, HS.out⟩
                    exact AllReadyH.nil
                  exact AllReadyH.nil
                exact AllReadyH.nil
              exact AllReadyH.nil
            refine AllReadyH.cons (by simp only [List.getElem?_toArray, List.getElem?_cons_zero, List.getElem?_cons_succ]; rfl) (fun K hK => ?_) ?_
            · skip
              go_simp
              go_at_call 9
              refine (HI.out _).mono ?_
              rintro e w21 ⟨rfl, hb1⟩
              go_wp2_with fail
              refine hK.out _ _ trivial (fun _ => ?_)
              clear hK K
              have hW1 := hW0.trans (hb1.mono hW0.size)
              refine wpAnyH_ready (rs := [5]) (by kernel_rfl) (by simp) ?_
              refine AllReadyH.cons (by simp only [List.getElem?_toArray, List.getElem?_cons_zero, List.getElem?_cons_succ]; rfl) (fun K hK => ?_) ?_
              · skip
                go_simp
                refine hK.out _ _ trivial (fun _ => ?_)
                clear hK K
                obtain ⟨w22, hw2⟩ : ∃ wn, wn = w21.alloc (.cells #[.int .u8 (97 + (k : Int))] 5) := ⟨_, rfl⟩
                have hW2 : Below wr.heap.size wr w22 := by rw [hw2]; exact hW1.alloc hW1.size _
                have cb2 : w22.cell? ⟨w21.heap.size, 0, none⟩ = some (.int .u8 (97 + (k : Int))) := by rw [hw2]; exact (Blk.new _ _ #[.int .u8 (97 + (k : Int))]).cell 0
                rw [← hw2]
                clear hw2
                refine wpAnyH_ready (rs := [6]) (by kernel_rfl) (by simp) ?_
                refine AllReadyH.cons (by simp only [List.getElem?_toArray, List.getElem?_cons_zero, List.getElem?_cons_succ]; rfl) (fun K hK => ?_) ?_
                · skip
                  have hcv := hconv w22 w21.heap.size cb2
                  go_simp
                  refine hK.out _ _ trivial (fun _ => ?_)
                  clear hK K hcv
                  refine wpAnyH_take (i := 7) (v := ?_) (by simp only [List.getElem?_toArray, List.getElem?_cons_zero, List.getElem?_cons_succ]; rfl) (by kernel_rfl) (by kernel_rfl) (by kernel_rfl) (fun _ _ _ h => h) (Or.inl ⟨by rfl, ?_⟩) trivial ?_
                  rotate_left
                  · (intro w hSw; go_simp; try with_reducible rfl)
                  try simp only [Act.put, List.setIfInBounds_toArray, List.set_cons_zero, List.set_cons_succ]
                  refine wpAnyH_take (i := 16) (v := ?_) (by simp only [List.getElem?_toArray, List.getElem?_cons_zero, List.getElem?_cons_succ]; rfl) (by kernel_rfl) (by kernel_rfl) (by kernel_rfl) (fun _ _ _ h => h) (Or.inl ⟨by rfl, ?_⟩) trivial ?_
                  rotate_left
                  · (intro w hSw; go_simp; try with_reducible rfl)
                  try simp only [Act.put, List.setIfInBounds_toArray, List.set_cons_zero, List.set_cons_succ]
                  refine wpAnyH_ready (rs := [17]) (by kernel_rfl) (by simp) ?_
                  refine AllReadyH.cons (by simp only [List.getElem?_toArray, List.getElem?_cons_zero, List.getElem?_cons_succ]; rfl) (fun K hK => ?_) ?_
                  · skip
                    go_simp
                    refine hK.out _ _ trivial (fun _ => ?_)
                    clear hK K
                    obtain ⟨w23, hw3⟩ : ∃ wn, wn = w22.alloc (.cells #[S [122, 122, 122, 122, 122, 122, 122, 122, 122, 122, 122, 122, 122, 122, 122, 122, 122, 122, 122, 122, bb], .bool true, .slice none 0 0, .string { data := #[105, 110, 116] }, .bool false] 34) := ⟨_, rfl⟩
                    have hW3 : Below wr.heap.size wr w23 := by rw [hw3]; exact hW2.alloc hW2.size _
                    have nb : Blk w23 w22.heap.size 34 #[S [122, 122, 122, 122, 122, 122, 122, 122, 122, 122, 122, 122, 122, 122, 122, 122, 122, 122, 122, 122, bb], .bool true, .slice none 0 0, S [105, 110, 116], .bool false] := by rw [hw3]; exact Blk.new _ _ _
                    rw [← hw3]
                    clear hw3
                    refine wpAnyH_ready (rs := [18]) (by kernel_rfl) (by simp) ?_
                    refine AllReadyH.cons (by simp only [List.getElem?_toArray, List.getElem?_cons_zero, List.getElem?_cons_succ]; rfl) (fun K hK => ?_) ?_
                    · skip
                      refine step_append_lies _ rfl (.tmp 33) (.tmp 49) 23 rfl w.heap.size 34 i0 _ 5 72 Try.underlying23 hi0 hz0 hz1 hz2 rfl (by decide) (.slice A (a.ml + k) c) (a.ml + k) _ rfl (own_below HG.out.own hW3) ⟨w22.heap.size, 0, none⟩ 1 1 [S [122, 122, 122, 122, 122, 122, 122, 122, 122, 122, 122, 122, 122, 122, 122, 122, 122, 122, 122, 122, bb], .bool true, .slice none 0 0, S [105, 110, 116], .bool false] rfl rfl (World.news_of_block nb) h1c (by decide) (by unfold maxLen; omega) (by omega) (Nat.le_trans HG.out.bel.size hW3.size) _ rfl ?_
                      intro g' cap' w9 hown9 hgrow9 _ _
                      refine hK.out _ _ trivial (fun _ => ?_)
                      clear hK K
                      refine wpAnyH_take (i := 19) (v := ?_) (by simp only [List.getElem?_toArray, List.getElem?_cons_zero, List.getElem?_cons_succ]; rfl) (by kernel_rfl) (by kernel_rfl) (by kernel_rfl) (fun _ _ _ h => h) (Or.inl ⟨by rfl, ?_⟩) trivial ?_
                      rotate_left
                      · (intro w hSw; go_simp; try with_reducible rfl)
                      try simp only [Act.put, List.setIfInBounds_toArray, List.set_cons_zero, List.set_cons_succ]
                      have kb := (HG.out.blk.below hW3 HG.out.blk.lt).grown hgrow9 hne
                      have f9 := kb.frozen 3
                      have p9 : w9.cell? ⟨bB, 3, none⟩ = some (.slice A (a.ml + k) c) := kb.cell 3
                      refine wpAnyH_ready (rs := [20]) (by kernel_rfl) (by simp) ?_
                      refine AllReadyH.cons (by simp only [List.getElem?_toArray, List.getElem?_cons_zero, List.getElem?_cons_succ]; rfl) (fun K hK => ?_) AllReadyH.nil
                      go_simp
                      refine hK.out _ _ trivial (fun _ => ?_)
                      clear hK K
                      refine wpAnyH_done (by kernel_rfl) ?_ _
                      refine NoPanic.normal ?_
                      have HS := hide (HG.out.next hW3 (by rw [HNC.out]; exact hown9) hgrow9)
                      clear f9 p9 kb hown9 hgrow9
                      go_wp2_with fail
                      go_meet
                      exact ⟨rfl, _, _, HS.out⟩
                    exact AllReadyH.nil
                  exact AllReadyH.nil
                exact AllReadyH.nil
              exact AllReadyH.nil
            exact AllReadyH.nil
          refine AllReadyH.cons (by simp only [List.getElem?_toArray, List.getElem?_cons_zero, List.getElem?_cons_succ]; rfl) (fun K hK => ?_) ?_
          · skip
            go_simp
            refine hK.out _ _ trivial (fun _ => ?_)
            clear hK K
            obtain ⟨w21, hw1⟩ : ∃ wn, wn = w20.alloc (.cells #[.int .u8 (97 + (k : Int))] 5) := ⟨_, rfl⟩
            have hW1 : Below wr.heap.size wr w21 := by rw [hw1]; exact hW0.alloc hW0.size _
            have cb1 : w21.cell? ⟨w20.heap.size, 0, none⟩ = some (.int .u8 (97 + (k : Int))) := by rw [hw1]; exact (Blk.new _ _ #[.int .u8 (97 + (k : Int))]).cell 0
            rw [← hw1]
            clear hw1
            refine wpAnyH_ready (rs := [1, 6, 15]) (by kernel_rfl) (by simp) ?_
            refine AllReadyH.cons (by simp only [List.getElem?_toArray, List.getElem?_cons_zero, List.getElem?_cons_succ]; rfl) (fun K hK => ?_) ?_
            · skip
              have gL := (HKP.out w21 hW1).1
              go_simp
              refine hK.out _ _ trivial (fun _ => ?_)
              clear hK K gL
              refine wpAnyH_ready (rs := [6, 15]) (by kernel_rfl) (by simp) ?_
              refine AllReadyH.cons (by simp only [List.getElem?_toArray, List.getElem?_cons_zero, List.getElem?_cons_succ]; rfl) (fun K hK => ?_) ?_
              · skip
                have hcv := hconv w21 w20.heap.size cb1
                go_simp
                refine hK.out _ _ trivial (fun _ => ?_)
                clear hK K hcv
                refine wpAnyH_take (i := 7) (v := ?_) (by simp only [List.getElem?_toArray, List.getElem?_cons_zero, List.getElem?_cons_succ]; rfl) (by kernel_rfl) (by kernel_rfl) (by kernel_rfl) (fun _ _ _ h => h) (Or.inl ⟨by rfl, ?_⟩) trivial ?_
                rotate_left
                · (intro w hSw; go_simp; try with_reducible rfl)
                try simp only [Act.put, List.setIfInBounds_toArray, List.set_cons_zero, List.set_cons_succ]
                refine wpAnyH_ready (rs := [15]) (by kernel_rfl) (by simp) ?_
                refine AllReadyH.cons (by simp only [List.getElem?_toArray, List.getElem?_cons_zero, List.getElem?_cons_succ]; rfl) (fun K hK => ?_) ?_
                · skip
                  go_simp
                  go_at_call 9
                  refine (HI.out _).mono ?_
                  rintro e w22 ⟨rfl, hb2⟩
                  go_wp2_with fail
                  refine hK.out _ _ trivial (fun _ => ?_)
                  clear hK K
                  have hW2 := hW1.trans (hb2.mono hW1.size)
                  refine wpAnyH_take (i := 16) (v := ?_) (by simp only [List.getElem?_toArray, List.getElem?_cons_zero, List.getElem?_cons_succ]; rfl) (by kernel_rfl) (by kernel_rfl) (by kernel_rfl) (fun _ _ _ h => h) (Or.inl ⟨by rfl, ?_⟩) trivial ?_
                  rotate_left
                  · (intro w hSw; go_simp; try with_reducible rfl)
                  try simp only [Act.put, List.setIfInBounds_toArray, List.set_cons_zero, List.set_cons_succ]
                  refine wpAnyH_ready (rs := [17]) (by kernel_rfl) (by simp) ?_
                  refine AllReadyH.cons (by simp only [List.getElem?_toArray, List.getElem?_cons_zero, List.getElem?_cons_succ]; rfl) (fun K hK => ?_) ?_
                  · skip
                    go_simp
                    refine hK.out _ _ trivial (fun _ => ?_)
                    clear hK K
                    obtain ⟨w23, hw3⟩ : ∃ wn, wn = w22.alloc (.cells #[S [122, 122, 122, 122, 122, 122, 122, 122, 122, 122, 122, 122, 122, 122, 122, 122, 122, 122, 122, 122, bb], .bool true, .slice none 0 0, .string { data := #[105, 110, 116] }, .bool false] 34) := ⟨_, rfl⟩
                    have hW3 : Below wr.heap.size wr w23 := by rw [hw3]; exact hW2.alloc hW2.size _
                    have nb : Blk w23 w22.heap.size 34 #[S [122, 122, 122, 122, 122, 122, 122, 122, 122, 122, 122, 122, 122, 122, 122, 122, 122, 122, 122, 122, bb], .bool true, .slice none 0 0, S [105, 110, 116], .bool false] := by rw [hw3]; exact Blk.new _ _ _
                    rw [← hw3]
                    clear hw3
                    refine wpAnyH_ready (rs := [18]) (by kernel_rfl) (by simp) ?_
                    refine AllReadyH.cons (by simp only [List.getElem?_toArray, List.getElem?_cons_zero, List.getElem?_cons_succ]; rfl) (fun K hK => ?_) ?_
                    · skip
                      refine step_append_lies _ rfl (.tmp 33) (.tmp 49) 23 rfl w.heap.size 34 i0 _ 5 72 Try.underlying23 hi0 hz0 hz1 hz2 rfl (by decide) (.slice A (a.ml + k) c) (a.ml + k) _ rfl (own_below HG.out.own hW3) ⟨w22.heap.size, 0, none⟩ 1 1 [S [122, 122, 122, 122, 122, 122, 122, 122, 122, 122, 122, 122, 122, 122, 122, 122, 122, 122, 122, 122, bb], .bool true, .slice none 0 0, S [105, 110, 116], .bool false] rfl rfl (World.news_of_block nb) h1c (by decide) (by unfold maxLen; omega) (by omega) (Nat.le_trans HG.out.bel.size hW3.size) _ rfl ?_
                      intro g' cap' w9 hown9 hgrow9 _ _
                      refine hK.out _ _ trivial (fun _ => ?_)
                      clear hK K
                      refine wpAnyH_take (i := 19) (v := ?_) (by simp only [List.getElem?_toArray, List.getElem?_cons_zero, List.getElem?_cons_succ]; rfl) (by kernel_rfl) (by kernel_rfl) (by kernel_rfl) (fun _ _ _ h => h) (Or.inl ⟨by rfl, ?_⟩) trivial ?_
                      rotate_left
                      · (intro w hSw; go_simp; try with_reducible rfl)
                      try simp only [Act.put, List.setIfInBounds_toArray, List.set_cons_zero, List.set_cons_succ]
                      have kb := (HG.out.blk.below hW3 HG.out.blk.lt).grown hgrow9 hne
                      have f9 := kb.frozen 3
                      have p9 : w9.cell? ⟨bB, 3, none⟩ = some (.slice A (a.ml + k) c) := kb.cell 3
                      refine wpAnyH_ready (rs := [20]) (by kernel_rfl) (by simp) ?_
                      refine AllReadyH.cons (by simp only [List.getElem?_toArray, List.getElem?_cons_zero, List.getElem?_cons_succ]; rfl) (fun K hK => ?_) AllReadyH.nil
                      go_simp
                      refine hK.out _ _ trivial (fun _ => ?_)
                      clear hK K
                      refine wpAnyH_done (by kernel_rfl) ?_ _
                      refine NoPanic.normal ?_
                      have HS := hide (HG.out.next hW3 (by rw [HNC.out]; exact hown9) hgrow9)
                      clear f9 p9 kb hown9 hgrow9
                      go_wp2_with fail
                      go_meet
                      exact ⟨rfl, _, _, HS.out⟩
                    exact AllReadyH.nil
                  exact AllReadyH.nil
                exact AllReadyH.nil
              refine AllReadyH.cons (by simp only [List.getElem?_toArray, List.getElem?_cons_zero, List.getElem?_cons_succ]; rfl) (fun K hK => ?_) ?_
              · skip
                go_simp
                go_at_call 9
                refine (HI.out _).mono ?_
                rintro e w22 ⟨rfl, hb2⟩
                go_wp2_with fail
                refine hK.out _ _ trivial (fun _ => ?_)
                clear hK K
                have hW2 := hW1.trans (hb2.mono hW1.size)
                have cb2 := (hb2.cell (p := ⟨w20.heap.size, 0, none⟩) (World.block_lt_of_cell? _ _ cb1)).trans cb1
                refine wpAnyH_ready (rs := [6]) (by kernel_rfl) (by simp) ?_
                refine AllReadyH.cons (by simp only [List.getElem?_toArray, List.getElem?_cons_zero, List.getElem?_cons_succ]; rfl) (fun K hK => ?_) ?_
                · skip
                  have hcv := hconv w22 w20.heap.size cb2
                  go_simp
                  refine hK.out _ _ trivial (fun _ => ?_)
                  clear hK K hcv
                  refine wpAnyH_take (i := 7) (v := ?_) (by simp only [List.getElem?_toArray, List.getElem?_cons_zero, List.getElem?_cons_succ]; rfl) (by kernel_rfl) (by kernel_rfl) (by kernel_rfl) (fun _ _ _ h => h) (Or.inl ⟨by rfl, ?_⟩) trivial ?_
                  rotate_left
                  · (intro w hSw; go_simp; try with_reducible rfl)
                  try simp only [Act.put, List.setIfInBounds_toArray, List.set_cons_zero, List.set_cons_succ]
                  refine wpAnyH_take (i := 16) (v := ?_) (by simp only [List.getElem?_toArray, List.getElem?_cons_zero, List.getElem?_cons_succ]; rfl) (by kernel_rfl) (by kernel_rfl) (by kernel_rfl) (fun _ _ _ h => h) (Or.inl ⟨by rfl, ?_⟩) trivial ?_
                  rotate_left
                  · (intro w hSw; go_simp; try with_reducible rfl)
                  try simp only [Act.put, List.setIfInBounds_toArray, List.set_cons_zero, List.set_cons_succ]
                  refine wpAnyH_ready (rs := [17]) (by kernel_rfl) (by simp) ?_
                  refine AllReadyH.cons (by simp only [List.getElem?_toArray, List.getElem?_cons_zero, List.getElem?_cons_succ]; rfl) (fun K hK => ?_) ?_
                  · skip
                    go_simp
                    refine hK.out _ _ trivial (fun _ => ?_)
                    clear hK K
                    obtain ⟨w23, hw3⟩ : ∃ wn, wn = w22.alloc (.cells #[S [122, 122, 122, 122, 122, 122, 122, 122, 122, 122, 122, 122, 122, 122, 122, 122, 122, 122, 122, 122, bb], .bool true, .slice none 0 0, .string { data := #[105, 110, 116] }, .bool false] 34) := ⟨_, rfl⟩
                    have hW3 : Below wr.heap.size wr w23 := by rw [hw3]; exact hW2.alloc hW2.size _
                    have nb : Blk w23 w22.heap.size 34 #[S [122, 122, 122, 122, 122, 122, 122, 122, 122, 122, 122, 122, 122, 122, 122, 122, 122, 122, 122, 122, bb], .bool true, .slice none 0 0, S [105, 110, 116], .bool false] := by rw [hw3]; exact Blk.new _ _ _
                    rw [← hw3]
                    clear hw3
                    refine wpAnyH_ready (rs := [18]) (by kernel_rfl) (by simp) ?_
                    refine AllReadyH.cons (by simp only [List.getElem?_toArray, List.getElem?_cons_zero, List.getElem?_cons_succ]; rfl) (fun K hK => ?_) ?_
                    · skip
                      refine step_append_lies _ rfl (.tmp 33) (.tmp 49) 23 rfl w.heap.size 34 i0 _ 5 72 Try.underlying23 hi0 hz0 hz1 hz2 rfl (by decide) (.slice A (a.ml + k) c) (a.ml + k) _ rfl (own_below HG.out.own hW3) ⟨w22.heap.size, 0, none⟩ 1 1 [S [122, 122, 122, 122, 122, 122, 122, 122, 122, 122, 122, 122, 122, 122, 122, 122, 122, 122, 122, 122, bb], .bool true, .slice none 0 0, S [105, 110, 116], .bool false] rfl rfl (World.news_of_block nb) h1c (by decide) (by unfold maxLen; omega) (by omega) (Nat.le_trans HG.out.bel.size hW3.size) _ rfl ?_
                      intro g' cap' w9 hown9 hgrow9 _ _
                      refine hK.out _ _ trivial (fun _ => ?_)
                      clear hK K
                      refine wpAnyH_take (i := 19) (v := ?_) (by simp only [List.getElem?_toArray, List.getElem?_cons_zero, List.getElem?_cons_succ]; rfl) (by kernel_rfl) (by kernel_rfl) (by kernel_rfl) (fun _ _ _ h => h) (Or.inl ⟨by rfl, ?_⟩) trivial ?_
                      rotate_left
                      · (intro w hSw; go_simp; try with_reducible rfl)
                      try simp only [Act.put, List.setIfInBounds_toArray, List.set_cons_zero, List.set_cons_succ]
                      have kb := (HG.out.blk.below hW3 HG.out.blk.lt).grown hgrow9 hne
                      have f9 := kb.frozen 3
                      have p9 : w9.cell? ⟨bB, 3, none⟩ = some (.slice A (a.ml + k) c) := kb.cell 3
                      refine wpAnyH_ready (rs := [20]) (by kernel_rfl) (by simp) ?_
                      refine AllReadyH.cons (by simp only [List.getElem?_toArray, List.getElem?_cons_zero, List.getElem?_cons_succ]; rfl) (fun K hK => ?_) AllReadyH.nil
                      go_simp
                      refine hK.out _ _ trivial (fun _ => ?_)
                      clear hK K
                      refine wpAnyH_done (by kernel_rfl) ?_ _
                      refine NoPanic.normal ?_
                      have HS := hide (HG.out.next hW3 (by rw [HNC.out]; exact hown9) hgrow9)
                      clear f9 p9 kb hown9 hgrow9
                      go_wp2_with fail
                      go_meet
                      exact ⟨rfl, _, _, HS.out⟩
                    exact AllReadyH.nil
                  exact AllReadyH.nil
                exact AllReadyH.nil
              exact AllReadyH.nil
            refine AllReadyH.cons (by simp only [List.getElem?_toArray, List.getElem?_cons_zero, List.getElem?_cons_succ]; rfl) (fun K hK => ?_) ?_
            · skip
              have hcv := hconv w21 w20.heap.size cb1
              go_simp
              refine hK.out _ _ trivial (fun _ => ?_)
              clear hK K hcv
              refine wpAnyH_take (i := 7) (v := ?_) (by simp only [List.getElem?_toArray, List.getElem?_cons_zero, List.getElem?_cons_succ]; rfl) (by kernel_rfl) (by kernel_rfl) (by kernel_rfl) (fun _ _ _ h => h) (Or.inl ⟨by rfl, ?_⟩) trivial ?_
              rotate_left
              · (intro w hSw; go_simp; try with_reducible rfl)
              try simp only [Act.put, List.setIfInBounds_toArray, List.set_cons_zero, List.set_cons_succ]
              refine wpAnyH_ready (rs := [1, 15]) (by kernel_rfl) (by simp) ?_
              refine AllReadyH.cons (by simp only [List.getElem?_toArray, List.getElem?_cons_zero, List.getElem?_cons_succ]; rfl) (fun K hK => ?_) ?_
              · skip
                have gL := (HKP.out w21 hW1).1
                go_simp
                refine hK.out _ _ trivial (fun _ => ?_)
                clear hK K gL
                refine wpAnyH_ready (rs := [15]) (by kernel_rfl) (by simp) ?_
                refine AllReadyH.cons (by simp only [List.getElem?_toArray, List.getElem?_cons_zero, List.getElem?_cons_succ]; rfl) (fun K hK => ?_) ?_
                · skip
                  go_simp
                  go_at_call 9
                  refine (HI.out _).mono ?_
                  rintro e w22 ⟨rfl, hb2⟩
                  go_wp2_with fail
                  refine hK.out _ _ trivial (fun _ => ?_)
                  clear hK K
                  have hW2 := hW1.trans (hb2.mono hW1.size)
                  refine wpAnyH_take (i := 16) (v := ?_) (by simp only [List.getElem?_toArray, List.getElem?_cons_zero, List.getElem?_cons_succ]; rfl) (by kernel_rfl) (by kernel_rfl) (by kernel_rfl) (fun _ _ _ h => h) (Or.inl ⟨by rfl, ?_⟩) trivial ?_
                  rotate_left
                  · (intro w hSw; go_simp; try with_reducible rfl)
                  try simp only [Act.put, List.setIfInBounds_toArray, List.set_cons_zero, List.set_cons_succ]
                  refine wpAnyH_ready (rs := [17]) (by kernel_rfl) (by simp) ?_
                  refine AllReadyH.cons (by simp only [List.getElem?_toArray, List.getElem?_cons_zero, List.getElem?_cons_succ]; rfl) (fun K hK => ?_) ?_
                  · skip
                    go_simp
                    refine hK.out _ _ trivial (fun _ => ?_)
                    clear hK K
                    obtain ⟨w23, hw3⟩ : ∃ wn, wn = w22.alloc (.cells #[S [122, 122, 122, 122, 122, 122, 122, 122, 122, 122, 122, 122, 122, 122, 122, 122, 122, 122, 122, 122, bb], .bool true, .slice none 0 0, .string { data := #[105, 110, 116] }, .bool false] 34) := ⟨_, rfl⟩
                    have hW3 : Below wr.heap.size wr w23 := by rw [hw3]; exact hW2.alloc hW2.size _
                    have nb : Blk w23 w22.heap.size 34 #[S [122, 122, 122, 122, 122, 122, 122, 122, 122, 122, 122, 122, 122, 122, 122, 122, 122, 122, 122, 122, bb], .bool true, .slice none 0 0, S [105, 110, 116], .bool false] := by rw [hw3]; exact Blk.new _ _ _
                    rw [← hw3]
                    clear hw3
                    refine wpAnyH_ready (rs := [18]) (by kernel_rfl) (by simp) ?_
                    refine AllReadyH.cons (by simp only [List.getElem?_toArray, List.getElem?_cons_zero, List.getElem?_cons_succ]; rfl) (fun K hK => ?_) ?_
                    · skip
                      refine step_append_lies _ rfl (.tmp 33) (.tmp 49) 23 rfl w.heap.size 34 i0 _ 5 72 Try.underlying23 hi0 hz0 hz1 hz2 rfl (by decide) (.slice A (a.ml + k) c) (a.ml + k) _ rfl (own_below HG.out.own hW3) ⟨w22.heap.size, 0, none⟩ 1 1 [S [122, 122, 122, 122, 122, 122, 122, 122, 122, 122, 122, 122, 122, 122, 122, 122, 122, 122, 122, 122, bb], .bool true, .slice none 0 0, S [105, 110, 116], .bool false] rfl rfl (World.news_of_block nb) h1c (by decide) (by unfold maxLen; omega) (by omega) (Nat.le_trans HG.out.bel.size hW3.size) _ rfl ?_
                      intro g' cap' w9 hown9 hgrow9 _ _
                      refine hK.out _ _ trivial (fun _ => ?_)
                      clear hK K
                      refine wpAnyH_take (i := 19) (v := ?_) (by simp only [List.getElem?_toArray, List.getElem?_cons_zero, List.getElem?_cons_succ]; rfl) (by kernel_rfl) (by kernel_rfl) (by kernel_rfl) (fun _ _ _ h => h) (Or.inl ⟨by rfl, ?_⟩) trivial ?_
                      rotate_left
                      · (intro w hSw; go_simp; try with_reducible rfl)
                      try simp only [Act.put, List.setIfInBounds_toArray, List.set_cons_zero, List.set_cons_succ]
                      have kb := (HG.out.blk.below hW3 HG.out.blk.lt).grown hgrow9 hne
                      have f9 := kb.frozen 3
                      have p9 : w9.cell? ⟨bB, 3, none⟩ = some (.slice A (a.ml + k) c) := kb.cell 3
                      refine wpAnyH_ready (rs := [20]) (by kernel_rfl) (by simp) ?_
                      refine AllReadyH.cons (by simp only [List.getElem?_toArray, List.getElem?_cons_zero, List.getElem?_cons_succ]; rfl) (fun K hK => ?_) AllReadyH.nil
                      go_simp
                      refine hK.out _ _ trivial (fun _ => ?_)
                      clear hK K
                      refine wpAnyH_done (by kernel_rfl) ?_ _
                      refine NoPanic.normal ?_
                      have HS := hide (HG.out.next hW3 (by rw [HNC.out]; exact hown9) hgrow9)
                      clear f9 p9 kb hown9 hgrow9
                      go_wp2_with fail
                      go_meet
                      exact ⟨rfl, _, _, HS.out⟩
                    exact AllReadyH.nil
                  exact AllReadyH.nil
                exact AllReadyH.nil
              refine AllReadyH.cons (by simp only [List.getElem?_toArray, List.getElem?_cons_zero, List.getElem?_cons_succ]; rfl) (fun K hK => ?_) ?_
              · skip
                go_simp
                go_at_call 9
                refine (HI.out _).mono ?_
                rintro e w22 ⟨rfl, hb2⟩
                go_wp2_with fail
                refine hK.out _ _ trivial (fun _ => ?_)
                clear hK K
                have hW2 := hW1.trans (hb2.mono hW1.size)
                refine wpAnyH_take (i := 16) (v := ?_) (by simp only [List.getElem?_toArray, List.getElem?_cons_zero, List.getElem?_cons_succ]; rfl) (by kernel_rfl) (by kernel_rfl) (by kernel_rfl) (fun _ _ _ h => h) (Or.inl ⟨by rfl, ?_⟩) trivial ?_
                rotate_left
                · (intro w hSw; go_simp; try with_reducible rfl)
                try simp only [Act.put, List.setIfInBounds_toArray, List.set_cons_zero, List.set_cons_succ]
                refine wpAnyH_ready (rs := [1, 17]) (by kernel_rfl) (by simp) ?_
                refine AllReadyH.cons (by simp only [List.getElem?_toArray, List.getElem?_cons_zero, List.getElem?_cons_succ]; rfl) (fun K hK => ?_) ?_
                · skip
                  have gL := (HKP.out w22 hW2).1
                  go_simp
                  refine hK.out _ _ trivial (fun _ => ?_)
                  clear hK K gL
                  refine wpAnyH_ready (rs := [17]) (by kernel_rfl) (by simp) ?_
                  refine AllReadyH.cons (by simp only [List.getElem?_toArray, List.getElem?_cons_zero, List.getElem?_cons_succ]; rfl) (fun K hK => ?_) ?_
                  · skip
                    go_simp
                    refine hK.out _ _ trivial (fun _ => ?_)
                    clear hK K
                    obtain ⟨w23, hw3⟩ : ∃ wn, wn = w22.alloc (.cells #[S [122, 122, 122, 122, 122, 122, 122, 122, 122, 122, 122, 122, 122, 122, 122, 122, 122, 122, 122, 122, bb], .bool true, .slice none 0 0, .string { data := #[105, 110, 116] }, .bool false] 34) := ⟨_, rfl⟩
                    have hW3 : Below wr.heap.size wr w23 := by rw [hw3]; exact hW2.alloc hW2.size _
                    have nb : Blk w23 w22.heap.size 34 #[S [122, 122, 122, 122, 122, 122, 122, 122, 122, 122, 122, 122, 122, 122, 122, 122, 122, 122, 122, 122, bb], .bool true, .slice none 0 0, S [105, 110, 116], .bool false] := by rw [hw3]; exact Blk.new _ _ _
                    rw [← hw3]
                    clear hw3
                    refine wpAnyH_ready (rs := [18]) (by kernel_rfl) (by simp) ?_
                    refine AllReadyH.cons (by simp only [List.getElem?_toArray, List.getElem?_cons_zero, List.getElem?_cons_succ]; rfl) (fun K hK => ?_) ?_
                    · skip
                      refine step_append_lies _ rfl (.tmp 33) (.tmp 49) 23 rfl w.heap.size 34 i0 _ 5 72 Try.underlying23 hi0 hz0 hz1 hz2 rfl (by decide) (.slice A (a.ml + k) c) (a.ml + k) _ rfl (own_below HG.out.own hW3) ⟨w22.heap.size, 0, none⟩ 1 1 [S [122, 122, 122, 122, 122, 122, 122, 122, 122, 122, 122, 122, 122, 122, 122, 122, 122, 122, 122, 122, bb], .bool true, .slice none 0 0, S [105, 110, 116], .bool false] rfl rfl (World.news_of_block nb) h1c (by decide) (by unfold maxLen; omega) (by omega) (Nat.le_trans HG.out.bel.size hW3.size) _ rfl ?_
                      intro g' cap' w9 hown9 hgrow9 _ _
                      refine hK.out _ _ trivial (fun _ => ?_)
                      clear hK K
                      refine wpAnyH_take (i := 19) (v := ?_) (by simp only [List.getElem?_toArray, List.getElem?_cons_zero, List.getElem?_cons_succ]; rfl) (by kernel_rfl) (by kernel_rfl) (by kernel_rfl) (fun _ _ _ h => h) (Or.inl ⟨by rfl, ?_⟩) trivial ?_
                      rotate_left
                      · (intro w hSw; go_simp; try with_reducible rfl)
                      try simp only [Act.put, List.setIfInBounds_toArray, List.set_cons_zero, List.set_cons_succ]
                      have kb := (HG.out.blk.below hW3 HG.out.blk.lt).grown hgrow9 hne
                      have f9 := kb.frozen 3
                      have p9 : w9.cell? ⟨bB, 3, none⟩ = some (.slice A (a.ml + k) c) := kb.cell 3
                      refine wpAnyH_ready (rs := [20]) (by kernel_rfl) (by simp) ?_
                      refine AllReadyH.cons (by simp only [List.getElem?_toArray, List.getElem?_cons_zero, List.getElem?_cons_succ]; rfl) (fun K hK => ?_) AllReadyH.nil
                      go_simp
                      refine hK.out _ _ trivial (fun _ => ?_)
                      clear hK K
                      refine wpAnyH_done (by kernel_rfl) ?_ _
                      refine NoPanic.normal ?_
                      have HS := hide (HG.out.next hW3 (by rw [HNC.out]; exact hown9) hgrow9)
                      clear f9 p9 kb hown9 hgrow9
                      go_wp2_with fail
                      go_meet
                      exact ⟨rfl, _, _, HS.out⟩
                    exact AllReadyH.nil
                  exact AllReadyH.nil
                refine AllReadyH.cons (by simp only [List.getElem?_toArray, List.getElem?_cons_zero, List.getElem?_cons_succ]; rfl) (fun K hK => ?_) ?_
                · skip
                  go_simp
                  refine hK.out _ _ trivial (fun _ => ?_)
                  clear hK K
                  obtain ⟨w23, hw3⟩ : ∃ wn, wn = w22.alloc (.cells #[S [122, 122, 122, 122, 122, 122, 122, 122, 122, 122, 122, 122, 122, 122, 122, 122, 122, 122, 122, 122, bb], .bool true, .slice none 0 0, .string { data := #[105, 110, 116] }, .bool false] 34) := ⟨_, rfl⟩
                  have hW3 : Below wr.heap.size wr w23 := by rw [hw3]; exact hW2.alloc hW2.size _
                  have nb : Blk w23 w22.heap.size 34 #[S [122, 122, 122, 122, 122, 122, 122, 122, 122, 122, 122, 122, 122, 122, 122, 122, 122, 122, 122, 122, bb], .bool true, .slice none 0 0, S [105, 110, 116], .bool false] := by rw [hw3]; exact Blk.new _ _ _
                  rw [← hw3]
                  clear hw3
                  refine wpAnyH_ready (rs := [1]) (by kernel_rfl) (by simp) ?_
                  refine AllReadyH.cons (by simp only [List.getElem?_toArray, List.getElem?_cons_zero, List.getElem?_cons_succ]; rfl) (fun K hK => ?_) ?_
                  · skip
                    have gL := (HKP.out w23 hW3).1
                    go_simp
                    refine hK.out _ _ trivial (fun _ => ?_)
                    clear hK K gL
                    refine wpAnyH_ready (rs := [18]) (by kernel_rfl) (by simp) ?_
                    refine AllReadyH.cons (by simp only [List.getElem?_toArray, List.getElem?_cons_zero, List.getElem?_cons_succ]; rfl) (fun K hK => ?_) ?_
                    · skip
                      refine step_append_lies _ rfl (.tmp 33) (.tmp 49) 23 rfl w.heap.size 34 i0 _ 5 72 Try.underlying23 hi0 hz0 hz1 hz2 rfl (by decide) (.slice A (a.ml + k) c) (a.ml + k) _ rfl (own_below HG.out.own hW3) ⟨w22.heap.size, 0, none⟩ 1 1 [S [122, 122, 122, 122, 122, 122, 122, 122, 122, 122, 122, 122, 122, 122, 122, 122, 122, 122, 122, 122, bb], .bool true, .slice none 0 0, S [105, 110, 116], .bool false] rfl rfl (World.news_of_block nb) h1c (by decide) (by unfold maxLen; omega) (by omega) (Nat.le_trans HG.out.bel.size hW3.size) _ rfl ?_
                      intro g' cap' w9 hown9 hgrow9 _ _
                      refine hK.out _ _ trivial (fun _ => ?_)
                      clear hK K
                      refine wpAnyH_take (i := 19) (v := ?_) (by simp only [List.getElem?_toArray, List.getElem?_cons_zero, List.getElem?_cons_succ]; rfl) (by kernel_rfl) (by kernel_rfl) (by kernel_rfl) (fun _ _ _ h => h) (Or.inl ⟨by rfl, ?_⟩) trivial ?_
                      rotate_left
                      · (intro w hSw; go_simp; try with_reducible rfl)
                      try simp only [Act.put, List.setIfInBounds_toArray, List.set_cons_zero, List.set_cons_succ]
                      have kb := (HG.out.blk.below hW3 HG.out.blk.lt).grown hgrow9 hne
                      have f9 := kb.frozen 3
                      have p9 : w9.cell? ⟨bB, 3, none⟩ = some (.slice A (a.ml + k) c) := kb.cell 3
                      refine wpAnyH_ready (rs := [20]) (by kernel_rfl) (by simp) ?_
                      refine AllReadyH.cons (by simp only [List.getElem?_toArray, List.getElem?_cons_zero, List.getElem?_cons_succ]; rfl) (fun K hK => ?_) AllReadyH.nil
                      go_simp
                      refine hK.out _ _ trivial (fun _ => ?_)
                      clear hK K
                      refine wpAnyH_done (by kernel_rfl) ?_ _
                      refine NoPanic.normal ?_
                      have HS := hide (HG.out.next hW3 (by rw [HNC.out]; exact hown9) hgrow9)
                      clear f9 p9 kb hown9 hgrow9
                      go_wp2_with fail
                      go_meet
                      exact ⟨rfl, _, _, HS.out⟩
                    exact AllReadyH.nil
                  exact AllReadyH.nil
                exact AllReadyH.nil
              exact AllReadyH.nil
            refine AllReadyH.cons (by simp only [List.getElem?_toArray, List.getElem?_cons_zero, List.getElem?_cons_succ]; rfl) (fun K hK => ?_) ?_
            · skip
              go_simp
              go_at_call 9
              refine (HI.out _).mono ?_
              rintro e w22 ⟨rfl, hb2⟩
              go_wp2_with fail
              refine hK.out _ _ trivial (fun _ => ?_)
              clear hK K
              have hW2 := hW1.trans (hb2.mono hW1.size)
              have cb2 := (hb2.cell (p := ⟨w20.heap.size, 0, none⟩) (World.block_lt_of_cell? _ _ cb1)).trans cb1
              refine wpAnyH_ready (rs := [1, 6]) (by kernel_rfl) (by simp) ?_
              refine AllReadyH.cons (by simp only [List.getElem?_toArray, List.getElem?_cons_zero, List.getElem?_cons_succ]; rfl) (fun K hK => ?_) ?_
              · skip
                have gL := (HKP.out w22 hW2).1
                go_simp
                refine hK.out _ _ trivial (fun _ => ?_)
                clear hK K gL
                refine wpAnyH_ready (rs := [6]) (by kernel_rfl) (by simp) ?_
                refine AllReadyH.cons (by simp only [List.getElem?_toArray, List.getElem?_cons_zero, List.getElem?_cons_succ]; rfl) (fun K hK => ?_) ?_
                · skip
                  have hcv := hconv w22 w20.heap.size cb2
                  go_simp
                  refine hK.out _ _ trivial (fun _ => ?_)
                  clear hK K hcv
                  refine wpAnyH_take (i := 7) (v := ?_) (by simp only [List.getElem?_toArray, List.getElem?_cons_zero, List.getElem?_cons_succ]; rfl) (by kernel_rfl) (by kernel_rfl) (by kernel_rfl) (fun _ _ _ h => h) (Or.inl ⟨by rfl, ?_⟩) trivial ?_
                  rotate_left
                  · (intro w hSw; go_simp; try with_reducible rfl)
                  try simp only [Act.put, List.setIfInBounds_toArray, List.set_cons_zero, List.set_cons_succ]
                  refine wpAnyH_take (i := 16) (v := ?_) (by simp only [List.getElem?_toArray, List.getElem?_cons_zero, List.getElem?_cons_succ]; rfl) (by kernel_rfl) (by kernel_rfl) (by kernel_rfl) (fun _ _ _ h => h) (Or.inl ⟨by rfl, ?_⟩) trivial ?_
                  rotate_left
                  · (intro w hSw; go_simp; try with_reducible rfl)
                  try simp only [Act.put, List.setIfInBounds_toArray, List.set_cons_zero, List.set_cons_succ]
                  refine wpAnyH_ready (rs := [17]) (by kernel_rfl) (by simp) ?_
                  refine AllReadyH.cons (by simp only [List.getElem?_toArray, List.getElem?_cons_zero, List.getElem?_cons_succ]; rfl) (fun K hK => ?_) ?_
                  · skip
                    go_simp
                    refine hK.out _ _ trivial (fun _ => ?_)
                    clear hK K
                    obtain ⟨w23, hw3⟩ : ∃ wn, wn = w22.alloc (.cells #[S [122, 122, 122, 122, 122, 122, 122, 122, 122, 122, 122, 122, 122, 122, 122, 122, 122, 122, 122, 122, bb], .bool true, .slice none 0 0, .string { data := #[105, 110, 116] }, .bool false] 34) := ⟨_, rfl⟩
                    have hW3 : Below wr.heap.size wr w23 := by rw [hw3]; exact hW2.alloc hW2.size _
                    have nb : Blk w23 w22.heap.size 34 #[S [122, 122, 122, 122, 122, 122, 122, 122, 122, 122, 122, 122, 122, 122, 122, 122, 122, 122, 122, 122, bb], .bool true, .slice none 0 0, S [105, 110, 116], .bool false] := by rw [hw3]; exact Blk.new _ _ _
                    rw [← hw3]
                    clear hw3
                    refine wpAnyH_ready (rs := [18]) (by kernel_rfl) (by simp) ?_
                    refine AllReadyH.cons (by simp only [List.getElem?_toArray, List.getElem?_cons_zero, List.getElem?_cons_succ]; rfl) (fun K hK => ?_) ?_
                    · skip
                      refine step_append_lies _ rfl (.tmp 33) (.tmp 49) 23 rfl w.heap.size 34 i0 _ 5 72 Try.underlying23 hi0 hz0 hz1 hz2 rfl (by decide) (.slice A (a.ml + k) c) (a.ml + k) _ rfl (own_below HG.out.own hW3) ⟨w22.heap.size, 0, none⟩ 1 1 [S [122, 122, 122, 122, 122, 122, 122, 122, 122, 122, 122, 122, 122, 122, 122, 122, 122, 122, 122, 122, bb], .bool true, .slice none 0 0, S [105, 110, 116], .bool false] rfl rfl (World.news_of_block nb) h1c (by decide) (by unfold maxLen; omega) (by omega) (Nat.le_trans HG.out.bel.size hW3.size) _ rfl ?_
                      intro g' cap' w9 hown9 hgrow9 _ _
                      refine hK.out _ _ trivial (fun _ => ?_)
                      clear hK K
                      refine wpAnyH_take (i := 19) (v := ?_) (by simp only [List.getElem?_toArray, List.getElem?_cons_zero, List.getElem?_cons_succ]; rfl) (by kernel_rfl) (by kernel_rfl) (by kernel_rfl) (fun _ _ _ h => h) (Or.inl ⟨by rfl, ?_⟩) trivial ?_
                      rotate_left
                      · (intro w hSw; go_simp; try with_reducible rfl)
                      try simp only [Act.put, List.setIfInBounds_toArray, List.set_cons_zero, List.set_cons_succ]
                      have kb := (HG.out.blk.below hW3 HG.out.blk.lt).grown hgrow9 hne
                      have f9 := kb.frozen 3
                      have p9 : w9.cell? ⟨bB, 3, none⟩ = some (.slice A (a.ml + k) c) := kb.cell 3
                      refine wpAnyH_ready (rs := [20]) (by kernel_rfl) (by simp) ?_
                      refine AllReadyH.cons (by simp only [List.getElem?_toArray, List.getElem?_cons_zero, List.getElem?_cons_succ]; rfl) (fun K hK => ?_) AllReadyH.nil
                      go_simp
                      refine hK.out _ _ trivial (fun _ => ?_)
                      clear hK K
                      refine wpAnyH_done (by kernel_rfl) ?_ _
                      refine NoPanic.normal ?_
                      have HS := hide (HG.out.next hW3 (by rw [HNC.out]; exact hown9) hgrow9)
                      clear f9 p9 kb hown9 hgrow9
                      go_wp2_with fail
                      go_meet
                      exact ⟨rfl, _, _, HS.out⟩
                    exact AllReadyH.nil
                  exact AllReadyH.nil
                exact AllReadyH.nil
              refine AllReadyH.cons (by simp only [List.getElem?_toArray, List.getElem?_cons_zero, List.getElem?_cons_succ]; rfl) (fun K hK => ?_) ?_
              · skip
                have hcv := hconv w22 w20.heap.size cb2
                go_simp
                refine hK.out _ _ trivial (fun _ => ?_)
                clear hK K hcv
                refine wpAnyH_take (i := 7) (v := ?_) (by simp only [List.getElem?_toArray, List.getElem?_cons_zero, List.getElem?_cons_succ]; rfl) (by kernel_rfl) (by kernel_rfl) (by kernel_rfl) (fun _ _ _ h => h) (Or.inl ⟨by rfl, ?_⟩) trivial ?_
                rotate_left
                · (intro w hSw; go_simp; try with_reducible rfl)
                try simp only [Act.put, List.setIfInBounds_toArray, List.set_cons_zero, List.set_cons_succ]
                refine wpAnyH_take (i := 16) (v := ?_) (by simp only [List.getElem?_toArray, List.getElem?_cons_zero, List.getElem?_cons_succ]; rfl) (by kernel_rfl) (by kernel_rfl) (by kernel_rfl) (fun _ _ _ h => h) (Or.inl ⟨by rfl, ?_⟩) trivial ?_
                rotate_left
                · (intro w hSw; go_simp; try with_reducible rfl)
                try simp only [Act.put, List.setIfInBounds_toArray, List.set_cons_zero, List.set_cons_succ]
                refine wpAnyH_ready (rs := [1, 17]) (by kernel_rfl) (by simp) ?_
                refine AllReadyH.cons (by simp only [List.getElem?_toArray, List.getElem?_cons_zero, List.getElem?_cons_succ]; rfl) (fun K hK => ?_) ?_
                · skip
                  have gL := (HKP.out w22 hW2).1
                  go_simp
                  refine hK.out _ _ trivial (fun _ => ?_)
                  clear hK K gL
                  refine wpAnyH_ready (rs := [17]) (by kernel_rfl) (by simp) ?_
                  refine AllReadyH.cons (by simp only [List.getElem?_toArray, List.getElem?_cons_zero, List.getElem?_cons_succ]; rfl) (fun K hK => ?_) ?_
                  · skip
                    go_simp
                    refine hK.out _ _ trivial (fun _ => ?_)
                    clear hK K
                    obtain ⟨w23, hw3⟩ : ∃ wn, wn = w22.alloc (.cells #[S [122, 122, 122, 122, 122, 122, 122, 122, 122, 122, 122, 122, 122, 122, 122, 122, 122, 122, 122, 122, bb], .bool true, .slice none 0 0, .string { data := #[105, 110, 116] }, .bool false] 34) := ⟨_, rfl⟩
                    have hW3 : Below wr.heap.size wr w23 := by rw [hw3]; exact hW2.alloc hW2.size _
                    have nb : Blk w23 w22.heap.size 34 #[S [122, 122, 122, 122, 122, 122, 122, 122, 122, 122, 122, 122, 122, 122, 122, 122, 122, 122, 122, 122, bb], .bool true, .slice none 0 0, S [105, 110, 116], .bool false] := by rw [hw3]; exact Blk.new _ _ _
                    rw [← hw3]
                    clear hw3
                    refine wpAnyH_ready (rs := [18]) (by kernel_rfl) (by simp) ?_
                    refine AllReadyH.cons (by simp only [List.getElem?_toArray, List.getElem?_cons_zero, List.getElem?_cons_succ]; rfl) (fun K hK => ?_) ?_
                    · skip
                      refine step_append_lies _ rfl (.tmp 33) (.tmp 49) 23 rfl w.heap.size 34 i0 _ 5 72 Try.underlying23 hi0 hz0 hz1 hz2 rfl (by decide) (.slice A (a.ml + k) c) (a.ml + k) _ rfl (own_below HG.out.own hW3) ⟨w22.heap.size, 0, none⟩ 1 1 [S [122, 122, 122, 122, 122, 122, 122, 122, 122, 122, 122, 122, 122, 122, 122, 122, 122, 122, 122, 122, bb], .bool true, .slice none 0 0, S [105, 110, 116], .bool false] rfl rfl (World.news_of_block nb) h1c (by decide) (by unfold maxLen; omega) (by omega) (Nat.le_trans HG.out.bel.size hW3.size) _ rfl ?_
                      intro g' cap' w9 hown9 hgrow9 _ _
                      refine hK.out _ _ trivial (fun _ => ?_)
                      clear hK K
                      refine wpAnyH_take (i := 19) (v := ?_) (by simp only [List.getElem?_toArray, List.getElem?_cons_zero, List.getElem?_cons_succ]; rfl) (by kernel_rfl) (by kernel_rfl) (by kernel_rfl) (fun _ _ _ h => h) (Or.inl ⟨by rfl, ?_⟩) trivial ?_
                      rotate_left
                      · (intro w hSw; go_simp; try with_reducible rfl)
                      try simp only [Act.put, List.setIfInBounds_toArray, List.set_cons_zero, List.set_cons_succ]
                      have kb := (HG.out.blk.below hW3 HG.out.blk.lt).grown hgrow9 hne
                      have f9 := kb.frozen 3
                      have p9 : w9.cell? ⟨bB, 3, none⟩ = some (.slice A (a.ml + k) c) := kb.cell 3
                      refine wpAnyH_ready (rs := [20]) (by kernel_rfl) (by simp) ?_
                      refine AllReadyH.cons (by simp only [List.getElem?_toArray, List.getElem?_cons_zero, List.getElem?_cons_succ]; rfl) (fun K hK => ?_) AllReadyH.nil
                      go_simp
                      refine hK.out _ _ trivial (fun _ => ?_)
                      clear hK K
                      refine wpAnyH_done (by kernel_rfl) ?_ _
                      refine NoPanic.normal ?_
                      have HS := hide (HG.out.next hW3 (by rw [HNC.out]; exact hown9) hgrow9)
                      clear f9 p9 kb hown9 hgrow9
                      go_wp2_with fail
                      go_meet
                      exact ⟨rfl, _, _, HS.out⟩
                    exact AllReadyH.nil
                  exact AllReadyH.nil
                refine AllReadyH.cons (by simp only [List.getElem?_toArray, List.getElem?_cons_zero, List.getElem?_cons_succ]; rfl) (fun K hK => ?_) ?_
                · skip
                  go_simp
                  refine hK.out _ _ trivial (fun _ => ?_)
                  clear hK K
                  obtain ⟨w23, hw3⟩ : ∃ wn, wn = w22.alloc (.cells #[S [122, 122, 122, 122, 122, 122, 122, 122, 122, 122, 122, 122, 122, 122, 122, 122, 122, 122, 122, 122, bb], .bool true, .slice none 0 0, .string { data := #[105, 110, 116] }, .bool false] 34) := ⟨_, rfl⟩
                  have hW3 : Below wr.heap.size wr w23 := by rw [hw3]; exact hW2.alloc hW2.size _
                  have nb : Blk w23 w22.heap.size 34 #[S [122, 122, 122, 122, 122, 122, 122, 122, 122, 122, 122, 122, 122, 122, 122, 122, 122, 122, 122, 122, bb], .bool true, .slice none 0 0, S [105, 110, 116], .bool false] := by rw [hw3]; exact Blk.new _ _ _
                  rw [← hw3]
                  clear hw3
                  refine wpAnyH_ready (rs := [1]) (by kernel_rfl) (by simp) ?_
                  refine AllReadyH.cons (by simp only [List.getElem?_toArray, List.getElem?_cons_zero, List.getElem?_cons_succ]; rfl) (fun K hK => ?_) ?_
                  · skip
                    have gL := (HKP.out w23 hW3).1
                    go_simp
                    refine hK.out _ _ trivial (fun _ => ?_)
                    clear hK K gL
                    refine wpAnyH_ready (rs := [18]) (by kernel_rfl) (by simp) ?_
                    refine AllReadyH.cons (by simp only [List.getElem?_toArray, List.getElem?_cons_zero, List.getElem?_cons_succ]; rfl) (fun K hK => ?_) ?_
                    · skip
                      refine step_append_lies _ rfl (.tmp 33) (.tmp 49) 23 rfl w.heap.size 34 i0 _ 5 72 Try.underlying23 hi0 hz0 hz1 hz2 rfl (by decide) (.slice A (a.ml + k) c) (a.ml + k) _ rfl (own_below HG.out.own hW3) ⟨w22.heap.size, 0, none⟩ 1 1 [S [122, 122, 122, 122, 122, 122, 122, 122, 122, 122, 122, 122, 122, 122, 122, 122, 122, 122, 122, 122, bb], .bool true, .slice none 0 0, S [105, 110, 116], .bool false] rfl rfl (World.news_of_block nb) h1c (by decide) (by unfold maxLen; omega) (by omega) (Nat.le_trans HG.out.bel.size hW3.size) _ rfl ?_
                      intro g' cap' w9 hown9 hgrow9 _ _
                      refine hK.out _ _ trivial (fun _ => ?_)
                      clear hK K
                      refine wpAnyH_take (i := 19) (v := ?_) (by simp only [List.getElem?_toArray, List.getElem?_cons_zero, List.getElem?_cons_succ]; rfl) (by kernel_rfl) (by kernel_rfl) (by kernel_rfl) (fun _ _ _ h => h) (Or.inl ⟨by rfl, ?_⟩) trivial ?_
                      rotate_left
                      · (intro w hSw; go_simp; try with_reducible rfl)
                      try simp only [Act.put, List.setIfInBounds_toArray, List.set_cons_zero, List.set_cons_succ]
                      have kb := (HG.out.blk.below hW3 HG.out.blk.lt).grown hgrow9 hne
                      have f9 := kb.frozen 3
                      have p9 : w9.cell? ⟨bB, 3, none⟩ = some (.slice A (a.ml + k) c) := kb.cell 3
                      refine wpAnyH_ready (rs := [20]) (by kernel_rfl) (by simp) ?_
                      refine AllReadyH.cons (by simp only [List.getElem?_toArray, List.getElem?_cons_zero, List.getElem?_cons_succ]; rfl) (fun K hK => ?_) AllReadyH.nil
                      go_simp
                      refine hK.out _ _ trivial (fun _ => ?_)
                      clear hK K
                      refine wpAnyH_done (by kernel_rfl) ?_ _
                      refine NoPanic.normal ?_
                      have HS := hide (HG.out.next hW3 (by rw [HNC.out]; exact hown9) hgrow9)
                      clear f9 p9 kb hown9 hgrow9
                      go_wp2_with fail
                      go_meet
                      exact ⟨rfl, _, _, HS.out⟩
                    exact AllReadyH.nil
                  exact AllReadyH.nil
                exact AllReadyH.nil
              exact AllReadyH.nil
            exact AllReadyH.nil
          refine AllReadyH.cons (by simp only [List.getElem?_toArray, List.getElem?_cons_zero, List.getElem?_cons_succ]; rfl) (fun K hK => ?_) ?_
          · skip
            go_simp
            go_at_call 9
            refine (HI.out _).mono ?_
            rintro e w21 ⟨rfl, hb1⟩
            go_wp2_with fail
            refine hK.out _ _ trivial (fun _ => ?_)
            clear hK K
            have hW1 := hW0.trans (hb1.mono hW0.size)
            refine wpAnyH_ready (rs := [1, 5]) (by kernel_rfl) (by simp) ?_
            refine AllReadyH.cons (by simp only [List.getElem?_toArray, List.getElem?_cons_zero, List.getElem?_cons_succ]; rfl) (fun K hK => ?_) ?_
            · skip
              have gL := (HKP.out w21 hW1).1
              go_simp
              refine hK.out _ _ trivial (fun _ => ?_)
              clear hK K gL
              refine wpAnyH_ready (rs := [5]) (by kernel_rfl) (by simp) ?_
              refine AllReadyH.cons (by simp only [List.getElem?_toArray, List.getElem?_cons_zero, List.getElem?_cons_succ]; rfl) (fun K hK => ?_) ?_
              · skip
                go_simp
                refine hK.out _ _ trivial (fun _ => ?_)
                clear hK K
                obtain ⟨w22, hw2⟩ : ∃ wn, wn = w21.alloc (.cells #[.int .u8 (97 + (k : Int))] 5) := ⟨_, rfl⟩
                have hW2 : Below wr.heap.size wr w22 := by rw [hw2]; exact hW1.alloc hW1.size _
                have cb2 : w22.cell? ⟨w21.heap.size, 0, none⟩ = some (.int .u8 (97 + (k : Int))) := by rw [hw2]; exact (Blk.new _ _ #[.int .u8 (97 + (k : Int))]).cell 0
                rw [← hw2]
                clear hw2
                refine wpAnyH_ready (rs := [6]) (by kernel_rfl) (by simp) ?_
                refine AllReadyH.cons (by simp only [List.getElem?_toArray, List.getElem?_cons_zero, List.getElem?_cons_succ]; rfl) (fun K hK => ?_) ?_
                · skip
                  have hcv := hconv w22 w21.heap.size cb2
                  go_simp
                  refine hK.out _ _ trivial (fun _ => ?_)
                  clear hK K hcv
                  refine wpAnyH_take (i := 7) (v := ?_) (by simp only [List.getElem?_toArray, List.getElem?_cons_zero, List.getElem?_cons_succ]; rfl) (by kernel_rfl) (by kernel_rfl) (by kernel_rfl) (fun _ _ _ h => h) (Or.inl ⟨by rfl, ?_⟩) trivial ?_
                  rotate_left
                  · (intro w hSw; go_simp; try with_reducible rfl)
                  try simp only [Act.put, List.setIfInBounds_toArray, List.set_cons_zero, List.set_cons_succ]
                  refine wpAnyH_take (i := 16) (v := ?_) (by simp only [List.getElem?_toArray, List.getElem?_cons_zero, List.getElem?_cons_succ]; rfl) (by kernel_rfl) (by kernel_rfl) (by kernel_rfl) (fun _ _ _ h => h) (Or.inl ⟨by rfl, ?_⟩) trivial ?_
                  rotate_left
                  · (intro w hSw; go_simp; try with_reducible rfl)
                  try simp only [Act.put, List.setIfInBounds_toArray, List.set_cons_zero, List.set_cons_succ]
                  refine wpAnyH_ready (rs := [17]) (by kernel_rfl) (by simp) ?_
                  refine AllReadyH.cons (by simp only [List.getElem?_toArray, List.getElem?_cons_zero, List.getElem?_cons_succ]; rfl) (fun K hK => ?_) ?_
                  · skip
                    go_simp
                    refine hK.out _ _ trivial (fun _ => ?_)
                    clear hK K
                    obtain ⟨w23, hw3⟩ : ∃ wn, wn = w22.alloc (.cells #[S [122, 122, 122, 122, 122, 122, 122, 122, 122, 122, 122, 122, 122, 122, 122, 122, 122, 122, 122, 122, bb], .bool true, .slice none 0 0, .string { data := #[105, 110, 116] }, .bool false] 34) := ⟨_, rfl⟩
                    have hW3 : Below wr.heap.size wr w23 := by rw [hw3]; exact hW2.alloc hW2.size _
                    have nb : Blk w23 w22.heap.size 34 #[S [122, 122, 122, 122, 122, 122, 122, 122, 122, 122, 122, 122, 122, 122, 122, 122, 122, 122, 122, 122, bb], .bool true, .slice none 0 0, S [105, 110, 116], .bool false] := by rw [hw3]; exact Blk.new _ _ _
                    rw [← hw3]
                    clear hw3
                    refine wpAnyH_ready (rs := [18]) (by kernel_rfl) (by simp) ?_
                    refine AllReadyH.cons (by simp only [List.getElem?_toArray, List.getElem?_cons_zero, List.getElem?_cons_succ]; rfl) (fun K hK => ?_) ?_
                    · skip
                      refine step_append_lies _ rfl (.tmp 33) (.tmp 49) 23 rfl w.heap.size 34 i0 _ 5 72 Try.underlying23 hi0 hz0 hz1 hz2 rfl (by decide) (.slice A (a.ml + k) c) (a.ml + k) _ rfl (own_below HG.out.own hW3) ⟨w22.heap.size, 0, none⟩ 1 1 [S [122, 122, 122, 122, 122, 122, 122, 122, 122, 122, 122, 122, 122, 122, 122, 122, 122, 122, 122, 122, bb], .bool true, .slice none 0 0, S [105, 110, 116], .bool false] rfl rfl (World.news_of_block nb) h1c (by decide) (by unfold maxLen; omega) (by omega) (Nat.le_trans HG.out.bel.size hW3.size) _ rfl ?_
                      intro g' cap' w9 hown9 hgrow9 _ _
                      refine hK.out _ _ trivial (fun _ => ?_)
                      clear hK K
                      refine wpAnyH_take (i := 19) (v := ?_) (by simp only [List.getElem?_toArray, List.getElem?_cons_zero, List.getElem?_cons_succ]; rfl) (by kernel_rfl) (by kernel_rfl) (by kernel_rfl) (fun _ _ _ h => h) (Or.inl ⟨by rfl, ?_⟩) trivial ?_
                      rotate_left
                      · (intro w hSw; go_simp; try with_reducible rfl)
                      try simp only [Act.put, List.setIfInBounds_toArray, List.set_cons_zero, List.set_cons_succ]
                      have kb := (HG.out.blk.below hW3 HG.out.blk.lt).grown hgrow9 hne
                      have f9 := kb.frozen 3
                      have p9 : w9.cell? ⟨bB, 3, none⟩ = some (.slice A (a.ml + k) c) := kb.cell 3
                      refine wpAnyH_ready (rs := [20]) (by kernel_rfl) (by simp) ?_
                      refine AllReadyH.cons (by simp only [List.getElem?_toArray, List.getElem?_cons_zero, List.getElem?_cons_succ]; rfl) (fun K hK => ?_) AllReadyH.nil
                      go_simp
                      refine hK.out _ _ trivial (fun _ => ?_)
                      clear hK K
                      refine wpAnyH_done (by kernel_rfl) ?_ _
                      refine NoPanic.normal ?_
                      have HS := hide (HG.out.next hW3 (by rw [HNC.out]; exact hown9) hgrow9)
                      clear f9 p9 kb hown9 hgrow9
                      go_wp2_with fail
                      go_meet
                      exact ⟨rfl, _, _, HS.out⟩
                    exact AllReadyH.nil
                  exact AllReadyH.nil
                exact AllReadyH.nil
              exact AllReadyH.nil
            refine AllReadyH.cons (by simp only [List.getElem?_toArray, List.getElem?_cons_zero, List.getElem?_cons_succ]; rfl) (fun K hK => ?_) ?_
            · skip
              go_simp
              refine hK.out _ _ trivial (fun _ => ?_)
              clear hK K
              obtain ⟨w22, hw2⟩ : ∃ wn, wn = w21.alloc (.cells #[.int .u8 (97 + (k : Int))] 5) := ⟨_, rfl⟩
              have hW2 : Below wr.heap.size wr w22 := by rw [hw2]; exact hW1.alloc hW1.size _
              have cb2 : w22.cell? ⟨w21.heap.size, 0, none⟩ = some (.int .u8 (97 + (k : Int))) := by rw [hw2]; exact (Blk.new _ _ #[.int .u8 (97 + (k : Int))]).cell 0
              rw [← hw2]
              clear hw2
              refine wpAnyH_ready (rs := [1, 6]) (by kernel_rfl) (by simp) ?_
              refine AllReadyH.cons (by simp only [List.getElem?_toArray, List.getElem?_cons_zero, List.getElem?_cons_succ]; rfl) (fun K hK => ?_) ?_
              · skip
                have gL := (HKP.out w22 hW2).1
                go_simp
                refine hK.out _ _ trivial (fun _ => ?_)
                clear hK K gL
                refine wpAnyH_ready (rs := [6]) (by kernel_rfl) (by simp) ?_
                refine AllReadyH.cons (by simp only [List.getElem?_toArray, List.getElem?_cons_zero, List.getElem?_cons_succ]; rfl) (fun K hK => ?_) ?_
                · skip
                  have hcv := hconv w22 w21.heap.size cb2
                  go_simp
                  refine hK.out _ _ trivial (fun _ => ?_)
                  clear hK K hcv
                  refine wpAnyH_take (i := 7) (v := ?_) (by simp only [List.getElem?_toArray, List.getElem?_cons_zero, List.getElem?_cons_succ]; rfl) (by kernel_rfl) (by kernel_rfl) (by kernel_rfl) (fun _ _ _ h => h) (Or.inl ⟨by rfl, ?_⟩) trivial ?_
                  rotate_left
                  · (intro w hSw; go_simp; try with_reducible rfl)
                  try simp only [Act.put, List.setIfInBounds_toArray, List.set_cons_zero, List.set_cons_succ]
                  refine wpAnyH_take (i := 16) (v := ?_) (by simp only [List.getElem?_toArray, List.getElem?_cons_zero, List.getElem?_cons_succ]; rfl) (by kernel_rfl) (by kernel_rfl) (by kernel_rfl) (fun _ _ _ h => h) (Or.inl ⟨by rfl, ?_⟩) trivial ?_
                  rotate_left
                  · (intro w hSw; go_simp; try with_reducible rfl)
                  try simp only [Act.put, List.setIfInBounds_toArray, List.set_cons_zero, List.set_cons_succ]
                  refine wpAnyH_ready (rs := [17]) (by kernel_rfl) (by simp) ?_
                  refine AllReadyH.cons (by simp only [List.getElem?_toArray, List.getElem?_cons_zero, List.getElem?_cons_succ]; rfl) (fun K hK => ?_) ?_
                  · skip
                    go_simp
                    refine hK.out _ _ trivial (fun _ => ?_)
                    clear hK K
                    obtain ⟨w23, hw3⟩ : ∃ wn, wn = w22.alloc (.cells #[S [122, 122, 122, 122, 122, 122, 122, 122, 122, 122, 122, 122, 122, 122, 122, 122, 122, 122, 122, 122, bb], .bool true, .slice none 0 0, .string { data := #[105, 110, 116] }, .bool false] 34) := ⟨_, rfl⟩
                    have hW3 : Below wr.heap.size wr w23 := by rw [hw3]; exact hW2.alloc hW2.size _
                    have nb : Blk w23 w22.heap.size 34 #[S [122, 122, 122, 122, 122, 122, 122, 122, 122, 122, 122, 122, 122, 122, 122, 122, 122, 122, 122, 122, bb], .bool true, .slice none 0 0, S [105, 110, 116], .bool false] := by rw [hw3]; exact Blk.new _ _ _
                    rw [← hw3]
                    clear hw3
                    refine wpAnyH_ready (rs := [18]) (by kernel_rfl) (by simp) ?_
                    refine AllReadyH.cons (by simp only [List.getElem?_toArray, List.getElem?_cons_zero, List.getElem?_cons_succ]; rfl) (fun K hK => ?_) ?_
                    · skip
                      refine step_append_lies _ rfl (.tmp 33) (.tmp 49) 23 rfl w.heap.size 34 i0 _ 5 72 Try.underlying23 hi0 hz0 hz1 hz2 rfl (by decide) (.slice A (a.ml + k) c) (a.ml + k) _ rfl (own_below HG.out.own hW3) ⟨w22.heap.size, 0, none⟩ 1 1 [S [122, 122, 122, 122, 122, 122, 122, 122, 122, 122, 122, 122, 122, 122, 122, 122, 122, 122, 122, 122, bb], .bool true, .slice none 0 0, S [105, 110, 116], .bool false] rfl rfl (World.news_of_block nb) h1c (by decide) (by unfold maxLen; omega) (by omega) (Nat.le_trans HG.out.bel.size hW3.size) _ rfl ?_
                      intro g' cap' w9 hown9 hgrow9 _ _
                      refine hK.out _ _ trivial (fun _ => ?_)
                      clear hK K
                      refine wpAnyH_take (i := 19) (v := ?_) (by simp only [List.getElem?_toArray, List.getElem?_cons_zero, List.getElem?_cons_succ]; rfl) (by kernel_rfl) (by kernel_rfl) (by kernel_rfl) (fun _ _ _ h => h) (Or.inl ⟨by rfl, ?_⟩) trivial ?_
                      rotate_left
                      · (intro w hSw; go_simp; try with_reducible rfl)
                      try simp only [Act.put, List.setIfInBounds_toArray, List.set_cons_zero, List.set_cons_succ]
                      have kb := (HG.out.blk.below hW3 HG.out.blk.lt).grown hgrow9 hne
                      have f9 := kb.frozen 3
                      have p9 : w9.cell? ⟨bB, 3, none⟩ = some (.slice A (a.ml + k) c) := kb.cell 3
                      refine wpAnyH_ready (rs := [20]) (by kernel_rfl) (by simp) ?_
                      refine AllReadyH.cons (by simp only [List.getElem?_toArray, List.getElem?_cons_zero, List.getElem?_cons_succ]; rfl) (fun K hK => ?_) AllReadyH.nil
                      go_simp
                      refine hK.out _ _ trivial (fun _ => ?_)
                      clear hK K
                      refine wpAnyH_done (by kernel_rfl) ?_ _
                      refine NoPanic.normal ?_
                      have HS := hide (HG.out.next hW3 (by rw [HNC.out]; exact hown9) hgrow9)
                      clear f9 p9 kb hown9 hgrow9
                      go_wp2_with fail
                      go_meet
                      exact ⟨rfl, _, _, HS.out⟩
                    exact AllReadyH.nil
                  exact AllReadyH.nil
                exact AllReadyH.nil
              refine AllReadyH.cons (by simp only [List.getElem?_toArray, List.getElem?_cons_zero, List.getElem?_cons_succ]; rfl) (fun K hK => ?_) ?_
              · skip
                have hcv := hconv w22 w21.heap.size cb2
                go_simp
                refine hK.out _ _ trivial (fun _ => ?_)
                clear hK K hcv
                refine wpAnyH_take (i := 7) (v := ?_) (by simp only [List.getElem?_toArray, List.getElem?_cons_zero, List.getElem?_cons_succ]; rfl) (by kernel_rfl) (by kernel_rfl) (by kernel_rfl) (fun _ _ _ h => h) (Or.inl ⟨by rfl, ?_⟩) trivial ?_
                rotate_left
                · (intro w hSw; go_simp; try with_reducible rfl)
                try simp only [Act.put, List.setIfInBounds_toArray, List.set_cons_zero, List.set_cons_succ]
                refine wpAnyH_take (i := 16) (v := ?_) (by simp only [List.getElem?_toArray, List.getElem?_cons_zero, List.getElem?_cons_succ]; rfl) (by kernel_rfl) (by kernel_rfl) (by kernel_rfl) (fun _ _ _ h => h) (Or.inl ⟨by rfl, ?_⟩) trivial ?_
                rotate_left
                · (intro w hSw; go_simp; try with_reducible rfl)
                try simp only [Act.put, List.setIfInBounds_toArray, List.set_cons_zero, List.set_cons_succ]
                refine wpAnyH_ready (rs := [1, 17]) (by kernel_rfl) (by simp) ?_
                refine AllReadyH.cons (by simp only [List.getElem?_toArray, List.getElem?_cons_zero, List.getElem?_cons_succ]; rfl) (fun K hK => ?_) ?_
                · skip
                  have gL := (HKP.out w22 hW2).1
                  go_simp
                  refine hK.out _ _ trivial (fun _ => ?_)
                  clear hK K gL
                  refine wpAnyH_ready (rs := [17]) (by kernel_rfl) (by simp) ?_
                  refine AllReadyH.cons (by simp only [List.getElem?_toArray, List.getElem?_cons_zero, List.getElem?_cons_succ]; rfl) (fun K hK => ?_) ?_
                  · skip
                    go_simp
                    refine hK.out _ _ trivial (fun _ => ?_)
                    clear hK K
                    obtain ⟨w23, hw3⟩ : ∃ wn, wn = w22.alloc (.cells #[S [122, 122, 122, 122, 122, 122, 122, 122, 122, 122, 122, 122, 122, 122, 122, 122, 122, 122, 122, 122, bb], .bool true, .slice none 0 0, .string { data := #[105, 110, 116] }, .bool false] 34) := ⟨_, rfl⟩
                    have hW3 : Below wr.heap.size wr w23 := by rw [hw3]; exact hW2.alloc hW2.size _
                    have nb : Blk w23 w22.heap.size 34 #[S [122, 122, 122, 122, 122, 122, 122, 122, 122, 122, 122, 122, 122, 122, 122, 122, 122, 122, 122, 122, bb], .bool true, .slice none 0 0, S [105, 110, 116], .bool false] := by rw [hw3]; exact Blk.new _ _ _
                    rw [← hw3]
                    clear hw3
                    refine wpAnyH_ready (rs := [18]) (by kernel_rfl) (by simp) ?_
                    refine AllReadyH.cons (by simp only [List.getElem?_toArray, List.getElem?_cons_zero, List.getElem?_cons_succ]; rfl) (fun K hK => ?_) ?_
                    · skip
                      refine step_append_lies _ rfl (.tmp 33) (.tmp 49) 23 rfl w.heap.size 34 i0 _ 5 72 Try.underlying23 hi0 hz0 hz1 hz2 rfl (by decide) (.slice A (a.ml + k) c) (a.ml + k) _ rfl (own_below HG.out.own hW3) ⟨w22.heap.size, 0, none⟩ 1 1 [S [122, 122, 122, 122, 122, 122, 122, 122, 122, 122, 122, 122, 122, 122, 122, 122, 122, 122, 122, 122, bb], .bool true, .slice none 0 0, S [105, 110, 116], .bool false] rfl rfl (World.news_of_block nb) h1c (by decide) (by unfold maxLen; omega) (by omega) (Nat.le_trans HG.out.bel.size hW3.size) _ rfl ?_
                      intro g' cap' w9 hown9 hgrow9 _ _
                      refine hK.out _ _ trivial (fun _ => ?_)
                      clear hK K
                      refine wpAnyH_take (i := 19) (v := ?_) (by simp only [List.getElem?_toArray, List.getElem?_cons_zero, List.getElem?_cons_succ]; rfl) (by kernel_rfl) (by kernel_rfl) (by kernel_rfl) (fun _ _ _ h => h) (Or.inl ⟨by rfl, ?_⟩) trivial ?_
                      rotate_left
                      · (intro w hSw; go_simp; try with_reducible rfl)
                      try simp only [Act.put, List.setIfInBounds_toArray, List.set_cons_zero, List.set_cons_succ]
                      have kb := (HG.out.blk.below hW3 HG.out.blk.lt).grown hgrow9 hne
                      have f9 := kb.frozen 3
                      have p9 : w9.cell? ⟨bB, 3, none⟩ = some (.slice A (a.ml + k) c) := kb.cell 3
                      refine wpAnyH_ready (rs := [20]) (by kernel_rfl) (by simp) ?_
                      refine AllReadyH.cons (by simp only [List.getElem?_toArray, List.getElem?_cons_zero, List.getElem?_cons_succ]; rfl) (fun K hK => ?_) AllReadyH.nil
                      go_simp
                      refine hK.out _ _ trivial (fun _ => ?_)
                      clear hK K
                      refine wpAnyH_done (by kernel_rfl) ?_ _
                      refine NoPanic.normal ?_
                      have HS := hide (HG.out.next hW3 (by rw [HNC.out]; exact hown9) hgrow9)
                      clear f9 p9 kb hown9 hgrow9
                      go_wp2_with fail
                      go_meet
                      exact ⟨rfl, _, _, HS.out⟩
                    exact AllReadyH.nil
                  exact AllReadyH.nil
                refine AllReadyH.cons (by simp only [List.getElem?_toArray, List.getElem?_cons_zero, List.getElem?_cons_succ]; rfl) (fun K hK => ?_) ?_
                · skip
                  go_simp
                  refine hK.out _ _ trivial (fun _ => ?_)
                  clear hK K
                  obtain ⟨w23, hw3⟩ : ∃ wn, wn = w22.alloc (.cells #[S [122, 122, 122, 122, 122, 122, 122, 122, 122, 122, 122, 122, 122, 122, 122, 122, 122, 122, 122, 122, bb], .bool true, .slice none 0 0, .string { data := #[105, 110, 116] }, .bool false] 34) := ⟨_, rfl⟩
                  have hW3 : Below wr.heap.size wr w23 := by rw [hw3]; exact hW2.alloc hW2.size _
                  have nb : Blk w23 w22.heap.size 34 #[S [122, 122, 122, 122, 122, 122, 122, 122, 122, 122, 122, 122, 122, 122, 122, 122, 122, 122, 122, 122, bb], .bool true, .slice none 0 0, S [105, 110, 116], .bool false] := by rw [hw3]; exact Blk.new _ _ _
                  rw [← hw3]
                  clear hw3
                  refine wpAnyH_ready (rs := [1]) (by kernel_rfl) (by simp) ?_
                  refine AllReadyH.cons (by simp only [List.getElem?_toArray, List.getElem?_cons_zero, List.getElem?_cons_succ]; rfl) (fun K hK => ?_) ?_
                  · skip
                    have gL := (HKP.out w23 hW3).1
                    go_simp
                    refine hK.out _ _ trivial (fun _ => ?_)
                    clear hK K gL
                    refine wpAnyH_ready (rs := [18]) (by kernel_rfl) (by simp) ?_
                    refine AllReadyH.cons (by simp only [List.getElem?_toArray, List.getElem?_cons_zero, List.getElem?_cons_succ]; rfl) (fun K hK => ?_) ?_
                    · skip
                      refine step_append_lies _ rfl (.tmp 33) (.tmp 49) 23 rfl w.heap.size 34 i0 _ 5 72 Try.underlying23 hi0 hz0 hz1 hz2 rfl (by decide) (.slice A (a.ml + k) c) (a.ml + k) _ rfl (own_below HG.out.own hW3) ⟨w22.heap.size, 0, none⟩ 1 1 [S [122, 122, 122, 122, 122, 122, 122, 122, 122, 122, 122, 122, 122, 122, 122, 122, 122, 122, 122, 122, bb], .bool true, .slice none 0 0, S [105, 110, 116], .bool false] rfl rfl (World.news_of_block nb) h1c (by decide) (by unfold maxLen; omega) (by omega) (Nat.le_trans HG.out.bel.size hW3.size) _ rfl ?_
                      intro g' cap' w9 hown9 hgrow9 _ _
                      refine hK.out _ _ trivial (fun _ => ?_)
                      clear hK K
                      refine wpAnyH_take (i := 19) (v := ?_) (by simp only [List.getElem?_toArray, List.getElem?_cons_zero, List.getElem?_cons_succ]; rfl) (by kernel_rfl) (by kernel_rfl) (by kernel_rfl) (fun _ _ _ h => h) (Or.inl ⟨by rfl, ?_⟩) trivial ?_
                      rotate_left
                      · (intro w hSw; go_simp; try with_reducible rfl)
                      try simp only [Act.put, List.setIfInBounds_toArray, List.set_cons_zero, List.set_cons_succ]
                      have kb := (HG.out.blk.below hW3 HG.out.blk.lt).grown hgrow9 hne
                      have f9 := kb.frozen 3
                      have p9 : w9.cell? ⟨bB, 3, none⟩ = some (.slice A (a.ml + k) c) := kb.cell 3
                      refine wpAnyH_ready (rs := [20]) (by kernel_rfl) (by simp) ?_
                      refine AllReadyH.cons (by simp only [List.getElem?_toArray, List.getElem?_cons_zero, List.getElem?_cons_succ]; rfl) (fun K hK => ?_) AllReadyH.nil
                      go_simp
                      refine hK.out _ _ trivial (fun _ => ?_)
                      clear hK K
                      refine wpAnyH_done (by kernel_rfl) ?_ _
                      refine NoPanic.normal ?_
                      have HS := hide (HG.out.next hW3 (by rw [HNC.out]; exact hown9) hgrow9)
                      clear f9 p9 kb hown9 hgrow9
                      go_wp2_with fail
                      go_meet
                      exact ⟨rfl, _, _, HS.out⟩
                    exact AllReadyH.nil
                  exact AllReadyH.nil
                exact AllReadyH.nil
              exact AllReadyH.nil
            exact AllReadyH.nil
          exact AllReadyH.nil
        case false =>
          have HNC : Hid ((newG N last k).cells = [S [122, 122, 122, 122, 122, 122, 122, 122, 122, 122, 122, 122, 122, 122, 122, 122, 122, 122, 122, 122, bb], .bool last, .slice none 0 0, S [105, 110, 116], .bool false]) := hide (by rw [HBB.out]; simp [newG, zz, HST.out])
          have h1c := h1c last
          go_wp2_with fail
          refine wp_region_noPanic ?_
          refine wp_region_held_drew (S := fun _ => True) (by kernel_rfl) trivial (fun _ => ?_)
          obtain ⟨w20, hw0⟩ : ∃ wn, wn = wr.drew := ⟨_, rfl⟩
          have hW0 : Below wr.heap.size wr w20 := by rw [hw0]; exact (Below.refl _ _).drew
          rw [← hw0]
          clear hw0
          refine wpAnyH_take (i := 0) (v := ?_) (by simp only [List.getElem?_toArray, List.getElem?_cons_zero]; rfl) (by kernel_rfl) (by kernel_rfl) (by kernel_rfl) (fun _ _ _ h => h) (Or.inl ⟨by rfl, ?_⟩) trivial ?_
          rotate_left
          · (intro w hSw; go_simp; try with_reducible rfl)
          try simp only [Act.put, List.setIfInBounds_toArray, List.set_cons_zero, List.set_cons_succ]
          refine wpAnyH_take (i := 2) (v := ?_) (by simp only [List.getElem?_toArray, List.getElem?_cons_zero, List.getElem?_cons_succ]; rfl) (by kernel_rfl) (by kernel_rfl) (by kernel_rfl) (fun _ _ _ h => h) (Or.inl ⟨by rfl, ?_⟩) trivial ?_
          rotate_left
          · (intro w hSw; go_simp; try with_reducible rfl)
          try simp only [Act.put, List.setIfInBounds_toArray, List.set_cons_zero, List.set_cons_succ]
          refine wpAnyH_take (i := 3) (v := ?_) (by simp only [List.getElem?_toArray, List.getElem?_cons_zero, List.getElem?_cons_succ]; rfl) (by kernel_rfl) (by kernel_rfl) (by kernel_rfl) (fun _ _ _ h => h) (Or.inl ⟨by rfl, ?_⟩) trivial ?_
          rotate_left
          · (intro w hSw; go_simp; try with_reducible rfl)
          try simp only [Act.put, List.setIfInBounds_toArray, List.set_cons_zero, List.set_cons_succ]
          refine wpAnyH_take (i := 4) (v := ?_) (by simp only [List.getElem?_toArray, List.getElem?_cons_zero, List.getElem?_cons_succ]; rfl) (by kernel_rfl) (by kernel_rfl) (by kernel_rfl) (fun _ _ _ h => h) (Or.inl ⟨by rfl, ?_⟩) trivial ?_
          rotate_left
          · (intro w hSw; go_simp; try with_reducible rfl)
          try simp only [Act.put, List.setIfInBounds_toArray, List.set_cons_zero, List.set_cons_succ]
          refine wpAnyH_take (i := 8) (v := ?_) (by simp only [List.getElem?_toArray, List.getElem?_cons_zero, List.getElem?_cons_succ]; rfl) (by kernel_rfl) (by kernel_rfl) (by kernel_rfl) (fun _ _ _ h => h) (Or.inl ⟨by rfl, ?_⟩) trivial ?_
          rotate_left
          · (intro w hSw; go_simp; try with_reducible rfl)
          try simp only [Act.put, List.setIfInBounds_toArray, List.set_cons_zero, List.set_cons_succ]
          refine wpAnyH_take (i := 9) (v := ?_) (by simp only [List.getElem?_toArray, List.getElem?_cons_zero, List.getElem?_cons_succ]; rfl) (by kernel_rfl) (by kernel_rfl) (by kernel_rfl) (fun _ _ _ h => h) (Or.inl ⟨by rfl, ?_⟩) trivial ?_
          rotate_left
          · (intro w hSw; go_simp; try with_reducible rfl)
          try simp only [Act.put, List.setIfInBounds_toArray, List.set_cons_zero, List.set_cons_succ]
          refine wpAnyH_take (i := 10) (v := ?_) (by simp only [List.getElem?_toArray, List.getElem?_cons_zero, List.getElem?_cons_succ]; rfl) (by kernel_rfl) (by kernel_rfl) (by kernel_rfl) (fun _ _ _ h => h) (Or.inl ⟨by rfl, ?_⟩) trivial ?_
          rotate_left
          · (intro w hSw; go_simp; try with_reducible rfl)
          try simp only [Act.put, List.setIfInBounds_toArray, List.set_cons_zero, List.set_cons_succ]
          refine wpAnyH_take (i := 11) (v := ?_) (by simp only [List.getElem?_toArray, List.getElem?_cons_zero, List.getElem?_cons_succ]; rfl) (by kernel_rfl) (by kernel_rfl) (by kernel_rfl) (fun _ _ _ h => h) (Or.inl ⟨by rfl, ?_⟩) trivial ?_
          rotate_left
          · (intro w hSw; go_simp; try with_reducible rfl)
          try simp only [Act.put, List.setIfInBounds_toArray, List.set_cons_zero, List.set_cons_succ]
          refine wpAnyH_take (i := 12) (v := ?_) (by simp only [List.getElem?_toArray, List.getElem?_cons_zero, List.getElem?_cons_succ]; rfl) (by kernel_rfl) (by kernel_rfl) (by kernel_rfl) (fun _ _ _ h => h) (Or.inl ⟨by rfl, ?_⟩) trivial ?_
          rotate_left
          · (intro w hSw; go_simp; try with_reducible rfl)
          try simp only [Act.put, List.setIfInBounds_toArray, List.set_cons_zero, List.set_cons_succ]
          refine wpAnyH_take (i := 13) (v := ?_) (by simp only [List.getElem?_toArray, List.getElem?_cons_zero, List.getElem?_cons_succ]; rfl) (by kernel_rfl) (by kernel_rfl) (by kernel_rfl) (fun _ _ _ h => h) (Or.inl ⟨by rfl, ?_⟩) trivial ?_
          rotate_left
          · (intro w hSw; go_simp; try with_reducible rfl)
          try simp only [Act.put, List.setIfInBounds_toArray, List.set_cons_zero, List.set_cons_succ]
          refine wpAnyH_take (i := 14) (v := ?_) (by simp only [List.getElem?_toArray, List.getElem?_cons_zero, List.getElem?_cons_succ]; rfl) (by kernel_rfl) (by kernel_rfl) (by kernel_rfl) (fun _ _ _ h => h) (Or.inl ⟨by rfl, ?_⟩) trivial ?_
          rotate_left
          · (intro w hSw; go_simp; try with_reducible rfl)
          try simp only [Act.put, List.setIfInBounds_toArray, List.set_cons_zero, List.set_cons_succ]
          refine wpAnyH_ready (rs := [1, 5, 15]) (by kernel_rfl) (by simp) ?_
          refine AllReadyH.cons (by simp only [List.getElem?_toArray, List.getElem?_cons_zero, List.getElem?_cons_succ]; rfl) (fun K hK => ?_) ?_
          · skip
            have gL := (HKP.out w20 hW0).1
            go_simp
            refine hK.out _ _ trivial (fun _ => ?_)
            clear hK K gL
            refine wpAnyH_ready (rs := [5, 15]) (by kernel_rfl) (by simp) ?_
            refine AllReadyH.cons (by simp only [List.getElem?_toArray, List.getElem?_cons_zero, List.getElem?_cons_succ]; rfl) (fun K hK => ?_) ?_
            · skip
              go_simp
              refine hK.out _ _ trivial (fun _ => ?_)
              clear hK K
              obtain ⟨w21, hw1⟩ : ∃ wn, wn = w20.alloc (.cells #[.int .u8 (97 + (k : Int))] 5) := ⟨_, rfl⟩
              have hW1 : Below wr.heap.size wr w21 := by rw [hw1]; exact hW0.alloc hW0.size _
              have cb1 : w21.cell? ⟨w20.heap.size, 0, none⟩ = some (.int .u8 (97 + (k : Int))) := by rw [hw1]; exact (Blk.new _ _ #[.int .u8 (97 + (k : Int))]).cell 0
              rw [← hw1]
              clear hw1
              refine wpAnyH_ready (rs := [6, 15]) (by kernel_rfl) (by simp) ?_
              refine AllReadyH.cons (by simp only [List.getElem?_toArray, List.getElem?_cons_zero, List.getElem?_cons_succ]; rfl) (fun K hK => ?_) ?_
              · skip
                have hcv := hconv w21 w20.heap.size cb1
                go_simp
                refine hK.out _ _ trivial (fun _ => ?_)
                clear hK K hcv
                refine wpAnyH_take (i := 7) (v := ?_) (by simp only [List.getElem?_toArray, List.getElem?_cons_zero, List.getElem?_cons_succ]; rfl) (by kernel_rfl) (by kernel_rfl) (by kernel_rfl) (fun _ _ _ h => h) (Or.inl ⟨by rfl, ?_⟩) trivial ?_
                rotate_left
                · (intro w hSw; go_simp; try with_reducible rfl)
                try simp only [Act.put, List.setIfInBounds_toArray, List.set_cons_zero, List.set_cons_succ]
                refine wpAnyH_ready (rs := [15]) (by kernel_rfl) (by simp) ?_
                refine AllReadyH.cons (by simp only [List.getElem?_toArray, List.getElem?_cons_zero, List.getElem?_cons_succ]; rfl) (fun K hK => ?_) ?_
                · skip
                  go_simp
                  go_at_call 9
                  refine (HI.out _).mono ?_
                  rintro e w22 ⟨rfl, hb2⟩
                  go_wp2_with fail
                  refine hK.out _ _ trivial (fun _ => ?_)
                  clear hK K
                  have hW2 := hW1.trans (hb2.mono hW1.size)
                  refine wpAnyH_take (i := 16) (v := ?_) (by simp only [List.getElem?_toArray, List.getElem?_cons_zero, List.getElem?_cons_succ]; rfl) (by kernel_rfl) (by kernel_rfl) (by kernel_rfl) (fun _ _ _ h => h) (Or.inl ⟨by rfl, ?_⟩) trivial ?_
                  rotate_left
                  · (intro w hSw; go_simp; try with_reducible rfl)
                  try simp only [Act.put, List.setIfInBounds_toArray, List.set_cons_zero, List.set_cons_succ]
                  refine wpAnyH_ready (rs := [17]) (by kernel_rfl) (by simp) ?_
                  refine AllReadyH.cons (by simp only [List.getElem?_toArray, List.getElem?_cons_zero, List.getElem?_cons_succ]; rfl) (fun K hK => ?_) ?_
                  · skip
                    go_simp
                    refine hK.out _ _ trivial (fun _ => ?_)
                    clear hK K
                    obtain ⟨w23, hw3⟩ : ∃ wn, wn = w22.alloc (.cells #[S [122, 122, 122, 122, 122, 122, 122, 122, 122, 122, 122, 122, 122, 122, 122, 122, 122, 122, 122, 122, bb], .bool last, .slice none 0 0, .string { data := #[105, 110, 116] }, .bool false] 34) := ⟨_, rfl⟩
                    have hW3 : Below wr.heap.size wr w23 := by rw [hw3]; exact hW2.alloc hW2.size _
                    have nb : Blk w23 w22.heap.size 34 #[S [122, 122, 122, 122, 122, 122, 122, 122, 122, 122, 122, 122, 122, 122, 122, 122, 122, 122, 122, 122, bb], .bool last, .slice none 0 0, S [105, 110, 116], .bool false] := by rw [hw3]; exact Blk.new _ _ _
                    rw [← hw3]
                    clear hw3
                    refine wpAnyH_ready (rs := [18]) (by kernel_rfl) (by simp) ?_
                    refine AllReadyH.cons (by simp only [List.getElem?_toArray, List.getElem?_cons_zero, List.getElem?_cons_succ]; rfl) (fun K hK => ?_) ?_
                    · skip
                      refine step_append_lies _ rfl (.tmp 33) (.tmp 49) 23 rfl w.heap.size 34 i0 _ 5 72 Try.underlying23 hi0 hz0 hz1 hz2 rfl (by decide) (.slice A (a.ml + k) c) (a.ml + k) _ rfl (own_below HG.out.own hW3) ⟨w22.heap.size, 0, none⟩ 1 1 [S [122, 122, 122, 122, 122, 122, 122, 122, 122, 122, 122, 122, 122, 122, 122, 122, 122, 122, 122, 122, bb], .bool last, .slice none 0 0, S [105, 110, 116], .bool false] rfl rfl (World.news_of_block nb) h1c (by decide) (by unfold maxLen; omega) (by omega) (Nat.le_trans HG.out.bel.size hW3.size) _ rfl ?_
                      intro g' cap' w9 hown9 hgrow9 _ _
                      refine hK.out _ _ trivial (fun _ => ?_)
                      clear hK K
                      refine wpAnyH_take (i := 19) (v := ?_) (by simp only [List.getElem?_toArray, List.getElem?_cons_zero, List.getElem?_cons_succ]; rfl) (by kernel_rfl) (by kernel_rfl) (by kernel_rfl) (fun _ _ _ h => h) (Or.inl ⟨by rfl, ?_⟩) trivial ?_
                      rotate_left
                      · (intro w hSw; go_simp; try with_reducible rfl)
                      try simp only [Act.put, List.setIfInBounds_toArray, List.set_cons_zero, List.set_cons_succ]
                      have kb := (HG.out.blk.below hW3 HG.out.blk.lt).grown hgrow9 hne
                      have f9 := kb.frozen 3
                      have p9 : w9.cell? ⟨bB, 3, none⟩ = some (.slice A (a.ml + k) c) := kb.cell 3
                      refine wpAnyH_ready (rs := [20]) (by kernel_rfl) (by simp) ?_
                      refine AllReadyH.cons (by simp only [List.getElem?_toArray, List.getElem?_cons_zero, List.getElem?_cons_succ]; rfl) (fun K hK => ?_) AllReadyH.nil
                      go_simp
                      refine hK.out _ _ trivial (fun _ => ?_)
                      clear hK K
                      refine wpAnyH_done (by kernel_rfl) ?_ _
                      refine NoPanic.normal ?_
                      have HS := hide (HG.out.next hW3 (by rw [HNC.out]; exact hown9) hgrow9)
                      clear f9 p9 kb hown9 hgrow9
                      go_wp2_with fail
                      go_meet
                      exact ⟨rfl, _, _, HS.out⟩
                    exact AllReadyH.nil
                  exact AllReadyH.nil
                exact AllReadyH.nil
              refine AllReadyH.cons (by simp only [List.getElem?_toArray, List.getElem?_cons_zero, List.getElem?_cons_succ]; rfl) (fun K hK => ?_) ?_
              · skip
                go_simp
                go_at_call 9
                refine (HI.out _).mono ?_
                rintro e w22 ⟨rfl, hb2⟩
                go_wp2_with fail
                refine hK.out _ _ trivial (fun _ => ?_)
                clear hK K
                have hW2 := hW1.trans (hb2.mono hW1.size)
                have cb2 := (hb2.cell (p := ⟨w20.heap.size, 0, none⟩) (World.block_lt_of_cell? _ _ cb1)).trans cb1
                refine wpAnyH_ready (rs := [6]) (by kernel_rfl) (by simp) ?_
                refine AllReadyH.cons (by simp only [List.getElem?_toArray, List.getElem?_cons_zero, List.getElem?_cons_succ]; rfl) (fun K hK => ?_) ?_
                · skip
                  have hcv := hconv w22 w20.heap.size cb2
                  go_simp
                  refine hK.out _ _ trivial (fun _ => ?_)
                  clear hK K hcv
                  refine wpAnyH_take (i := 7) (v := ?_) (by simp only [List.getElem?_toArray, List.getElem?_cons_zero, List.getElem?_cons_succ]; rfl) (by kernel_rfl) (by kernel_rfl) (by kernel_rfl) (fun _ _ _ h => h) (Or.inl ⟨by rfl, ?_⟩) trivial ?_
                  rotate_left
                  · (intro w hSw; go_simp; try with_reducible rfl)
                  try simp only [Act.put, List.setIfInBounds_toArray, List.set_cons_zero, List.set_cons_succ]
                  refine wpAnyH_take (i := 16) (v := ?_) (by simp only [List.getElem?_toArray, List.getElem?_cons_zero, List.getElem?_cons_succ]; rfl) (by kernel_rfl) (by kernel_rfl) (by kernel_rfl) (fun _ _ _ h => h) (Or.inl ⟨by rfl, ?_⟩) trivial ?_
                  rotate_left
                  · (intro w hSw; go_simp; try with_reducible rfl)
                  try simp only [Act.put, List.setIfInBounds_toArray, List.set_cons_zero, List.set_cons_succ]
                  refine wpAnyH_ready (rs := [17]) (by kernel_rfl) (by simp) ?_
                  refine AllReadyH.cons (by simp only [List.getElem?_toArray, List.getElem?_cons_zero, List.getElem?_cons_succ]; rfl) (fun K hK => ?_) ?_
                  · skip
                    go_simp
                    refine hK.out _ _ trivial (fun _ => ?_)
                    clear hK K
                    obtain ⟨w23, hw3⟩ : ∃ wn, wn = w22.alloc (.cells #[S [122, 122, 122, 122, 122, 122, 122, 122, 122, 122, 122, 122, 122, 122, 122, 122, 122, 122, 122, 122, bb], .bool last, .slice none 0 0, .string { data := #[105, 110, 116] }, .bool false] 34) := ⟨_, rfl⟩
                    have hW3 : Below wr.heap.size wr w23 := by rw [hw3]; exact hW2.alloc hW2.size _
                    have nb : Blk w23 w22.heap.size 34 #[S [122, 122, 122, 122, 122, 122, 122, 122, 122, 122, 122, 122, 122, 122, 122, 122, 122, 122, 122, 122, bb], .bool last, .slice none 0 0, S [105, 110, 116], .bool false] := by rw [hw3]; exact Blk.new _ _ _
                    rw [← hw3]
                    clear hw3
                    refine wpAnyH_ready (rs := [18]) (by kernel_rfl) (by simp) ?_
                    refine AllReadyH.cons (by simp only [List.getElem?_toArray, List.getElem?_cons_zero, List.getElem?_cons_succ]; rfl) (fun K hK => ?_) ?_
                    · skip
                      refine step_append_lies _ rfl (.tmp 33) (.tmp 49) 23 rfl w.heap.size 34 i0 _ 5 72 Try.underlying23 hi0 hz0 hz1 hz2 rfl (by decide) (.slice A (a.ml + k) c) (a.ml + k) _ rfl (own_below HG.out.own hW3) ⟨w22.heap.size, 0, none⟩ 1 1 [S [122, 122, 122, 122, 122, 122, 122, 122, 122, 122, 122, 122, 122, 122, 122, 122, 122, 122, 122, 122, bb], .bool last, .slice none 0 0, S [105, 110, 116], .bool false] rfl rfl (World.news_of_block nb) h1c (by decide) (by unfold maxLen; omega) (by omega) (Nat.le_trans HG.out.bel.size hW3.size) _ rfl ?_
                      intro g' cap' w9 hown9 hgrow9 _ _
                      refine hK.out _ _ trivial (fun _ => ?_)
                      clear hK K
                      refine wpAnyH_take (i := 19) (v := ?_) (by simp only [List.getElem?_toArray, List.getElem?_cons_zero, List.getElem?_cons_succ]; rfl) (by kernel_rfl) (by kernel_rfl) (by kernel_rfl) (fun _ _ _ h => h) (Or.inl ⟨by rfl, ?_⟩) trivial ?_
                      rotate_left
                      · (intro w hSw; go_simp; try with_reducible rfl)
                      try simp only [Act.put, List.setIfInBounds_toArray, List.set_cons_zero, List.set_cons_succ]
                      have kb := (HG.out.blk.below hW3 HG.out.blk.lt).grown hgrow9 hne
                      have f9 := kb.frozen 3
                      have p9 : w9.cell? ⟨bB, 3, none⟩ = some (.slice A (a.ml + k) c) := kb.cell 3
                      refine wpAnyH_ready (rs := [20]) (by kernel_rfl) (by simp) ?_
                      refine AllReadyH.cons (by simp only [List.getElem?_toArray, List.getElem?_cons_zero, List.getElem?_cons_succ]; rfl) (fun K hK => ?_) AllReadyH.nil
                      go_simp
                      refine hK.out _ _ trivial (fun _ => ?_)
                      clear hK K
                      refine wpAnyH_done (by kernel_rfl) ?_ _
                      refine NoPanic.normal ?_
                      have HS := hide (HG.out.next hW3 (by rw [HNC.out]; exact hown9) hgrow9)
                      clear f9 p9 kb hown9 hgrow9
                      go_wp2_with fail
                      go_meet
                      exact ⟨rfl, _, _, HS.out⟩
                    exact AllReadyH.nil
                  exact AllReadyH.nil
                exact AllReadyH.nil
              exact AllReadyH.nil
            refine AllReadyH.cons (by simp only [List.getElem?_toArray, List.getElem?_cons_zero, List.getElem?_cons_succ]; rfl) (fun K hK => ?_) ?_
            · skip
              go_simp
              go_at_call 9
              refine (HI.out _).mono ?_
              rintro e w21 ⟨rfl, hb1⟩
              go_wp2_with fail
              refine hK.out _ _ trivial (fun _ => ?_)
              clear hK K
              have hW1 := hW0.trans (hb1.mono hW0.size)
              refine wpAnyH_ready (rs := [5]) (by kernel_rfl) (by simp) ?_
              refine AllReadyH.cons (by simp only [List.getElem?_toArray, List.getElem?_cons_zero, List.getElem?_cons_succ]; rfl) (fun K hK => ?_) ?_
              · skip
                go_simp
                refine hK.out _ _ trivial (fun _ => ?_)
                clear hK K
                obtain ⟨w22, hw2⟩ : ∃ wn, wn = w21.alloc (.cells #[.int .u8 (97 + (k : Int))] 5) := ⟨_, rfl⟩
                have hW2 : Below wr.heap.size wr w22 := by rw [hw2]; exact hW1.alloc hW1.size _
                have cb2 : w22.cell? ⟨w21.heap.size, 0, none⟩ = some (.int .u8 (97 + (k : Int))) := by rw [hw2]; exact (Blk.new _ _ #[.int .u8 (97 + (k : Int))]).cell 0
                rw [← hw2]
                clear hw2
                refine wpAnyH_ready (rs := [6]) (by kernel_rfl) (by simp) ?_
                refine AllReadyH.cons (by simp only [List.getElem?_toArray, List.getElem?_cons_zero, List.getElem?_cons_succ]; rfl) (fun K hK => ?_) ?_
                · skip
                  have hcv := hconv w22 w21.heap.size cb2
                  go_simp
                  refine hK.out _ _ trivial (fun _ => ?_)
                  clear hK K hcv
                  refine wpAnyH_take (i := 7) (v := ?_) (by simp only [List.getElem?_toArray, List.getElem?_cons_zero, List.getElem?_cons_succ]; rfl) (by kernel_rfl) (by kernel_rfl) (by kernel_rfl) (fun _ _ _ h => h) (Or.inl ⟨by rfl, ?_⟩) trivial ?_
                  rotate_left
                  · (intro w hSw; go_simp; try with_reducible rfl)
                  try simp only [Act.put, List.setIfInBounds_toArray, List.set_cons_zero, List.set_cons_succ]
                  refine wpAnyH_take (i := 16) (v := ?_) (by simp only [List.getElem?_toArray, List.getElem?_cons_zero, List.getElem?_cons_succ]; rfl) (by kernel_rfl) (by kernel_rfl) (by kernel_rfl) (fun _ _ _ h => h) (Or.inl ⟨by rfl, ?_⟩) trivial ?_
                  rotate_left
                  · (intro w hSw; go_simp; try with_reducible rfl)
                  try simp only [Act.put, List.setIfInBounds_toArray, List.set_cons_zero, List.set_cons_succ]
                  refine wpAnyH_ready (rs := [17]) (by kernel_rfl) (by simp) ?_
                  refine AllReadyH.cons (by simp only [List.getElem?_toArray, List.getElem?_cons_zero, List.getElem?_cons_succ]; rfl) (fun K hK => ?_) ?_
                  · skip
                    go_simp
                    refine hK.out _ _ trivial (fun _ => ?_)
                    clear hK K
                    obtain ⟨w23, hw3⟩ : ∃ wn, wn = w22.alloc (.cells #[S [122, 122, 122, 122, 122, 122, 122, 122, 122, 122, 122, 122, 122, 122, 122, 122, 122, 122, 122, 122, bb], .bool last, .slice none 0 0, .string { data := #[105, 110, 116] }, .bool false] 34) := ⟨_, rfl⟩
                    have hW3 : Below wr.heap.size wr w23 := by rw [hw3]; exact hW2.alloc hW2.size _
                    have nb : Blk w23 w22.heap.size 34 #[S [122, 122, 122, 122, 122, 122, 122, 122, 122, 122, 122, 122, 122, 122, 122, 122, 122, 122, 122, 122, bb], .bool last, .slice none 0 0, S [105, 110, 116], .bool false] := by rw [hw3]; exact Blk.new _ _ _
                    rw [← hw3]
                    clear hw3
                    refine wpAnyH_ready (rs := [18]) (by kernel_rfl) (by simp) ?_
                    refine AllReadyH.cons (by simp only [List.getElem?_toArray, List.getElem?_cons_zero, List.getElem?_cons_succ]; rfl) (fun K hK => ?_) ?_
                    · skip
                      refine step_append_lies _ rfl (.tmp 33) (.tmp 49) 23 rfl w.heap.size 34 i0 _ 5 72 Try.underlying23 hi0 hz0 hz1 hz2 rfl (by decide) (.slice A (a.ml + k) c) (a.ml + k) _ rfl (own_below HG.out.own hW3) ⟨w22.heap.size, 0, none⟩ 1 1 [S [122, 122, 122, 122, 122, 122, 122, 122, 122, 122, 122, 122, 122, 122, 122, 122, 122, 122, 122, 122, bb], .bool last, .slice none 0 0, S [105, 110, 116], .bool false] rfl rfl (World.news_of_block nb) h1c (by decide) (by unfold maxLen; omega) (by omega) (Nat.le_trans HG.out.bel.size hW3.size) _ rfl ?_
                      intro g' cap' w9 hown9 hgrow9 _ _
                      refine hK.out _ _ trivial (fun _ => ?_)
                      clear hK K
                      refine wpAnyH_take (i := 19) (v := ?_) (by simp only [List.getElem?_toArray, List.getElem?_cons_zero, List.getElem?_cons_succ]; rfl) (by kernel_rfl) (by kernel_rfl) (by kernel_rfl) (fun _ _ _ h => h) (Or.inl ⟨by rfl, ?_⟩) trivial ?_
                      rotate_left
                      · (intro w hSw; go_simp; try with_reducible rfl)
                      try simp only [Act.put, List.setIfInBounds_toArray, List.set_cons_zero, List.set_cons_succ]
                      have kb := (HG.out.blk.below hW3 HG.out.blk.lt).grown hgrow9 hne
                      have f9 := kb.frozen 3
                      have p9 : w9.cell? ⟨bB, 3, none⟩ = some (.slice A (a.ml + k) c) := kb.cell 3
                      refine wpAnyH_ready (rs := [20]) (by kernel_rfl) (by simp) ?_
                      refine AllReadyH.cons (by simp only [List.getElem?_toArray, List.getElem?_cons_zero, List.getElem?_cons_succ]; rfl) (fun K hK => ?_) AllReadyH.nil
                      go_simp
                      refine hK.out _ _ trivial (fun _ => ?_)
                      clear hK K
                      refine wpAnyH_done (by kernel_rfl) ?_ _
                      refine NoPanic.normal ?_
                      have HS := hide (HG.out.next hW3 (by rw [HNC.out]; exact hown9) hgrow9)
                      clear f9 p9 kb hown9 hgrow9
                      go_wp2_with fail
                      go_meet
                      exact ⟨rfl, _, _, HS.out⟩
                    exact AllReadyH.nil
                  exact AllReadyH.nil
                exact AllReadyH.nil
              exact AllReadyH.nil
            exact AllReadyH.nil
          refine AllReadyH.cons (by simp only [List.getElem?_toArray, List.getElem?_cons_zero, List.getElem?_cons_succ]; rfl) (fun K hK => ?_) ?_
          · skip
            go_simp
            refine hK.out _ _ trivial (fun _ => ?_)
            clear hK K
            obtain ⟨w21, hw1⟩ : ∃ wn, wn = w20.alloc (.cells #[.int .u8 (97 + (k : Int))] 5) := ⟨_, rfl⟩
            have hW1 : Below wr.heap.size wr w21 := by rw [hw1]; exact hW0.alloc hW0.size _
            have cb1 : w21.cell? ⟨w20.heap.size, 0, none⟩ = some (.int .u8 (97 + (k : Int))) := by rw [hw1]; exact (Blk.new _ _ #[.int .u8 (97 + (k : Int))]).cell 0
            rw [← hw1]
            clear hw1
            refine wpAnyH_ready (rs := [1, 6, 15]) (by kernel_rfl) (by simp) ?_
            refine AllReadyH.cons (by simp only [List.getElem?_toArray, List.getElem?_cons_zero, List.getElem?_cons_succ]; rfl) (fun K hK => ?_) ?_
            · skip
              have gL := (HKP.out w21 hW1).1
              go_simp
              refine hK.out _ _ trivial (fun _ => ?_)
              clear hK K gL
              refine wpAnyH_ready (rs := [6, 15]) (by kernel_rfl) (by simp) ?_
              refine AllReadyH.cons (by simp only [List.getElem?_toArray, List.getElem?_cons_zero, List.getElem?_cons_succ]; rfl) (fun K hK => ?_) ?_
              · skip
                have hcv := hconv w21 w20.heap.size cb1
                go_simp
                refine hK.out _ _ trivial (fun _ => ?_)
                clear hK K hcv
                refine wpAnyH_take (i := 7) (v := ?_) (by simp only [List.getElem?_toArray, List.getElem?_cons_zero, List.getElem?_cons_succ]; rfl) (by kernel_rfl) (by kernel_rfl) (by kernel_rfl) (fun _ _ _ h => h) (Or.inl ⟨by rfl, ?_⟩) trivial ?_
                rotate_left
                · (intro w hSw; go_simp; try with_reducible rfl)
                try simp only [Act.put, List.setIfInBounds_toArray, List.set_cons_zero, List.set_cons_succ]
                refine wpAnyH_ready (rs := [15]) (by kernel_rfl) (by simp) ?_
                refine AllReadyH.cons (by simp only [List.getElem?_toArray, List.getElem?_cons_zero, List.getElem?_cons_succ]; rfl) (fun K hK => ?_) ?_
                · skip
                  go_simp
                  go_at_call 9
                  refine (HI.out _).mono ?_
                  rintro e w22 ⟨rfl, hb2⟩
                  go_wp2_with fail
                  refine hK.out _ _ trivial (fun _ => ?_)
                  clear hK K
                  have hW2 := hW1.trans (hb2.mono hW1.size)
                  refine wpAnyH_take (i := 16) (v := ?_) (by simp only [List.getElem?_toArray, List.getElem?_cons_zero, List.getElem?_cons_succ]; rfl) (by kernel_rfl) (by kernel_rfl) (by kernel_rfl) (fun _ _ _ h => h) (Or.inl ⟨by rfl, ?_⟩) trivial ?_
                  rotate_left
                  · (intro w hSw; go_simp; try with_reducible rfl)
                  try simp only [Act.put, List.setIfInBounds_toArray, List.set_cons_zero, List.set_cons_succ]
                  refine wpAnyH_ready (rs := [17]) (by kernel_rfl) (by simp) ?_
                  refine AllReadyH.cons (by simp only [List.getElem?_toArray, List.getElem?_cons_zero, List.getElem?_cons_succ]; rfl) (fun K hK => ?_) ?_
                  · skip
                    go_simp
                    refine hK.out _ _ trivial (fun _ => ?_)
                    clear hK K
                    obtain ⟨w23, hw3⟩ : ∃ wn, wn = w22.alloc (.cells #[S [122, 122, 122, 122, 122, 122, 122, 122, 122, 122, 122, 122, 122, 122, 122, 122, 122, 122, 122, 122, bb], .bool last, .slice none 0 0, .string { data := #[105, 110, 116] }, .bool false] 34) := ⟨_, rfl⟩
                    have hW3 : Below wr.heap.size wr w23 := by rw [hw3]; exact hW2.alloc hW2.size _
                    have nb : Blk w23 w22.heap.size 34 #[S [122, 122, 122, 122, 122, 122, 122, 122, 122, 122, 122, 122, 122, 122, 122, 122, 122, 122, 122, 122, bb], .bool last, .slice none 0 0, S [105, 110, 116], .bool false] := by rw [hw3]; exact Blk.new _ _ _
                    rw [← hw3]
                    clear hw3
                    refine wpAnyH_ready (rs := [18]) (by kernel_rfl) (by simp) ?_
                    refine AllReadyH.cons (by simp only [List.getElem?_toArray, List.getElem?_cons_zero, List.getElem?_cons_succ]; rfl) (fun K hK => ?_) ?_
                    · skip
                      refine step_append_lies _ rfl (.tmp 33) (.tmp 49) 23 rfl w.heap.size 34 i0 _ 5 72 Try.underlying23 hi0 hz0 hz1 hz2 rfl (by decide) (.slice A (a.ml + k) c) (a.ml + k) _ rfl (own_below HG.out.own hW3) ⟨w22.heap.size, 0, none⟩ 1 1 [S [122, 122, 122, 122, 122, 122, 122, 122, 122, 122, 122, 122, 122, 122, 122, 122, 122, 122, 122, 122, bb], .bool last, .slice none 0 0, S [105, 110, 116], .bool false] rfl rfl (World.news_of_block nb) h1c (by decide) (by unfold maxLen; omega) (by omega) (Nat.le_trans HG.out.bel.size hW3.size) _ rfl ?_
                      intro g' cap' w9 hown9 hgrow9 _ _
                      refine hK.out _ _ trivial (fun _ => ?_)
                      clear hK K
                      refine wpAnyH_take (i := 19) (v := ?_) (by simp only [List.getElem?_toArray, List.getElem?_cons_zero, List.getElem?_cons_succ]; rfl) (by kernel_rfl) (by kernel_rfl) (by kernel_rfl) (fun _ _ _ h => h) (Or.inl ⟨by rfl, ?_⟩) trivial ?_
                      rotate_left
                      · (intro w hSw; go_simp; try with_reducible rfl)
                      try simp only [Act.put, List.setIfInBounds_toArray, List.set_cons_zero, List.set_cons_succ]
                      have kb := (HG.out.blk.below hW3 HG.out.blk.lt).grown hgrow9 hne
                      have f9 := kb.frozen 3
                      have p9 : w9.cell? ⟨bB, 3, none⟩ = some (.slice A (a.ml + k) c) := kb.cell 3
                      refine wpAnyH_ready (rs := [20]) (by kernel_rfl) (by simp) ?_
                      refine AllReadyH.cons (by simp only [List.getElem?_toArray, List.getElem?_cons_zero, List.getElem?_cons_succ]; rfl) (fun K hK => ?_) AllReadyH.nil
                      go_simp
                      refine hK.out _ _ trivial (fun _ => ?_)
                      clear hK K
                      refine wpAnyH_done (by kernel_rfl) ?_ _
                      refine NoPanic.normal ?_
                      have HS := hide (HG.out.next hW3 (by rw [HNC.out]; exact hown9) hgrow9)
                      clear f9 p9 kb hown9 hgrow9
                      go_wp2_with fail
                      go_meet
                      exact ⟨rfl, _, _, HS.out⟩
                    exact AllReadyH.nil
                  exact AllReadyH.nil
                exact AllReadyH.nil
              refine AllReadyH.cons (by simp only [List.getElem?_toArray, List.getElem?_cons_zero, List.getElem?_cons_succ]; rfl) (fun K hK => ?_) ?_
              · skip
                go_simp
                go_at_call 9
                refine (HI.out _).mono ?_
                rintro e w22 ⟨rfl, hb2⟩
                go_wp2_with fail
                refine hK.out _ _ trivial (fun _ => ?_)
                clear hK K
                have hW2 := hW1.trans (hb2.mono hW1.size)
                have cb2 := (hb2.cell (p := ⟨w20.heap.size, 0, none⟩) (World.block_lt_of_cell? _ _ cb1)).trans cb1
                refine wpAnyH_ready (rs := [6]) (by kernel_rfl) (by simp) ?_
                refine AllReadyH.cons (by simp only [List.getElem?_toArray, List.getElem?_cons_zero, List.getElem?_cons_succ]; rfl) (fun K hK => ?_) ?_
                · skip
                  have hcv := hconv w22 w20.heap.size cb2
                  go_simp
                  refine hK.out _ _ trivial (fun _ => ?_)
                  clear hK K hcv
                  refine wpAnyH_take (i := 7) (v := ?_) (by simp only [List.getElem?_toArray, List.getElem?_cons_zero, List.getElem?_cons_succ]; rfl) (by kernel_rfl) (by kernel_rfl) (by kernel_rfl) (fun _ _ _ h => h) (Or.inl ⟨by rfl, ?_⟩) trivial ?_
                  rotate_left
                  · (intro w hSw; go_simp; try with_reducible rfl)
                  try simp only [Act.put, List.setIfInBounds_toArray, List.set_cons_zero, List.set_cons_succ]
                  refine wpAnyH_take (i := 16) (v := ?_) (by simp only [List.getElem?_toArray, List.getElem?_cons_zero, List.getElem?_cons_succ]; rfl) (by kernel_rfl) (by kernel_rfl) (by kernel_rfl) (fun _ _ _ h => h) (Or.inl ⟨by rfl, ?_⟩) trivial ?_
                  rotate_left
                  · (intro w hSw; go_simp; try with_reducible rfl)
                  try simp only [Act.put, List.setIfInBounds_toArray, List.set_cons_zero, List.set_cons_succ]
                  refine wpAnyH_ready (rs := [17]) (by kernel_rfl) (by simp) ?_
                  refine AllReadyH.cons (by simp only [List.getElem?_toArray, List.getElem?_cons_zero, List.getElem?_cons_succ]; rfl) (fun K hK => ?_) ?_
                  · skip
                    go_simp
                    refine hK.out _ _ trivial (fun _ => ?_)
                    clear hK K
                    obtain ⟨w23, hw3⟩ : ∃ wn, wn = w22.alloc (.cells #[S [122, 122, 122, 122, 122, 122, 122, 122, 122, 122, 122, 122, 122, 122, 122, 122, 122, 122, 122, 122, bb], .bool last, .slice none 0 0, .string { data := #[105, 110, 116] }, .bool false] 34) := ⟨_, rfl⟩
                    have hW3 : Below wr.heap.size wr w23 := by rw [hw3]; exact hW2.alloc hW2.size _
                    have nb : Blk w23 w22.heap.size 34 #[S [122, 122, 122, 122, 122, 122, 122, 122, 122, 122, 122, 122, 122, 122, 122, 122, 122, 122, 122, 122, bb], .bool last, .slice none 0 0, S [105, 110, 116], .bool false] := by rw [hw3]; exact Blk.new _ _ _
                    rw [← hw3]
                    clear hw3
                    refine wpAnyH_ready (rs := [18]) (by kernel_rfl) (by simp) ?_
                    refine AllReadyH.cons (by simp only [List.getElem?_toArray, List.getElem?_cons_zero, List.getElem?_cons_succ]; rfl) (fun K hK => ?_) ?_
                    · skip
                      refine step_append_lies _ rfl (.tmp 33) (.tmp 49) 23 rfl w.heap.size 34 i0 _ 5 72 Try.underlying23 hi0 hz0 hz1 hz2 rfl (by decide) (.slice A (a.ml + k) c) (a.ml + k) _ rfl (own_below HG.out.own hW3) ⟨w22.heap.size, 0, none⟩ 1 1 [S [122, 122, 122, 122, 122, 122, 122, 122, 122, 122, 122, 122, 122, 122, 122, 122, 122, 122, 122, 122, bb], .bool last, .slice none 0 0, S [105, 110, 116], .bool false] rfl rfl (World.news_of_block nb) h1c (by decide) (by unfold maxLen; omega) (by omega) (Nat.le_trans HG.out.bel.size hW3.size) _ rfl ?_
                      intro g' cap' w9 hown9 hgrow9 _ _
                      refine hK.out _ _ trivial (fun _ => ?_)
                      clear hK K
                      refine wpAnyH_take (i := 19) (v := ?_) (by simp only [List.getElem?_toArray, List.getElem?_cons_zero, List.getElem?_cons_succ]; rfl) (by kernel_rfl) (by kernel_rfl) (by kernel_rfl) (fun _ _ _ h => h) (Or.inl ⟨by rfl, ?_⟩) trivial ?_
                      rotate_left
                      · (intro w hSw; go_simp; try with_reducible rfl)
                      try simp only [Act.put, List.setIfInBounds_toArray, List.set_cons_zero, List.set_cons_succ]
                      have kb := (HG.out.blk.below hW3 HG.out.blk.lt).grown hgrow9 hne
                      have f9 := kb.frozen 3
                      have p9 : w9.cell? ⟨bB, 3, none⟩ = some (.slice A (a.ml + k) c) := kb.cell 3
                      refine wpAnyH_ready (rs := [20]) (by kernel_rfl) (by simp) ?_
                      refine AllReadyH.cons (by simp only [List.getElem?_toArray, List.getElem?_cons_zero, List.getElem?_cons_succ]; rfl) (fun K hK => ?_) AllReadyH.nil
                      go_simp
                      refine hK.out _ _ trivial (fun _ => ?_)
                      clear hK K
                      refine wpAnyH_done (by kernel_rfl) ?_ _
                      refine NoPanic.normal ?_
                      have HS := hide (HG.out.next hW3 (by rw [HNC.out]; exact hown9) hgrow9)
                      clear f9 p9 kb hown9 hgrow9
                      go_wp2_with fail
                      go_meet
                      exact ⟨rfl, _, _, HS.out⟩
                    exact AllReadyH.nil
                  exact AllReadyH.nil
                exact AllReadyH.nil
              exact AllReadyH.nil
            refine AllReadyH.cons (by simp only [List.getElem?_toArray, List.getElem?_cons_zero, List.getElem?_cons_succ]; rfl) (fun K hK => ?_) ?_
            · skip
              have hcv := hconv w21 w20.heap.size cb1
              go_simp
              refine hK.out _ _ trivial (fun _ => ?_)
              clear hK K hcv
              refine wpAnyH_take (i := 7) (v := ?_) (by simp only [List.getElem?_toArray, List.getElem?_cons_zero, List.getElem?_cons_succ]; rfl) (by kernel_rfl) (by kernel_rfl) (by kernel_rfl) (fun _ _ _ h => h) (Or.inl ⟨by rfl, ?_⟩) trivial ?_
              rotate_left
              · (intro w hSw; go_simp; try with_reducible rfl)
              try simp only [Act.put, List.setIfInBounds_toArray, List.set_cons_zero, List.set_cons_succ]
              refine wpAnyH_ready (rs := [1, 15]) (by kernel_rfl) (by simp) ?_
              refine AllReadyH.cons (by simp only [List.getElem?_toArray, List.getElem?_cons_zero, List.getElem?_cons_succ]; rfl) (fun K hK => ?_) ?_
              · skip
                have gL := (HKP.out w21 hW1).1
                go_simp
                refine hK.out _ _ trivial (fun _ => ?_)
                clear hK K gL
                refine wpAnyH_ready (rs := [15]) (by kernel_rfl) (by simp) ?_
                refine AllReadyH.cons (by simp only [List.getElem?_toArray, List.getElem?_cons_zero, List.getElem?_cons_succ]; rfl) (fun K hK => ?_) ?_
                · skip
                  go_simp
                  go_at_call 9
                  refine (HI.out _).mono ?_
                  rintro e w22 ⟨rfl, hb2⟩
                  go_wp2_with fail
                  refine hK.out _ _ trivial (fun _ => ?_)
                  clear hK K
                  have hW2 := hW1.trans (hb2.mono hW1.size)
                  refine wpAnyH_take (i := 16) (v := ?_) (by simp only [List.getElem?_toArray, List.getElem?_cons_zero, List.getElem?_cons_succ]; rfl) (by kernel_rfl) (by kernel_rfl) (by kernel_rfl) (fun _ _ _ h => h) (Or.inl ⟨by rfl, ?_⟩) trivial ?_
                  rotate_left
                  · (intro w hSw; go_simp; try with_reducible rfl)
                  try simp only [Act.put, List.setIfInBounds_toArray, List.set_cons_zero, List.set_cons_succ]
                  refine wpAnyH_ready (rs := [17]) (by kernel_rfl) (by simp) ?_
                  refine AllReadyH.cons (by simp only [List.getElem?_toArray, List.getElem?_cons_zero, List.getElem?_cons_succ]; rfl) (fun K hK => ?_) ?_
                  · skip
                    go_simp
                    refine hK.out _ _ trivial (fun _ => ?_)
                    clear hK K
                    obtain ⟨w23, hw3⟩ : ∃ wn, wn = w22.alloc (.cells #[S [122, 122, 122, 122, 122, 122, 122, 122, 122, 122, 122, 122, 122, 122, 122, 122, 122, 122, 122, 122, bb], .bool last, .slice none 0 0, .string { data := #[105, 110, 116] }, .bool false] 34) := ⟨_, rfl⟩
                    have hW3 : Below wr.heap.size wr w23 := by rw [hw3]; exact hW2.alloc hW2.size _
                    have nb : Blk w23 w22.heap.size 34 #[S [122, 122, 122, 122, 122, 122, 122, 122, 122, 122, 122, 122, 122, 122, 122, 122, 122, 122, 122, 122, bb], .bool last, .slice none 0 0, S [105, 110, 116], .bool false] := by rw [hw3]; exact Blk.new _ _ _
                    rw [← hw3]
                    clear hw3
                    refine wpAnyH_ready (rs := [18]) (by kernel_rfl) (by simp) ?_
                    refine AllReadyH.cons (by simp only [List.getElem?_toArray, List.getElem?_cons_zero, List.getElem?_cons_succ]; rfl) (fun K hK => ?_) ?_
                    · skip
                      refine step_append_lies _ rfl (.tmp 33) (.tmp 49) 23 rfl w.heap.size 34 i0 _ 5 72 Try.underlying23 hi0 hz0 hz1 hz2 rfl (by decide) (.slice A (a.ml + k) c) (a.ml + k) _ rfl (own_below HG.out.own hW3) ⟨w22.heap.size, 0, none⟩ 1 1 [S [122, 122, 122, 122, 122, 122, 122, 122, 122, 122, 122, 122, 122, 122, 122, 122, 122, 122, 122, 122, bb], .bool last, .slice none 0 0, S [105, 110, 116], .bool false] rfl rfl (World.news_of_block nb) h1c (by decide) (by unfold maxLen; omega) (by omega) (Nat.le_trans HG.out.bel.size hW3.size) _ rfl ?_
                      intro g' cap' w9 hown9 hgrow9 _ _
                      refine hK.out _ _ trivial (fun _ => ?_)
                      clear hK K
                      refine wpAnyH_take (i := 19) (v := ?_) (by simp only [List.getElem?_toArray, List.getElem?_cons_zero, List.getElem?_cons_succ]; rfl) (by kernel_rfl) (by kernel_rfl) (by kernel_rfl) (fun _ _ _ h => h) (Or.inl ⟨by rfl, ?_⟩) trivial ?_
                      rotate_left
                      · (intro w hSw; go_simp; try with_reducible rfl)
                      try simp only [Act.put, List.setIfInBounds_toArray, List.set_cons_zero, List.set_cons_succ]
                      have kb := (HG.out.blk.below hW3 HG.out.blk.lt).grown hgrow9 hne
                      have f9 := kb.frozen 3
                      have p9 : w9.cell? ⟨bB, 3, none⟩ = some (.slice A (a.ml + k) c) := kb.cell 3
                      refine wpAnyH_ready (rs := [20]) (by kernel_rfl) (by simp) ?_
                      refine AllReadyH.cons (by simp only [List.getElem?_toArray, List.getElem?_cons_zero, List.getElem?_cons_succ]; rfl) (fun K hK => ?_) AllReadyH.nil
                      go_simp
                      refine hK.out _ _ trivial (fun _ => ?_)
                      clear hK K
                      refine wpAnyH_done (by kernel_rfl) ?_ _
                      refine NoPanic.normal ?_
                      have HS := hide (HG.out.next hW3 (by rw [HNC.out]; exact hown9) hgrow9)
                      clear f9 p9 kb hown9 hgrow9
                      go_wp2_with fail
                      go_meet
                      exact ⟨rfl, _, _, HS.out⟩
                    exact AllReadyH.nil
                  exact AllReadyH.nil
                exact AllReadyH.nil
              refine AllReadyH.cons (by simp only [List.getElem?_toArray, List.getElem?_cons_zero, List.getElem?_cons_succ]; rfl) (fun K hK => ?_) ?_
              · skip
                go_simp
                go_at_call 9
                refine (HI.out _).mono ?_
                rintro e w22 ⟨rfl, hb2⟩
                go_wp2_with fail
                refine hK.out _ _ trivial (fun _ => ?_)
                clear hK K
                have hW2 := hW1.trans (hb2.mono hW1.size)
                refine wpAnyH_take (i := 16) (v := ?_) (by simp only [List.getElem?_toArray, List.getElem?_cons_zero, List.getElem?_cons_succ]; rfl) (by kernel_rfl) (by kernel_rfl) (by kernel_rfl) (fun _ _ _ h => h) (Or.inl ⟨by rfl, ?_⟩) trivial ?_
                rotate_left
                · (intro w hSw; go_simp; try with_reducible rfl)
                try simp only [Act.put, List.setIfInBounds_toArray, List.set_cons_zero, List.set_cons_succ]
                refine wpAnyH_ready (rs := [1, 17]) (by kernel_rfl) (by simp) ?_
                refine AllReadyH.cons (by simp only [List.getElem?_toArray, List.getElem?_cons_zero, List.getElem?_cons_succ]; rfl) (fun K hK => ?_) ?_
                · skip
                  have gL := (HKP.out w22 hW2).1
                  go_simp
                  refine hK.out _ _ trivial (fun _ => ?_)
                  clear hK K gL
                  refine wpAnyH_ready (rs := [17]) (by kernel_rfl) (by simp) ?_
                  refine AllReadyH.cons (by simp only [List.getElem?_toArray, List.getElem?_cons_zero, List.getElem?_cons_succ]; rfl) (fun K hK => ?_) ?_
                  · skip
                    go_simp
                    refine hK.out _ _ trivial (fun _ => ?_)
                    clear hK K
                    obtain ⟨w23, hw3⟩ : ∃ wn, wn = w22.alloc (.cells #[S [122, 122, 122, 122, 122, 122, 122, 122, 122, 122, 122, 122, 122, 122, 122, 122, 122, 122, 122, 122, bb], .bool last, .slice none 0 0, .string { data := #[105, 110, 116] }, .bool false] 34) := ⟨_, rfl⟩
                    have hW3 : Below wr.heap.size wr w23 := by rw [hw3]; exact hW2.alloc hW2.size _
                    have nb : Blk w23 w22.heap.size 34 #[S [122, 122, 122, 122, 122, 122, 122, 122, 122, 122, 122, 122, 122, 122, 122, 122, 122, 122, 122, 122, bb], .bool last, .slice none 0 0, S [105, 110, 116], .bool false] := by rw [hw3]; exact Blk.new _ _ _
                    rw [← hw3]
                    clear hw3
                    refine wpAnyH_ready (rs := [18]) (by kernel_rfl) (by simp) ?_
                    refine AllReadyH.cons (by simp only [List.getElem?_toArray, List.getElem?_cons_zero, List.getElem?_cons_succ]; rfl) (fun K hK => ?_) ?_
                    · skip
                      refine step_append_lies _ rfl (.tmp 33) (.tmp 49) 23 rfl w.heap.size 34 i0 _ 5 72 Try.underlying23 hi0 hz0 hz1 hz2 rfl (by decide) (.slice A (a.ml + k) c) (a.ml + k) _ rfl (own_below HG.out.own hW3) ⟨w22.heap.size, 0, none⟩ 1 1 [S [122, 122, 122, 122, 122, 122, 122, 122, 122, 122, 122, 122, 122, 122, 122, 122, 122, 122, 122, 122, bb], .bool last, .slice none 0 0, S [105, 110, 116], .bool false] rfl rfl (World.news_of_block nb) h1c (by decide) (by unfold maxLen; omega) (by omega) (Nat.le_trans HG.out.bel.size hW3.size) _ rfl ?_
                      intro g' cap' w9 hown9 hgrow9 _ _
                      refine hK.out _ _ trivial (fun _ => ?_)
                      clear hK K
                      refine wpAnyH_take (i := 19) (v := ?_) (by simp only [List.getElem?_toArray, List.getElem?_cons_zero, List.getElem?_cons_succ]; rfl) (by kernel_rfl) (by kernel_rfl) (by kernel_rfl) (fun _ _ _ h => h) (Or.inl ⟨by rfl, ?_⟩) trivial ?_
                      rotate_left
                      · (intro w hSw; go_simp; try with_reducible rfl)
                      try simp only [Act.put, List.setIfInBounds_toArray, List.set_cons_zero, List.set_cons_succ]
                      have kb := (HG.out.blk.below hW3 HG.out.blk.lt).grown hgrow9 hne
                      have f9 := kb.frozen 3
                      have p9 : w9.cell? ⟨bB, 3, none⟩ = some (.slice A (a.ml + k) c) := kb.cell 3
                      refine wpAnyH_ready (rs := [20]) (by kernel_rfl) (by simp) ?_
                      refine AllReadyH.cons (by simp only [List.getElem?_toArray, List.getElem?_cons_zero, List.getElem?_cons_succ]; rfl) (fun K hK => ?_) AllReadyH.nil
                      go_simp
                      refine hK.out _ _ trivial (fun _ => ?_)
                      clear hK K
                      refine wpAnyH_done (by kernel_rfl) ?_ _
                      refine NoPanic.normal ?_
                      have HS := hide (HG.out.next hW3 (by rw [HNC.out]; exact hown9) hgrow9)
                      clear f9 p9 kb hown9 hgrow9
                      go_wp2_with fail
                      go_meet
                      exact ⟨rfl, _, _, HS.out⟩
                    exact AllReadyH.nil
                  exact AllReadyH.nil
                refine AllReadyH.cons (by simp only [List.getElem?_toArray, List.getElem?_cons_zero, List.getElem?_cons_succ]; rfl) (fun K hK => ?_) ?_
                · skip
                  go_simp
                  refine hK.out _ _ trivial (fun _ => ?_)
                  clear hK K
                  obtain ⟨w23, hw3⟩ : ∃ wn, wn = w22.alloc (.cells #[S [122, 122, 122, 122, 122, 122, 122, 122, 122, 122, 122, 122, 122, 122, 122, 122, 122, 122, 122, 122, bb], .bool last, .slice none 0 0, .string { data := #[105, 110, 116] }, .bool false] 34) := ⟨_, rfl⟩
                  have hW3 : Below wr.heap.size wr w23 := by rw [hw3]; exact hW2.alloc hW2.size _
                  have nb : Blk w23 w22.heap.size 34 #[S [122, 122, 122, 122, 122, 122, 122, 122, 122, 122, 122, 122, 122, 122, 122, 122, 122, 122, 122, 122, bb], .bool last, .slice none 0 0, S [105, 110, 116], .bool false] := by rw [hw3]; exact Blk.new _ _ _
                  rw [← hw3]
                  clear hw3
                  refine wpAnyH_ready (rs := [1]) (by kernel_rfl) (by simp) ?_
                  refine AllReadyH.cons (by simp only [List.getElem?_toArray, List.getElem?_cons_zero, List.getElem?_cons_succ]; rfl) (fun K hK => ?_) ?_
                  · skip
                    have gL := (HKP.out w23 hW3).1
                    go_simp
                    refine hK.out _ _ trivial (fun _ => ?_)
                    clear hK K gL
                    refine wpAnyH_ready (rs := [18]) (by kernel_rfl) (by simp) ?_
                    refine AllReadyH.cons (by simp only [List.getElem?_toArray, List.getElem?_cons_zero, List.getElem?_cons_succ]; rfl) (fun K hK => ?_) ?_
                    · skip
                      refine step_append_lies _ rfl (.tmp 33) (.tmp 49) 23 rfl w.heap.size 34 i0 _ 5 72 Try.underlying23 hi0 hz0 hz1 hz2 rfl (by decide) (.slice A (a.ml + k) c) (a.ml + k) _ rfl (own_below HG.out.own hW3) ⟨w22.heap.size, 0, none⟩ 1 1 [S [122, 122, 122, 122, 122, 122, 122, 122, 122, 122, 122, 122, 122, 122, 122, 122, 122, 122, 122, 122, bb], .bool last, .slice none 0 0, S [105, 110, 116], .bool false] rfl rfl (World.news_of_block nb) h1c (by decide) (by unfold maxLen; omega) (by omega) (Nat.le_trans HG.out.bel.size hW3.size) _ rfl ?_
                      intro g' cap' w9 hown9 hgrow9 _ _
                      refine hK.out _ _ trivial (fun _ => ?_)
                      clear hK K
                      refine wpAnyH_take (i := 19) (v := ?_) (by simp only [List.getElem?_toArray, List.getElem?_cons_zero, List.getElem?_cons_succ]; rfl) (by kernel_rfl) (by kernel_rfl) (by kernel_rfl) (fun _ _ _ h => h) (Or.inl ⟨by rfl, ?_⟩) trivial ?_
                      rotate_left
                      · (intro w hSw; go_simp; try with_reducible rfl)
                      try simp only [Act.put, List.setIfInBounds_toArray, List.set_cons_zero, List.set_cons_succ]
                      have kb := (HG.out.blk.below hW3 HG.out.blk.lt).grown hgrow9 hne
                      have f9 := kb.frozen 3
                      have p9 : w9.cell? ⟨bB, 3, none⟩ = some (.slice A (a.ml + k) c) := kb.cell 3
                      refine wpAnyH_ready (rs := [20]) (by kernel_rfl) (by simp) ?_
                      refine AllReadyH.cons (by simp only [List.getElem?_toArray, List.getElem?_cons_zero, List.getElem?_cons_succ]; rfl) (fun K hK => ?_) AllReadyH.nil
                      go_simp
                      refine hK.out _ _ trivial (fun _ => ?_)
                      clear hK K
                      refine wpAnyH_done (by kernel_rfl) ?_ _
                      refine NoPanic.normal ?_
                      have HS := hide (HG.out.next hW3 (by rw [HNC.out]; exact hown9) hgrow9)
                      clear f9 p9 kb hown9 hgrow9
                      go_wp2_with fail
                      go_meet
                      exact ⟨rfl, _, _, HS.out⟩
                    exact AllReadyH.nil
                  exact AllReadyH.nil
                exact AllReadyH.nil
              exact AllReadyH.nil
            refine AllReadyH.cons (by simp only [List.getElem?_toArray, List.getElem?_cons_zero, List.getElem?_cons_succ]; rfl) (fun K hK => ?_) ?_
            · skip
              go_simp
              go_at_call 9
              refine (HI.out _).mono ?_
              rintro e w22 ⟨rfl, hb2⟩
              go_wp2_with fail
              refine hK.out _ _ trivial (fun _ => ?_)
              clear hK K
              have hW2 := hW1.trans (hb2.mono hW1.size)
              have cb2 := (hb2.cell (p := ⟨w20.heap.size, 0, none⟩) (World.block_lt_of_cell? _ _ cb1)).trans cb1
              refine wpAnyH_ready (rs := [1, 6]) (by kernel_rfl) (by simp) ?_
              refine AllReadyH.cons (by simp only [List.getElem?_toArray, List.getElem?_cons_zero, List.getElem?_cons_succ]; rfl) (fun K hK => ?_) ?_
              · skip
                have gL := (HKP.out w22 hW2).1
                go_simp
                refine hK.out _ _ trivial (fun _ => ?_)
                clear hK K gL
                refine wpAnyH_ready (rs := [6]) (by kernel_rfl) (by simp) ?_
                refine AllReadyH.cons (by simp only [List.getElem?_toArray, List.getElem?_cons_zero, List.getElem?_cons_succ]; rfl) (fun K hK => ?_) ?_
                · skip
                  have hcv := hconv w22 w20.heap.size cb2
                  go_simp
                  refine hK.out _ _ trivial (fun _ => ?_)
                  clear hK K hcv
                  refine wpAnyH_take (i := 7) (v := ?_) (by simp only [List.getElem?_toArray, List.getElem?_cons_zero, List.getElem?_cons_succ]; rfl) (by kernel_rfl) (by kernel_rfl) (by kernel_rfl) (fun _ _ _ h => h) (Or.inl ⟨by rfl, ?_⟩) trivial ?_
                  rotate_left
                  · (intro w hSw; go_simp; try with_reducible rfl)
                  try simp only [Act.put, List.setIfInBounds_toArray, List.set_cons_zero, List.set_cons_succ]
                  refine wpAnyH_take (i := 16) (v := ?_) (by simp only [List.getElem?_toArray, List.getElem?_cons_zero, List.getElem?_cons_succ]; rfl) (by kernel_rfl) (by kernel_rfl) (by kernel_rfl) (fun _ _ _ h => h) (Or.inl ⟨by rfl, ?_⟩) trivial ?_
                  rotate_left
                  · (intro w hSw; go_simp; try with_reducible rfl)
                  try simp only [Act.put, List.setIfInBounds_toArray, List.set_cons_zero, List.set_cons_succ]
                  refine wpAnyH_ready (rs := [17]) (by kernel_rfl) (by simp) ?_
                  refine AllReadyH.cons (by simp only [List.getElem?_toArray, List.getElem?_cons_zero, List.getElem?_cons_succ]; rfl) (fun K hK => ?_) ?_
                  · skip
                    go_simp
                    refine hK.out _ _ trivial (fun _ => ?_)
                    clear hK K
                    obtain ⟨w23, hw3⟩ : ∃ wn, wn = w22.alloc (.cells #[S [122, 122, 122, 122, 122, 122, 122, 122, 122, 122, 122, 122, 122, 122, 122, 122, 122, 122, 122, 122, bb], .bool last, .slice none 0 0, .string { data := #[105, 110, 116] }, .bool false] 34) := ⟨_, rfl⟩
                    have hW3 : Below wr.heap.size wr w23 := by rw [hw3]; exact hW2.alloc hW2.size _
                    have nb : Blk w23 w22.heap.size 34 #[S [122, 122, 122, 122, 122, 122, 122, 122, 122, 122, 122, 122, 122, 122, 122, 122, 122, 122, 122, 122, bb], .bool last, .slice none 0 0, S [105, 110, 116], .bool false] := by rw [hw3]; exact Blk.new _ _ _
                    rw [← hw3]
                    clear hw3
                    refine wpAnyH_ready (rs := [18]) (by kernel_rfl) (by simp) ?_
                    refine AllReadyH.cons (by simp only [List.getElem?_toArray, List.getElem?_cons_zero, List.getElem?_cons_succ]; rfl) (fun K hK => ?_) ?_
                    · skip
                      refine step_append_lies _ rfl (.tmp 33) (.tmp 49) 23 rfl w.heap.size 34 i0 _ 5 72 Try.underlying23 hi0 hz0 hz1 hz2 rfl (by decide) (.slice A (a.ml + k) c) (a.ml + k) _ rfl (own_below HG.out.own hW3) ⟨w22.heap.size, 0, none⟩ 1 1 [S [122, 122, 122, 122, 122, 122, 122, 122, 122, 122, 122, 122, 122, 122, 122, 122, 122, 122, 122, 122, bb], .bool last, .slice none 0 0, S [105, 110, 116], .bool false] rfl rfl (World.news_of_block nb) h1c (by decide) (by unfold maxLen; omega) (by omega) (Nat.le_trans HG.out.bel.size hW3.size) _ rfl ?_
                      intro g' cap' w9 hown9 hgrow9 _ _
                      refine hK.out _ _ trivial (fun _ => ?_)
                      clear hK K
                      refine wpAnyH_take (i := 19) (v := ?_) (by simp only [List.getElem?_toArray, List.getElem?_cons_zero, List.getElem?_cons_succ]; rfl) (by kernel_rfl) (by kernel_rfl) (by kernel_rfl) (fun _ _ _ h => h) (Or.inl ⟨by rfl, ?_⟩) trivial ?_
                      rotate_left
                      · (intro w hSw; go_simp; try with_reducible rfl)
                      try simp only [Act.put, List.setIfInBounds_toArray, List.set_cons_zero, List.set_cons_succ]
                      have kb := (HG.out.blk.below hW3 HG.out.blk.lt).grown hgrow9 hne
                      have f9 := kb.frozen 3
                      have p9 : w9.cell? ⟨bB, 3, none⟩ = some (.slice A (a.ml + k) c) := kb.cell 3
                      refine wpAnyH_ready (rs := [20]) (by kernel_rfl) (by simp) ?_
                      refine AllReadyH.cons (by simp only [List.getElem?_toArray, List.getElem?_cons_zero, List.getElem?_cons_succ]; rfl) (fun K hK => ?_) AllReadyH.nil
                      go_simp
                      refine hK.out _ _ trivial (fun _ => ?_)
                      clear hK K
                      refine wpAnyH_done (by kernel_rfl) ?_ _
                      refine NoPanic.normal ?_
                      have HS := hide (HG.out.next hW3 (by rw [HNC.out]; exact hown9) hgrow9)
                      clear f9 p9 kb hown9 hgrow9
                      go_wp2_with fail
                      go_meet
                      exact ⟨rfl, _, _, HS.out⟩
                    exact AllReadyH.nil
                  exact AllReadyH.nil
                exact AllReadyH.nil
              refine AllReadyH.cons (by simp only [List.getElem?_toArray, List.getElem?_cons_zero, List.getElem?_cons_succ]; rfl) (fun K hK => ?_) ?_
              · skip
                have hcv := hconv w22 w20.heap.size cb2
                go_simp
                refine hK.out _ _ trivial (fun _ => ?_)
                clear hK K hcv
                refine wpAnyH_take (i := 7) (v := ?_) (by simp only [List.getElem?_toArray, List.getElem?_cons_zero, List.getElem?_cons_succ]; rfl) (by kernel_rfl) (by kernel_rfl) (by kernel_rfl) (fun _ _ _ h => h) (Or.inl ⟨by rfl, ?_⟩) trivial ?_
                rotate_left
                · (intro w hSw; go_simp; try with_reducible rfl)
                try simp only [Act.put, List.setIfInBounds_toArray, List.set_cons_zero, List.set_cons_succ]
                refine wpAnyH_take (i := 16) (v := ?_) (by simp only [List.getElem?_toArray, List.getElem?_cons_zero, List.getElem?_cons_succ]; rfl) (by kernel_rfl) (by kernel_rfl) (by kernel_rfl) (fun _ _ _ h => h) (Or.inl ⟨by rfl, ?_⟩) trivial ?_
                rotate_left
                · (intro w hSw; go_simp; try with_reducible rfl)
                try simp only [Act.put, List.setIfInBounds_toArray, List.set_cons_zero, List.set_cons_succ]
                refine wpAnyH_ready (rs := [1, 17]) (by kernel_rfl) (by simp) ?_
                refine AllReadyH.cons (by simp only [List.getElem?_toArray, List.getElem?_cons_zero, List.getElem?_cons_succ]; rfl) (fun K hK => ?_) ?_
                · skip
                  have gL := (HKP.out w22 hW2).1
                  go_simp
                  refine hK.out _ _ trivial (fun _ => ?_)
                  clear hK K gL
                  refine wpAnyH_ready (rs := [17]) (by kernel_rfl) (by simp) ?_
                  refine AllReadyH.cons (by simp only [List.getElem?_toArray, List.getElem?_cons_zero, List.getElem?_cons_succ]; rfl) (fun K hK => ?_) ?_
                  · skip
                    go_simp
                    refine hK.out _ _ trivial (fun _ => ?_)
                    clear hK K
                    obtain ⟨w23, hw3⟩ : ∃ wn, wn = w22.alloc (.cells #[S [122, 122, 122, 122, 122, 122, 122, 122, 122, 122, 122, 122, 122, 122, 122, 122, 122, 122, 122, 122, bb], .bool last, .slice none 0 0, .string { data := #[105, 110, 116] }, .bool false] 34) := ⟨_, rfl⟩
                    have hW3 : Below wr.heap.size wr w23 := by rw [hw3]; exact hW2.alloc hW2.size _
                    have nb : Blk w23 w22.heap.size 34 #[S [122, 122, 122, 122, 122, 122, 122, 122, 122, 122, 122, 122, 122, 122, 122, 122, 122, 122, 122, 122, bb], .bool last, .slice none 0 0, S [105, 110, 116], .bool false] := by rw [hw3]; exact Blk.new _ _ _
                    rw [← hw3]
                    clear hw3
                    refine wpAnyH_ready (rs := [18]) (by kernel_rfl) (by simp) ?_
                    refine AllReadyH.cons (by simp only [List.getElem?_toArray, List.getElem?_cons_zero, List.getElem?_cons_succ]; rfl) (fun K hK => ?_) ?_
                    · skip
                      refine step_append_lies _ rfl (.tmp 33) (.tmp 49) 23 rfl w.heap.size 34 i0 _ 5 72 Try.underlying23 hi0 hz0 hz1 hz2 rfl (by decide) (.slice A (a.ml + k) c) (a.ml + k) _ rfl (own_below HG.out.own hW3) ⟨w22.heap.size, 0, none⟩ 1 1 [S [122, 122, 122, 122, 122, 122, 122, 122, 122, 122, 122, 122, 122, 122, 122, 122, 122, 122, 122, 122, bb], .bool last, .slice none 0 0, S [105, 110, 116], .bool false] rfl rfl (World.news_of_block nb) h1c (by decide) (by unfold maxLen; omega) (by omega) (Nat.le_trans HG.out.bel.size hW3.size) _ rfl ?_
                      intro g' cap' w9 hown9 hgrow9 _ _
                      refine hK.out _ _ trivial (fun _ => ?_)
                      clear hK K
                      refine wpAnyH_take (i := 19) (v := ?_) (by simp only [List.getElem?_toArray, List.getElem?_cons_zero, List.getElem?_cons_succ]; rfl) (by kernel_rfl) (by kernel_rfl) (by kernel_rfl) (fun _ _ _ h => h) (Or.inl ⟨by rfl, ?_⟩) trivial ?_
                      rotate_left
                      · (intro w hSw; go_simp; try with_reducible rfl)
                      try simp only [Act.put, List.setIfInBounds_toArray, List.set_cons_zero, List.set_cons_succ]
                      have kb := (HG.out.blk.below hW3 HG.out.blk.lt).grown hgrow9 hne
                      have f9 := kb.frozen 3
                      have p9 : w9.cell? ⟨bB, 3, none⟩ = some (.slice A (a.ml + k) c) := kb.cell 3
                      refine wpAnyH_ready (rs := [20]) (by kernel_rfl) (by simp) ?_
                      refine AllReadyH.cons (by simp only [List.getElem?_toArray, List.getElem?_cons_zero, List.getElem?_cons_succ]; rfl) (fun K hK => ?_) AllReadyH.nil
                      go_simp
                      refine hK.out _ _ trivial (fun _ => ?_)
                      clear hK K
                      refine wpAnyH_done (by kernel_rfl) ?_ _
                      refine NoPanic.normal ?_
                      have HS := hide (HG.out.next hW3 (by rw [HNC.out]; exact hown9) hgrow9)
                      clear f9 p9 kb hown9 hgrow9
                      go_wp2_with fail
                      go_meet
                      exact ⟨rfl, _, _, HS.out⟩
                    exact AllReadyH.nil
                  exact AllReadyH.nil
                refine AllReadyH.cons (by simp only [List.getElem?_toArray, List.getElem?_cons_zero, List.getElem?_cons_succ]; rfl) (fun K hK => ?_) ?_
                · skip
                  go_simp
                  refine hK.out _ _ trivial (fun _ => ?_)
                  clear hK K
                  obtain ⟨w23, hw3⟩ : ∃ wn, wn = w22.alloc (.cells #[S [122, 122, 122, 122, 122, 122, 122, 122, 122, 122, 122, 122, 122, 122, 122, 122, 122, 122, 122, 122, bb], .bool last, .slice none 0 0, .string { data := #[105, 110, 116] }, .bool false] 34) := ⟨_, rfl⟩
                  have hW3 : Below wr.heap.size wr w23 := by rw [hw3]; exact hW2.alloc hW2.size _
                  have nb : Blk w23 w22.heap.size 34 #[S [122, 122, 122, 122, 122, 122, 122, 122, 122, 122, 122, 122, 122, 122, 122, 122, 122, 122, 122, 122, bb], .bool last, .slice none 0 0, S [105, 110, 116], .bool false] := by rw [hw3]; exact Blk.new _ _ _
                  rw [← hw3]
                  clear hw3
                  refine wpAnyH_ready (rs := [1]) (by kernel_rfl) (by simp) ?_
                  refine AllReadyH.cons (by simp only [List.getElem?_toArray, List.getElem?_cons_zero, List.getElem?_cons_succ]; rfl) (fun K hK => ?_) ?_
                  · skip
                    have gL := (HKP.out w23 hW3).1
                    go_simp
                    refine hK.out _ _ trivial (fun _ => ?_)
                    clear hK K gL
                    refine wpAnyH_ready (rs := [18]) (by kernel_rfl) (by simp) ?_
                    refine AllReadyH.cons (by simp only [List.getElem?_toArray, List.getElem?_cons_zero, List.getElem?_cons_succ]; rfl) (fun K hK => ?_) ?_
                    · skip
                      refine step_append_lies _ rfl (.tmp 33) (.tmp 49) 23 rfl w.heap.size 34 i0 _ 5 72 Try.underlying23 hi0 hz0 hz1 hz2 rfl (by decide) (.slice A (a.ml + k) c) (a.ml + k) _ rfl (own_below HG.out.own hW3) ⟨w22.heap.size, 0, none⟩ 1 1 [S [122, 122, 122, 122, 122, 122, 122, 122, 122, 122, 122, 122, 122, 122, 122, 122, 122, 122, 122, 122, bb], .bool last, .slice none 0 0, S [105, 110, 116], .bool false] rfl rfl (World.news_of_block nb) h1c (by decide) (by unfold maxLen; omega) (by omega) (Nat.le_trans HG.out.bel.size hW3.size) _ rfl ?_
                      intro g' cap' w9 hown9 hgrow9 _ _
                      refine hK.out _ _ trivial (fun _ => ?_)
                      clear hK K
                      refine wpAnyH_take (i := 19) (v := ?_) (by simp only [List.getElem?_toArray, List.getElem?_cons_zero, List.getElem?_cons_succ]; rfl) (by kernel_rfl) (by kernel_rfl) (by kernel_rfl) (fun _ _ _ h => h) (Or.inl ⟨by rfl, ?_⟩) trivial ?_
                      rotate_left
                      · (intro w hSw; go_simp; try with_reducible rfl)
                      try simp only [Act.put, List.setIfInBounds_toArray, List.set_cons_zero, List.set_cons_succ]
                      have kb := (HG.out.blk.below hW3 HG.out.blk.lt).grown hgrow9 hne
                      have f9 := kb.frozen 3
                      have p9 : w9.cell? ⟨bB, 3, none⟩ = some (.slice A (a.ml + k) c) := kb.cell 3
                      refine wpAnyH_ready (rs := [20]) (by kernel_rfl) (by simp) ?_
                      refine AllReadyH.cons (by simp only [List.getElem?_toArray, List.getElem?_cons_zero, List.getElem?_cons_succ]; rfl) (fun K hK => ?_) AllReadyH.nil
                      go_simp
                      refine hK.out _ _ trivial (fun _ => ?_)
                      clear hK K
                      refine wpAnyH_done (by kernel_rfl) ?_ _
                      refine NoPanic.normal ?_
                      have HS := hide (HG.out.next hW3 (by rw [HNC.out]; exact hown9) hgrow9)
                      clear f9 p9 kb hown9 hgrow9
                      go_wp2_with fail
                      go_meet
                      exact ⟨rfl, _, _, HS.out⟩
                    exact AllReadyH.nil
                  exact AllReadyH.nil
                exact AllReadyH.nil
              exact AllReadyH.nil
            exact AllReadyH.nil
          refine AllReadyH.cons (by simp only [List.getElem?_toArray, List.getElem?_cons_zero, List.getElem?_cons_succ]; rfl) (fun K hK => ?_) ?_
          · skip
            go_simp
            go_at_call 9
            refine (HI.out _).mono ?_
            rintro e w21 ⟨rfl, hb1⟩
            go_wp2_with fail
            refine hK.out _ _ trivial (fun _ => ?_)
            clear hK K
            have hW1 := hW0.trans (hb1.mono hW0.size)
            refine wpAnyH_ready (rs := [1, 5]) (by kernel_rfl) (by simp) ?_
            refine AllReadyH.cons (by simp only [List.getElem?_toArray, List.getElem?_cons_zero, List.getElem?_cons_succ]; rfl) (fun K hK => ?_) ?_
            · skip
              have gL := (HKP.out w21 hW1).1
              go_simp
              refine hK.out _ _ trivial (fun _ => ?_)
              clear hK K gL
              refine wpAnyH_ready (rs := [5]) (by kernel_rfl) (by simp) ?_
              refine AllReadyH.cons (by simp only [List.getElem?_toArray, List.getElem?_cons_zero, List.getElem?_cons_succ]; rfl) (fun K hK => ?_) ?_
              · skip
                go_simp
                refine hK.out _ _ trivial (fun _ => ?_)
                clear hK K
                obtain ⟨w22, hw2⟩ : ∃ wn, wn = w21.alloc (.cells #[.int .u8 (97 + (k : Int))] 5) := ⟨_, rfl⟩
                have hW2 : Below wr.heap.size wr w22 := by rw [hw2]; exact hW1.alloc hW1.size _
                have cb2 : w22.cell? ⟨w21.heap.size, 0, none⟩ = some (.int .u8 (97 + (k : Int))) := by rw [hw2]; exact (Blk.new _ _ #[.int .u8 (97 + (k : Int))]).cell 0
                rw [← hw2]
                clear hw2
                refine wpAnyH_ready (rs := [6]) (by kernel_rfl) (by simp) ?_
                refine AllReadyH.cons (by simp only [List.getElem?_toArray, List.getElem?_cons_zero, List.getElem?_cons_succ]; rfl) (fun K hK => ?_) ?_
                · skip
                  have hcv := hconv w22 w21.heap.size cb2
                  go_simp
                  refine hK.out _ _ trivial (fun _ => ?_)
                  clear hK K hcv
                  refine wpAnyH_take (i := 7) (v := ?_) (by simp only [List.getElem?_toArray, List.getElem?_cons_zero, List.getElem?_cons_succ]; rfl) (by kernel_rfl) (by kernel_rfl) (by kernel_rfl) (fun _ _ _ h => h) (Or.inl ⟨by rfl, ?_⟩) trivial ?_
                  rotate_left
                  · (intro w hSw; go_simp; try with_reducible rfl)
                  try simp only [Act.put, List.setIfInBounds_toArray, List.set_cons_zero, List.set_cons_succ]
                  refine wpAnyH_take (i := 16) (v := ?_) (by simp only [List.getElem?_toArray, List.getElem?_cons_zero, List.getElem?_cons_succ]; rfl) (by kernel_rfl) (by kernel_rfl) (by kernel_rfl) (fun _ _ _ h => h) (Or.inl ⟨by rfl, ?_⟩) trivial ?_
                  rotate_left
                  · (intro w hSw; go_simp; try with_reducible rfl)
                  try simp only [Act.put, List.setIfInBounds_toArray, List.set_cons_zero, List.set_cons_succ]
                  refine wpAnyH_ready (rs := [17]) (by kernel_rfl) (by simp) ?_
                  refine AllReadyH.cons (by simp only [List.getElem?_toArray, List.getElem?_cons_zero, List.getElem?_cons_succ]; rfl) (fun K hK => ?_) ?_
                  · skip
                    go_simp
                    refine hK.out _ _ trivial (fun _ => ?_)
                    clear hK K
                    obtain ⟨w23, hw3⟩ : ∃ wn, wn = w22.alloc (.cells #[S [122, 122, 122, 122, 122, 122, 122, 122, 122, 122, 122, 122, 122, 122, 122, 122, 122, 122, 122, 122, bb], .bool last, .slice none 0 0, .string { data := #[105, 110, 116] }, .bool false] 34) := ⟨_, rfl⟩
                    have hW3 : Below wr.heap.size wr w23 := by rw [hw3]; exact hW2.alloc hW2.size _
                    have nb : Blk w23 w22.heap.size 34 #[S [122, 122, 122, 122, 122, 122, 122, 122, 122, 122, 122, 122, 122, 122, 122, 122, 122, 122, 122, 122, bb], .bool last, .slice none 0 0, S [105, 110, 116], .bool false] := by rw [hw3]; exact Blk.new _ _ _
                    rw [← hw3]
                    clear hw3
                    refine wpAnyH_ready (rs := [18]) (by kernel_rfl) (by simp) ?_
                    refine AllReadyH.cons (by simp only [List.getElem?_toArray, List.getElem?_cons_zero, List.getElem?_cons_succ]; rfl) (fun K hK => ?_) ?_
                    · skip
                      refine step_append_lies _ rfl (.tmp 33) (.tmp 49) 23 rfl w.heap.size 34 i0 _ 5 72 Try.underlying23 hi0 hz0 hz1 hz2 rfl (by decide) (.slice A (a.ml + k) c) (a.ml + k) _ rfl (own_below HG.out.own hW3) ⟨w22.heap.size, 0, none⟩ 1 1 [S [122, 122, 122, 122, 122, 122, 122, 122, 122, 122, 122, 122, 122, 122, 122, 122, 122, 122, 122, 122, bb], .bool last, .slice none 0 0, S [105, 110, 116], .bool false] rfl rfl (World.news_of_block nb) h1c (by decide) (by unfold maxLen; omega) (by omega) (Nat.le_trans HG.out.bel.size hW3.size) _ rfl ?_
                      intro g' cap' w9 hown9 hgrow9 _ _
                      refine hK.out _ _ trivial (fun _ => ?_)
                      clear hK K
                      refine wpAnyH_take (i := 19) (v := ?_) (by simp only [List.getElem?_toArray, List.getElem?_cons_zero, List.getElem?_cons_succ]; rfl) (by kernel_rfl) (by kernel_rfl) (by kernel_rfl) (fun _ _ _ h => h) (Or.inl ⟨by rfl, ?_⟩) trivial ?_
                      rotate_left
                      · (intro w hSw; go_simp; try with_reducible rfl)
                      try simp only [Act.put, List.setIfInBounds_toArray, List.set_cons_zero, List.set_cons_succ]
                      have kb := (HG.out.blk.below hW3 HG.out.blk.lt).grown hgrow9 hne
                      have f9 := kb.frozen 3
                      have p9 : w9.cell? ⟨bB, 3, none⟩ = some (.slice A (a.ml + k) c) := kb.cell 3
                      refine wpAnyH_ready (rs := [20]) (by kernel_rfl) (by simp) ?_
                      refine AllReadyH.cons (by simp only [List.getElem?_toArray, List.getElem?_cons_zero, List.getElem?_cons_succ]; rfl) (fun K hK => ?_) AllReadyH.nil
                      go_simp
                      refine hK.out _ _ trivial (fun _ => ?_)
                      clear hK K
                      refine wpAnyH_done (by kernel_rfl) ?_ _
                      refine NoPanic.normal ?_
                      have HS := hide (HG.out.next hW3 (by rw [HNC.out]; exact hown9) hgrow9)
                      clear f9 p9 kb hown9 hgrow9
                      go_wp2_with fail
                      go_meet
                      exact ⟨rfl, _, _, HS.out⟩
                    exact AllReadyH.nil
                  exact AllReadyH.nil
                exact AllReadyH.nil
              exact AllReadyH.nil
            refine AllReadyH.cons (by simp only [List.getElem?_toArray, List.getElem?_cons_zero, List.getElem?_cons_succ]; rfl) (fun K hK => ?_) ?_
            · skip
              go_simp
              refine hK.out _ _ trivial (fun _ => ?_)
              clear hK K
              obtain ⟨w22, hw2⟩ : ∃ wn, wn = w21.alloc (.cells #[.int .u8 (97 + (k : Int))] 5) := ⟨_, rfl⟩
              have hW2 : Below wr.heap.size wr w22 := by rw [hw2]; exact hW1.alloc hW1.size _
              have cb2 : w22.cell? ⟨w21.heap.size, 0, none⟩ = some (.int .u8 (97 + (k : Int))) := by rw [hw2]; exact (Blk.new _ _ #[.int .u8 (97 + (k : Int))]).cell 0
              rw [← hw2]
              clear hw2
              refine wpAnyH_ready (rs := [1, 6]) (by kernel_rfl) (by simp) ?_
              refine AllReadyH.cons (by simp only [List.getElem?_toArray, List.getElem?_cons_zero, List.getElem?_cons_succ]; rfl) (fun K hK => ?_) ?_
              · skip
                have gL := (HKP.out w22 hW2).1
                go_simp
                refine hK.out _ _ trivial (fun _ => ?_)
                clear hK K gL
                refine wpAnyH_ready (rs := [6]) (by kernel_rfl) (by simp) ?_
                refine AllReadyH.cons (by simp only [List.getElem?_toArray, List.getElem?_cons_zero, List.getElem?_cons_succ]; rfl) (fun K hK => ?_) ?_
                · skip
                  have hcv := hconv w22 w21.heap.size cb2
                  go_simp
                  refine hK.out _ _ trivial (fun _ => ?_)
                  clear hK K hcv
                  refine wpAnyH_take (i := 7) (v := ?_) (by simp only [List.getElem?_toArray, List.getElem?_cons_zero, List.getElem?_cons_succ]; rfl) (by kernel_rfl) (by kernel_rfl) (by kernel_rfl) (fun _ _ _ h => h) (Or.inl ⟨by rfl, ?_⟩) trivial ?_
                  rotate_left
                  · (intro w hSw; go_simp; try with_reducible rfl)
                  try simp only [Act.put, List.setIfInBounds_toArray, List.set_cons_zero, List.set_cons_succ]
                  refine wpAnyH_take (i := 16) (v := ?_) (by simp only [List.getElem?_toArray, List.getElem?_cons_zero, List.getElem?_cons_succ]; rfl) (by kernel_rfl) (by kernel_rfl) (by kernel_rfl) (fun _ _ _ h => h) (Or.inl ⟨by rfl, ?_⟩) trivial ?_
                  rotate_left
                  · (intro w hSw; go_simp; try with_reducible rfl)
                  try simp only [Act.put, List.setIfInBounds_toArray, List.set_cons_zero, List.set_cons_succ]
                  refine wpAnyH_ready (rs := [17]) (by kernel_rfl) (by simp) ?_
                  refine AllReadyH.cons (by simp only [List.getElem?_toArray, List.getElem?_cons_zero, List.getElem?_cons_succ]; rfl) (fun K hK => ?_) ?_
                  · skip
                    go_simp
                    refine hK.out _ _ trivial (fun _ => ?_)
                    clear hK K
                    obtain ⟨w23, hw3⟩ : ∃ wn, wn = w22.alloc (.cells #[S [122, 122, 122, 122, 122, 122, 122, 122, 122, 122, 122, 122, 122, 122, 122, 122, 122, 122, 122, 122, bb], .bool last, .slice none 0 0, .string { data := #[105, 110, 116] }, .bool false] 34) := ⟨_, rfl⟩
                    have hW3 : Below wr.heap.size wr w23 := by rw [hw3]; exact hW2.alloc hW2.size _
                    have nb : Blk w23 w22.heap.size 34 #[S [122, 122, 122, 122, 122, 122, 122, 122, 122, 122, 122, 122, 122, 122, 122, 122, 122, 122, 122, 122, bb], .bool last, .slice none 0 0, S [105, 110, 116], .bool false] := by rw [hw3]; exact Blk.new _ _ _
                    rw [← hw3]
                    clear hw3
                    refine wpAnyH_ready (rs := [18]) (by kernel_rfl) (by simp) ?_
                    refine AllReadyH.cons (by simp only [List.getElem?_toArray, List.getElem?_cons_zero, List.getElem?_cons_succ]; rfl) (fun K hK => ?_) ?_
                    · skip
                      refine step_append_lies _ rfl (.tmp 33) (.tmp 49) 23 rfl w.heap.size 34 i0 _ 5 72 Try.underlying23 hi0 hz0 hz1 hz2 rfl (by decide) (.slice A (a.ml + k) c) (a.ml + k) _ rfl (own_below HG.out.own hW3) ⟨w22.heap.size, 0, none⟩ 1 1 [S [122, 122, 122, 122, 122, 122, 122, 122, 122, 122, 122, 122, 122, 122, 122, 122, 122, 122, 122, 122, bb], .bool last, .slice none 0 0, S [105, 110, 116], .bool false] rfl rfl (World.news_of_block nb) h1c (by decide) (by unfold maxLen; omega) (by omega) (Nat.le_trans HG.out.bel.size hW3.size) _ rfl ?_
                      intro g' cap' w9 hown9 hgrow9 _ _
                      refine hK.out _ _ trivial (fun _ => ?_)
                      clear hK K
                      refine wpAnyH_take (i := 19) (v := ?_) (by simp only [List.getElem?_toArray, List.getElem?_cons_zero, List.getElem?_cons_succ]; rfl) (by kernel_rfl) (by kernel_rfl) (by kernel_rfl) (fun _ _ _ h => h) (Or.inl ⟨by rfl, ?_⟩) trivial ?_
                      rotate_left
                      · (intro w hSw; go_simp; try with_reducible rfl)
                      try simp only [Act.put, List.setIfInBounds_toArray, List.set_cons_zero, List.set_cons_succ]
                      have kb := (HG.out.blk.below hW3 HG.out.blk.lt).grown hgrow9 hne
                      have f9 := kb.frozen 3
                      have p9 : w9.cell? ⟨bB, 3, none⟩ = some (.slice A (a.ml + k) c) := kb.cell 3
                      refine wpAnyH_ready (rs := [20]) (by kernel_rfl) (by simp) ?_
                      refine AllReadyH.cons (by simp only [List.getElem?_toArray, List.getElem?_cons_zero, List.getElem?_cons_succ]; rfl) (fun K hK => ?_) AllReadyH.nil
                      go_simp
                      refine hK.out _ _ trivial (fun _ => ?_)
                      clear hK K
                      refine wpAnyH_done (by kernel_rfl) ?_ _
                      refine NoPanic.normal ?_
                      have HS := hide (HG.out.next hW3 (by rw [HNC.out]; exact hown9) hgrow9)
                      clear f9 p9 kb hown9 hgrow9
                      go_wp2_with fail
                      go_meet
                      exact ⟨rfl, _, _, HS.out⟩
                    exact AllReadyH.nil
                  exact AllReadyH.nil
                exact AllReadyH.nil
              refine AllReadyH.cons (by simp only [List.getElem?_toArray, List.getElem?_cons_zero, List.getElem?_cons_succ]; rfl) (fun K hK => ?_) ?_
              · skip
                have hcv := hconv w22 w21.heap.size cb2
                go_simp
                refine hK.out _ _ trivial (fun _ => ?_)
                clear hK K hcv
                refine wpAnyH_take (i := 7) (v := ?_) (by simp only [List.getElem?_toArray, List.getElem?_cons_zero, List.getElem?_cons_succ]; rfl) (by kernel_rfl) (by kernel_rfl) (by kernel_rfl) (fun _ _ _ h => h) (Or.inl ⟨by rfl, ?_⟩) trivial ?_
                rotate_left
                · (intro w hSw; go_simp; try with_reducible rfl)
                try simp only [Act.put, List.setIfInBounds_toArray, List.set_cons_zero, List.set_cons_succ]
                refine wpAnyH_take (i := 16) (v := ?_) (by simp only [List.getElem?_toArray, List.getElem?_cons_zero, List.getElem?_cons_succ]; rfl) (by kernel_rfl) (by kernel_rfl) (by kernel_rfl) (fun _ _ _ h => h) (Or.inl ⟨by rfl, ?_⟩) trivial ?_
                rotate_left
                · (intro w hSw; go_simp; try with_reducible rfl)
                try simp only [Act.put, List.setIfInBounds_toArray, List.set_cons_zero, List.set_cons_succ]
                refine wpAnyH_ready (rs := [1, 17]) (by kernel_rfl) (by simp) ?_
                refine AllReadyH.cons (by simp only [List.getElem?_toArray, List.getElem?_cons_zero, List.getElem?_cons_succ]; rfl) (fun K hK => ?_) ?_
                · skip
                  have gL := (HKP.out w22 hW2).1
                  go_simp
                  refine hK.out _ _ trivial (fun _ => ?_)
                  clear hK K gL
                  refine wpAnyH_ready (rs := [17]) (by kernel_rfl) (by simp) ?_
                  refine AllReadyH.cons (by simp only [List.getElem?_toArray, List.getElem?_cons_zero, List.getElem?_cons_succ]; rfl) (fun K hK => ?_) ?_
                  · skip
                    go_simp
                    refine hK.out _ _ trivial (fun _ => ?_)
                    clear hK K
                    obtain ⟨w23, hw3⟩ : ∃ wn, wn = w22.alloc (.cells #[S [122, 122, 122, 122, 122, 122, 122, 122, 122, 122, 122, 122, 122, 122, 122, 122, 122, 122, 122, 122, bb], .bool last, .slice none 0 0, .string { data := #[105, 110, 116] }, .bool false] 34) := ⟨_, rfl⟩
                    have hW3 : Below wr.heap.size wr w23 := by rw [hw3]; exact hW2.alloc hW2.size _
                    have nb : Blk w23 w22.heap.size 34 #[S [122, 122, 122, 122, 122, 122, 122, 122, 122, 122, 122, 122, 122, 122, 122, 122, 122, 122, 122, 122, bb], .bool last, .slice none 0 0, S [105, 110, 116], .bool false] := by rw [hw3]; exact Blk.new _ _ _
                    rw [← hw3]
                    clear hw3
                    refine wpAnyH_ready (rs := [18]) (by kernel_rfl) (by simp) ?_
                    refine AllReadyH.cons (by simp only [List.getElem?_toArray, List.getElem?_cons_zero, List.getElem?_cons_succ]; rfl) (fun K hK => ?_) ?_
                    · skip
                      refine step_append_lies _ rfl (.tmp 33) (.tmp 49) 23 rfl w.heap.size 34 i0 _ 5 72 Try.underlying23 hi0 hz0 hz1 hz2 rfl (by decide) (.slice A (a.ml + k) c) (a.ml + k) _ rfl (own_below HG.out.own hW3) ⟨w22.heap.size, 0, none⟩ 1 1 [S [122, 122, 122, 122, 122, 122, 122, 122, 122, 122, 122, 122, 122, 122, 122, 122, 122, 122, 122, 122, bb], .bool last, .slice none 0 0, S [105, 110, 116], .bool false] rfl rfl (World.news_of_block nb) h1c (by decide) (by unfold maxLen; omega) (by omega) (Nat.le_trans HG.out.bel.size hW3.size) _ rfl ?_
                      intro g' cap' w9 hown9 hgrow9 _ _
                      refine hK.out _ _ trivial (fun _ => ?_)
                      clear hK K
                      refine wpAnyH_take (i := 19) (v := ?_) (by simp only [List.getElem?_toArray, List.getElem?_cons_zero, List.getElem?_cons_succ]; rfl) (by kernel_rfl) (by kernel_rfl) (by kernel_rfl) (fun _ _ _ h => h) (Or.inl ⟨by rfl, ?_⟩) trivial ?_
                      rotate_left
                      · (intro w hSw; go_simp; try with_reducible rfl)
                      try simp only [Act.put, List.setIfInBounds_toArray, List.set_cons_zero, List.set_cons_succ]
                      have kb := (HG.out.blk.below hW3 HG.out.blk.lt).grown hgrow9 hne
                      have f9 := kb.frozen 3
                      have p9 : w9.cell? ⟨bB, 3, none⟩ = some (.slice A (a.ml + k) c) := kb.cell 3
                      refine wpAnyH_ready (rs := [20]) (by kernel_rfl) (by simp) ?_
                      refine AllReadyH.cons (by simp only [List.getElem?_toArray, List.getElem?_cons_zero, List.getElem?_cons_succ]; rfl) (fun K hK => ?_) AllReadyH.nil
                      go_simp
                      refine hK.out _ _ trivial (fun _ => ?_)
                      clear hK K
                      refine wpAnyH_done (by kernel_rfl) ?_ _
                      refine NoPanic.normal ?_
                      have HS := hide (HG.out.next hW3 (by rw [HNC.out]; exact hown9) hgrow9)
                      clear f9 p9 kb hown9 hgrow9
                      go_wp2_with fail
                      go_meet
                      exact ⟨rfl, _, _, HS.out⟩
                    exact AllReadyH.nil
                  exact AllReadyH.nil
                refine AllReadyH.cons (by simp only [List.getElem?_toArray, List.getElem?_cons_zero, List.getElem?_cons_succ]; rfl) (fun K hK => ?_) ?_
                · skip
                  go_simp
                  refine hK.out _ _ trivial (fun _ => ?_)
                  clear hK K
                  obtain ⟨w23, hw3⟩ : ∃ wn, wn = w22.alloc (.cells #[S [122, 122, 122, 122, 122, 122, 122, 122, 122, 122, 122, 122, 122, 122, 122, 122, 122, 122, 122, 122, bb], .bool last, .slice none 0 0, .string { data := #[105, 110, 116] }, .bool false] 34) := ⟨_, rfl⟩
                  have hW3 : Below wr.heap.size wr w23 := by rw [hw3]; exact hW2.alloc hW2.size _
                  have nb : Blk w23 w22.heap.size 34 #[S [122, 122, 122, 122, 122, 122, 122, 122, 122, 122, 122, 122, 122, 122, 122, 122, 122, 122, 122, 122, bb], .bool last, .slice none 0 0, S [105, 110, 116], .bool false] := by rw [hw3]; exact Blk.new _ _ _
                  rw [← hw3]
                  clear hw3
                  refine wpAnyH_ready (rs := [1]) (by kernel_rfl) (by simp) ?_
                  refine AllReadyH.cons (by simp only [List.getElem?_toArray, List.getElem?_cons_zero, List.getElem?_cons_succ]; rfl) (fun K hK => ?_) ?_
                  · skip
                    have gL := (HKP.out w23 hW3).1
                    go_simp
                    refine hK.out _ _ trivial (fun _ => ?_)
                    clear hK K gL
                    refine wpAnyH_ready (rs := [18]) (by kernel_rfl) (by simp) ?_
                    refine AllReadyH.cons (by simp only [List.getElem?_toArray, List.getElem?_cons_zero, List.getElem?_cons_succ]; rfl) (fun K hK => ?_) ?_
                    · skip
                      refine step_append_lies _ rfl (.tmp 33) (.tmp 49) 23 rfl w.heap.size 34 i0 _ 5 72 Try.underlying23 hi0 hz0 hz1 hz2 rfl (by decide) (.slice A (a.ml + k) c) (a.ml + k) _ rfl (own_below HG.out.own hW3) ⟨w22.heap.size, 0, none⟩ 1 1 [S [122, 122, 122, 122, 122, 122, 122, 122, 122, 122, 122, 122, 122, 122, 122, 122, 122, 122, 122, 122, bb], .bool last, .slice none 0 0, S [105, 110, 116], .bool false] rfl rfl (World.news_of_block nb) h1c (by decide) (by unfold maxLen; omega) (by omega) (Nat.le_trans HG.out.bel.size hW3.size) _ rfl ?_
                      intro g' cap' w9 hown9 hgrow9 _ _
                      refine hK.out _ _ trivial (fun _ => ?_)
                      clear hK K
                      refine wpAnyH_take (i := 19) (v := ?_) (by simp only [List.getElem?_toArray, List.getElem?_cons_zero, List.getElem?_cons_succ]; rfl) (by kernel_rfl) (by kernel_rfl) (by kernel_rfl) (fun _ _ _ h => h) (Or.inl ⟨by rfl, ?_⟩) trivial ?_
                      rotate_left
                      · (intro w hSw; go_simp; try with_reducible rfl)
                      try simp only [Act.put, List.setIfInBounds_toArray, List.set_cons_zero, List.set_cons_succ]
                      have kb := (HG.out.blk.below hW3 HG.out.blk.lt).grown hgrow9 hne
                      have f9 := kb.frozen 3
                      have p9 : w9.cell? ⟨bB, 3, none⟩ = some (.slice A (a.ml + k) c) := kb.cell 3
                      refine wpAnyH_ready (rs := [20]) (by kernel_rfl) (by simp) ?_
                      refine AllReadyH.cons (by simp only [List.getElem?_toArray, List.getElem?_cons_zero, List.getElem?_cons_succ]; rfl) (fun K hK => ?_) AllReadyH.nil
                      go_simp
                      refine hK.out _ _ trivial (fun _ => ?_)
                      clear hK K
                      refine wpAnyH_done (by kernel_rfl) ?_ _
                      refine NoPanic.normal ?_
                      have HS := hide (HG.out.next hW3 (by rw [HNC.out]; exact hown9) hgrow9)
                      clear f9 p9 kb hown9 hgrow9
                      go_wp2_with fail
                      go_meet
                      exact ⟨rfl, _, _, HS.out⟩
                    exact AllReadyH.nil
                  exact AllReadyH.nil
                exact AllReadyH.nil
              exact AllReadyH.nil
            exact AllReadyH.nil
          exact AllReadyH.nil
      case rest =>
        obtain ⟨hv, A', c', hg'⟩ := hcut
        subst hv
        have HG2 := hide hg'
        clear hg'
        go_wp2_with fail
        go_roundw
        case rel => exact ⟨k + 1, A', c', by omega, by go_num, HG2.out⟩
        case measure => simp [intOf]; omega
    · obtain rfl : k = N := by omega
      have hat := growF_at HG.out HA.out hml hN8
      have hb : Below w.heap.size w wr := HG.out.bel
      have hrb := right_any (growF a k last A c) wr hat
      obtain ⟨Rb, hRb⟩ : ∃ Rb, Rb = (growF a k last A c).right := ⟨_, rfl⟩
      rw [← hRb] at hrb
      have HRB := hide hrb
      have HRb := hide hRb
      have HAT := hide hat
      have kx := HG.out.box
      have kb : Blk wr bB 25 #[S a.n, S a.su, .slice a.fA a.fl a.fc, .slice A (a.ml + k) c] := HG.out.blk
      clear hrb hRb hat HRA
      obtain ⟨b0, b1, b2, b3⟩ := fcells kb
      go_wp2_with fail
      refine HRB.out.mono ?_
      rintro e w6 ⟨rfl, hb6⟩
      have hB6 := hb.trans (hb6.mono hb.size)
      have kx6 := kx.below hb6 kx.lt
      have kb6 := kb.below hb6 kb.lt
      have hat6 : (growF a k last A c).at_ w6 (fun i => w6.heap.size ≤ i) := (HAT.out.below hb6).weak (fun i hi => by have := hb6.size; omega)
      clear b0 b1 b2 b3 kx kb
      cases Rb
      case false =>
        go_wp2_with fail
        go_ret
        exact ⟨rfl, hB6⟩
      case true =>
        obtain ⟨hl1, hl2⟩ := grows_law HY.out.symm HRb.out.symm
        have haw : ∀ w', Below w6.heap.size w6 w' → a.at_ w' (fun i => w'.heap.size ≤ i) := fun w' h' => by
          have hh := hB6.trans (h'.mono hB6.size)
          exact (HA.out.below hh).weak (fun i hi => by have := hh.size; omega)
        have hbw : ∀ w', Below w6.heap.size w6 w' → (growF a k last A c).at_ w' (fun i => w'.heap.size ≤ i) := fun w' h' => (hat6.below h').weak (fun i hi => by have := h'.size; omega)
        have h1 : Calls Try.prog 10 #[a.val, (growF a k last A c).val] w6 (Gives w6 (.bool (k == 0 || last))) := by
          rw [← hl1]; exact pass_any _ _ w6 (haw w6 (Below.refl _ _)) (hbw w6 (Below.refl _ _))
        have h2 : ∀ w', Below w6.heap.size w6 w' → Calls Try.prog 10 #[(growF a k last A c).val, a.val] w' (Gives w' (.bool (k == 0))) := fun w' h' => by
          rw [← hl2]; exact pass_any _ _ w' (hbw w' h') (haw w' h')
        obtain ⟨a0, a1, a2, a3⟩ := fcells kx6
        obtain ⟨b0, b1, b2, b3⟩ := fcells kb6
        by_cases e : k = 0
        · subst e
          have H1 : Hid (Calls Try.prog 10 #[a.val, (growF a 0 last A c).val] w6 (Gives w6 (.bool true))) := hide h1
          have H2 : Hid (∀ w', Below w6.heap.size w6 w' → Calls Try.prog 10 #[(growF a 0 last A c).val, a.val] w' (Gives w' (.bool true))) := hide h2
          clear h1 h2 hl1 hl2 haw hbw hat6
          simp only [Nat.add_zero] at b3
          go_wp2_with fail
          refine H1.out.mono ?_
          rintro e w7 ⟨rfl, hb7⟩
          have hB7 := hB6.trans (hb7.mono hB6.size)
          have h2 := H2.out w7 hb7
          have kx7 := kx6.below hb7 kx6.lt
          have kb7 := kb6.below hb7 kb6.lt
          clear a0 a1 a2 a3 b0 b1 b2 b3 hb7 H2
          have H2 := hide h2
          clear h2
          obtain ⟨a0, a1, a2, a3⟩ := fcells kx7
          obtain ⟨b0, b1, b2, b3⟩ := fcells kb7
          simp only [Nat.add_zero] at b3
          go_wp2_with fail
          refine H2.out.mono ?_
          rintro e w8 ⟨rfl, hb8⟩
          have hB8 := hB7.trans (hb8.mono hB7.size)
          go_wp2_with fail
          go_ret
          exact ⟨rfl, hB8⟩
        · have hk0 : (k == 0) = false := by simpa using e
          have d : ((k : Int) == 0) = false := by simp; omega
          rw [hk0, Bool.false_or] at h1
          have H1 := hide h1
          have H2 : Hid (∀ w', Below w6.heap.size w6 w' → Calls Try.prog 10 #[(growF a k last A c).val, a.val] w' (Gives w' (.bool false))) := hide (by rw [hk0] at h2; exact h2)
          clear h1 h2 hl1 hl2 haw hbw hat6 hk0
          go_wp2_with fail
          refine H1.out.mono ?_
          rintro e w7 ⟨rfl, hb7⟩
          have hB7 := hB6.trans (hb7.mono hB6.size)
          have h2 := H2.out w7 hb7
          have kx7 := kx6.below hb7 kx6.lt
          have kb7 := kb6.below hb7 kb6.lt
          clear a0 a1 a2 a3 b0 b1 b2 b3 hb7 H2
          have H2 := hide h2
          clear h2
          obtain ⟨a0, a1, a2, a3⟩ := fcells kx7
          obtain ⟨b0, b1, b2, b3⟩ := fcells kb7
          go_wp2_with fail
          refine H2.out.mono ?_
          rintro e w8 ⟨rfl, hb8⟩
          have hB8 := hB7.trans (hb8.mono hB7.size)
          go_wp2_with fail
          go_ret
          exact ⟨rfl, hB8⟩
end Go.Proofs.Ytbnplghbokpfmaa
