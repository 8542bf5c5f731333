/- How many there are of a kind; a class's name; a method alone, walked; no statement of the seat is proved here. -/
import Derived.Test.YtkldfbacagnhoaaDoorOpRightC
namespace Go.Proofs.YtkldfbacagnhoaaDoor
open Go.RowKit

def cntV (f : Fl) (b : Bd) (k : Int) : Int :=
  if k == 110 then f.nl else if k == 99 then f.cl else if k == 116 then f.tl else if k == 102 then f.dl else if k == 109 then f.ml else if k == 108 then b.lo else if k == 106 then b.k else 2
theorem cntV_eq {w : World} {F : Nat → Prop} {f : Fl} {b : Bd} (h : f.pat w F) (hb : b.at_ w F) (k : Int) : cntV f b k = manyV f.ppl b.pl k := by
  unfold cntV manyV Fl.ppl Bd.pl
  simp only [List.length_map]
  rw [h.nL, h.cL, h.tL, h.dL, h.mL, hb.2.1]

set_option maxRecDepth 100000 in
set_option maxHeartbeats 2000000 in
theorem cnt_any (f : Fl) (b : Bd) (k : Int) (g1 g2 : Nat) (w : World) (h1 : Blk w g1 36 f.cells.toArray) (h2 : Blk w g2 58 b.cells.toArray) :
    Calls Tryd.prog 60 #[.int .i32 k, .pointer (some ⟨g1, 0, none⟩), .pointer (some ⟨g2, 0, none⟩)] w fun e w' => e = .returned (.int .i64 (cntV f b k)) ∧ w' = w := by
  have c4 := h1.cell 4
  have c5 := h1.cell 5
  have c6 := h1.cell 6
  have c7 := h1.cell 7
  have c8 := h1.cell 8
  have d0 := h2.cell 0
  have d2 := h2.cell 2
  simp at c4 c5 c6 c7 c8 d0 d2
  obtain ⟨R, hR⟩ : ∃ R, R = cntV f b k := ⟨_, rfl⟩
  rw [← hR]
  unfold cntV at hR
  clear h1 h2
  obtain ⟨lo, sk, bA, bk, bc, code⟩ := b
  simp only at d0 d2 hR
  cases e1 : (k == 110) with
  | true =>
    have HR := hide (fun _ : Unit => hR.trans (by rw [if_pos e1]))
    clear hR
    go_enter Tryd.func60, Tryd.ntmps60
    go_wp2_with fail
    go_ret
    exact ⟨by rw [HR.out ()] <;> rfl, rfl⟩
  | false =>
    rw [if_neg (by rw [e1]; decide)] at hR
    cases e2 : (k == 99) with
    | true =>
      have HR := hide (fun _ : Unit => hR.trans (by rw [if_pos e2]))
      clear hR
      go_enter Tryd.func60, Tryd.ntmps60
      go_wp2_with fail
      go_ret
      exact ⟨by rw [HR.out ()] <;> rfl, rfl⟩
    | false =>
      rw [if_neg (by rw [e2]; decide)] at hR
      cases e3 : (k == 116) with
      | true =>
        have HR := hide (fun _ : Unit => hR.trans (by rw [if_pos e3]))
        clear hR
        go_enter Tryd.func60, Tryd.ntmps60
        go_wp2_with fail
        go_ret
        exact ⟨by rw [HR.out ()] <;> rfl, rfl⟩
      | false =>
        rw [if_neg (by rw [e3]; decide)] at hR
        cases e4 : (k == 102) with
        | true =>
          have HR := hide (fun _ : Unit => hR.trans (by rw [if_pos e4]))
          clear hR
          go_enter Tryd.func60, Tryd.ntmps60
          go_wp2_with fail
          go_ret
          exact ⟨by rw [HR.out ()] <;> rfl, rfl⟩
        | false =>
          rw [if_neg (by rw [e4]; decide)] at hR
          cases e5 : (k == 109) with
          | true =>
            have HR := hide (fun _ : Unit => hR.trans (by rw [if_pos e5]))
            clear hR
            go_enter Tryd.func60, Tryd.ntmps60
            go_wp2_with fail
            go_ret
            exact ⟨by rw [HR.out ()] <;> rfl, rfl⟩
          | false =>
            rw [if_neg (by rw [e5]; decide)] at hR
            cases e6 : (k == 108) with
            | true =>
              have HR := hide (fun _ : Unit => hR.trans (by rw [if_pos e6]))
              clear hR
              go_enter Tryd.func60, Tryd.ntmps60
              go_wp2_with fail
              go_ret
              exact ⟨by rw [HR.out ()] <;> rfl, rfl⟩
            | false =>
              rw [if_neg (by rw [e6]; decide)] at hR
              cases e7 : (k == 106) with
              | true =>
                have HR := hide (fun _ : Unit => hR.trans (by rw [if_pos e7]))
                clear hR
                go_enter Tryd.func60, Tryd.ntmps60
                go_wp2_with fail
                go_ret
                exact ⟨by rw [HR.out ()] <;> rfl, rfl⟩
              | false =>
                have HR := hide (fun _ : Unit => hR.trans (by rw [if_neg (by rw [e7]; decide)]))
                clear hR
                go_enter Tryd.func60, Tryd.ntmps60
                go_wp2_with fail
                go_ret
                exact ⟨by rw [HR.out ()] <;> rfl, rfl⟩

set_option maxRecDepth 100000 in
theorem cls_any (s : List UInt8) (w : World) : Calls Tryd.prog 58 #[S s] w (Gives w (.bool (cname s))) := by
  have HO := fun w => hide (of_any s w)
  have HC := fun w => hide (class_any s false w)
  obtain ⟨R, hR⟩ : ∃ R, R = cname s := ⟨_, rfl⟩
  rw [← hR]
  unfold cname at hR
  have hcl : Ty.cls ⟨s, false⟩ = great s := rfl
  obtain ⟨G, hG⟩ : ∃ G, G = great s := ⟨_, rfl⟩
  rw [hcl, ← hG] at HC
  rw [← hG] at hR
  clear hG hcl
  cases G
  all_goals
    have HR := hide (fun _ : Unit => hR)
    clear hR
    go_enter Tryd.func58, Tryd.ntmps58
    go_wp2_with (first
      | (go_at_call 54; refine (HO _).out.mono ?_; rintro e w1 ⟨rfl, hb1⟩; have HB1 := hide hb1; clear hb1)
      | (go_at_call 55; refine (HC _).out.mono ?_; rintro e w2 ⟨rfl, hb2⟩; have HB2 := hide (HB1.out.trans (hb2.mono HB1.out.size)); clear hb2))
    go_ret
    exact ⟨by rw [HR.out ()]; simp <;> omega, HB2.out⟩

/-- A face of one method. -/
def oneF (m : Sg) (nm : List UInt8) (g : Nat) : Fc := ⟨nm, [], none, 0, 0, [], some ⟨g, 0, none⟩, 1, 1, [m]⟩
theorem oneF_at {m : Sg} {nm : List UInt8} {g : Nat} {w : World} (hn : short nm) (h : m.at_ w (fun k => w.heap.size ≤ k)) (hb : Blk w g 52 m.cells.toArray) : (oneF m nm g).at_ w (fun k => w.heap.size ≤ k) := by
  have hlt := hb.lt
  refine ⟨⟨⟨rfl, fun h => absurd h (Nat.lt_irrefl 0)⟩, rfl, Nat.zero_le _, fun v hv => by cases hv⟩, ⟨⟨rfl, fun _ => ⟨g, 0, rfl, by simp only; omega, hlt, fun j u hu => ?_⟩⟩, rfl, by show 1 ≤ 9223372036854775807; omega, fun m' hm => ?_⟩, hn, by show 0 ≤ 9223372036854775807; omega⟩
  · rw [Nat.zero_add, hb.cell j]
    simp only [oneF, List.flatMap_cons, List.flatMap_nil, List.append_nil] at hu
    simpa using hu
  · obtain rfl := List.mem_singleton.1 hm
    exact h

set_option maxRecDepth 100000 in
set_option maxHeartbeats 1000000 in
theorem sig_any (m : Sg) (w : World) (h : m.at_ w (fun k => w.heap.size ≤ k)) : Calls Tryd.prog 59 #[m.val] w (Gives w (.bool (FcP.right ⟨[65], [], [], [m.pl]⟩))) := by
  have HF : Hid (∀ w' g, Below w.heap.size w w' → Blk w' g 52 m.cells.toArray → Calls Tryd.prog 33 #[(oneF m [65] g).val] w' (Gives w' (.bool (FcP.right ⟨[65], [], [], [m.pl]⟩)))) := hide (by
    intro w' g hb hblk
    have hat := oneF_at (nm := [65]) (by show 1 ≤ 9223372036854775807; omega) ((h.below hb).weak (G := fun k => w'.heap.size ≤ k) (fun k hk => by have := hb.size; omega)) hblk
    have h2 := right_any _ w' hat
    rw [Fc.right_pl hat] at h2
    exact h2)
  obtain ⟨n, st, A, k, c, ps, r⟩ := m
  obtain ⟨r, a⟩ := r
  simp only [oneF, Fc.val, Sg.cells] at HF
  generalize FcP.right _ = R at HF ⊢
  go_enter Tryd.func59, Tryd.ntmps59
  go_upto_region 1 with fail
  refine name_world ?_
  intro wB hwB
  have HB : Hid (Below w.heap.size w wB) := hide (by rw [hwB]; exact (Below.refl _ _).alloc (Nat.le_refl _) _)
  have HT : Hid (Blk wB w.heap.size 52 #[S n, .bool st, .slice A k c, S r, .bool a]) := hide (by rw [hwB]; exact Blk.new _ _ _)
  clear hwB h
  have c0 := HT.out.cell 0
  have c1 := HT.out.cell 1
  have c2 := HT.out.cell 2
  have c3 := HT.out.cell 3
  have c4 := HT.out.cell 4
  simp at c0 c1 c2 c3 c4
  have HC : Hid (Calls Tryd.prog 33 #[.agg #[S [65], S [], .slice none 0 0, .slice (some ⟨wB.heap.size, 0, none⟩) 1 1]] (wB.alloc (.cells #[S n, .bool st, .slice A k c, S r, .bool a] 52)) (Gives (wB.alloc (.cells #[S n, .bool st, .slice A k c, S r, .bool a] 52)) (.bool R))) := hide (HF.out _ _ (HB.out.alloc HB.out.size _) (Blk.new _ _ _))
  go_wp2_with (go_at_call 33; refine HC.out.mono ?_; rintro e w2 ⟨rfl, hb2⟩)
  go_ret
  exact ⟨rfl, (HB.out.alloc HB.out.size _).trans (hb2.mono (Nat.le_trans HB.out.size (by simp)))⟩
end Go.Proofs.YtkldfbacagnhoaaDoor
