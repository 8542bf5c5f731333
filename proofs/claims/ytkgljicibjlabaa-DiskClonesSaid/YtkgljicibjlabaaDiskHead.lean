/- The document's example of layer 3, walked. -/
import Derived.Test.YtkgljicibjlabaaDiskDk
namespace Go.Proofs.Ytkgljicibjlabaa
open Go.RowKit Go.Maps

theorem Rd.of_blk {w : World} {g : Nat} {t : TypeId} {cs : Array Value} {F : Nat → Prop} {size n : Nat} (h : Blk w g t cs) (hF : ¬ F g) (hl : cs.size = n * size) : Rd w F size (some ⟨g, 0, none⟩) n cs.toList := by
  refine ⟨by simpa using hl, fun _ => ⟨g, 0, rfl, hF, h.lt, fun j u hu => ?_⟩⟩
  have := h.cell (0 + j)
  rw [this]
  simpa using hu

theorem Dk.frame {a w w' : World} {B g b N n c : Nat} {A : Option Addr} {cs : List Ch} {room : Nat} {fall : Int} {dn : Bool} {F : Fl} (h : Dk w B g b N n c A cs room fall dn F) (hb : Below B a w)
    (hk : Keep (fun k => k = g ∨ (Value.slice A n c).ownBlock = some k) w w') : Below B a w' :=
  hb.trans (hk.below (by have := h.blk.lt; have := h.gB; omega) (fun k hk => by
    rcases hk with rfl | e
    · exact h.gB
    · exact (own_base' h.own e).1))
theorem Dk.frame1 {a w w' : World} {B g b N n c : Nat} {A : Option Addr} {cs : List Ch} {room : Nat} {fall : Int} {dn : Bool} {F : Fl} (h : Dk w B g b N n c A cs room fall dn F) (hb : Below B a w)
    (hk : Keep (fun k => k = g) w w') : Below B a w' := h.frame hb (hk.mono fun _ _ h => .inl h)

def F0 : Fl := fun _ => none
def F1 : Fl := F0.set [97] [111, 110, 101]
def F2 : Fl := F1.set [98] [116, 119, 111]
def F3 : Fl := (F2.del [98]).set [97] [116, 119, 111]
theorem f1_tot : Tot F1 3 := by
  obtain ⟨m, h, hm⟩ := Tot.none.set [97] [111, 110, 101]
  obtain rfl : m = 3 := by simpa using hm
  exact h
theorem f1_chg : ([⟨0, [97], [111, 110, 101]⟩] : List Ch).foldl chDo F0 = F1 := rfl
theorem f2_chg : ([⟨0, [98], [116, 119, 111]⟩] : List Ch).foldl chDo F1 = F2 := rfl
theorem f1_b : F1 [98] = none := by simp [F1, F0, Fl.set]
theorem f1_a : F1 [97] = some [111, 110, 101] := by simp [F1, Fl.set]
theorem f2_b : F2 [98] = some [116, 119, 111] := by simp [F2, Fl.set]
theorem f3_a : F3 [97] = some [116, 119, 111] := by simp [F3, Fl.set]
theorem f3_chg : ([⟨0, [98], [116, 119, 111]⟩, ⟨1, [98], [97]⟩] : List Ch).foldl chDo F1 = F3 := by
  show chDo F2 ⟨1, [98], [97]⟩ = F3
  simp [chDo, f2_b, F3]
theorem f1_kept : (kept [false, true] [⟨0, [98], [116, 119, 111]⟩, ⟨1, [98], [97]⟩]).foldl chDo F1 = F1 := by
  show chDo F1 ⟨1, [98], [97]⟩ = F1
  simp [chDo, f1_b]

set_option maxRecDepth 100000 in
set_option maxHeartbeats 4000000 in
theorem head_any (w : World) : Calls Try.prog 11 #[] w (Gives w (.bool true)) := by
  go_enter Try.func11, Try.ntmps11
  go_wp2_with fail
  refine (new_dk 100 (by omega) w).mono ?_
  rintro e w1 ⟨g, b, rfl, h1, hb1⟩
  have H1 := hide h1
  have HB1 := hide hb1
  clear h1 hb1
  go_wp2_with fail
  refine (write_ok w.heap.size g b 0 0 0 none [] 100 (-1) (fun _ => none) F0 0 [97] [111, 110, 101] w1 H1.out (by omega) (by omega) (by omega) (by omega) rfl Tot.none (by omega) (by omega) (by simp) (by simp) (by simp) (by simp [F0])).mono ?_
  rintro e w2 ⟨rfl, ⟨q2, c2, h2⟩, hk2⟩
  have HB2 := hide (H1.out.frame HB1.out hk2)
  have H2 := hide h2
  clear h2 hk2 H1 HB1
  go_wp2_with fail
  refine (sync_dk w.heap.size g b 0 1 c2 _ _ 100 (-1) _ F1 w2 H2.out (by omega) (by omega) (by omega) (by omega) f1_chg).mono ?_
  rintro e w3 ⟨rfl, ⟨b3, h3, _⟩, hk3⟩
  have HB3 := hide (H2.out.frame1 HB2.out hk3)
  have H3 := hide h3
  clear h3 hk3 H2 HB2
  go_wp2_with fail
  refine (write_ok w.heap.size g b3 1 0 0 none [] 100 (-1) F1 F1 3 [98] [116, 119, 111] w3 H3.out (by omega) (by omega) (by omega) (by omega) rfl f1_tot (by omega) (by omega) (by simp) (by simp) (by simp) (by simp [f1_b])).mono ?_
  rintro e w4 ⟨rfl, ⟨q4, c4, h4⟩, hk4⟩
  have HB4 := hide (H3.out.frame HB3.out hk4)
  have H4 := hide h4
  clear h4 hk4 H3 HB3
  go_wp2_with fail
  refine (rename_ok w.heap.size g b3 1 1 c4 _ _ 100 (-1) F1 F2 [98] [97] w4 H4.out (by omega) (by omega) (by omega) (by omega) f2_chg (by simp [short]) (by simp) (by simp) (by simp [f2_b])).mono ?_
  rintro e w5 ⟨rfl, ⟨q5, c5, h5⟩, hk5⟩
  have HB5 := hide (H4.out.frame HB4.out hk5)
  have H5 := hide h5
  clear h5 hk5 H4 HB4
  go_wp2_with fail
  obtain ⟨w6, hw6⟩ : ∃ w6, w6 = w5.alloc (.cells #[.bool false, .bool true] 4) := ⟨_, rfl⟩
  have k6 : Blk w6 w5.heap.size 4 #[.bool false, .bool true] := by rw [hw6]; exact Blk.new _ _ _
  have hb6 : Below w5.heap.size w5 w6 := by rw [hw6]; exact (Below.refl _ _).alloc (Nat.le_refl _) _
  have h6 := H5.out.below hb6
  have hB6 := HB5.out.trans (hb6.mono (by have := H5.out.blk.lt; have := H5.out.gB; omega))
  rw [← hw6]
  clear hw6
  have r6 : Rd w6 (fun k => w6.heap.size ≤ k) 1 (some ⟨w5.heap.size, 0, none⟩) 2 ([false, true].map .bool) := Rd.of_blk k6 (by have := k6.lt; omega) rfl
  have HB6 := hide hB6
  have H6 := hide h6
  clear h6 hb6 hB6 H5 HB5
  refine (crash_dk w.heap.size g b3 1 2 c5 2 2 _ _ _ [false, true] 100 (-1) false F1 F1 w6 H6.out (by omega) (by omega) (by omega) f1_kept r6 rfl).mono ?_
  rintro e w7 ⟨g7, b7, rfl, h7, hb7⟩
  have H7 := hide h7
  have HB7 := hide (HB6.out.trans (hb7.mono (by have := H6.out.blk.lt; have := H6.out.gB; omega)))
  have HD7 := hide (H6.out.below hb7)
  clear h7 hb7 r6 k6
  go_wp2_with fail
  refine (read_dk w6.heap.size g7 b7 3 0 0 none [] 100 (-1) F1 F1 [97] (by simp [short]) w7 H7.out (by omega) (by omega) rfl).mono ?_
  rintro e w8 ⟨rfl, hb8⟩
  rw [f1_a]
  have HB8 := hide (HB7.out.trans (hb8.mono (by have := HD7.out.blk.lt; have := HD7.out.gB; omega)))
  have HD8 := hide (HD7.out.below hb8)
  clear hb8
  go_wp2_with fail
  refine (read_dk w.heap.size g b3 1 2 c5 _ _ 100 (-1) F1 F3 [97] (by simp [short]) w8 HD8.out (by omega) (by omega) f3_chg).mono ?_
  rintro e w9 ⟨rfl, hb9⟩
  rw [f3_a]
  have HB9 := hide (HB8.out.trans (hb9.mono (by have := HD8.out.blk.lt; have := HD8.out.gB; omega)))
  clear hb9
  go_wp2_with fail
  go_ret
  exact ⟨rfl, HB9.out⟩
end Go.Proofs.Ytkgljicibjlabaa
