/- The document's example and the page's word, walked; no statement of the seat is proved here. -/
import Derived.Test.YtoilalfchnglcaaDoorLexAll
namespace Go.Proofs.YtoilalfchnglcaaDoor
open Go.RowKit

/-- All's answer where there are tokens. -/
theorem all_ok {w : World} {s : List UInt8} (hs : s.length ≤ 65536) (hm : Laid w) {ts : List (Tk × Nat)} (h : lexM s = .ok ts) :
    Calls Tryd.prog 10 #[S s] w fun e w' => Below w.heap.size w w' ∧ ∃ A c, e = .returned (.tuple #[.slice A ts.length c, .agg #[.int .i64 0, .int .i64 0, .int .i64 0]]) ∧ Rd w' (fun k => k < w.heap.size) 5 A ts.length (ts.flatMap (tkL s)) :=
  (all_any w s hs hm).mono fun e w' ⟨hb, hr⟩ => by rw [h] at hr; obtain ⟨A, c, he, hr, _⟩ := hr; exact ⟨hb, A, c, he, hr⟩
theorem all_err {w : World} {s : List UInt8} (hs : s.length ≤ 65536) (hm : Laid w) {er b : Nat} (h : lexM s = .error (er, b)) :
    Calls Tryd.prog 10 #[S s] w fun e w' => Below w.heap.size w w' ∧ e = .returned (.tuple #[.slice none 0 0, .agg #[.int .i64 (er : Nat), .int .i64 ((pos s b).1 : Nat), .int .i64 ((pos s b).2 : Nat)]]) :=
  (all_any w s hs hm).mono fun e w' ⟨hb, hr⟩ => by rw [h] at hr; exact ⟨hb, hr⟩

set_option maxRecDepth 100000 in
set_option maxHeartbeats 2000000 in
theorem head_any (w : World) (hm : Laid w) : Calls Tryd.prog 9 #[] w (Gives w (.bool true)) := by
  have HA := hide (all_ok (s := [97, 46, 66, 49]) (by decide) hm lex_head)
  have hgm := hm.2
  clear hm
  go_enter Tryd.func9, Tryd.ntmps9
  go_upto_region 2 with (go_at_call 10; refine HA.out.mono ?_; rintro e w1 ⟨hb, A, c, rfl, hrd⟩)
  refine name_world ?_
  intro wB hwB
  have hrd2 := hrd.alloc (.cells #[.int .i64 0, .int .i64 0, .int .i64 0] 28)
  have hbe := hb.alloc hb.size (.cells #[.int .i64 0, .int .i64 0, .int .i64 0] 28)
  have hF := Blk.new w1 28 #[.int .i64 0, .int .i64 0, .int .i64 0]
  rw [← hwB] at hrd2 hbe hF
  obtain ⟨x, o, rfl, _, _, q0⟩ := Rd.rec_ (f := tkL [97, 46, 66, 49]) (size := 5) (fun _ => rfl) hrd2 rfl 0 (by decide)
  obtain ⟨x', o', hA, _, _, q2⟩ := Rd.rec_ (f := tkL [97, 46, 66, 49]) (size := 5) (fun _ => rfl) hrd2 rfl 2 (by decide)
  injection hA with hA
  injection hA with hA ho
  subst hA ho
  obtain ⟨x', o', hA, _, _, q3⟩ := Rd.rec_ (f := tkL [97, 46, 66, 49]) (size := 5) (fun _ => rfl) hrd2 rfl 3 (by decide)
  injection hA with hA
  injection hA with hA ho
  subst hA ho
  have c00 := q0 0 _ rfl
  have c20 := q2 0 _ rfl
  have c21 := q2 1 _ rfl
  have c33 := q3 3 _ rfl
  have c34 := q3 4 _ rfl
  have f0 := hF.cell 0
  have f1 := hF.cell 1
  have f2 := hF.cell 2
  have p3 : pos [97, 46, 66, 49] 4 = (1, 5) := rfl
  simp [p3] at c00 c20 c21 c33 c34 f0 f1 f2
  clear q0 q2 q3 hwB hrd hrd2 hb hF
  go_wp2_with fail
  go_ret
  exact ⟨rfl, hbe⟩

set_option maxRecDepth 100000 in
set_option maxHeartbeats 2000000 in
theorem word_any (l : List UInt8) (w : World) : Calls Tryd.prog 11 #[S l] w (Gives w (.bool (wordsL.contains l))) := by
  go_enter Tryd.func11, Tryd.ntmps11
  go_wp2_with fail
  go_loopw [7] (fun i wr => ∃ k : Nat, k ≤ 21 ∧ i = .int .i64 (k : Int) ∧ Below w.heap.size w wr ∧ Hid (Blk wr w.heap.size 9 (wordsL.map S).toArray) ∧ Hid (∀ j, j < k → ∀ x, wordsL[j]? = some x → x ≠ l)) (fun i _ => 21 - (intOf i).toNat)
  case atStart => exact ⟨0, by omega, rfl, (Below.refl _ _).alloc (Nat.le_refl _) _, Blk.new _ _ _, fun j hj => by omega⟩
  case round =>
    obtain ⟨k, hk, rfl, hb, hB, hall⟩ := hrel
    have HB := hide hb
    clear hb
    by_cases hlt : k < 21
    · obtain ⟨x, hx⟩ : ∃ x, wordsL[k]? = some x := ⟨_, List.getElem?_eq_getElem (by exact hlt)⟩
      have c0 : wr.cell? ⟨w.heap.size, k, none⟩ = some (S x) := by rw [hB.out.cell k]; simp [hx]
      by_cases e : x = l
      · subst e
        have HC : Hid (wordsL.contains x = true) := hide (List.contains_iff_mem.2 (List.mem_of_getElem? hx))
        clear hx hall
        go_wp2_with fail
        go_ret
        exact ⟨by rw [HC.out]; rfl, HB.out⟩
      · have d : (x == l) = false := by simpa using e
        have HX := hide hx
        clear hx
        go_wp2_with fail
        go_roundw
        case rel => exact ⟨k + 1, by omega, by go_num, HB.out, hB, fun j hj y hy => by
          rcases Nat.lt_or_ge j k with h | h
          · exact hall.out j h y hy
          · obtain rfl : j = k := by omega
            rw [HX.out] at hy
            injection hy with hy
            subst hy
            exact e⟩
        case measure => simp [intOf]; omega
    · have HC : Hid (wordsL.contains l = false) := hide (by
        cases h : wordsL.contains l
        · rfl
        · obtain ⟨j, hj, he⟩ := List.getElem_of_mem (List.contains_iff_mem.1 h)
          exact absurd he (hall.out j (by have : wordsL.length = 21 := rfl; omega) _ (List.getElem?_eq_getElem hj)))
      clear hall
      go_wp2_with fail
      go_ret
      exact ⟨by rw [HC.out]; rfl, HB.out⟩
end Go.Proofs.YtoilalfchnglcaaDoor
