/- The lexer's steps, walked; no statement of the seat is proved here. -/
import Derived.Test.YtoilalfchnglcaaDoorLexM
import Derived.Test.YtoilalfchnglcaaDoorChecked
namespace Go.Proofs.YtoilalfchnglcaaDoor
open Go.RowKit

theorem run_index_str {P : Program} {t : TypeId} (hu : P.underlying t = some .string) (k : IntKind) (s : List UInt8) (j : Nat) (b : UInt8) (hb : s[j]? = some b) (w : World) : (Instr.index t (S s) (.int k (j : Int))).run P w = .ok (B8 b) w := by
  obtain ⟨hj, he⟩ := List.getElem?_eq_some_iff.1 hb
  have : (ByteArray.mk s.toArray)[j]? = some b := by
    rw [getElem?_pos (ByteArray.mk s.toArray) j hj]
    exact congrArg some he
  simp [Instr.index, asIntOf, run_underlying hu, this]

/-- The lexer at an offset of its text. -/
def LX (w : World) (g : Nat) (s : List UInt8) (a : Nat) : Prop := Blk w g 51 #[S s, .int .i64 (a : Int), .int .i64 ((pos s a).1 : Int), .int .i64 ((pos s a).2 : Int)]
theorem LX.lt {w : World} {g : Nat} {s : List UInt8} {a : Nat} (h : LX w g s a) : g < w.heap.size := Blk.lt h

set_option maxRecDepth 100000 in
set_option maxHeartbeats 2000000 in
theorem step_any (w : World) (g : Nat) (s : List UInt8) (a n : Nat) (h : LX w g s a) (hl : a + n ≤ s.length) (hs : s.length ≤ 1000000) :
    Calls Tryd.prog 18 #[.pointer (some ⟨g, 0, none⟩), .int .i64 (n : Int)] w fun e w' => e = .returned (.tuple #[]) ∧ Keep (fun k => k = g) w w' ∧ LX w' g s (a + n) := by
  have H := hide h
  clear h
  go_enter Tryd.func18, Tryd.ntmps18
  go_wp2_with fail
  go_loopw [5] (fun i wr => ∃ k : Nat, k ≤ n ∧ i = .int .i64 (k : Int) ∧ Keep (fun k => k = g) w wr ∧ LX wr g s (a + k)) (fun i _ => n - (intOf i).toNat)
  case atStart => exact ⟨0, by omega, rfl, Keep.refl _ _, H.out⟩
  case round =>
    clear H
    obtain ⟨k, hk, rfl, hkp, hx⟩ := hrel
    have HK := hide hkp
    have HX := hide hx
    clear hkp hx
    by_cases hlt : k < n
    · have hak : a + k < s.length := by omega
      have hb : Blk wr g 51 #[S s, .int .i64 ((a + k : Nat) : Int), .int .i64 ((pos s (a + k)).1 : Int), .int .i64 ((pos s (a + k)).2 : Int)] := HX.out
      have hp := pos_le s (a + k)
      have HP := hide (pos_succ s (a + k) hak)
      obtain ⟨c, hc⟩ : ∃ c, c = s[a + k] := ⟨_, rfl⟩
      rw [← hc] at HP
      generalize pos s (a + k) = q at hb hp HP
      obtain ⟨ln, co⟩ := q
      simp only at hb hp
      obtain ⟨b, hab⟩ : ∃ b, b = a + k := ⟨_, rfl⟩
      rw [← hab] at hb
      have c0 := hb.cell 0
      have c1 := hb.cell 1
      have c2 := hb.cell 2
      have c3 := hb.cell 3
      have f1 := hb.frozen 1
      have f2 := hb.frozen 2
      have f3 := hb.frozen 3
      have hix : ∀ w, (Instr.index 9 (S s) (.int .i64 (b : Int))).run Tryd.prog w = .ok (B8 c) w := fun w => run_index_str Tryd.underlying9 .i64 s b c (by rw [hab, hc]; exact List.getElem?_eq_getElem hak) w
      have hbl : b < 1000000 := by omega
      have HAB := hide hab
      clear hab hc
      by_cases hnl : c = 10
      · subst hnl
        have HQ : Hid (pos s (a + k + 1) = (ln + 1, 1)) := hide (by rw [HP.out]; rfl)
        clear HP
        go_wp2_with fail
        go_quiet (fail)
        go_wp2_with fail
        clear c0 c1 c2 c3 f1 f2 f3 hix
        go_roundw
        case rel => exact ⟨k + 1, by omega, by go_num, by
          exact (((HK.out.setCell (fun _ => rfl) _).drewN _).setCell (fun _ => rfl) _ |>.setCell (fun _ => rfl) _).setCell (fun _ => rfl) _, by
          have := ((((hb.set_ 3 (.int .i64 ((co : Int) + 1))).drewN nq).set_ 2 (.int .i64 ((ln : Int) + 1))).set_ 3 (.int .i64 1)).set_ 1 (.int .i64 ((b : Int) + 1))
          unfold LX
          rw [show a + (k + 1) = a + k + 1 from rfl, HQ.out, ← HAB.out]
          exact this⟩
        case measure => simp [intOf]; omega
      · have hne : ((c.toNat : Int) == 10) = false := by
          simp
          intro h
          exact hnl (UInt8.toNat_inj.1 (by have : c.toNat = 10 := by omega
                                           exact this))
        have HQ : Hid (pos s (a + k + 1) = (ln, co + 1)) := hide (by rw [HP.out, posStep, if_neg hnl])
        clear HP hnl
        go_wp2_with fail
        go_quiet (fail)
        go_wp2_with fail
        clear c0 c1 c2 c3 f1 f2 f3 hix hne
        go_roundw
        case rel => exact ⟨k + 1, by omega, by go_num, ((HK.out.setCell (fun _ => rfl) _).drewN _).setCell (fun _ => rfl) _, by
          have := ((hb.set_ 3 (.int .i64 ((co : Int) + 1))).drewN nq).set_ 1 (.int .i64 ((b : Int) + 1))
          unfold LX
          rw [show a + (k + 1) = a + k + 1 from rfl, HQ.out, ← HAB.out]
          exact this⟩
        case measure => simp [intOf]; omega
    · obtain rfl : k = n := by omega
      go_wp2_with fail
      refine bodyPost_end (v := .tuple #[]) ?_ rfl ⟨rfl, HK.out, HX.out⟩
      simp [results, go_sem]
end Go.Proofs.YtoilalfchnglcaaDoor
