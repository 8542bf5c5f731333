/- The lexer's skip, walked; no statement of the seat is proved here. -/
import Derived.Test.YtoilalfchnglcaaDoorLexRun
import Derived.Lib.IndexLaws
namespace Go.Proofs.YtoilalfchnglcaaDoor
open Go.RowKit

theorem ib_cons (c : UInt8) (l : List UInt8) (b : UInt8) : Lib.indexByte (c :: l) b = if c = b then 0 else if Lib.indexByte l b = -1 then -1 else Lib.indexByte l b + 1 := by
  by_cases h : c = b
  · subst h; simp [Lib.indexByte]
  · rw [if_neg h]
    have h' : (c == b) = false := by simpa using h
    simp only [Lib.indexByte, h']
    by_cases h2 : Lib.indexByte l b = -1
    · simp [h2]
    · have := Lib.indexByte_ge l b
      simp [h2]
      try omega
/-- How far a remark goes. -/
def remN (l : List UInt8) : Nat := if Lib.indexByte l 10 < 0 then l.length else (Lib.indexByte l 10).toNat
theorem ib_lt (l : List UInt8) (b : UInt8) : Lib.indexByte l b < l.length := by
  induction l with
  | nil => simp [Lib.indexByte]
  | cons c l ih =>
    rw [ib_cons]
    split
    · simp
    · split
      · simp; omega
      · simp; omega
theorem remN_le (l : List UInt8) : remN l ≤ l.length := by
  unfold remN
  have := ib_lt l 10
  have := Lib.indexByte_ge l 10
  split <;> omega
theorem skipR_drop : ∀ l : List UInt8, skipR true l = skipR false (l.drop (remN l))
  | [] => by simp [skipR, remN]
  | c :: l => by
    have ih := skipR_drop l
    have hg := Lib.indexByte_ge l 10
    by_cases h : c = 10
    · subst h
      simp [skipR, remN, ib_cons, blankB]
    · have hc : (c == 10) = false := by simpa using h
      have e : remN (c :: l) = remN l + 1 := by
        unfold remN
        rw [ib_cons, if_neg h]
        by_cases h2 : Lib.indexByte l 10 = -1
        · rw [if_pos h2, h2]; simp
        · rw [if_neg h2, if_neg (by omega), if_neg (by omega)]; omega
      rw [e, List.drop_succ_cons, ← ih]
      simp [skipR, hc]
theorem skipR_blank (c : UInt8) (l : List UInt8) (h : blankB c = true) : skipR false (c :: l) = skipR false l := by simp [skipR, h]
theorem skipR_rem (l : List UInt8) (h : Lib.hasPrefix l [47, 47] = true) : skipR false l = skipR false (l.drop (remN l)) := by
  rw [← skipR_drop]
  match l, h with
  | [], h => simp [Lib.hasPrefix, List.isPrefixOf] at h
  | [a], h => simp [Lib.hasPrefix, List.isPrefixOf] at h
  | a :: b :: l, h =>
    simp [Lib.hasPrefix, List.isPrefixOf] at h
    obtain ⟨rfl, rfl⟩ := h
    simp [skipR, blankB]
theorem skipR_stay (c : UInt8) (l : List UInt8) (h : blankB c = false) (h2 : Lib.hasPrefix (c :: l) [47, 47] = false) : skipR false (c :: l) = c :: l := by
  have h3 : (c == 47 && l.head? == some 47) = false := by
    cases l with
    | nil => simp
    | cons d l =>
      simp [Lib.hasPrefix, List.isPrefixOf] at h2
      simp
      exact fun e => h2 e.symm ∘ Eq.symm
  rw [skipR]
  simp only [h, h3]
  simp
theorem blankB_true (c : UInt8) : blankB c = true ↔ c = 32 ∨ c = 9 ∨ c = 10 ∨ c = 13 := by
  simp [blankB, or_assoc]
theorem hp_rem (l : List UInt8) (h : Lib.hasPrefix l [47, 47] = true) : 1 ≤ remN l := by
  match l, h with
  | [], h => simp [Lib.hasPrefix, List.isPrefixOf] at h
  | [a], h => simp [Lib.hasPrefix, List.isPrefixOf] at h
  | a :: b :: l, h =>
    simp [Lib.hasPrefix, List.isPrefixOf] at h
    obtain ⟨rfl, rfl⟩ := h
    unfold remN
    have e : Lib.indexByte (47 :: 47 :: l) 10 = if Lib.indexByte (47 :: l) 10 = -1 then -1 else Lib.indexByte (47 :: l) 10 + 1 := by
      rw [ib_cons]; exact if_neg (by decide)
    have := Lib.indexByte_ge (47 :: l) 10
    rw [e]
    simp only [List.length_cons]
    by_cases h2 : Lib.indexByte (47 :: l) 10 = -1
    · rw [if_pos h2, if_pos (by omega)]; omega
    · rw [if_neg h2, if_neg (by omega)]; omega
theorem u8_ne {c d : UInt8} (h : c ≠ d) : ((c.toNat : Int) == (d.toNat : Int)) = false := by
  simp
  intro e
  exact h (UInt8.toNat_inj.1 (by omega))

/-- The lexer's offset as its cell has it. -/
def atOf (w : World) (g : Nat) : Nat := match w.cell? ⟨g, 1, none⟩ with
  | some (.int _ n) => n.toNat
  | _ => 0
theorem LX.at_ {w : World} {g : Nat} {s : List UInt8} {a : Nat} (h : LX w g s a) : atOf w g = a := by
  have := Blk.cell h 1
  unfold atOf
  rw [this]
  rfl

theorem hp_any (l p : List UInt8) (w : World) : Calls Tryd.prog 19 #[S l, S p] w fun e w' => e = .returned (.bool (Lib.hasPrefix l p)) ∧ w' = w := Tryd.strings_HasPrefix ⟨l.toArray⟩ ⟨p.toArray⟩ w
theorem ib_any (l : List UInt8) (w : World) : Calls Tryd.prog 20 #[S l, .int .u8 10] w fun e w' => e = .returned (.int .i64 (Lib.indexByte l 10)) ∧ w' = w := Tryd.strings_IndexByte ⟨l.toArray⟩ 10 w

set_option maxRecDepth 100000 in
set_option maxHeartbeats 2000000 in
theorem skip_any (w : World) (g : Nat) (s : List UInt8) (a : Nat) (h : LX w g s a) (ha : a ≤ s.length) (hs : s.length ≤ 1000000) :
    Calls Tryd.prog 14 #[.pointer (some ⟨g, 0, none⟩)] w fun e w' => e = .returned (.tuple #[]) ∧ Keep (fun k => k = g) w w' ∧ ∃ b, a ≤ b ∧ b ≤ s.length ∧ s.drop b = skipR false (s.drop a) ∧ LX w' g s b := by
  have H := hide h
  clear h
  go_enter Tryd.func14, Tryd.ntmps14
  go_wp2_with fail
  go_loopw [] (fun wr => ∃ b : Nat, a ≤ b ∧ b ≤ s.length ∧ Keep (fun k => k = g) w wr ∧ LX wr g s b ∧ Hid (skipR false (s.drop a) = skipR false (s.drop b))) (fun wr => s.length - atOf wr g)
  case atStart => exact ⟨a, by omega, by omega, Keep.refl _ _, H.out, rfl⟩
  case round =>
    clear H
    obtain ⟨b, hab, hb, hkp, hx, hsk⟩ := hrel
    have HK := hide hkp
    have HX := hide hx
    have HM : Hid (atOf wr g = b) := hide hx.at_
    have c0 : wr.cell? ⟨g, 0, none⟩ = some (S s) := Blk.cell hx 0
    have c1 : wr.cell? ⟨g, 1, none⟩ = some (.int .i64 (b : Int)) := Blk.cell hx 1
    clear hkp hx
    by_cases hlt : b < s.length
    · obtain ⟨c, hc⟩ : ∃ c, s[b]? = some c := ⟨_, List.getElem?_eq_getElem hlt⟩
      have hix : ∀ w, (Instr.index 9 (S s) (.int .i64 (b : Int))).run Tryd.prog w = .ok (B8 c) w := fun w => run_index_str (P := Tryd.prog) Tryd.underlying9 .i64 s b c hc w
      have hd : s.drop b = c :: s.drop (b + 1) := by
        rw [List.drop_eq_getElem_cons hlt, (List.getElem?_eq_some_iff.1 hc).2]
      have HD := hide hd
      clear hc hd
      cases hbl : blankB c
      · obtain ⟨r, hr⟩ : ∃ r, r = s.drop b := ⟨_, rfl⟩
        have hrl : r.length = s.length - b := by rw [hr, List.length_drop]
        have n32 : ((c.toNat : Int) == 32) = false := u8_ne (d := 32) (fun e => by subst e; cases hbl)
        have n9 : ((c.toNat : Int) == 9) = false := u8_ne (d := 9) (fun e => by subst e; cases hbl)
        have n10 : ((c.toNat : Int) == 10) = false := u8_ne (d := 10) (fun e => by subst e; cases hbl)
        have n13 : ((c.toNat : Int) == 13) = false := u8_ne (d := 13) (fun e => by subst e; cases hbl)
        have HHP := fun w => hide (hp_any r [47, 47] w)
        have HIB := fun w => hide (ib_any r w)
        rw [hr] at HHP HIB
        cases hpx : Lib.hasPrefix r [47, 47]
        · have HS : Hid (s.drop b = skipR false (s.drop a)) := hide (by rw [hsk.out, HD.out, skipR_stay _ _ hbl (by rw [← HD.out, ← hr]; exact hpx)])
          rw [hr] at hpx
          have HP := hide hpx
          simp only [hpx] at HHP
          have hble := hide hbl
          clear hpx hbl hsk HD hr hrl HIB
          go_wp2_with fail
          go_quiet (fail)
          go_wp2_with fail
          go_quiet (fail)
          go_wp2_with fail
          go_quiet ((go_at_call 19; exact quiet_add_same (HHP _).out))
          go_wp2_with fail
          refine bodyPost_ret (v := .tuple #[]) ?_ rfl ⟨rfl, (HK.out.drewN _).drewN _, _, hab, hb, HS.out, Blk.drewN (Blk.drewN HX.out _) _⟩
          simp [results, go_sem]
        · have HS : Hid (skipR false (s.drop a) = skipR false (s.drop (b + remN r))) := hide (by rw [hsk.out, skipR_rem _ (by rw [← hr]; exact hpx), List.drop_drop, ← hr])
          have h1 := hp_rem _ hpx
          have h2 := remN_le r
          rw [hrl] at h2
          obtain ⟨n, hn⟩ : ∃ n, n = remN r := ⟨_, rfl⟩
          rw [← hn] at HS h1 h2
          rw [hr] at hpx
          simp only [hpx] at HHP
          clear hpx
          by_cases hneg : Lib.indexByte r 10 < 0
          · have hnn : n = s.length - b := by rw [hn, remN, if_pos hneg, hrl]
            obtain ⟨z, hz⟩ : ∃ z, z = Lib.indexByte r 10 := ⟨_, rfl⟩
            rw [← hr, ← hz] at HIB
            rw [← hz] at hneg
            rw [hr] at HIB
            have hnz : (s.length : Int) - (b : Int) = (n : Nat) := by omega
            have HZ := hide hnz
            have HN := hide hnn
            clear hbl hsk HD hr hrl hn hz hnn hnz
            go_wp2_with fail
            go_quiet (fail)
            go_wp2_with fail
            go_quiet (fail)
            go_wp2_with fail
            go_quiet ((go_at_call 19; exact quiet_add_same (HHP _).out))
            go_wp2_with fail
            go_quiet ((go_at_call 20; exact quiet_add_same (HIB _).out))
            have hnz := HZ.out
            go_wp2_with fail
            have e0 : IntKind.i64.wrap ((s.length : Int) - (b : Int)) = (n : Nat) := by rw [IntWalk.i64_in _ (by omega)]; exact hnz
            go_quiet (fail)
            clear e0
            go_wp2_with (go_at_call 18; refine (step_any _ g s b n (by exact Blk.drewN HX.out _) (by omega) hs).mono ?_; rintro e w' ⟨rfl, hk1, hx1⟩)
            clear c0 c1 hix hnz HHP HIB
            go_roundw
            case rel => exact ⟨b + n, by omega, by omega, (HK.out.drewN _).trans hk1, hx1, HS⟩
            case measure => rw [HM.out, LX.at_ hx1]; omega
          · have hnn : Lib.indexByte r 10 = (n : Nat) := by rw [hn, remN, if_neg hneg]; omega
            rw [hr] at hnn
            simp only [hnn] at HIB
            clear hbl hsk HD hr hn hneg hnn
            go_wp2_with fail
            go_quiet (fail)
            go_wp2_with fail
            go_quiet (fail)
            go_wp2_with fail
            go_quiet ((go_at_call 19; exact quiet_add_same (HHP _).out))
            go_wp2_with fail
            go_quiet ((go_at_call 20; exact quiet_add_same (HIB _).out))
            go_wp2_with (go_at_call 18; refine (step_any _ g s b n (by exact Blk.drewN HX.out _) (by omega) hs).mono ?_; rintro e w' ⟨rfl, hk1, hx1⟩)
            clear c0 c1 hix HHP HIB
            go_roundw
            case rel => exact ⟨b + n, by omega, by omega, (HK.out.drewN _).trans hk1, hx1, HS⟩
            case measure => rw [HM.out, LX.at_ hx1]; omega
      · have HS : Hid (skipR false (s.drop a) = skipR false (s.drop (b + 1))) := hide (by rw [hsk.out, HD.out, skipR_blank _ _ hbl])
        have hcc := (blankB_true c).1 hbl
        clear hbl HD hsk
        rcases hcc with rfl | rfl | rfl | rfl
        all_goals
          go_wp2_with fail
          go_quiet (fail)
          go_wp2_with fail
          go_quiet (fail)
          go_wp2_with (go_at_call 18; refine (step_any _ g s b 1 (by exact Blk.drewN HX.out _) (by omega) hs).mono ?_; rintro e w' ⟨rfl, hk1, hx1⟩)
          clear c0 c1 hix
          go_roundw
          case rel => exact ⟨b + 1, by omega, by omega, (HK.out.drewN _).trans hk1, hx1, HS⟩
          case measure => rw [HM.out, LX.at_ hx1]; omega
    · obtain rfl : b = s.length := by omega
      have HS : Hid (s.drop s.length = skipR false (s.drop a)) := hide (by rw [hsk.out, List.drop_length]; rfl)
      clear hsk
      go_wp2_with fail
      go_quiet (fail)
      go_wp2_with fail
      refine bodyPost_end (v := .tuple #[]) ?_ rfl ⟨rfl, HK.out.drewN _, _, hab, hb, HS.out, Blk.drewN HX.out _⟩
      simp [results, go_sem]
end Go.Proofs.YtoilalfchnglcaaDoor
