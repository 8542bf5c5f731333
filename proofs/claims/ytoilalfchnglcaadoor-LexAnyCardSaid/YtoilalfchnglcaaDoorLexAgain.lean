/- Tokens written again: the law's walk; no statement of the seat is proved here. -/
import Derived.Test.YtoilalfchnglcaaDoorLexLaw
namespace Go.Proofs.YtoilalfchnglcaaDoor
open Go.RowKit

theorem lexR_err : ∀ (f : Nat) (rest : List UInt8) (a er b : Nat), lexR f rest a = .error (er, b) → rest.length < f → (er = 4 ∨ er = 20 ∨ er = 22) ∧ a ≤ b ∧ b ≤ a + rest.length
  | 0, _, _, _, _, _, h => absurd h (Nat.not_lt_zero _)
  | f + 1, rest, a, er, b, h, hf => by
    have hl := skipR_len false rest
    have hb : (a + (rest.length - (skipR false rest).length)) + (skipR false rest).length = a + rest.length := by omega
    rw [lexR_succ f rest _ a _ rfl hb] at h
    cases hn : nextM (skipR false rest) with
    | error e =>
      rw [hn] at h
      injection h with h
      injection h with h1 h2
      subst h1 h2
      exact ⟨nextM_err hn, by omega, by omega⟩
    | ok t =>
      rw [hn] at h
      obtain ⟨hpre, hp, _, h0⟩ := nextM_len hn
      have hpl := hpre.length_le
      by_cases hk : t.kind = 0
      · simp only [hk, if_true] at h
        cases h
      · simp only [hk, if_false] at h
        have hpk := hp hk
        cases hx : lexR f ((skipR false rest).drop t.text.length) (a + (rest.length - (skipR false rest).length) + t.text.length) with
        | ok ts' => rw [hx] at h; cases h
        | error e =>
          rw [hx] at h
          injection h with h
          subst h
          obtain ⟨h1, h2, h3⟩ := lexR_err f _ _ _ _ hx (by rw [List.length_drop]; omega)
          rw [List.length_drop] at h3
          exact ⟨h1, by omega, by omega⟩
theorem lexM_err {s : List UInt8} {er b : Nat} (hs : s.length ≤ 65536) (h : lexM s = .error (er, b)) : (er = 4 ∨ er = 20 ∨ er = 22) ∧ b ≤ s.length := by
  rw [lexM, if_neg (by omega)] at h
  obtain ⟨h1, _, h2⟩ := lexR_err _ _ _ _ _ h (by omega)
  exact ⟨h1, by omega⟩
theorem err_ne {er : Nat} (h : er = 4 ∨ er = 20 ∨ er = 22) : ((er : Int) != 0) = true := by rcases h with rfl | rfl | rfl <;> rfl
theorem againL_take (ts : List (Tk × Nat)) (k : Nat) (hk : k < ts.length) : againL (ts.take (k + 1)) = againL (ts.take k) ++ ts[k].1.text ++ [32] := by
  unfold againL
  rw [List.take_succ_eq_append_getElem hk, List.flatMap_append, List.flatMap_cons, List.flatMap_nil, List.append_nil, List.append_assoc]
theorem againL_le (ts : List (Tk × Nat)) (k : Nat) : (againL (ts.take k)).length ≤ (againL ts).length := by
  have h : againL ts = againL (ts.take k) ++ againL (ts.drop k) := by
    unfold againL
    rw [← List.flatMap_append, List.take_append_drop]
  rw [h, List.length_append]
  omega

set_option maxRecDepth 100000 in
set_option maxHeartbeats 4000000 in
theorem lexagain_any (s : List UInt8) (hsl : s.length ≤ maxLen) (w : World) (hm : Laid w) : Calls Tryd.prog 4 #[S s] w (Gives w (.bool true)) := by
  unfold maxLen at hsl
  have HH := hide (head_any w hm)
  have HM := hide hm
  clear hm
  by_cases hs5 : 500 < s.length
  · go_enter Tryd.func4, Tryd.ntmps4
    go_wp2_with (go_at_call 9; refine HH.out.mono ?_; rintro e w1 ⟨rfl, hb1⟩)
    go_ret
    exact ⟨rfl, hb1⟩
  · cases hl : lexM s with
    | error e =>
      obtain ⟨er, b⟩ := e
      have he := err_ne (lexM_err (by omega) hl).1
      have HL := hide hl
      clear hl
      go_enter Tryd.func4, Tryd.ntmps4
      go_upto_region 5 with (go_at_call 9; refine HH.out.mono ?_; rintro e w1 ⟨rfl, hb1⟩)
      have HA := hide (all_err (w := w1) (s := s) (by omega) (HM.out.below hb1 (Nat.le_refl _)) HL.out)
      have HB1 := hide hb1
      clear hb1
      go_wp2_with (go_at_call 10; refine HA.out.mono ?_; rintro e w2 ⟨hb2, rfl⟩)
      go_ret
      exact ⟨rfl, (HB1.out.trans (hb2.mono HB1.out.size)).alloc (Nat.le_trans HB1.out.size hb2.size) _⟩
    | ok ts =>
      obtain ⟨hal, us, hu, hmap⟩ := lexM_again (by omega) hl
      have hlen : us.length = ts.length := by have := congrArg List.length hmap; simpa using this
      have HIX : Hid (∀ k (hk : k < ts.length) (hk' : k < us.length), us[k].1 = ts[k].1) := hide (fun k hk hk' => by
        have := congrArg (fun l => l[k]?) hmap
        simp [hk, hk'] at this
        exact this)
      have HL := hide hl
      have HU := hide hu
      have hn : ts.length ≤ 1001 := by
        have h2 : ts.length ≤ (againL ts).length := by
          clear hal hu hmap hlen HIX HL HU hl
          induction ts with
          | nil => simp
          | cons t ts ih => rw [againL_cons]; simp; omega
        omega
      clear hl hu hmap
      go_enter Tryd.func4, Tryd.ntmps4
      go_upto_region 5 with (go_at_call 9; refine HH.out.mono ?_; rintro e w1 ⟨rfl, hb1⟩)
      have HA := hide (all_ok (w := w1) (s := s) (by omega) (HM.out.below hb1 (Nat.le_refl _)) HL.out)
      have HB1 := hide hb1
      clear hb1 HH
      go_upto_region 6 with (go_at_call 10; refine HA.out.mono ?_; rintro e v2 ⟨hb2, A, c, rfl, hr2⟩)
      refine name_world ?_
      intro w2 hw2
      have HB2 : Hid (Below w.heap.size w w2) := hide (by rw [hw2]; exact (HB1.out.trans (hb2.mono HB1.out.size)).alloc (Nat.le_trans HB1.out.size hb2.size) _)
      have HR2 : Hid (Rd w2 (fun k => k < w1.heap.size) 5 A ts.length (ts.flatMap (tkL s))) := hide (by rw [hw2]; exact hr2.alloc _)
      have hF2 : Blk w2 v2.heap.size 28 #[.int .i64 0, .int .i64 0, .int .i64 0] := by rw [hw2]; exact Blk.new _ _ _
      have f0 := hF2.cell 0
      simp at f0
      clear hw2 hb2 hr2 HA hF2
      go_upto_region 9 with fail
      go_wp2_with fail
      go_loopw [5, 26] (fun v i wr => ∃ k : Nat, k ≤ ts.length ∧ i = .int .i64 (k : Int) ∧ v = S (againL (ts.take k)) ∧ Below w2.heap.size w2 wr) (fun _ i _ => ts.length - (intOf i).toNat)
      case atStart => exact ⟨0, by omega, rfl, rfl, Below.refl _ _⟩
      case round =>
        obtain ⟨k, hk, rfl, rfl, hbr⟩ := hrel
        have HBR := hide hbr
        by_cases hlt : k < ts.length
        · obtain ⟨b, o, rfl, _, _, c0, c1, c2, c3, c4⟩ := rd_tok (HR2.out.keep (Keep.of_below (F := fun k => k < w1.heap.size) hbr (fun k h1 h2 => absurd h1 (by omega)))) k hlt
          have HT := hide (againL_take ts k hlt)
          have h1 := againL_le ts (k + 1)
          rw [HT.out] at h1
          simp only [List.length_append, List.length_cons, List.length_nil] at h1
          generalize ts[k] = t at c0 c1 c2 c3 c4 HT h1
          generalize againL (ts.take k) = X at HT h1
          generalize pos s t.2 = q at c3 c4
          obtain ⟨⟨tk, tx, tn⟩, ta⟩ := t
          simp only at c0 c1 c2 c3 c4 HT h1
          clear hbr
          go_wp2_with fail
          go_roundw
          case rel => exact ⟨k + 1, by omega, by go_num, by rw [HT.out, List.append_assoc], HBR.out.alloc HBR.out.size _⟩
          case measure => simp [intOf]; omega
        · obtain rfl : k = ts.length := by omega
          have hta : againL (ts.take ts.length) = againL ts := by rw [List.take_length]
          rw [hta]
          have HA := hide (all_ok (w := wr) (s := againL ts) (by omega) (HM.out.below (HB2.out.trans (hbr.mono HB2.out.size)) (Nat.le_refl _)) HU.out)
          clear hbr hta
          go_upto_region 15 with (go_at_call 10; refine HA.out.mono ?_; rintro e v3 ⟨hb3, A3, c3, rfl, hr3⟩)
          refine name_world ?_
          intro w4 hw4
          have HB4 : Hid (Below wr.heap.size wr w4) := hide (by rw [hw4]; exact hb3.alloc hb3.size _)
          have HR4 : Hid (Rd w4 (fun k => k < wr.heap.size) 5 A3 us.length (us.flatMap (tkL (againL ts)))) := hide (by rw [hw4]; exact hr3.alloc _)
          have HR5 := hide ((HR2.out.keep (Keep.of_below (F := fun k => k < w1.heap.size) HBR.out (fun k h1 h2 => absurd h1 (by omega)))).keep (Keep.of_below (F := fun k => k < w1.heap.size) HB4.out (fun k h1 h2 => absurd h1 (by omega))))
          have HB5 := hide ((HB2.out.trans (HBR.out.mono HB2.out.size)).trans (HB4.out.mono (Nat.le_trans HB2.out.size HBR.out.size)))
          have hF4 : Blk w4 v3.heap.size 28 #[.int .i64 0, .int .i64 0, .int .i64 0] := by rw [hw4]; exact Blk.new _ _ _
          have f0 := hF4.cell 0
          have f1 := hF4.cell 1
          have f2 := hF4.cell 2
          simp at f0 f1 f2
          clear hw4 hb3 hr3 HA hF4 HR2 HB2 HBR HB1
          have HLE := hide hlen
          go_upto_region 17 with fail
          go_wp2_with fail
          go_loopw [53] (fun i wx => ∃ k m : Nat, k ≤ ts.length ∧ i = .int .i64 (k : Int) ∧ wx = w4.drewN m) (fun i _ => ts.length - (intOf i).toNat)
          case atStart => exact ⟨0, 0, by omega, rfl, rfl⟩
          case round =>
            obtain ⟨k, m, hk, rfl, rfl⟩ := hrel
            by_cases hlt : k < ts.length
            · have hlt' : k < us.length := by rw [HLE.out]; exact hlt
              obtain ⟨b, o, rfl, _, _, c0, c1, c2, _, _⟩ := rd_tok HR5.out k hlt
              obtain ⟨b', o', rfl, _, _, d0, d1, d2, _, _⟩ := rd_tok HR4.out k hlt'
              rw [HIX.out k hlt hlt'] at d0 d1 d2
              generalize ts[k].1 = t at c0 c1 c2 d0 d1 d2
              obtain ⟨tk, tx, tn⟩ := t
              simp only at c0 c1 c2 d0 d1 d2
              clear hlen f0 f1 f2
              go_wp2_with fail
              go_quiet (fail)
              go_wp2_with fail
              clear c0 c1 c2 d0 d1 d2
              go_roundw
              case rel => exact ⟨k + 1, _, by omega, by go_num, rfl⟩
              case measure => simp [intOf]; omega
            · clear hlen f0 f1 f2
              go_wp2_with fail
              go_ret
              exact ⟨rfl, bdrewN HB5.out _⟩
end Go.Proofs.YtoilalfchnglcaaDoor
