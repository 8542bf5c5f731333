/- Contracts of package pack's Reader. -/
import Derived.Test.YtclgiapmbmbknaaMBase
import Derived.Test.YtclgiapmbmbknaaMReadFn
import Derived.Test.YtclgiapmbmbknaaProg
namespace Go.Proofs.Ytclgiapmbmbknaa
open Go.RowKit

def rcells : Option (List UInt8) → Array Value
  | some l => #[S l, .bool false]
  | none => #[S [], .bool true]
/-- A reader behind block g, of which st is left. -/
def Rs (w : World) (g : Nat) (st : Option (List UInt8)) : Prop := Blk w g 123 (rcells st)

/-- It answers v, and the reader behind g has come to st; nothing else that was there has turned. -/
def ReadDone (g : Nat) (v : Value) (st : Option (List UInt8)) (w : World) (e : Ending) (w' : World) : Prop :=
  e = .returned v ∧ Rs w' g st ∧ Keep (fun k => k = g) w w'

theorem fail_any (g : Nat) (st : Option (List UInt8)) (w : World) (h : Rs w g st) :
    Calls Try.prog 57 #[.pointer (some ⟨g, 0, none⟩)] w (ReadDone g (.int .i64 0) none w) := by
  have h2 : Rs ((w.setCell ⟨g, 0, none⟩ (S [])).setCell ⟨g, 1, none⟩ (.bool true)) g none := by
    unfold Rs at *
    have := (h.set_ 0 (S [])).set_ 1 (.bool true)
    cases st <;> simpa [rcells] using this
  have h3 : Keep (fun k => k = g) w ((w.setCell ⟨g, 0, none⟩ (S [])).setCell ⟨g, 1, none⟩ (.bool true)) :=
    ((Keep.refl (fun k => k = g) _).setCell (p := ⟨g, 0, none⟩) (fun _ => rfl) _).setCell (p := ⟨g, 1, none⟩) (fun _ => rfl) _
  obtain ⟨a, b, hb⟩ : ∃ a b, Blk w g 123 #[a, b] := by
    unfold Rs at h
    cases st
    · exact ⟨_, _, h⟩
    · exact ⟨_, _, h⟩
  have c0 : w.cell? ⟨g, 0, none⟩ = some a := hb.cell 0
  have c1 : w.cell? ⟨g, 1, none⟩ = some b := hb.cell 1
  have f0 := hb.frozen 0
  have f1 := hb.frozen 1
  clear h hb
  go_enter Try.func57, Try.ntmps57
  go_wp2
  go_ret
  exact ⟨rfl, h2, h3⟩

theorem num_none (m : Int) (w : World) : Calls Try.prog 56 #[.pointer none, .int .i64 m] w fun e w' => e = .returned (.int .i64 0) ∧ w = w' := by
  go_enter Try.func56, Try.ntmps56
  go_wp2
  go_ret
  exact ⟨rfl, rfl⟩

set_option maxRecDepth 100000 in
theorem num_bad (g : Nat) (m : Int) (w : World) (h : Rs w g none) : Calls Try.prog 56 #[.pointer (some ⟨g, 0, none⟩), .int .i64 m] w (ReadDone g (.int .i64 0) none w) := by
  have c1 : w.cell? ⟨g, 1, none⟩ = some (.bool true) := h.cell 1
  go_enter Try.func56, Try.ntmps56
  go_wp2
  go_ret
  exact ⟨rfl, h, Keep.refl _ _⟩

theorem rd_or (X c k : Nat) (hX : X < 128 ^ k) (hk : k ≤ 8) :
    bits .or .u64 (X : Int) (IntKind.u64.wrap ((c : Int) % 128 * 2 ^ (7 * k))) = ((X + c % 128 * 128 ^ k : Nat) : Int) ∧ X + c % 128 * 128 ^ k < 128 ^ (k + 1) ∧ X + c % 128 * 128 ^ k ≤ 9223372036854775807 := by
  have e1 : (2 : Nat) ^ (7 * k) = 128 ^ k := by rw [Nat.pow_mul]
  have hp : 0 < 128 ^ k := Nat.pow_pos (by decide)
  have h1 : X + c % 128 * 128 ^ k < 128 ^ (k + 1) := by
    rw [Nat.pow_succ]
    have : c % 128 * 128 ^ k ≤ 127 * 128 ^ k := Nat.mul_le_mul_right _ (by omega)
    omega
  have h2 : 128 ^ (k + 1) ≤ 128 ^ 9 := Nat.pow_le_pow_right (by decide) (by omega)
  have h3 : 128 ^ 9 = 9223372036854775808 := by decide
  refine ⟨?_, h1, by omega⟩
  have e2 : (c : Int) % 128 * 2 ^ (7 * k) = ((c % 128 * 128 ^ k : Nat) : Int) := by
    rw [← e1]
    push_cast
    rfl
  rw [e2, IntKind.wrap_u64, show ((c % 128 * 128 ^ k : Nat) : Int) % 18446744073709551616 = ((c % 128 * 128 ^ k : Nat) : Int) by omega, u64_or_nat _ _ (by omega) (by omega)]
  congr 1
  rw [Nat.or_comm, Nat.add_comm]
  exact nat_join (7 * k) _ X (by rw [e1]; exact Nat.mul_mod_left _ _) (by rw [e1]; exact hX)

set_option maxRecDepth 100000 in
set_option maxHeartbeats 1000000 in
theorem num_good (g : Nat) (m : Int) (l : List UInt8) (w : World) (hRs : Rs w g (some l)) (hm : m ≤ 9223372036854775807) (hl : l.length ≤ 9223372036854775807) :
    Calls Try.prog 56 #[.pointer (some ⟨g, 0, none⟩), .int .i64 m] w
      (ReadDone g (.int .i64 (numR m.toNat (some l)).1) (numR m.toNat (some l)).2 w) := by
  obtain ⟨R, hR⟩ : ∃ R, R = numR m.toNat (some l) := ⟨_, rfl⟩
  rw [← hR]
  have HRR := hide hR
  clear hR
  have c0 : w.cell? ⟨g, 0, none⟩ = some (S l) := hRs.cell 0
  have c1 : w.cell? ⟨g, 1, none⟩ = some (.bool false) := hRs.cell 1
  have f0 := hRs.frozen 0
  go_enter Try.func56, Try.ntmps56
  have h9 : l.length < 9 ∨ (9 ≤ l.length ∧ l.length ≤ 9) ∨ 9 < l.length := by omega
  rcases h9 with h9 | ⟨h9, h9'⟩ | h9
  all_goals
    go_wp2_with fail
    go_loop [5, 22] (fun x i => ∃ k X : Nat, k ≤ l.length ∧ k ≤ 9 ∧ i = .int .i64 k ∧ x = .int .u64 X ∧ X < 128 ^ k ∧ Hid (rdNum m.toNat l = rdF m.toNat (9 - k) k X (l.drop k))) (fun _ i => l.length - (intOf i).toNat)
    case atStart => exact ⟨0, 0, Nat.zero_le _, by omega, rfl, rfl, by decide, rfl⟩
    case round =>
      obtain ⟨k, X, hk, hk9, rfl, rfl, hX, HR⟩ := hrel
      by_cases hlt : k < l.length ∧ k < 9
      · obtain ⟨hlt, hlt9⟩ := hlt
        obtain ⟨C, hc⟩ : ∃ C, l[k].toNat = C := ⟨_, rfl⟩
        have hcl : C < 256 := by rw [← hc]; exact l[k].toNat_lt
        have HD : Hid (∃ c : UInt8, c.toNat = C ∧ l.drop k = c :: l.drop (k + 1)) := ⟨l[k], hc, List.drop_eq_getElem_cons hlt⟩
        obtain ⟨e1, e2, e3⟩ := rd_or X C k hX (by omega)
        have ea := u8_and_127 C hcl
        obtain ⟨Y, hY⟩ : ∃ Y, Y = X + C % 128 * 128 ^ k := ⟨_, rfl⟩
        rw [← hY] at e1 e2 e3
        have HY := hide hY
        clear hY
        by_cases h128 : 128 ≤ C
        · go_wp2_with fail
          go_round
          case rel => exact ⟨k + 1, Y, by omega, by omega, by go_num, rfl, e2, by obtain ⟨c, e1, e2⟩ := HD.out; unfold Hid; rw [HR.out, e2, show 9 - k = 9 - (k + 1) + 1 by omega, rdF, e1, if_pos h128, HY.out]⟩
          case measure => simp [intOf]; omega
        · have HF : Hid (((0 < k ∧ C = 0) ∨ m.toNat < Y → R = (0, none)) ∧ (¬ ((0 < k ∧ C = 0) ∨ m.toNat < Y) → R = (Y, some (l.drop (k + 1))))) := by
            have e : rdNum m.toNat l = if (0 < k ∧ C = 0) ∨ m.toNat < Y then none else some (Y, l.drop (k + 1)) := by
              obtain ⟨c, ec1, ec2⟩ := HD.out
              rw [HR.out, ec2, show 9 - k = 9 - (k + 1) + 1 by omega, rdF, ec1, if_neg h128]
              have e4 : X + C * 128 ^ k = Y := by rw [HY.out, Nat.mod_eq_of_lt (by omega)]
              rw [e4]
            unfold Hid
            rw [HRR.out]
            simp only [numR, e]
            exact ⟨fun h => by rw [if_pos h], fun h => by rw [if_neg h]⟩
          have hms : (m < 0 ∧ m.toNat = 0) ∨ ∃ M : Nat, m = M := by
            rcases Int.lt_or_le m 0 with h | h
            · exact .inl ⟨h, by omega⟩
            · exact .inr (Int.eq_ofNat_of_zero_le h)
          clear HRR HR HD HY hX e2 hk9
          by_cases hA : 0 < k ∧ C < 1
          · obtain ⟨hA1, hA2⟩ := hA
            have HG := hide (HF.out.1 (.inl ⟨hA1, by omega⟩))
            have hC0 : ((C : Int) == 0) = true := by simp; omega
            clear HF hms
            go_wp2_with fail
            refine (fail_any g (some l) w hRs).mono ?_
            rintro e w1 ⟨rfl, h1, h2⟩
            go_wp2
            go_ret
            exact ⟨by rw [HG.out]; rfl, by rw [HG.out]; exact h1, h2⟩
          · have hB : k < 1 ∨ (0 < k ∧ ((C : Int) == 0) = false) := by
              simp only [beq_eq_false_iff_ne, ne_eq]
              omega
            by_cases hM : m.toNat < Y
            · have HG := hide (HF.out.1 (.inr hM))
              clear HF
              rcases hms with ⟨hm0, hm1⟩ | ⟨M, rfl⟩ <;> rcases hB with hB | ⟨hB1, hB2⟩
              all_goals
                first
                  | (rw [hm1] at hM; clear hm1)
                  | rw [Int.toNat_natCast] at hM
                go_wp2_with fail
                refine (fail_any g (some l) w hRs).mono ?_
                rintro e w1 ⟨rfl, h1, h2⟩
                go_wp2
                go_ret
                exact ⟨by rw [HG.out]; rfl, by rw [HG.out]; exact h1, h2⟩
            · have HG := hide (HF.out.2 (by omega))
              replace hM := Nat.le_of_not_lt hM
              clear HF
              have hr1 := (hRs.set_ 0 (S (l.drop (k + 1))))
              have hr2 : Keep (fun k => k = g) w (w.setCell ⟨g, 0, none⟩ (S (l.drop (k + 1)))) := (Keep.refl (fun k => k = g) w).setCell (p := ⟨g, 0, none⟩) (fun _ => rfl) _
              have HR1 := hide hr1
              have HR2 := hide hr2
              clear hr1 hr2
              rcases hms with ⟨hm0, hm1⟩ | ⟨M, rfl⟩ <;> rcases hB with hB | ⟨hB1, hB2⟩
              all_goals
                first
                  | (rw [hm1] at hM; clear hm1)
                  | rw [Int.toNat_natCast] at hM
                go_wp2
                go_ret
                exact ⟨by rw [HG.out]; rfl, by rw [HG.out]; exact HR1.out, HR2.out⟩
      · have HG : Hid (R = (0, none)) := by
          have e : rdNum m.toNat l = none := by
            rw [HR.out]
            by_cases hk9' : k = 9
            · subst hk9'; rfl
            · rw [List.drop_of_length_le (by omega), show 9 - k = 9 - (k + 1) + 1 by omega]
              rfl
          unfold Hid
          rw [HRR.out]
          simp only [numR, e]
        go_wp2_with fail
        refine (fail_any g (some l) w hRs).mono ?_
        rintro e w1 ⟨rfl, h1, h2⟩
        go_wp2
        go_ret
        exact ⟨by rw [HG.out]; rfl, by rw [HG.out]; exact h1, h2⟩

end Go.Proofs.Ytclgiapmbmbknaa
/- Contracts of package pack's Reader, at whatever state; texts, flags, numbers with signs, how many parts; whether all was read. -/
namespace Go.Proofs.Ytclgiapmbmbknaa
open Go.RowKit

/-- A reader behind block g, of which st is left, no longer than Go's lengths go. -/
structure Rl (w : World) (g : Nat) (st : Option (List UInt8)) : Prop where
  rs : Rs w g st
  len : left_ st ≤ 9223372036854775807

def ReadsTo (g : Nat) (v : Value) (st : Option (List UInt8)) (w : World) (e : Ending) (w' : World) : Prop :=
  e = .returned v ∧ Rl w' g st ∧ Keep (fun k => k = g) w w'

theorem Rl.lt {w : World} {g : Nat} {st : Option (List UInt8)} (h : Rl w g st) : g < w.heap.size := Blk.lt h.rs
theorem Rl.keep {w w' : World} {g : Nat} {st : Option (List UInt8)} {F : Nat → Prop} (h : Rl w g st) (hk : Keep F w w') (hg : ¬ F g) : Rl w' g st := ⟨Blk.keep h.rs hk hg, h.len⟩
theorem Rl.alloc {w : World} {g : Nat} {st : Option (List UInt8)} (h : Rl w g st) (o : Obj) : Rl (w.alloc o) g st := ⟨Blk.alloc h.rs o, h.len⟩
theorem Rl.drewN {w : World} {g : Nat} {st : Option (List UInt8)} (h : Rl w g st) (n : Nat) : Rl (w.drewN n) g st := ⟨Blk.drewN h.rs n, h.len⟩
theorem Rl.new (w : World) (l : List UInt8) (h : l.length ≤ 9223372036854775807) : Rl (w.alloc (.cells #[S l, .bool false] 123)) w.heap.size (some l) := ⟨Blk.new _ _ _, h⟩
theorem Rl.bad {w : World} {g : Nat} {st : Option (List UInt8)} (h : Rl w g st) : w.cell? ⟨g, 1, none⟩ = some (.bool (st.isNone)) := by
  have := Blk.cell h.rs 1
  cases st <;> exact this
theorem Rl.str {w : World} {g : Nat} {st : Option (List UInt8)} (h : Rl w g st) : w.cell? ⟨g, 0, none⟩ = some (S (st.getD [])) := by
  have := Blk.cell h.rs 0
  cases st <;> exact this

theorem rnum_any (g : Nat) (m : Int) (st : Option (List UInt8)) (w : World) (h : Rl w g st) (hm : m ≤ 9223372036854775807) :
    Calls Try.prog 56 #[.pointer (some ⟨g, 0, none⟩), .int .i64 m] w (ReadsTo g (.int .i64 (numR m.toNat st).1) (numR m.toNat st).2 w) := by
  have hl := Nat.le_trans (numR_left m.toNat st) h.len
  cases st with
  | none => exact (num_bad g m w h.rs).mono fun e w' ⟨h1, h2, h3⟩ => ⟨h1, ⟨h2, hl⟩, h3⟩
  | some l => exact (num_good g m l w h.rs hm h.len).mono fun e w' ⟨h1, h2, h3⟩ => ⟨h1, ⟨h2, hl⟩, h3⟩

theorem rfail_any (g : Nat) (st : Option (List UInt8)) (w : World) (h : Rl w g st) :
    Calls Try.prog 57 #[.pointer (some ⟨g, 0, none⟩)] w (ReadsTo g (.int .i64 0) none w) :=
  (fail_any g st w h.rs).mono fun e w' ⟨h1, h2, h3⟩ => ⟨h1, ⟨h2, by simp [left_]⟩, h3⟩

theorem rok_any (g : Nat) (st : Option (List UInt8)) (w : World) (h : Rl w g st) :
    Calls Try.prog 58 #[.pointer (some ⟨g, 0, none⟩)] w fun e w' => e = .returned (.bool st.isSome) ∧ w = w' := by
  have hb := h.bad
  have hn : (!st.isNone) = st.isSome := by cases st <;> rfl
  go_enter Try.func58, Try.ntmps58
  go_wp2
  go_ret
  exact ⟨rfl, rfl⟩

theorem rok_none (w : World) : Calls Try.prog 58 #[.pointer none] w fun e w' => e = .returned (.bool false) ∧ w = w' := by
  go_enter Try.func58, Try.ntmps58
  go_wp2
  go_ret
  exact ⟨rfl, rfl⟩

theorem rdone_any (g : Nat) (st : Option (List UInt8)) (w : World) (h : Rl w g st) :
    Calls Try.prog 47 #[.pointer (some ⟨g, 0, none⟩)] w fun e w' => e = .returned (.int .i64 (doneR st)) ∧ w = w' := by
  have hs := h.str
  have H := hide (rok_any g st w h)
  rcases st with _ | _ | ⟨c, l⟩
  all_goals
    go_enter Try.func47, Try.ntmps47
    go_wp2_with fail
    refine (unhide H).mono ?_
    rintro e w1 ⟨rfl, rfl⟩
    go_wp2
    go_ret
    exact ⟨rfl, rfl⟩

set_option maxRecDepth 100000 in
theorem rtext_any (g : Nat) (m : Int) (st : Option (List UInt8)) (w : World) (h : Rl w g st) (hm : m ≤ 9223372036854775807) :
    Calls Try.prog 45 #[.pointer (some ⟨g, 0, none⟩), .int .i64 m] w (ReadsTo g (S (textR m.toNat st).1) (textR m.toNat st).2 w) := by
  obtain ⟨R, hR⟩ : ∃ R, R = textR m.toNat st := ⟨_, rfl⟩
  rw [← hR]
  have HR := hide hR
  clear hR
  go_enter Try.func45, Try.ntmps45
  go_wp2_with fail
  refine (rnum_any g m st w h hm).mono ?_
  rintro e w1 ⟨rfl, h1, h2⟩
  have hn := numR_le m.toNat st
  have hR := HR.out
  unfold textR at hR
  generalize (numR m.toNat st).1 = n at *
  generalize (numR m.toNat st).2 = s1 at *
  have HRR := hide hR
  clear hR HR
  have hb := h1.bad
  have hs := h1.str
  have f0 := Blk.frozen h1.rs 0
  cases s1 with
  | none =>
    go_wp2
    go_ret
    exact ⟨by rw [HRR.out] <;> rfl, by rw [HRR.out]; exact h1, h2⟩
  | some l =>
    have hlen : l.length ≤ 9223372036854775807 := h1.len
    simp only [Option.getD_some] at hs
    by_cases hlt : l.length < n
    · have HG : Hid (R = ([], none)) := by unfold Hid; rw [HRR.out]; simp only; rw [if_pos hlt]
      go_wp2_with fail
      refine (rfail_any g (some l) w1 h1).mono ?_
      rintro e w2 ⟨rfl, h3, h4⟩
      go_wp2
      go_ret
      exact ⟨by rw [HG.out] <;> rfl, by rw [HG.out]; exact h3, h2.trans h4⟩
    · have HG : Hid (R = (l.take n, some (l.drop n))) := by unfold Hid; rw [HRR.out]; simp only; rw [if_neg hlt]
      have hr1 : Rl (w1.setCell ⟨g, 0, none⟩ (S (l.drop n))) g (some (l.drop n)) := ⟨Blk.set_ h1.rs 0 (S (l.drop n)), by simp [left_]; omega⟩
      have hr2 := h2.setCell (p := ⟨g, 0, none⟩) (fun _ => rfl) (S (l.drop n))
      have HR1 := hide hr1
      have HR2 := hide hr2
      clear hr1 hr2
      go_wp2
      go_ret
      exact ⟨by rw [HG.out] <;> rfl, by rw [HG.out]; exact HR1.out, HR2.out⟩

set_option maxRecDepth 100000 in
theorem rmany_any (g : Nat) (m : Int) (st : Option (List UInt8)) (w : World) (h : Rl w g st) (hm : m ≤ 9223372036854775807) :
    Calls Try.prog 44 #[.pointer (some ⟨g, 0, none⟩), .int .i64 m] w (ReadsTo g (.int .i64 (manyR m.toNat st).1) (manyR m.toNat st).2 w) := by
  obtain ⟨R, hR⟩ : ∃ R, R = manyR m.toNat st := ⟨_, rfl⟩
  rw [← hR]
  have HR := hide hR
  clear hR
  go_enter Try.func44, Try.ntmps44
  go_wp2_with fail
  refine (rnum_any g m st w h hm).mono ?_
  rintro e w1 ⟨rfl, h1, h2⟩
  have hn := numR_le m.toNat st
  have hR := HR.out
  unfold manyR at hR
  generalize (numR m.toNat st).1 = n at *
  generalize (numR m.toNat st).2 = s1 at *
  have HRR := hide hR
  clear hR HR
  have hs := h1.str
  have hlen := h1.len
  unfold left_ at hlen
  by_cases hlt : (s1.getD []).length < n
  · have HG : Hid (R = (0, none)) := by unfold Hid; rw [HRR.out, left_, if_pos hlt]
    go_wp2_with fail
    refine (rfail_any g s1 w1 h1).mono ?_
    rintro e w2 ⟨rfl, h3, h4⟩
    go_wp2
    go_ret
    exact ⟨by rw [HG.out]; rfl, by rw [HG.out]; exact h3, h2.trans h4⟩
  · have HG : Hid (R = (n, s1)) := by unfold Hid; rw [HRR.out, left_, if_neg hlt]
    go_wp2
    go_ret
    exact ⟨by rw [HG.out] <;> rfl, by rw [HG.out]; exact h1, h2⟩

theorem unzz_bits (x : Nat) (hx : x < 18446744073709551616) :
    bits .xor .i64 ((x / 2 : Nat) : Int) (-((x % 2 : Nat) : Int)) = if x % 2 = 0 then ((x / 2 : Nat) : Int) else -((x / 2 : Nat) : Int) - 1 := by
  rcases Nat.mod_two_eq_zero_or_one x with h | h
  · rw [h, if_pos rfl]
    have : bits .xor .i64 ((x / 2 : Nat) : Int) ((0 : Nat) : Int) = ((x / 2 ^^^ 0 : Nat) : Int) := by
      show IntKind.i64.wrap ((BitVec.ofInt 64 ((x / 2 : Nat) : Int) ^^^ BitVec.ofInt 64 ((0 : Nat) : Int)).toNat : Int) = _
      rw [BitVec.ofInt_natCast, BitVec.ofInt_natCast, BitVec.toNat_xor, BitVec.toNat_ofNat, BitVec.toNat_ofNat, Nat.mod_eq_of_lt (a := x / 2) (by simp; omega), IntKind.wrap_i64]
      simp
      omega
    simpa using this
  · rw [h, if_neg (by decide)]
    show IntKind.i64.wrap ((BitVec.ofInt 64 ((x / 2 : Nat) : Int) ^^^ BitVec.ofInt 64 (-((1 : Nat) : Int))).toNat : Int) = _
    rw [show BitVec.ofInt 64 (-((1 : Nat) : Int)) = BitVec.allOnes 64 by decide, BitVec.xor_allOnes, BitVec.ofInt_natCast, BitVec.toNat_not, BitVec.toNat_ofNat, Nat.mod_eq_of_lt (a := x / 2) (by simp; omega), IntKind.wrap_i64]
    simp
    omega

theorem join32 (a b : Nat) (ha : a ≤ 4294967295) (hb : b ≤ 4294967295) : bits .or .u64 ((a : Int) * 4294967296) (b : Int) = ((a * 4294967296 + b : Nat) : Int) := by
  rw [show (a : Int) * 4294967296 = ((a * 4294967296 : Nat) : Int) by omega, u64_or_nat _ _ (by omega) (by omega)]
  congr 1
  exact nat_join 32 _ b (by omega) (by omega)

theorem u64_mask1 (a : Nat) (h : a < 18446744073709551616) : bits .and .u64 (a : Int) 1 = ((a % 2 : Nat) : Int) := by
  have e := u64_and_nat a 1 (by omega) (by omega)
  rw [show ((1 : Nat) : Int) = (1 : Int) from rfl] at e
  rw [e, nat_mask1]

end Go.Proofs.Ytclgiapmbmbknaa
