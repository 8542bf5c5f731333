/- Contracts of package pack's Reader, at whatever state; texts, flags, numbers with signs, how many parts; whether all was read. -/
import Derived.Test.YtcebeihkofomeaaReader
namespace Go.Proofs.Ytcebeihkofomeaa
open Go.RowKit

/-- A reader behind block g, of which st is left, no longer than Go's lengths go. -/
structure Rl (w : World) (g : Nat) (st : Option (List UInt8)) : Prop where
  rs : Rs w g st
  len : left_ st ≤ 9223372036854775807

def ReadsTo (g : Nat) (v : Value) (st : Option (List UInt8)) (w : World) (e : Ending) (w' : World) : Prop :=
  e = .returned v ∧ Rl w' g st ∧ Keep (fun k => k = g) w w'

theorem Rl.lt {w : World} {g : Nat} {st : Option (List UInt8)} (h : Rl w g st) : g < w.heap.size := Blk.lt h.rs
theorem Rl.keep {w w' : World} {g : Nat} {st : Option (List UInt8)} {F : Nat → Prop} (h : Rl w g st) (hk : Keep F w w') (hg : ¬ F g) : Rl w' g st := ⟨Blk.keep h.rs hk hg, h.len⟩
theorem Rl.alloc {w : World} {g : Nat} {st : Option (List UInt8)} (h : Rl w g st) (o : Obj) : Rl (w.alloc o) g st := ⟨Blk.alloc h.rs o, h.len⟩
theorem Rl.drewN {w : World} {g : Nat} {st : Option (List UInt8)} (h : Rl w g st) (n : Nat) : Rl (w.drewN n) g st := ⟨Blk.drewN h.rs n, h.len⟩
theorem Rl.new (w : World) (l : List UInt8) (h : l.length ≤ 9223372036854775807) : Rl (w.alloc (.cells #[S l, .bool false] 73)) w.heap.size (some l) := ⟨Blk.new _ _ _, h⟩
theorem Rl.bad {w : World} {g : Nat} {st : Option (List UInt8)} (h : Rl w g st) : w.cell? ⟨g, 1, none⟩ = some (.bool (st.isNone)) := by
  have := Blk.cell h.rs 1
  cases st <;> exact this
theorem Rl.str {w : World} {g : Nat} {st : Option (List UInt8)} (h : Rl w g st) : w.cell? ⟨g, 0, none⟩ = some (S (st.getD [])) := by
  have := Blk.cell h.rs 0
  cases st <;> exact this

theorem rnum_any (g : Nat) (m : Int) (st : Option (List UInt8)) (w : World) (h : Rl w g st) (hm : m ≤ 9223372036854775807) :
    Calls Try.prog 25 #[.pointer (some ⟨g, 0, none⟩), .int .i64 m] w (ReadsTo g (.int .i64 (numR m.toNat st).1) (numR m.toNat st).2 w) := by
  have hl := Nat.le_trans (numR_left m.toNat st) h.len
  cases st with
  | none => exact (num_bad g m w h.rs).mono fun e w' ⟨h1, h2, h3⟩ => ⟨h1, ⟨h2, hl⟩, h3⟩
  | some l => exact (num_good g m l w h.rs hm h.len).mono fun e w' ⟨h1, h2, h3⟩ => ⟨h1, ⟨h2, hl⟩, h3⟩

theorem rfail_any (g : Nat) (st : Option (List UInt8)) (w : World) (h : Rl w g st) :
    Calls Try.prog 26 #[.pointer (some ⟨g, 0, none⟩)] w (ReadsTo g (.int .i64 0) none w) :=
  (fail_any g st w h.rs).mono fun e w' ⟨h1, h2, h3⟩ => ⟨h1, ⟨h2, by simp [left_]⟩, h3⟩

theorem rok_any (g : Nat) (st : Option (List UInt8)) (w : World) (h : Rl w g st) :
    Calls Try.prog 27 #[.pointer (some ⟨g, 0, none⟩)] w fun e w' => e = .returned (.bool st.isSome) ∧ w = w' := by
  have hb := h.bad
  have hn : (!st.isNone) = st.isSome := by cases st <;> rfl
  go_enter Try.func27, Try.ntmps27
  go_wp2
  go_ret
  exact ⟨rfl, rfl⟩

theorem rok_none (w : World) : Calls Try.prog 27 #[.pointer none] w fun e w' => e = .returned (.bool false) ∧ w = w' := by
  go_enter Try.func27, Try.ntmps27
  go_wp2
  go_ret
  exact ⟨rfl, rfl⟩

theorem rdone_any (g : Nat) (st : Option (List UInt8)) (w : World) (h : Rl w g st) :
    Calls Try.prog 17 #[.pointer (some ⟨g, 0, none⟩)] w fun e w' => e = .returned (.int .i64 (doneR st)) ∧ w = w' := by
  have hs := h.str
  have H := hide (rok_any g st w h)
  rcases st with _ | _ | ⟨c, l⟩
  all_goals
    go_enter Try.func17, Try.ntmps17
    go_wp2_with fail
    refine (unhide H).mono ?_
    rintro e w1 ⟨rfl, rfl⟩
    go_wp2
    go_ret
    exact ⟨rfl, rfl⟩

set_option maxRecDepth 100000 in
theorem rtext_any (g : Nat) (m : Int) (st : Option (List UInt8)) (w : World) (h : Rl w g st) (hm : m ≤ 9223372036854775807) :
    Calls Try.prog 15 #[.pointer (some ⟨g, 0, none⟩), .int .i64 m] w (ReadsTo g (S (textR m.toNat st).1) (textR m.toNat st).2 w) := by
  obtain ⟨R, hR⟩ : ∃ R, R = textR m.toNat st := ⟨_, rfl⟩
  rw [← hR]
  have HR := hide hR
  clear hR
  go_enter Try.func15, Try.ntmps15
  go_wp2_with fail
  refine (rnum_any g m st w h hm).mono ?_
  rintro e w1 ⟨rfl, h1, h2⟩
  have hn := numR_le m.toNat st
  have hR := HR.out
  unfold textR at hR
  generalize (numR m.toNat st).1 = n at *
  generalize (numR m.toNat st).2 = s1 at *
  have HRR := hide hR
  clear hR HR
  have hb := h1.bad
  have hs := h1.str
  have f0 := Blk.frozen h1.rs 0
  cases s1 with
  | none =>
    go_wp2
    go_ret
    exact ⟨by rw [HRR.out] <;> rfl, by rw [HRR.out]; exact h1, h2⟩
  | some l =>
    have hlen : l.length ≤ 9223372036854775807 := h1.len
    simp only [Option.getD_some] at hs
    by_cases hlt : l.length < n
    · have HG : Hid (R = ([], none)) := by unfold Hid; rw [HRR.out]; simp only; rw [if_pos hlt]
      go_wp2_with fail
      refine (rfail_any g (some l) w1 h1).mono ?_
      rintro e w2 ⟨rfl, h3, h4⟩
      go_wp2
      go_ret
      exact ⟨by rw [HG.out] <;> rfl, by rw [HG.out]; exact h3, h2.trans h4⟩
    · have HG : Hid (R = (l.take n, some (l.drop n))) := by unfold Hid; rw [HRR.out]; simp only; rw [if_neg hlt]
      have hr1 : Rl (w1.setCell ⟨g, 0, none⟩ (S (l.drop n))) g (some (l.drop n)) := ⟨Blk.set_ h1.rs 0 (S (l.drop n)), by simp [left_]; omega⟩
      have hr2 := h2.setCell (p := ⟨g, 0, none⟩) (fun _ => rfl) (S (l.drop n))
      have HR1 := hide hr1
      have HR2 := hide hr2
      clear hr1 hr2
      go_wp2
      go_ret
      exact ⟨by rw [HG.out] <;> rfl, by rw [HG.out]; exact HR1.out, HR2.out⟩

set_option maxRecDepth 100000 in
theorem rmany_any (g : Nat) (m : Int) (st : Option (List UInt8)) (w : World) (h : Rl w g st) (hm : m ≤ 9223372036854775807) :
    Calls Try.prog 14 #[.pointer (some ⟨g, 0, none⟩), .int .i64 m] w (ReadsTo g (.int .i64 (manyR m.toNat st).1) (manyR m.toNat st).2 w) := by
  obtain ⟨R, hR⟩ : ∃ R, R = manyR m.toNat st := ⟨_, rfl⟩
  rw [← hR]
  have HR := hide hR
  clear hR
  go_enter Try.func14, Try.ntmps14
  go_wp2_with fail
  refine (rnum_any g m st w h hm).mono ?_
  rintro e w1 ⟨rfl, h1, h2⟩
  have hn := numR_le m.toNat st
  have hR := HR.out
  unfold manyR at hR
  generalize (numR m.toNat st).1 = n at *
  generalize (numR m.toNat st).2 = s1 at *
  have HRR := hide hR
  clear hR HR
  have hs := h1.str
  have hlen := h1.len
  unfold left_ at hlen
  by_cases hlt : (s1.getD []).length < n
  · have HG : Hid (R = (0, none)) := by unfold Hid; rw [HRR.out, left_, if_pos hlt]
    go_wp2_with fail
    refine (rfail_any g s1 w1 h1).mono ?_
    rintro e w2 ⟨rfl, h3, h4⟩
    go_wp2
    go_ret
    exact ⟨by rw [HG.out]; rfl, by rw [HG.out]; exact h3, h2.trans h4⟩
  · have HG : Hid (R = (n, s1)) := by unfold Hid; rw [HRR.out, left_, if_neg hlt]
    go_wp2
    go_ret
    exact ⟨by rw [HG.out] <;> rfl, by rw [HG.out]; exact h1, h2⟩

theorem unzz_bits (x : Nat) (hx : x < 18446744073709551616) :
    bits .xor .i64 ((x / 2 : Nat) : Int) (-((x % 2 : Nat) : Int)) = if x % 2 = 0 then ((x / 2 : Nat) : Int) else -((x / 2 : Nat) : Int) - 1 := by
  rcases Nat.mod_two_eq_zero_or_one x with h | h
  · rw [h, if_pos rfl]
    have : bits .xor .i64 ((x / 2 : Nat) : Int) ((0 : Nat) : Int) = ((x / 2 ^^^ 0 : Nat) : Int) := by
      show IntKind.i64.wrap ((BitVec.ofInt 64 ((x / 2 : Nat) : Int) ^^^ BitVec.ofInt 64 ((0 : Nat) : Int)).toNat : Int) = _
      rw [BitVec.ofInt_natCast, BitVec.ofInt_natCast, BitVec.toNat_xor, BitVec.toNat_ofNat, BitVec.toNat_ofNat, Nat.mod_eq_of_lt (a := x / 2) (by simp; omega), IntKind.wrap_i64]
      simp
      omega
    simpa using this
  · rw [h, if_neg (by decide)]
    show IntKind.i64.wrap ((BitVec.ofInt 64 ((x / 2 : Nat) : Int) ^^^ BitVec.ofInt 64 (-((1 : Nat) : Int))).toNat : Int) = _
    rw [show BitVec.ofInt 64 (-((1 : Nat) : Int)) = BitVec.allOnes 64 by decide, BitVec.xor_allOnes, BitVec.ofInt_natCast, BitVec.toNat_not, BitVec.toNat_ofNat, Nat.mod_eq_of_lt (a := x / 2) (by simp; omega), IntKind.wrap_i64]
    simp
    omega

theorem join32 (a b : Nat) (ha : a ≤ 4294967295) (hb : b ≤ 4294967295) : bits .or .u64 ((a : Int) * 4294967296) (b : Int) = ((a * 4294967296 + b : Nat) : Int) := by
  rw [show (a : Int) * 4294967296 = ((a * 4294967296 : Nat) : Int) by omega, u64_or_nat _ _ (by omega) (by omega)]
  congr 1
  exact nat_join 32 _ b (by omega) (by omega)

theorem u64_mask1 (a : Nat) (h : a < 18446744073709551616) : bits .and .u64 (a : Int) 1 = ((a % 2 : Nat) : Int) := by
  have e := u64_and_nat a 1 (by omega) (by omega)
  rw [show ((1 : Nat) : Int) = (1 : Int) from rfl] at e
  rw [e, nat_mask1]

end Go.Proofs.Ytcebeihkofomeaa
