/- The lexer's run, walked at its two function values; no statement of the seat is proved here. -/
import Derived.Test.YtoilalfchnglcaaDoorLexCls
import Derived.Test.YtoilalfchnglcaaDoorLexShelf
namespace Go.Proofs.YtoilalfchnglcaaDoor
open Go.RowKit

theorem tw_len (p : UInt8 → Bool) (l : List UInt8) : (l.takeWhile p).length ≤ l.length := List.IsPrefix.length_le (List.takeWhile_prefix p)
theorem quiet_add_same {P : Program} {f : FuncId} {args : Array Value} {w : World} {a n : Nat} {v : Value}
    (h : Calls P f args (w.drewN (a + n)) fun e w' => e = .returned v ∧ w' = w.drewN (a + n)) :
    Calls P f args (w.drewN (a + n)) fun e w'' => e = .returned v ∧ ∃ m, w'' = w.drewN (a + m) :=
  h.mono fun _ _ ⟨he, hm⟩ => ⟨he, n, hm⟩
/-- The k-th sign of the rest. -/
theorem tw_more (p : UInt8 → Bool) : ∀ (l : List UInt8) (k : Nat), (∀ j, j < k → ∀ c, l[j]? = some c → p c = true) → k < l.length → (∀ c, l[k]? = some c → p c = false) → (l.takeWhile p) = l.take k
  | [], k, _, h, _ => by simp at h
  | a :: l, 0, _, _, h => by
    have := h a rfl
    simp [this]
  | a :: l, k + 1, h1, h2, h3 => by
    have ha := h1 0 (by omega) a rfl
    rw [List.takeWhile_cons, ha]
    simp only [if_true, List.take_succ_cons]
    rw [tw_more p l k (fun j hj c hc => h1 (j + 1) (by omega) c (by simpa using hc)) (by simpa using h2) (fun c hc => h3 c (by simpa using hc))]
theorem tw_all (p : UInt8 → Bool) (l : List UInt8) (h : ∀ (j : Nat) (c : UInt8), l[j]? = some c → p c = true) : l.takeWhile p = l := by
  induction l with
  | nil => rfl
  | cons a l ih =>
    rw [List.takeWhile_cons, h 0 a rfl]
    simp only [if_true]
    rw [ih fun j c hc => h (j + 1) c (by simpa using hc)]

set_option maxRecDepth 100000 in
set_option maxHeartbeats 2000000 in
theorem run_inner (w : World) (g : Nat) (s : List UInt8) (a : Nat) (h : LX w g s a) (ha : a ≤ s.length) (hs : s.length ≤ 1000000) :
    Calls Tryd.prog 22 #[.pointer (some ⟨g, 0, none⟩), .func (.func 23) #[] #[]] w fun e w' => e = .returned (S ((s.drop a).takeWhile innerB)) ∧ ∃ m, w' = w.drewN m := by
  have c0 : w.cell? ⟨g, 0, none⟩ = some (S s) := Blk.cell h 0
  have c1 : w.cell? ⟨g, 1, none⟩ = some (.int .i64 (a : Int)) := Blk.cell h 1
  clear h
  go_enter Tryd.func22, Tryd.ntmps22
  go_wp2_with fail
  go_loopw [5] (fun i wr => ∃ k m : Nat, a + k ≤ s.length ∧ i = .int .i64 (k : Int) ∧ wr = w.drewN m ∧ Hid (∀ j, j < k → ∀ c, (s.drop a)[j]? = some c → innerB c = true)) (fun i _ => s.length - (intOf i).toNat)
  case atStart => exact ⟨0, 0, by omega, rfl, rfl, fun j hj => by omega⟩
  case round =>
    obtain ⟨k, m, hk, rfl, rfl, hall⟩ := hrel
    by_cases hlt : a + k < s.length
    · obtain ⟨c, hc⟩ : ∃ c, c = s[a + k] := ⟨_, rfl⟩
      obtain ⟨q, hq⟩ : ∃ q, q = a + k := ⟨_, rfl⟩
      have hix : ∀ w, (Instr.index 9 (S s) (.int .i64 (q : Int))).run Tryd.prog w = .ok (B8 c) w := fun w =>
        run_index_str (P := Tryd.prog) Tryd.underlying9 .i64 s q c (by rw [hq, hc]; exact List.getElem?_eq_getElem hlt) w
      have hsc : (s.drop a)[k]? = some c := by rw [List.getElem?_drop, hc]; exact List.getElem?_eq_getElem hlt
      have HSC := hide hsc
      have HF := fun w => hide (inner_any c w)
      obtain ⟨b, hb⟩ : ∃ b, b = innerB c := ⟨_, rfl⟩
      simp only [← hb] at HF
      have HB := hide hb
      have HQ := hide hq
      have e0 : IntKind.i64.wrap ((a : Int) + (k : Int)) = (q : Int) := by rw [IntWalk.i64_in _ (by omega)]; omega
      have q0 : (q : Int) < (s.length : Int) := by omega
      have q1 : (0 : Int) ≤ (q : Int) := by omega
      clear hb hc hsc hq
      cases b
      · go_wp2_with fail
        go_quiet ((go_at_call 23; exact quiet_add_same (HF _).out))
        clear e0
        go_wp2_with fail
        have HR : Hid (∀ _ : Unit, (s.drop a).takeWhile innerB = (s.drop a).take (q - a)) := hide (fun _ => by rw [show q - a = k by have := HQ.out; omega]; exact tw_more _ _ k hall.out (by rw [List.length_drop]; omega) (fun c' h' => by rw [HSC.out] at h'; injection h' with h'; subst h'; exact HB.out.symm))
        have e0 : IntKind.i64.wrap ((a : Int) + (k : Int)) = (q : Int) := by rw [IntWalk.i64_in _ (by omega)]; have := HQ.out; omega
        have hqs : q ≤ s.length := by have := HQ.out; omega
        have haq : a ≤ q := by have := HQ.out; omega
        go_quiet (fail)
        clear e0
        go_wp2_with fail
        go_ret
        refine ⟨?_, _, by rw [World.drewN_drewN, World.drewN_drewN]⟩
        rw [HR.out ()]
        rfl
      · go_wp2_with fail
        go_quiet ((go_at_call 23; exact quiet_add_same (HF _).out))
        clear e0
        go_wp2_with fail
        go_roundw
        case rel => exact ⟨k + 1, _, by omega, by go_num, rfl, fun j hj c' h' => by
          rcases Nat.lt_or_ge j k with h5 | h5
          · exact hall.out j h5 c' h'
          · obtain rfl : j = k := by omega
            rw [HSC.out] at h'
            injection h' with h'
            subst h'
            exact HB.out.symm⟩
        case measure => simp [intOf]; omega
    · obtain ⟨q, hq⟩ : ∃ q, q = a + k := ⟨_, rfl⟩
      have hql : q = s.length := by omega
      have HR : Hid (∀ _ : Unit, (s.drop a).takeWhile innerB = (s.drop a).take (q - a)) := hide (fun _ => by
        rw [List.take_of_length_le (by rw [List.length_drop]; omega)]
        exact tw_all _ _ fun j c hj => by
          have hjl := (List.getElem?_eq_some_iff.1 hj).1
          rw [List.length_drop] at hjl
          exact hall.out j (by omega) c hj)
      have hqs : q ≤ s.length := by omega
      have haq : a ≤ q := by omega
      have q1 : (0 : Int) ≤ (q : Int) := by omega
      have q0 : decide (q < s.length) = false := by simp; omega
      have e0 : IntKind.i64.wrap ((a : Int) + (k : Int)) = (q : Int) := by rw [IntWalk.i64_in _ (by omega)]; omega
      have HE := hide e0
      clear hq hql hlt
      go_wp2_with fail
      go_quiet (fail)
      clear e0
      go_wp2_with fail
      have e0 := HE.out
      go_quiet (fail)
      clear e0
      go_wp2_with fail
      go_ret
      refine ⟨?_, _, by first | rfl | rw [World.drewN_drewN, World.drewN_drewN]⟩
      rw [HR.out ()]
      rfl
set_option maxRecDepth 100000 in
set_option maxHeartbeats 2000000 in
theorem run_digit (w : World) (g : Nat) (s : List UInt8) (a : Nat) (h : LX w g s a) (ha : a ≤ s.length) (hs : s.length ≤ 1000000) :
    Calls Tryd.prog 22 #[.pointer (some ⟨g, 0, none⟩), .func (.func 26) #[] #[]] w fun e w' => e = .returned (S ((s.drop a).takeWhile digitB)) ∧ ∃ m, w' = w.drewN m := by
  have c0 : w.cell? ⟨g, 0, none⟩ = some (S s) := Blk.cell h 0
  have c1 : w.cell? ⟨g, 1, none⟩ = some (.int .i64 (a : Int)) := Blk.cell h 1
  clear h
  go_enter Tryd.func22, Tryd.ntmps22
  go_wp2_with fail
  go_loopw [5] (fun i wr => ∃ k m : Nat, a + k ≤ s.length ∧ i = .int .i64 (k : Int) ∧ wr = w.drewN m ∧ Hid (∀ j, j < k → ∀ c, (s.drop a)[j]? = some c → digitB c = true)) (fun i _ => s.length - (intOf i).toNat)
  case atStart => exact ⟨0, 0, by omega, rfl, rfl, fun j hj => by omega⟩
  case round =>
    obtain ⟨k, m, hk, rfl, rfl, hall⟩ := hrel
    by_cases hlt : a + k < s.length
    · obtain ⟨c, hc⟩ : ∃ c, c = s[a + k] := ⟨_, rfl⟩
      obtain ⟨q, hq⟩ : ∃ q, q = a + k := ⟨_, rfl⟩
      have hix : ∀ w, (Instr.index 9 (S s) (.int .i64 (q : Int))).run Tryd.prog w = .ok (B8 c) w := fun w =>
        run_index_str (P := Tryd.prog) Tryd.underlying9 .i64 s q c (by rw [hq, hc]; exact List.getElem?_eq_getElem hlt) w
      have hsc : (s.drop a)[k]? = some c := by rw [List.getElem?_drop, hc]; exact List.getElem?_eq_getElem hlt
      have HSC := hide hsc
      have HF := fun w => hide (digit_any c w)
      obtain ⟨b, hb⟩ : ∃ b, b = digitB c := ⟨_, rfl⟩
      simp only [← hb] at HF
      have HB := hide hb
      have HQ := hide hq
      have e0 : IntKind.i64.wrap ((a : Int) + (k : Int)) = (q : Int) := by rw [IntWalk.i64_in _ (by omega)]; omega
      have q0 : (q : Int) < (s.length : Int) := by omega
      have q1 : (0 : Int) ≤ (q : Int) := by omega
      clear hb hc hsc hq
      cases b
      · go_wp2_with fail
        go_quiet ((go_at_call 26; exact quiet_add_same (HF _).out))
        clear e0
        go_wp2_with fail
        have HR : Hid (∀ _ : Unit, (s.drop a).takeWhile digitB = (s.drop a).take (q - a)) := hide (fun _ => by rw [show q - a = k by have := HQ.out; omega]; exact tw_more _ _ k hall.out (by rw [List.length_drop]; omega) (fun c' h' => by rw [HSC.out] at h'; injection h' with h'; subst h'; exact HB.out.symm))
        have e0 : IntKind.i64.wrap ((a : Int) + (k : Int)) = (q : Int) := by rw [IntWalk.i64_in _ (by omega)]; have := HQ.out; omega
        have hqs : q ≤ s.length := by have := HQ.out; omega
        have haq : a ≤ q := by have := HQ.out; omega
        go_quiet (fail)
        clear e0
        go_wp2_with fail
        go_ret
        refine ⟨?_, _, by rw [World.drewN_drewN, World.drewN_drewN]⟩
        rw [HR.out ()]
        rfl
      · go_wp2_with fail
        go_quiet ((go_at_call 26; exact quiet_add_same (HF _).out))
        clear e0
        go_wp2_with fail
        go_roundw
        case rel => exact ⟨k + 1, _, by omega, by go_num, rfl, fun j hj c' h' => by
          rcases Nat.lt_or_ge j k with h5 | h5
          · exact hall.out j h5 c' h'
          · obtain rfl : j = k := by omega
            rw [HSC.out] at h'
            injection h' with h'
            subst h'
            exact HB.out.symm⟩
        case measure => simp [intOf]; omega
    · obtain ⟨q, hq⟩ : ∃ q, q = a + k := ⟨_, rfl⟩
      have hql : q = s.length := by omega
      have HR : Hid (∀ _ : Unit, (s.drop a).takeWhile digitB = (s.drop a).take (q - a)) := hide (fun _ => by
        rw [List.take_of_length_le (by rw [List.length_drop]; omega)]
        exact tw_all _ _ fun j c hj => by
          have hjl := (List.getElem?_eq_some_iff.1 hj).1
          rw [List.length_drop] at hjl
          exact hall.out j (by omega) c hj)
      have hqs : q ≤ s.length := by omega
      have haq : a ≤ q := by omega
      have q1 : (0 : Int) ≤ (q : Int) := by omega
      have q0 : decide (q < s.length) = false := by simp; omega
      have e0 : IntKind.i64.wrap ((a : Int) + (k : Int)) = (q : Int) := by rw [IntWalk.i64_in _ (by omega)]; omega
      have HE := hide e0
      clear hq hql hlt
      go_wp2_with fail
      go_quiet (fail)
      clear e0
      go_wp2_with fail
      have e0 := HE.out
      go_quiet (fail)
      clear e0
      go_wp2_with fail
      go_ret
      refine ⟨?_, _, by first | rfl | rw [World.drewN_drewN, World.drewN_drewN]⟩
      rw [HR.out ()]
      rfl
end Go.Proofs.YtoilalfchnglcaaDoor
