/- The lexer's plain laws: texts joined, tokens written again; no statement of the seat is proved here. -/
import Derived.Test.YtoilalfchnglcaaDoorLexWords
namespace Go.Proofs.YtoilalfchnglcaaDoor
open Go.RowKit

theorem tw_app (p : UInt8 → Bool) {d : UInt8} (h : p d = false) (b : List UInt8) : ∀ l : List UInt8, (l ++ d :: b).takeWhile p = l.takeWhile p
  | [] => by simp [h]
  | c :: l => by
    rw [List.cons_append, List.takeWhile_cons, List.takeWhile_cons, tw_app p h b l]
theorem pre_app {d : UInt8} (b : List UInt8) : ∀ (m l : List UInt8), d ∉ m → m.isPrefixOf (l ++ d :: b) = m.isPrefixOf l
  | [], l, _ => by simp
  | x :: m, [], h => by
    have : (x == d) = false := by simpa using fun e => h (by simp [e])
    simp [List.isPrefixOf, this]
  | x :: m, c :: l, h => by
    rw [List.cons_append, List.isPrefixOf, List.isPrefixOf, pre_app b m l (fun e => h (List.mem_cons_of_mem _ e))]
theorem find_congr {l b : List UInt8} {d : UInt8} (hd : ∀ m ∈ marksL, d ∉ m) : (marksL.find? fun m => m.isPrefixOf (l ++ d :: b)) = marksL.find? fun m => m.isPrefixOf l := by
  have : ∀ ms : List (List UInt8), (∀ m ∈ ms, d ∉ m) → (ms.find? fun m => m.isPrefixOf (l ++ d :: b)) = ms.find? fun m => m.isPrefixOf l := by
    intro ms
    induction ms with
    | nil => intro _; rfl
    | cons m ms ih =>
      intro h
      rw [List.find?_cons, List.find?_cons, pre_app b m l (h m (by simp)), ih (fun x hx => h x (by simp [hx]))]
  exact this _ hd
theorem inner_digit {d : UInt8} (h : innerB d = false) : digitB d = false := by
  simp only [innerB, Bool.or_eq_false_iff] at h
  exact h.1.2
theorem next_app (c : UInt8) (r b : List UInt8) (d : UInt8) (hd : innerB d = false) (hm : ∀ m ∈ marksL, d ∉ m) : nextM (c :: r ++ d :: b) = nextM (c :: r) := by
  have h1 := tw_app innerB hd b (c :: r)
  have h2 := tw_app digitB (inner_digit hd) b (c :: r)
  have h3 := find_congr (l := c :: r) (b := b) hm
  rw [List.cons_append] at h1 h2 h3 ⊢
  rw [nextM, nextM, h1, h2, h3]
theorem ten_marks : ∀ m ∈ marksL, (10 : UInt8) ∉ m := by decide
theorem blank_marks : ∀ m ∈ marksL, (32 : UInt8) ∉ m := by decide
theorem ten_inner : innerB 10 = false := by decide
theorem blank_inner : innerB 32 = false := by decide

theorem skipR_len : ∀ (m : Bool) (l : List UInt8), (skipR m l).length ≤ l.length
  | _, [] => by simp [skipR]
  | false, c :: l => by
    have h1 := skipR_len false l
    have h2 := skipR_len true l
    rw [skipR]
    split
    · simp; omega
    · split
      · simp; omega
      · simp
  | true, c :: l => by
    have h1 := skipR_len false l
    have h2 := skipR_len true l
    rw [skipR]
    split <;> simp <;> omega
/-- What is skipped of a text, a newline and another text. -/
theorem skipR_app (b : List UInt8) : ∀ (m : Bool) (l : List UInt8), skipR m (l ++ 10 :: b) = if skipR m l = [] then skipR false b else skipR m l ++ 10 :: b
  | false, [] => by simp [skipR, blankB]
  | true, [] => by simp [skipR]
  | false, c :: l => by
    have h1 := skipR_app b false l
    have h2 := skipR_app b true l
    have hh : ((l ++ 10 :: b).head? == some 47) = (l.head? == some 47) := by cases l <;> rfl
    rw [List.cons_append, skipR, hh, skipR]
    by_cases hb : blankB c = true
    · simp only [hb, if_true]; exact h1
    · simp only [hb]
      by_cases hr : (c == 47 && l.head? == some 47) = true
      · simp only [hr, if_true]; exact h2
      · simp only [hr]; simp
  | true, c :: l => by
    have h1 := skipR_app b false l
    have h2 := skipR_app b true l
    rw [List.cons_append, skipR, skipR]
    by_cases hb : (c == 10) = true
    · simp only [hb, if_true]; exact h1
    · simp only [hb]; exact h2

/-- One step of the lexer's. -/
theorem lexR_succ (f : Nat) (rest r : List UInt8) (a b : Nat) (hr : skipR false rest = r) (hb : b + r.length = a + rest.length) : lexR (f + 1) rest a = match nextM r with
    | .error e => .error (e, b)
    | .ok t => if t.kind = 0 then .ok [(t, b)] else match lexR f (r.drop t.text.length) (b + t.text.length) with
      | .error e => .error e
      | .ok ts => .ok ((t, b) :: ts) := by
  have hl := skipR_len false rest
  have e : a + (rest.length - (skipR false rest).length) = b := by rw [hr] at hl ⊢; omega
  rw [lexR, e, hr]
  split
  · rename_i h; rw [h]
  · rename_i t h; rw [h]; rfl
theorem lexR_fuel : ∀ (f f' : Nat) (rest : List UInt8) (a : Nat), rest.length < f → rest.length < f' → lexR f rest a = lexR f' rest a
  | 0, _, _, _, h, _ => absurd h (Nat.not_lt_zero _)
  | _ + 1, 0, _, _, _, h => absurd h (Nat.not_lt_zero _)
  | f + 1, f' + 1, rest, a, h, h' => by
    have hl := skipR_len false rest
    have hb : (a + (rest.length - (skipR false rest).length)) + (skipR false rest).length = a + rest.length := by omega
    rw [lexR_succ f rest _ a _ rfl hb, lexR_succ f' rest _ a _ rfl hb]
    cases hn : nextM (skipR false rest) with
    | error e => rfl
    | ok t =>
      obtain ⟨hpre, hp, _, _⟩ := nextM_len hn
      have hpl := hpre.length_le
      by_cases hk : t.kind = 0
      · simp only [hk, if_true]
      · simp only [hk]
        have := hp hk
        rw [lexR_fuel f f' _ _ (by rw [List.length_drop]; omega) (by rw [List.length_drop]; omega)]
/-- What is skipped does not count. -/
theorem lexR_skip (f : Nat) (x y : List UInt8) (a b : Nat) (hs : skipR false x = skipR false y) (hl : a + x.length = b + y.length) : lexR (f + 1) x a = lexR (f + 1) y b := by
  have h1 := skipR_len false x
  have h2 := skipR_len false y
  have hb : (a + (x.length - (skipR false x).length)) + (skipR false x).length = a + x.length := by omega
  rw [lexR_succ f x _ a _ rfl hb, lexR_succ f y _ b _ hs.symm (by rw [hb, hl])]
theorem lexR_ne : ∀ (f : Nat) (rest : List UInt8) (a : Nat) (ts : List (Tk × Nat)), lexR f rest a = .ok ts → ts ≠ []
  | 0, _, _, ts, h => by injection h with h; rw [← h]; simp
  | f + 1, rest, a, ts, h => by
    have hl := skipR_len false rest
    have hb : (a + (rest.length - (skipR false rest).length)) + (skipR false rest).length = a + rest.length := by omega
    rw [lexR_succ f rest _ a _ rfl hb] at h
    split at h
    · cases h
    · split at h
      · injection h with h; rw [← h]; simp
      · split at h
        · cases h
        · injection h with h; rw [← h]; simp

def joinM (x : Except (Nat × Nat) (List (Tk × Nat))) (y : Except (Nat × Nat) (List (Tk × Nat))) : Except (Nat × Nat) (List (Tk × Nat)) :=
  match x with
  | .error e => .error e
  | .ok ts => match y with
    | .error e => .error e
    | .ok us => .ok (ts.dropLast ++ us)
theorem lexR_join (b : List UInt8) : ∀ (f F : Nat) (r : List UInt8) (a : Nat), r.length < f → r.length + 1 + b.length < F →
    lexR F (r ++ 10 :: b) a = joinM (lexR f r a) (lexR (b.length + 1) b (a + r.length + 1))
  | 0, _, _, _, h, _ => absurd h (Nat.not_lt_zero _)
  | _ + 1, 0, _, _, _, h => absurd h (Nat.not_lt_zero _)
  | f + 1, F + 1, r, a, h, h' => by
    have hl := skipR_len false r
    have hb : (a + (r.length - (skipR false r).length)) + (skipR false r).length = a + r.length := by omega
    have hsk := skipR_app b false r
    rw [lexR_succ f r _ a _ rfl hb]
    cases hr : skipR false r with
    | nil =>
      rw [hr, if_pos rfl] at hsk
      rw [lexR_skip F (r ++ 10 :: b) b a (a + r.length + 1) hsk (by simp; omega)]
      rw [lexR_fuel (F + 1) (b.length + 1) b _ (by omega) (by omega)]
      show _ = joinM (.ok [(⟨0, [], 0⟩, _)]) _
      unfold joinM
      cases lexR (b.length + 1) b (a + r.length + 1) <;> simp
    | cons c l =>
      rw [hr, if_neg (by simp)] at hsk
      rw [hr] at hb hl
      have hb2 : (a + (r.length - (c :: l).length)) + (c :: l ++ 10 :: b).length = a + (r ++ 10 :: b).length := by
        simp only [List.length_append, List.length_cons] at hb hl ⊢
        omega
      rw [lexR_succ F (r ++ 10 :: b) _ a _ hsk hb2, next_app c l b 10 ten_inner ten_marks]
      cases hn : nextM (c :: l) with
      | error e => rfl
      | ok t =>
        obtain ⟨hpre, hp, _, h0⟩ := nextM_len hn
        have hk : t.kind ≠ 0 := fun hk => by have := (h0 hk).1; cases this
        have hlen := hpre.length_le
        simp only [hk, if_false]
        rw [List.drop_append_of_le_length hlen]
        have := hp hk
        have hdl : ((c :: l).drop t.text.length).length = (c :: l).length - t.text.length := List.length_drop
        rw [lexR_join b f F _ _ (by rw [hdl]; omega) (by rw [hdl]; omega)]
        rw [show a + (r.length - (c :: l).length) + t.text.length + ((c :: l).drop t.text.length).length + 1 = a + r.length + 1 by rw [hdl]; omega]
        cases hx : lexR f ((c :: l).drop t.text.length) (a + (r.length - (c :: l).length) + t.text.length) with
        | error e => rfl
        | ok ts =>
          have hne := lexR_ne _ _ _ _ hx
          unfold joinM
          cases lexR (b.length + 1) b (a + r.length + 1) with
          | error e => rfl
          | ok us => simp [List.dropLast_cons_of_ne_nil hne]
/-- Offsets shifted. -/
def shiftM (k : Nat) : Except (Nat × Nat) (List (Tk × Nat)) → Except (Nat × Nat) (List (Tk × Nat))
  | .error (e, b) => .error (e, b + k)
  | .ok ts => .ok (ts.map fun x => (x.1, x.2 + k))
theorem lexR_shift (k : Nat) : ∀ (f : Nat) (rest : List UInt8) (a : Nat), lexR f rest (a + k) = shiftM k (lexR f rest a)
  | 0, _, _ => rfl
  | f + 1, rest, a => by
    have hl := skipR_len false rest
    have hb : (a + (rest.length - (skipR false rest).length)) + (skipR false rest).length = a + rest.length := by omega
    rw [lexR_succ f rest _ a _ rfl hb, lexR_succ f rest _ (a + k) ((a + (rest.length - (skipR false rest).length)) + k) rfl (by omega)]
    cases hn : nextM (skipR false rest) with
    | error e => rfl
    | ok t =>
      by_cases hk : t.kind = 0
      · simp only [hk, if_true]; rfl
      · simp only [hk, if_false]
        rw [show a + (rest.length - (skipR false rest).length) + k + t.text.length = a + (rest.length - (skipR false rest).length) + t.text.length + k by omega, lexR_shift k f]
        cases lexR f ((skipR false rest).drop t.text.length) (a + (rest.length - (skipR false rest).length) + t.text.length) <;> rfl

/-- The tokens of two texts with a newline between. -/
theorem lexM_join (a b : List UInt8) (ha : a.length ≤ 300) (hb : b.length ≤ 300) : lexM (a ++ 10 :: b) = joinM (lexM a) (shiftM (a.length + 1) (lexM b)) := by
  have e : lexM (a ++ 10 :: b) = lexR ((a ++ 10 :: b).length + 1) (a ++ 10 :: b) 0 := by rw [lexM, if_neg (by simp; omega)]
  have e1 : lexM a = lexR (a.length + 1) a 0 := by rw [lexM, if_neg (by omega)]
  have e2 : lexM b = lexR (b.length + 1) b 0 := by rw [lexM, if_neg (by omega)]
  rw [e, e1, e2, ← lexR_shift, lexR_join b (a.length + 1) _ a 0 (by omega) (by simp; omega), show 0 + a.length + 1 = 0 + (a.length + 1) by omega]
theorem pos_fold (k : Nat) : ∀ (l : List UInt8) (p : Nat × Nat), l.foldl posStep (p.1 + k, p.2) = ((l.foldl posStep p).1 + k, (l.foldl posStep p).2)
  | [], p => rfl
  | c :: l, p => by
    rw [List.foldl_cons, List.foldl_cons, ← pos_fold k l (posStep p c)]
    congr 1
    unfold posStep
    split
    · simp; omega
    · rfl
theorem pos_line : ∀ (l : List UInt8) (p : Nat × Nat), (l.foldl posStep p).1 = p.1 + l.count 10
  | [], p => by simp
  | c :: l, p => by
    rw [List.foldl_cons, pos_line l, List.count_cons]
    unfold posStep
    by_cases h : c = 10
    · simp [h]; omega
    · simp [h]
theorem pos_left (a b : List UInt8) (n : Nat) (hn : n ≤ a.length) : pos (a ++ 10 :: b) n = pos a n := by
  rw [pos, pos, List.take_append_of_le_length hn]
theorem pos_right (a b : List UInt8) (n : Nat) : pos (a ++ 10 :: b) (n + (a.length + 1)) = ((pos b n).1 + (1 + a.count 10), (pos b n).2) := by
  have e : (a ++ 10 :: b).take (n + (a.length + 1)) = a ++ 10 :: b.take n := by
    rw [List.take_append, List.take_of_length_le (by omega), show n + (a.length + 1) - a.length = n + 1 by omega, List.take_succ_cons]
  rw [pos, e, List.foldl_append, List.foldl_cons]
  have h1 : posStep (a.foldl posStep (1, 1)) 10 = (((1, 1) : Nat × Nat).1 + (1 + a.count 10), ((1, 1) : Nat × Nat).2) := by
    have h2 : ∀ q : Nat × Nat, posStep q 10 = (q.1 + 1, 1) := fun _ => rfl
    rw [h2, pos_line]
    simp; omega
  rw [h1]
  exact pos_fold (1 + a.count 10) (b.take n) (1, 1)

/-- A token's text, read alone, is the token. -/
theorem tw_tw (p : UInt8 → Bool) : ∀ l : List UInt8, (l.takeWhile p).takeWhile p = l.takeWhile p
  | [] => rfl
  | c :: l => by
    rw [List.takeWhile_cons]
    split
    · rename_i h
      rw [List.takeWhile_cons, if_pos h, tw_tw p l]
    · rfl
theorem marks_alone : ∀ m ∈ marksL, nextM m = .ok ⟨5, m, 0⟩ := by
  have h : ∀ i : Fin 22, (match nextM (marksL.getD i.val []) with | .ok t => t == ⟨5, marksL.getD i.val [], 0⟩ | .error _ => false) = true := by decide +kernel
  intro m hm
  obtain ⟨i, hi, rfl⟩ := List.getElem_of_mem hm
  have h2 := h ⟨i, hi⟩
  have e : marksL.getD i [] = marksL[i] := by simp [List.getD, hi]
  simp only [e] at h2
  split at h2
  · rename_i h3
    rw [h3]
    simpa using h2
  · cases h2
theorem marks_head : ∀ m ∈ marksL, ∃ c l, m = c :: l ∧ blankB c = false ∧ ([47, 47] : List UInt8).isPrefixOf m = false := by
  intro m hm
  have h : ∀ m ∈ marksL, (match m with | [] => false | c :: l => !blankB c && !(([47, 47] : List UInt8).isPrefixOf (c :: l))) = true := by decide
  have h2 := h m hm
  match m, h2 with
  | [], h2 => cases h2
  | c :: l, h2 =>
    simp only [Bool.and_eq_true, Bool.not_eq_true'] at h2
    exact ⟨c, l, rfl, h2.1, h2.2⟩
theorem not_blank {c : UInt8} (h : innerB c = true) : blankB c = false := by
  cases hb : blankB c
  · rfl
  · rcases (blankB_true c).1 hb with rfl | rfl | rfl | rfl <;> cases h
theorem not_rem {c : UInt8} (h : innerB c = true) (l : List UInt8) : ([47, 47] : List UInt8).isPrefixOf (c :: l) = false := by
  have : (47 == c) = false := by
    simp
    intro e
    rw [← e] at h
    cases h
  simp [List.isPrefixOf, this]
theorem nextM_text {r : List UInt8} {t : Tk} (h : nextM r = .ok t) (hk : t.kind ≠ 0) : nextM t.text = .ok t ∧ ∃ c l, t.text = c :: l ∧ blankB c = false ∧ ([47, 47] : List UInt8).isPrefixOf t.text = false := by
  match r, h with
  | [], h => injection h with h; subst h; exact absurd rfl hk
  | c :: r, h =>
    rw [nextM] at h
    split at h
    · rename_i hc
      obtain ⟨rfl, hlim⟩ := limitM_ok h
      have hi : innerB c = true := by simp [innerB, hc]
      have e : (c :: r).takeWhile innerB = c :: r.takeWhile innerB := by rw [List.takeWhile_cons, if_pos hi]
      refine ⟨?_, c, r.takeWhile innerB, e, not_blank hi, by simp only; rw [e]; exact not_rem hi _⟩
      simp only
      have e2 := tw_tw innerB (c :: r)
      rw [e] at e2 h ⊢
      rw [nextM, if_pos hc, e2]
      exact h
    · rename_i hg
      split at h
      · rename_i hc
        obtain ⟨rfl, hlim⟩ := limitM_ok h
        have hi : innerB c = true := by simp [innerB, hc]
        have e : (c :: r).takeWhile innerB = c :: r.takeWhile innerB := by rw [List.takeWhile_cons, if_pos hi]
        refine ⟨?_, c, r.takeWhile innerB, e, not_blank hi, by simp only; rw [e]; exact not_rem hi _⟩
        simp only
        have e2 := tw_tw innerB (c :: r)
        rw [e] at e2 h ⊢
        rw [nextM, if_neg hg, if_pos hc, e2]
        exact h
      · rename_i hs
        split at h
        · rename_i hc
          have hi : innerB c = true := by simp [innerB, hc]
          have e : (c :: r).takeWhile digitB = c :: r.takeWhile digitB := by rw [List.takeWhile_cons, if_pos hc]
          split at h
          · cases h
          · rename_i n hn
            injection h with h
            subst h
            refine ⟨?_, c, r.takeWhile digitB, e, not_blank hi, by simp only; rw [e]; exact not_rem hi _⟩
            simp only
            have e2 := tw_tw digitB (c :: r)
            rw [e] at e2 hn ⊢
            rw [nextM, if_neg hg, if_neg hs, if_pos hc, e2, hn]
        · split at h
          · cases h
          · rename_i m hm
            injection h with h
            subst h
            have h2 := List.mem_of_find?_eq_some hm
            exact ⟨marks_alone m h2, marks_head m h2⟩
theorem nextM_again {r : List UInt8} {t : Tk} (h : nextM r = .ok t) (hk : t.kind ≠ 0) (x : List UInt8) : nextM (t.text ++ 32 :: x) = .ok t ∧ skipR false (t.text ++ 32 :: x) = t.text ++ 32 :: x := by
  obtain ⟨h1, c, l, hc, hb, hr⟩ := nextM_text h hk
  rw [hc] at h1 hr ⊢
  refine ⟨by rw [next_app c l x 32 blank_inner blank_marks, h1], ?_⟩
  rw [List.cons_append]
  refine skipR_stay c _ hb ?_
  show ([47, 47] : List UInt8).isPrefixOf (c :: l ++ 32 :: x) = false
  rw [pre_app x _ _ (by decide), hr]

def againL (ts : List (Tk × Nat)) : List UInt8 := ts.flatMap fun x => x.1.text ++ [32]
theorem againL_cons (t : Tk × Nat) (ts : List (Tk × Nat)) : againL (t :: ts) = t.1.text ++ 32 :: againL ts := by simp [againL]
theorem lexR_again : ∀ (f : Nat) (rest : List UInt8) (a : Nat) (ts : List (Tk × Nat)), lexR f rest a = .ok ts → rest.length < f → ∀ (F : Nat) (b : Nat), (againL ts).length < F → ∃ us, lexR F (againL ts) b = .ok us ∧ us.map Prod.fst = ts.map Prod.fst
  | 0, _, _, _, _, h, _, _, _ => absurd h (Nat.not_lt_zero _)
  | _ + 1, _, _, _, _, _, 0, _, h => absurd h (Nat.not_lt_zero _)
  | f + 1, rest, a, ts, h, hf, F + 1, b, hF => by
    have hl := skipR_len false rest
    have hb : (a + (rest.length - (skipR false rest).length)) + (skipR false rest).length = a + rest.length := by omega
    rw [lexR_succ f rest _ a _ rfl hb] at h
    cases hn : nextM (skipR false rest) with
    | error e => rw [hn] at h; cases h
    | ok t =>
      rw [hn] at h
      obtain ⟨hpre, hp, _, h0⟩ := nextM_len hn
      have hpl := hpre.length_le
      by_cases hk : t.kind = 0
      · simp only [hk, if_true] at h
        injection h with h
        obtain ⟨_, ht⟩ := h0 hk
        subst ht h
        exact ⟨[(⟨0, [], 0⟩, b + 1)], lexR_succ F [32] [] b (b + 1) rfl rfl, rfl⟩
      · simp only [hk, if_false] at h
        cases hx : lexR f ((skipR false rest).drop t.text.length) (a + (rest.length - (skipR false rest).length) + t.text.length) with
        | error e => rw [hx] at h; cases h
        | ok ts' =>
          rw [hx] at h
          injection h with h
          subst h
          have hpk := hp hk
          rw [againL_cons] at hF ⊢
          simp only at hF ⊢
          obtain ⟨e1, e2⟩ := nextM_again hn hk (againL ts')
          simp only [List.length_append, List.length_cons] at hF
          rw [lexR_succ F _ _ b b e2 rfl, e1]
          simp only [hk, if_false]
          rw [List.drop_append_of_le_length (Nat.le_refl _), List.drop_length, List.nil_append]
          obtain ⟨F', rfl⟩ : ∃ F', F = F' + 1 := ⟨F - 1, by omega⟩
          rw [lexR_skip F' (32 :: againL ts') (againL ts') _ (b + t.text.length + 1) (skipR_blank 32 _ rfl) (by simp; omega)]
          obtain ⟨us, hu, he⟩ := lexR_again f _ _ _ hx (by rw [List.length_drop]; omega) (F' + 1) (b + t.text.length + 1) (by omega)
          rw [hu]
          exact ⟨_, rfl, by simp [he]⟩
theorem again_len : ∀ (f : Nat) (rest : List UInt8) (a : Nat) (ts : List (Tk × Nat)), lexR f rest a = .ok ts → (againL ts).length ≤ 2 * rest.length + 1
  | 0, _, _, _, h => by injection h with h; subst h; simp [againL]
  | f + 1, rest, a, ts, h => by
    have hl := skipR_len false rest
    have hb : (a + (rest.length - (skipR false rest).length)) + (skipR false rest).length = a + rest.length := by omega
    rw [lexR_succ f rest _ a _ rfl hb] at h
    cases hn : nextM (skipR false rest) with
    | error e => rw [hn] at h; cases h
    | ok t =>
      rw [hn] at h
      obtain ⟨hpre, hp, _, h0⟩ := nextM_len hn
      have hpl := hpre.length_le
      by_cases hk : t.kind = 0
      · simp only [hk, if_true] at h
        injection h with h
        obtain ⟨_, ht⟩ := h0 hk
        subst ht h
        simp [againL]
      · simp only [hk, if_false] at h
        cases hx : lexR f ((skipR false rest).drop t.text.length) (a + (rest.length - (skipR false rest).length) + t.text.length) with
        | error e => rw [hx] at h; cases h
        | ok ts' =>
          rw [hx] at h
          injection h with h
          subst h
          have hpk := hp hk
          have ih := again_len f _ _ _ hx
          rw [againL_cons, List.length_append, List.length_cons]
          rw [List.length_drop] at ih
          simp only
          omega
theorem lexM_again {s : List UInt8} {ts : List (Tk × Nat)} (hs : s.length ≤ 500) (h : lexM s = .ok ts) : (againL ts).length ≤ 1001 ∧ ∃ us, lexM (againL ts) = .ok us ∧ us.map Prod.fst = ts.map Prod.fst := by
  rw [lexM, if_neg (by omega)] at h
  have h1 := again_len _ _ _ _ h
  refine ⟨by omega, ?_⟩
  rw [lexM, if_neg (by omega)]
  exact lexR_again _ _ _ _ h (by omega) _ 0 (by omega)
theorem lexM_ne {s : List UInt8} {ts : List (Tk × Nat)} (h : lexM s = .ok ts) : ts ≠ [] := by
  unfold lexM at h
  split at h
  · cases h
  · exact lexR_ne _ _ _ _ h
end Go.Proofs.YtoilalfchnglcaaDoor
