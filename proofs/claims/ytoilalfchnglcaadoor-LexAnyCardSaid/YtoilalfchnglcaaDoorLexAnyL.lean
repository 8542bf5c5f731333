/- Where tokens stand, and what stands between them: the plain law; no statement of the seat is proved here. -/
import Derived.Test.YtoilalfchnglcaaDoorLexWords
import Derived.Test.YtoilalfchnglcaaDoorLexLaw
namespace Go.Proofs.YtoilalfchnglcaaDoor
open Go.RowKit

/-- Where lines start, of the first n bytes. -/
def stN (s : List UInt8) : Nat → List Nat
  | 0 => [0]
  | n + 1 => if s[n]? = some 10 then stN s n ++ [n + 1] else stN s n
theorem stN_len (s : List UInt8) : ∀ n, 1 ≤ (stN s n).length ∧ (stN s n).length ≤ n + 1
  | 0 => by simp [stN]
  | n + 1 => by
    have ih := stN_len s n
    rw [stN]
    split
    · simp; omega
    · omega
theorem stN_le (s : List UInt8) : ∀ n, ∀ x ∈ stN s n, x ≤ n
  | 0, x, h => by simp [stN] at h; omega
  | n + 1, x, h => by
    rw [stN] at h
    split at h
    · rcases List.mem_append.1 h with h | h
      · have := stN_le s n x h; omega
      · simp at h; omega
    · have := stN_le s n x h; omega
theorem stN_pre (s : List UInt8) (n : Nat) : ∀ k, stN s n <+: stN s (n + k)
  | 0 => List.prefix_rfl
  | k + 1 => by
    have ih := stN_pre s n k
    rw [← Nat.add_assoc, stN]
    split
    · exact ih.trans (List.prefix_append _ _)
    · exact ih
theorem stN_pos (s : List UInt8) : ∀ n, n ≤ s.length → (pos s n).1 = (stN s n).length ∧ ∃ l x, stN s n = l ++ [x] ∧ x + (pos s n).2 = n + 1
  | 0, _ => ⟨rfl, [], 0, rfl, rfl⟩
  | n + 1, h => by
    obtain ⟨h1, l, x, h2, h3⟩ := stN_pos s n (by omega)
    have hlt : n < s.length := h
    rw [pos_succ s n hlt, stN, posStep, List.getElem?_eq_getElem hlt]
    by_cases hc : s[n] = 10
    · rw [if_pos hc, if_pos (by rw [hc])]
      exact ⟨by simp [h1], _, _, rfl, rfl⟩
    · rw [if_neg hc, if_neg (by intro h; exact hc (Option.some.inj h))]
      exact ⟨h1, l, x, h2, by simp only; omega⟩
theorem st_at (s : List UInt8) (n : Nat) (h : n ≤ s.length) : 1 ≤ (pos s n).1 ∧ (pos s n).1 ≤ (stN s s.length).length ∧ ∃ x, (stN s s.length)[(pos s n).1 - 1]? = some x ∧ x + (pos s n).2 = n + 1 := by
  obtain ⟨h1, l, x, h2, h3⟩ := stN_pos s n h
  have hp := stN_pre s n (s.length - n)
  rw [show n + (s.length - n) = s.length by omega] at hp
  obtain ⟨t, ht⟩ := hp
  have hl := (stN_len s n).1
  refine ⟨by omega, by rw [← ht]; simp; omega, x, ?_, h3⟩
  rw [← ht, h1, List.getElem?_append_left (by omega), h2]
  simp

def lastN : Nat → List (Tk × Nat) → Nat → Nat
  | l, _, 0 => l
  | l, [], _ + 1 => l
  | _, t :: ts, i + 1 => lastN (t.2 + t.1.text.length) ts i
theorem lastN_succ : ∀ (l : Nat) (ts : List (Tk × Nat)) (i : Nat) (h : i < ts.length), lastN l ts (i + 1) = ts[i].2 + ts[i].1.text.length
  | l, [], i, h => absurd h (Nat.not_lt_zero _)
  | l, t :: ts, 0, h => by simp [lastN]
  | l, t :: ts, i + 1, h => by
    rw [lastN]
    exact lastN_succ _ ts i (by simpa using h)

structure TokAt (s : List UInt8) (last : Nat) (x : Tk × Nat) (fin : Prop) : Prop where
  le : last ≤ x.2
  fits : x.2 + x.1.text.length ≤ s.length
  text : (s.drop x.2).take x.1.text.length = x.1.text
  skip : skipR false (s.drop last) = s.drop x.2
  kind0 : x.1.kind = 0 ↔ fin
  atEnd : x.1.kind = 0 → x.2 = s.length
  word : x.1.kind = 1 ↔ wordsL.contains x.1.text = true
  ne : x.1.kind ≠ 0 → x.1.text ≠ []

theorem words_heads : ∀ w ∈ wordsL, ∃ c l, w = c :: l ∧ smallB c = true := by
  intro w hw
  have h : wordsL.all (fun w => match w with
    | [] => false
    | c :: _ => smallB c) = true := by decide
  have := List.all_eq_true.1 h w hw
  cases w with
  | nil => cases this
  | cons c l => exact ⟨c, l, rfl, this⟩
theorem no_word {c : UInt8} {l : List UInt8} (h : smallB c = false) : wordsL.contains (c :: l) = false := by
  cases hc : wordsL.contains (c :: l) with
  | false => rfl
  | true =>
    obtain ⟨c', l', he, hs⟩ := words_heads _ (List.contains_iff_mem.1 hc)
    injection he with e1 e2
    rw [e1, hs] at h
    cases h
theorem marks_no_word : ∀ m ∈ marksL, wordsL.contains m = false := by decide
theorem tw_cons {p : UInt8 → Bool} {c : UInt8} {r : List UInt8} (h : p c = true) : (c :: r).takeWhile p = c :: r.takeWhile p := by rw [List.takeWhile_cons, if_pos h]
theorem nextM_word {r : List UInt8} {t : Tk} (h : nextM r = .ok t) : t.kind = 1 ↔ wordsL.contains t.text = true := by
  match r, h with
  | [], h => injection h with h; subst h; decide
  | c :: r, h =>
    rw [nextM] at h
    split at h
    · rename_i hg
      rw [(limitM_ok h).1]
      have hs : smallB c = false := by
        simp [greatB] at hg; simp [smallB]; omega
      simp only
      rw [tw_cons (by simp [innerB, hg]), no_word hs]
      simp
    · split at h
      · rename_i hs
        rw [(limitM_ok h).1]
        simp only
        split <;> simp_all
      · split at h
        · rename_i hs hd
          split at h
          · cases h
          · injection h with h
            subst h
            simp only
            rw [tw_cons hd, no_word (by simpa using hs)]
            simp
        · split at h
          · cases h
          · rename_i m hm
            injection h with h
            subst h
            have := marks_no_word m (List.mem_of_find?_eq_some hm)
            simp only
            rw [this]
            simp
theorem pre_take {t r : List UInt8} (h : t <+: r) : r.take t.length = t := by
  obtain ⟨x, rfl⟩ := h
  simp
theorem skipR_suf : ∀ (m : Bool) (l : List UInt8), skipR m l <:+ l
  | _, [] => by simp [skipR]
  | false, c :: r => by
    rw [skipR]
    split
    · exact (skipR_suf false r).trans (List.suffix_cons _ _)
    · split
      · exact (skipR_suf true r).trans (List.suffix_cons _ _)
      · exact List.suffix_rfl
  | true, c :: r => by
    rw [skipR]
    split
    · exact (skipR_suf false r).trans (List.suffix_cons _ _)
    · exact (skipR_suf true r).trans (List.suffix_cons _ _)
theorem suf_drop {t r : List UInt8} (h : t <:+ r) : t = r.drop (r.length - t.length) := by
  obtain ⟨x, rfl⟩ := h
  rw [List.length_append, Nat.add_sub_cancel, List.drop_left]

theorem lexR_tok (s : List UInt8) : ∀ (f : Nat) (last : Nat) (ts : List (Tk × Nat)), last ≤ s.length → s.length - last < f → lexR f (s.drop last) last = .ok ts → ∀ i (h : i < ts.length), TokAt s (lastN last ts i) ts[i] (i + 1 = ts.length)
  | 0, _, _, _, hf, _ => absurd hf (Nat.not_lt_zero _)
  | f + 1, last, ts, hl, hf, h => by
    have hs := skipR_suf false (s.drop last)
    have hd := suf_drop hs
    have hsl := hs.length_le
    rw [List.drop_drop, List.length_drop] at hd
    rw [List.length_drop] at hsl
    have ho : last + (s.length - last - (skipR false (s.drop last)).length) ≤ s.length := by omega
    generalize hoo : last + (s.length - last - (skipR false (s.drop last)).length) = o at hd ho
    have hlo : last ≤ o := by omega
    rw [lexR_succ f (s.drop last) _ last o rfl (by rw [List.length_drop]; omega)] at h
    rw [hd] at h
    cases hn : nextM (s.drop o) with
    | error e => rw [hn] at h; cases h
    | ok t =>
      rw [hn] at h
      obtain ⟨hpre, hp, _, h0⟩ := nextM_len hn
      have hpl := hpre.length_le
      rw [List.length_drop] at hpl
      by_cases hk : t.kind = 0
      · simp only [hk, if_true] at h
        injection h with h
        subst h
        intro i hi
        have hi0 : i = 0 := by simp at hi; omega
        subst hi0
        obtain ⟨h1, h2⟩ := h0 hk
        have hoe : o = s.length := by
          have := congrArg List.length h1
          rw [List.length_drop] at this
          simp at this
          omega
        exact ⟨hlo, by simp only [List.getElem_cons_zero]; omega, pre_take hpre, hd, by simp [hk], fun _ => hoe, nextM_word hn, fun h => absurd hk h⟩
      · simp only [hk, if_false] at h
        rw [List.drop_drop] at h
        cases hx : lexR f (s.drop (o + t.text.length)) (o + t.text.length) with
        | error e => rw [hx] at h; cases h
        | ok us =>
          rw [hx] at h
          injection h with h
          subst h
          have hpk := hp hk
          have ih := lexR_tok s f (o + t.text.length) us (by omega) (by omega) hx
          have hne : us ≠ [] := lexR_ne _ _ _ _ hx
          intro i hi
          cases i with
          | zero => exact ⟨hlo, by simp only [List.getElem_cons_zero]; omega, pre_take hpre, hd, by
              simp only [List.getElem_cons_zero, List.length_cons, hk, false_iff]
              have := List.length_pos_iff.2 hne
              omega, fun h => absurd h hk, nextM_word hn, fun _ h => by
              simp only [List.getElem_cons_zero] at h
              rw [h] at hpk
              simp at hpk⟩
          | succ i =>
            have := ih i (by simpa using hi)
            simp only [List.getElem_cons_succ, lastN, List.length_cons, Nat.add_right_cancel_iff]
            exact this
theorem lexM_tok {s : List UInt8} {ts : List (Tk × Nat)} (h : lexM s = .ok ts) (hs : s.length ≤ 65536) (i : Nat) (hi : i < ts.length) : TokAt s (lastN 0 ts i) ts[i] (i + 1 = ts.length) := by
  rw [lexM, if_neg (by omega)] at h
  exact lexR_tok s _ 0 ts (Nat.zero_le _) (by omega) h i hi

/-- One byte of a gap. -/
theorem drop_at {s : List UInt8} {k : Nat} {c : UInt8} (h : s[k]? = some c) : s.drop k = c :: s.drop (k + 1) := by
  have hk := (List.getElem?_eq_some_iff.1 h).1
  rw [List.drop_eq_getElem_cons hk, (List.getElem?_eq_some_iff.1 h).2]
theorem gap_step {s : List UInt8} {k o : Nat} {c : UInt8} (hk : k < o) (ho : o ≤ s.length) (hc : s[k]? = some c) (h : skipR false (s.drop k) = s.drop o) :
    (c = 47 ∧ k + 1 < o ∧ s[k + 1]? = some 47 ∧ skipR true (s.drop k) = s.drop o) ∨ (¬ (c = 47 ∧ k + 1 < o ∧ s[k + 1]? = some 47) ∧ blankB c = true ∧ skipR false (s.drop (k + 1)) = s.drop o) := by
  rw [drop_at hc, skipR] at h
  by_cases hb : blankB c = true
  · rw [if_pos hb] at h
    refine .inr ⟨?_, hb, h⟩
    rintro ⟨rfl, _⟩
    exact absurd hb (by decide)
  · rw [if_neg hb] at h
    have hlen : (s.drop o).length = s.length - o := List.length_drop
    have hlen2 : (s.drop (k + 1)).length = s.length - (k + 1) := List.length_drop
    by_cases h2 : (c == 47 && (s.drop (k + 1)).head? == some 47) = true
    · rw [if_pos h2] at h
      simp only [Bool.and_eq_true, beq_iff_eq, List.head?_drop] at h2
      obtain ⟨rfl, h47⟩ := h2
      by_cases hko : k + 1 < o
      · refine .inl ⟨rfl, hko, h47, ?_⟩
        rw [drop_at hc, skipR, if_neg (by decide)]
        exact h
      · exfalso
        obtain rfl : o = k + 1 := by omega
        rw [drop_at h47, skipR, if_neg (by decide)] at h
        have := skipR_len true (s.drop (k + 1 + 1))
        rw [h] at this
        simp at this
        omega
    · rw [if_neg h2] at h
      have := congrArg List.length h
      rw [List.length_cons, hlen, hlen2] at this
      have hkl := (List.getElem?_eq_some_iff.1 hc).1
      omega
theorem rem_step {s : List UInt8} {k o : Nat} {c : UInt8} (hc : s[k]? = some c) (h : skipR true (s.drop k) = s.drop o) :
    (c = 10 → skipR false (s.drop (k + 1)) = s.drop o) ∧ (c ≠ 10 → skipR true (s.drop (k + 1)) = s.drop o) := by
  rw [drop_at hc, skipR] at h
  by_cases h10 : c = 10
  · rw [if_pos (by simp [h10])] at h
    exact ⟨fun _ => h, fun h2 => absurd h10 h2⟩
  · rw [if_neg (by simp [h10])] at h
    exact ⟨fun h2 => absurd h2 h10, fun _ => h⟩
end Go.Proofs.YtoilalfchnglcaaDoor
