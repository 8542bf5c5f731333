/- Statements that are few have texts that memory bears; no statement of the seat is proved here. -/
import Derived.Test.YtleccalfcnkklaaDoorStmFew
namespace Go.Proofs.YtleccalfcnkklaaDoor
open Go.RowKit

/-- So long may the text of an expression so deep be, at most. -/
def fewT : Nat → Nat
  | 0 => 0
  | n + 1 => 93 + 5 * fewT n
theorem itb_bd {c : Prop} [Decidable c] {a b : List UInt8} {N : Nat} (ha : a.length ≤ N) (hb : b.length ≤ N) : (if c then a else b).length ≤ N := by split <;> assumption
theorem textK_few (kd nu : Int) (n tn : List UInt8) (ts : List (List UInt8)) (h : i64B nu) (hn : n.length ≤ 40) (htn : tn.length ≤ 40) (hk : ts.length ≤ 5) : (textK kd nu n tn ts).length ≤ 93 + (ts.map List.length).sum := by
  have h1 := kid2_bd ts
  have h2 := kidj_bd ts
  have h3 := join_len ts [44, 32]
  have h4 := Lib.itoa_length_le nu h.1 h.2
  have h5 : (joinC ts).length ≤ (ts.map List.length).sum + 2 * ts.length := by unfold joinC; simp at h3; omega
  unfold textK
  repeat' with_reducible refine itb_bd ?_ ?_
  all_goals
    try rw [show nul.length = 4 from rfl]
    try simp only [List.length_append, List.length_cons, List.length_nil]
    omega
theorem Ex.few_text {w : World} {F : Nat → Prop} {e : Ex} (h : e.At w F) : ∀ d, e.few d = true → e.text.length ≤ fewT (11 - d) := by
  induction h with
  | @mk kd ln co nu n tn ta A k c ks on oa ow hr hl hkc hk hi hs hall ih =>
    intro d hd
    rw [Ex.few_mk] at hd
    simp only [Bool.and_eq_true, decide_eq_true_eq, List.all_eq_true] at hd
    obtain ⟨⟨⟨⟨h1, h2⟩, h3⟩, h4⟩, h5⟩ := hd
    rw [Ex.text_mk, show 11 - d = (10 - d) + 1 by omega, fewT]
    have h0 := textK_few kd nu n tn (ks.map Ex.text) hi.2 h3 h4 (by rw [List.length_map]; omega)
    have h6 := sum_up (f := fun x : Ex => x.text.length) (b := fewT (11 - (d + 1))) fun x hx => ih x hx (d + 1) (h5 x hx)
    rw [show 11 - (d + 1) = 10 - d by omega, hl] at h6
    have h7 : k * fewT (10 - d) ≤ 5 * fewT (10 - d) := Nat.mul_le_mul_right _ h2
    rw [List.map_map] at h0
    have e : (List.length ∘ Ex.text) = fun x : Ex => x.text.length := rfl
    rw [e] at h0
    omega
theorem fewT_11 : fewT 11 = 1135253883 := by decide +kernel
theorem Ex.few_txt {w : World} {F : Nat → Prop} {e : Ex} (h : e.At w F) (hf : e.few 0 = true) : e.text.length ≤ 1135253883 := by
  have := Ex.few_text h 0 hf
  rw [show 11 - 0 = 11 from rfl, fewT_11] at this
  exact this
/-- So long may a statement's text be, by how many levels lie below it. -/
def tB : Nat → Nat
  | 0 => 0
  | 1 => 2270508066
  | n + 2 => 1135254183 + 20 * tB (n + 1)
theorem tB_low (n : Nat) : 2270508066 ≤ tB (n + 1) := by
  induction n with
  | zero => exact Nat.le_refl _
  | succ n ih => rw [tB]; omega
theorem tB_up (n : Nat) : 1135254183 + 20 * tB n ≤ tB (n + 1) := by
  rcases n with _ | n
  · decide
  · exact Nat.le_refl _
theorem kid_few {w : World} {F : Nat → Prop} {es : List Ex} (ha : ∀ x ∈ es, x.At w F) (hf : (es.all fun e => e.few 0) = true) (i : Nat) : (kidT (es.map Ex.text) i).length ≤ 1135253883 := by
  unfold kidT
  rcases Nat.lt_or_ge i es.length with hi | hi
  · have : (es.map Ex.text).getD i nul = es[i].text := by simp [List.getD, hi]
    rw [this]
    exact Ex.few_txt (ha _ (List.getElem_mem hi)) (List.all_eq_true.1 hf _ (List.getElem_mem hi))
  · have : (es.map Ex.text).getD i nul = nul := by simp [List.getD, hi]
    rw [this]
    decide
theorem block_bd {d : Nat} {tx : List (List UInt8)} {b : Nat} (h : ∀ t ∈ tx, t.length ≤ b) (hd : d ≤ 20) (hk : tx.length ≤ 10) : (blockT d tx).length ≤ 23 + 10 * b := by
  have h1 : tx.flatten.length ≤ tx.length * b := by
    clear hk
    induction tx with
    | nil => simp
    | cons a l ih =>
      have h2 := h a List.mem_cons_self
      have h3 := ih fun t ht => h t (List.mem_cons_of_mem _ ht)
      rw [List.flatten_cons, List.length_append, List.length_cons, Nat.add_mul]
      omega
  have h2 : tx.length * b ≤ 10 * b := Nat.mul_le_mul_right _ hk
  have h3 : (tabs d).length = d := by simp [tabs]
  simp only [blockT, List.length_append, List.length_cons, List.length_nil, h3]
  omega
theorem St.few_text (s : St) : ∀ {w : World} {F : Nat → Prop} (q d : Nat), s.At w F → s.few q = true → d ≤ 10 + q → q ≤ 4 ∧ (s.text d).length ≤ tB (5 - q) ∧ s.Fits d := by
  induction s using St.ind with
  | h s iht ihl =>
    intro w F q d hat hf hd
    obtain ⟨ds, ln, co, n, tn, ta, eA, ek, ec, es, tA, tk, tc, ts, lA, lk, lc, ls⟩ := s
    cases hat with
    | mk hr hl hkc hk hea tr tl tkc tk' hta lr ll lkc lk' hla hi hs =>
    rw [St.few_mk] at hf
    simp only [Bool.and_eq_true, decide_eq_true_eq, fewL] at hf
    obtain ⟨⟨⟨⟨⟨h1, h2⟩, h3⟩, ⟨⟨h4, h5⟩, h6⟩⟩, ⟨⟨_, h7⟩, h8⟩⟩, h9⟩ := hf
    have IT : ∀ x ∈ ts, (x.text (d + 1)).length ≤ tB (5 - (q + 1)) ∧ x.Fits (d + 1) := fun x hx => (iht x hx (q + 1) (d + 1) (hta x hx) (List.all_eq_true.1 h6 x hx) (by omega)).2
    have IL : ∀ x ∈ ls, (x.text (d + 1)).length ≤ tB (5 - (q + 1)) ∧ x.Fits (d + 1) := fun x hx => (ihl x hx (q + 1) (d + 1) (hla x hx) (List.all_eq_true.1 h8 x hx) (by omega)).2
    have bt := block_bd (d := d) (tx := ts.map fun x => x.text (d + 1)) (b := tB (5 - (q + 1))) (by intro t ht; obtain ⟨x, hx, rfl⟩ := List.mem_map.1 ht; exact (IT x hx).1) (by omega) (by simpa using h5)
    have bl := block_bd (d := d) (tx := ls.map fun x => x.text (d + 1)) (b := tB (5 - (q + 1))) (by intro t ht; obtain ⟨x, hx, rfl⟩ := List.mem_map.1 ht; exact (IL x hx).1) (by omega) (by simpa using h7)
    have e0 := kid_few hea h9 0
    have e1 := kid_few hea h9 1
    have hup := tB_up (5 - (q + 1))
    have hlow := tB_low (5 - (q + 1))
    rw [show 5 - (q + 1) + 1 = 5 - q by omega] at hup hlow
    have hlim : tB (5 - (q + 1)) ≤ tB 4 := by
      have : q = 0 ∨ q = 1 ∨ q = 2 ∨ q = 3 ∨ q = 4 := by omega
      rcases this with rfl | rfl | rfl | rfl | rfl <;> decide +kernel
    have ht4 : tB 4 ≤ 20000000000000 := by decide +kernel
    refine ⟨by omega, ?_, .mk (by omega) (fun x hx => ?_) (by omega) (by omega) (by omega) (by omega) (fun x hx => (IT x hx).2) (fun x hx => (IL x hx).2)⟩
    · rw [St.text_mk]
      have htab : (tabs d).length = d := by simp [tabs]
      have hty : (tyT tn ta).length ≤ 42 := by unfold tyT; split <;> (try rw [List.length_append]) <;> (try simp only [List.length_cons, List.length_nil]) <;> omega
      have hel : (elseT d ls.length (ls.map fun x => x.text (d + 1))).length ≤ 6 + (blockT d (ls.map fun x => x.text (d + 1))).length := by unfold elseT; split <;> simp <;> omega
      unfold stK
      repeat' with_reducible refine itb_bd ?_ ?_
      all_goals
        simp only [List.length_append, List.length_cons, List.length_nil]
        omega
    · have := Ex.few_bd (hea x hx) (List.all_eq_true.1 h9 x hx)
      omega
theorem fewL_fits {w : World} {F : Nat → Prop} {ts : List St} (ha : ∀ x ∈ ts, x.At w F) (h : fewL 0 ts = true) {d : Nat} (hd : d ≤ 10) : (∀ x ∈ ts, x.Fits d ∧ (x.text d).length ≤ tB 5) ∧ ts.length ≤ 10 := by
  simp only [fewL, Bool.and_eq_true, decide_eq_true_eq] at h
  exact ⟨fun x hx => ⟨(St.few_text x 0 d (ha x hx) (List.all_eq_true.1 h.2 x hx) (by omega)).2.2, (St.few_text x 0 d (ha x hx) (List.all_eq_true.1 h.2 x hx) (by omega)).2.1⟩, h.1.2⟩
theorem tB5 : tB 5 ≤ 400000000000000 := by decide +kernel
end Go.Proofs.YtleccalfcnkklaaDoor
