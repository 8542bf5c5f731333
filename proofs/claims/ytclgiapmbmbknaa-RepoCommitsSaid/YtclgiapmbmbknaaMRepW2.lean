/- A list of the law's as bytes, and back; what Sweep leaves; no statement of the seat is proved here. -/
import Derived.Test.YtclgiapmbmbknaaMRepSweep
namespace Go.Proofs.Ytclgiapmbmbknaa
open Go.RowKit Go.Maps
set_option linter.unusedVariables false

def Fwd {α : Type} (f : St → α × St) (g : α → List UInt8) (ok : α → Prop) : Prop := ∀ x r, ok x → f (some (g x ++ r)) = (x, some r)
theorem textF (m : Nat) (hm : m < 9223372036854775808) : Fwd (textR m) tx (fun s => s.length ≤ m) := fun s r h => textR_tx s r (by omega) h
theorem manyR_vi {m n : Nat} (r : List UInt8) (hm : m < 9223372036854775808) (h : n ≤ m) (hr : n ≤ r.length) : manyR m (some (vi n ++ r)) = (n, some r) := by
  unfold manyR
  rw [numR_vi r (by omega) h]
  rw [if_neg (by simp [left_]; omega)]
theorem iterF {α : Type} {f : St → α × St} {g : α → List UInt8} {ok : α → Prop} (h : Fwd f g ok) : ∀ (l : List α) (r : List UInt8), (∀ x ∈ l, ok x) → iterR f l.length (some (catAll g l ++ r)) = (l, some r)
  | [], _, _ => rfl
  | x :: l, r, hl => by
    rw [List.length_cons, iterR_cons, catAll_cons, List.append_assoc, h x _ (hl x (List.mem_cons_self ..))]
    simp only
    rw [iterF h l r (fun y hy => hl y (List.mem_cons_of_mem _ hy))]
theorem catAll_ge {α : Type} {g : α → List UInt8} (h : ∀ x, 1 ≤ (g x).length) : ∀ l : List α, l.length ≤ (catAll g l).length
  | [] => Nat.le_refl _
  | x :: l => by
    have h1 := h x
    have h2 := catAll_ge h l
    rw [catAll_cons, List.length_append, List.length_cons]
    omega
theorem secF {α : Type} {f : St → α × St} {g : α → List UInt8} {ok : α → Prop} (h : Fwd f g ok) (hp : ∀ x, 1 ≤ (g x).length) (m : Nat) (hm : m < 9223372036854775808) :
    Fwd (secR f m) (secL g) (fun l => l.length ≤ m ∧ ∀ x ∈ l, ok x) := by
  intro l r hl
  have h2 := catAll_ge hp l
  unfold secR secL
  rw [List.append_assoc, manyR_vi _ hm hl.1 (by rw [List.length_append]; omega)]
  exact iterF h l r hl.2
theorem tx_pos (s : List UInt8) : 1 ≤ (tx s).length := by
  have := vi_pos s.length
  rw [tx, List.length_append]; omega
theorem rdqF : Fwd rdR rdL (fun x => x.n.length ≤ 40 ∧ x.d.length ≤ 32) := fun x r h => by
  unfold rdR rdL
  rw [List.append_assoc, textF 40 (by omega) x.n _ h.1]
  simp only
  rw [textF 32 (by omega) x.d _ h.2]
theorem rdL_pos (x : Rdq) : 1 ≤ (rdL x).length := by
  have := tx_pos x.n
  rw [rdL, List.length_append]; omega
theorem enF : Fwd enR enL (fun e => e.n.length ≤ 40 ∧ e.s.length ≤ 32 ∧ e.b.length ≤ 32 ∧ e.rs.length ≤ 200 ∧ ∀ x ∈ e.rs, x.n.length ≤ 40 ∧ x.d.length ≤ 32) := fun e r h => by
  unfold enR enL
  simp only [List.append_assoc]
  rw [textF 40 (by omega) e.n _ h.1]
  simp only
  rw [textF 32 (by omega) e.s _ h.2.1]
  simp only
  rw [textF 32 (by omega) e.b _ h.2.2.1]
  simp only
  rw [secF rdqF rdL_pos 200 (by omega) e.rs r h.2.2.2]
theorem enL_pos (x : EnP) : 1 ≤ (enL x).length := by
  have := tx_pos x.n
  rw [enL, List.length_append]; omega
theorem dec_of {l : List EnP} (hr : rightL l = true) (hok : ∀ e ∈ l, e.ok = true) (hf : ∀ e ∈ l, e.n.length ≤ 40 ∧ e.s.length ≤ 32 ∧ e.b.length ≤ 32 ∧ e.rs.length ≤ 200 ∧ ∀ x ∈ e.rs, x.n.length ≤ 40 ∧ x.d.length ≤ 32) : decM (encM l) = some l := by
  have hl : l.length ≤ 200 := by
    unfold rightL at hr
    simp only [Bool.and_eq_true, decide_eq_true_eq] at hr
    exact hr.1
  have h1 : (encM l).length - 32 = (liL l).length := by
    unfold encM
    rw [List.length_append, sumM_len]
    omega
  have h2 : (encM l).take (liL l).length = liL l := by unfold encM; simp
  have h3 : (encM l).drop (liL l).length = sumM (liL l) := by unfold encM; simp
  have h4 : liR (some (liL l)) = (l, some []) := by
    have := secF enF enL_pos 200 (by omega) l [] ⟨hl, hf⟩
    rw [List.append_nil] at this
    exact this
  unfold decM
  rw [if_neg (by unfold encM; rw [List.length_append, sumM_len]; omega), h1, h2, h3, if_pos (by simp), h4]
  have h5 : l.all EnP.ok = true := List.all_eq_true.2 hok
  simp only [doneR, h5, hr]
  simp
theorem great_X : ∀ i, i < 6 → great [UInt8.ofNat (65 + i)] = true := by decide
theorem leq_nil : ∀ i, i < 6 → leqB [UInt8.ofNat (65 + i)] [] = false := by decide
theorem leq_up : ∀ j, j < 6 → ∀ i, i < j → leqB [UInt8.ofNat (65 + j)] [UInt8.ofNat (65 + i)] = false := by decide
theorem tx_127 (s : List UInt8) (h : s.length < 128) : (tx s).length ≤ 1 + s.length := by
  have := vi_len_le s.length 0 (by omega)
  unfold tx
  rw [List.length_append]
  omega
theorem rise_one (c : UInt8) (s b last : List UInt8) (O : List EnP) (h1 : great [c] = true) (h2 : leqB [c] last = false) (h3 : riseE [c] O = true) : riseE last (⟨[c], s, [], b⟩ :: O) = true := by
  have h4 : EnP.ok1 last ⟨[c], s, [], b⟩ = true := by
    unfold EnP.ok1
    simp only [h1, h2]
    rfl
  unfold riseE
  rw [h4, h3]
  rfl
theorem ok_Q (c : UInt8) {s b : List UInt8} (h1 : s.length = 32) (h2 : b.length = 32) : EnP.ok ⟨[c], s, [], b⟩ = true := by
  unfold EnP.ok
  simp only [h1, h2]
  rfl
theorem fit_Q (c : UInt8) {s b : List UInt8} (h1 : s.length = 32) (h2 : b.length = 32) : ([c] : List UInt8).length ≤ 40 ∧ s.length ≤ 32 ∧ b.length ≤ 32 ∧ ([] : List Rdq).length ≤ 200 ∧ ∀ y ∈ ([] : List Rdq), y.n.length ≤ 40 ∧ y.d.length ≤ 32 :=
  ⟨by simp, by omega, by omega, by simp, by simp⟩
theorem enL_Q (c : UInt8) {s b : List UInt8} (h1 : s.length = 32) (h2 : b.length = 32) : (enL ⟨[c], s, [], b⟩).length ≤ 69 := by
  have h3 := tx_127 [c] (by simp)
  have h4 := tx_127 s (by omega)
  have h5 := tx_127 b (by omega)
  have h6 : (secL rdL []).length ≤ 1 := by
    have := vi_len_le 0 0 (by omega)
    show (vi 0 ++ catAll rdL []).length ≤ 1
    simpa [catAll] using this
  simp only [List.length_cons, List.length_nil] at h3
  show (tx [c] ++ (tx s ++ (tx b ++ secL rdL []))).length ≤ 69
  simp only [List.length_append]
  omega
theorem rise_X : ∀ (O : List (Nat × Nat)) (last : List UInt8), (∀ x ∈ O, isX x) → O.Pairwise (fun a b => a.1 < b.1) → (last = [] ∨ ∃ i, last = [UInt8.ofNat (65 + i)] ∧ ∀ x ∈ O, i < x.1) → riseE last (O.map entX) = true
  | [], _, _, _, _ => rfl
  | x :: O, last, h1, h2, h3 => by
    have hx := h1 x (List.mem_cons_self ..)
    have h4 := List.pairwise_cons.1 h2
    have ih := rise_X O (entX x).n (fun y hy => h1 y (List.mem_cons_of_mem _ hy)) h4.2 (.inr ⟨x.1, rfl, h4.1⟩)
    have hl : leqB [UInt8.ofNat (65 + x.1)] last = false := by
      rcases h3 with rfl | ⟨i, rfl, hi⟩
      · exact leq_nil x.1 hx.1
      · exact leq_up x.1 hx.1 i (hi x (List.mem_cons_self ..))
    rw [List.map_cons]
    exact rise_one _ _ _ last _ (great_X x.1 hx.1) hl ih
theorem right_X {O : List (Nat × Nat)} (h : OkX O) : rightL (O.map entX) = true := by
  unfold rightL
  rw [rise_X O [] h.is h.up (.inl rfl)]
  have := h.len
  simp
  omega
theorem ok_X (x : Nat × Nat) : (entX x).ok = true := ok_Q _ (sumM_len _) (dgt_len x)
theorem fit_X (x : Nat × Nat) : (entX x).n.length ≤ 40 ∧ (entX x).s.length ≤ 32 ∧ (entX x).b.length ≤ 32 ∧ (entX x).rs.length ≤ 200 ∧ ∀ y ∈ (entX x).rs, y.n.length ≤ 40 ∧ y.d.length ≤ 32 := by
  have h1 : (sumM ([115, 111, 117, 114, 99, 101, 32] ++ txt x)).length = 32 := sumM_len _
  have h2 := dgt_len x
  unfold entX
  generalize sumM ([115, 111, 117, 114, 99, 101, 32] ++ txt x) = s at h1 ⊢
  generalize dgt x = b at h2 ⊢
  exact fit_Q _ h1 h2
theorem dec_encX {O : List (Nat × Nat)} (h : OkX O) : decM (encX O) = some (O.map entX) := by
  refine dec_of (right_X h) (fun e he => ?_) (fun e he => ?_)
  · obtain ⟨x, _, rfl⟩ := List.mem_map.1 he
    exact ok_X x
  · obtain ⟨x, _, rfl⟩ := List.mem_map.1 he
    exact fit_X x
theorem liX_len {O : List (Nat × Nat)} (h : OkX O) : (liL (O.map entX)).length ≤ 500 := by
  have h1 := h.len
  have h2 : ∀ l : List (Nat × Nat), (catAll enL (l.map entX)).length ≤ 69 * l.length := fun l => by
    induction l with
    | nil => simp [catAll]
    | cons x l ih =>
      rw [List.map_cons, catAll_cons, List.length_append]
      have a : (enL (entX x)).length ≤ 69 := enL_Q _ (sumM_len _) (dgt_len x)
      simp only [List.length_cons]
      omega
  have h3 := h2 O
  have h4 := vi_len_le (O.map entX).length 0 (by rw [List.length_map]; omega)
  unfold liL secL
  rw [List.length_append]
  omega
theorem encX_len {O : List (Nat × Nat)} (h : OkX O) : (encX O).length ≤ 600 := by
  have := liX_len h
  unfold encX encM
  rw [List.length_append, sumM_len]
  omega

/-! What Sweep leaves. -/
theorem Good.name_len {O : List (Nat × Nat)} {F : Fl} (h : Good O F) {n : List UInt8} (hn : (F n).isSome = true) : n.length ≤ 1000 := by
  obtain ⟨v, hv⟩ := Option.isSome_iff_exists.1 hn
  rcases (h.only n v hv).1 with rfl | rfl | ⟨x, _, rfl, _⟩
  · decide
  · decide
  · rw [nmX_len]; omega
theorem Good.names_le {O : List (Nat × Nat)} {F : Fl} (h : Good O F) {l : List (List UInt8)} (hl : IsNames F l) : l.length ≤ 40 := by
  have h1 := names_len hl (m := allN.filter (fun n => (F n).isSome)) (List.Pairwise.filter _ allN_nodup) (fun n => by
    rw [List.mem_filter]
    refine ⟨fun h => h.2, fun hs => ⟨?_, hs⟩⟩
    obtain ⟨v, hv⟩ := Option.isSome_iff_exists.1 hs
    rcases (h.only n v hv).1 with rfl | rfl | ⟨x, hx, rfl, _⟩
    · simp [allN]
    · simp [allN]
    · simp only [allN, List.mem_cons]
      exact .inr (.inr (List.mem_map.2 ⟨x, mem_allX.2 hx, rfl⟩)))
  have h2 : (allN.filter (fun n => (F n).isSome)).length ≤ 26 := by
    rw [← allN_len]
    exact List.length_filter_le ..
  omega
theorem Good.dig {O : List (Nat × Nat)} {F : Fl} (h : Good O F) {l : List (List UInt8)} (hl : IsNames F l) {d : List UInt8} (hd : d ∈ l.filterMap allD) : ∃ x, isX x ∧ d = dgt x := by
  obtain ⟨n, hn, ha⟩ := List.mem_filterMap.1 hd
  have hnm := allD_name ha
  have hdl := allD_len ha
  obtain ⟨v, hv⟩ := Option.isSome_iff_exists.1 ((hl.2 n).1 hn)
  rcases (h.only n v hv).1 with e | e | ⟨x, hx, e, _⟩
  · rw [hnm] at e
    exact absurd e (bnm_ne_list d)
  · rw [hnm] at e
    exact absurd e (bnm_ne_next d)
  · refine ⟨x, hx, bnm_inj hdl (dgt_len x) ?_⟩
    rw [← hnm, e]
    rfl
theorem keep_mem {O : List (Nat × Nat)} (hO : OkX O) {x : Nat × Nat} (hx : isX x) : (O.map dgt).contains (dgt x) = true ↔ x ∈ O := by
  rw [List.contains_iff_mem, List.mem_map]
  constructor
  · rintro ⟨y, hy, e⟩
    rw [← dgt_inj (hO.is y hy) hx e]
    exact hy
  · exact fun h => ⟨x, h, rfl⟩
theorem remD_harm {O : List (Nat × Nat)} (hO : OkX O) {F : Fl} (hg : Good O F) {l : List (List UInt8)} (hl : IsNames F l) (k : Nat) {c : Ch} (hc : c ∈ remD (O.map dgt) ((l.filterMap allD).take k)) : Harm O c := by
  obtain ⟨d, hd, rfl⟩ := List.mem_map.1 hc
  obtain ⟨hd1, hd2⟩ := List.mem_filter.1 hd
  obtain ⟨x, hx, e⟩ := hg.dig hl (List.mem_of_mem_take hd1)
  have he : bnm d = nmX x := by rw [e]; rfl
  refine .inr ⟨rfl, .inr ⟨x, hx, fun hxo => ?_, he⟩⟩
  rw [e, (keep_mem hO hx).2 hxo] at hd2
  simp at hd2
theorem SwAt.hs {w0 w : World} {B g room M k : Nat} {O : List (Nat × Nat)} {s s' : Ds} {l : List (List UInt8)} (h : SwAt w0 B g room M s (O.map dgt) (l.filterMap allD) k w s') (hO : OkX O) (hs : Hs O s) (hl : IsNames s.R l) : Hs O s' :=
  ⟨by rw [h.F]; exact hs.good, fun c hc => by
    rw [h.cs] at hc
    rcases List.mem_append.1 hc with hc | hc
    · exact hs.harm c hc
    · exact remD_harm hO (hs.R hO) hl k hc⟩
theorem SwAt.exact_ {w0 w : World} {B g room M k : Nat} {O : List (Nat × Nat)} {s s' : Ds} {l : List (List UInt8)} (h : SwAt w0 B g room M s (O.map dgt) (l.filterMap allD) k w s') (hO : OkX O) (hs : Hs O s) (hl : IsNames s.R l) (hk : k = (l.filterMap allD).length) (hn : s.R nNext = none) : Exact O s'.R := by
  have hr : ∀ n, s'.R n = if n ∈ ((l.filterMap allD).filter (fun d => !(O.map dgt).contains d)).map bnm then none else s.R n := fun n => by
    unfold Ds.R
    rw [h.cs, List.foldl_append, h.F, fold_rem _ (fun c hc => remD_k hc), remD_names, hk, List.take_length]
  refine ⟨(h.hs hO hs hl).R hO, ?_, fun x hx hxo => ?_⟩
  · rw [hr]
    split
    · rfl
    · exact hn
  · rw [hr]
    split
    · rfl
    · rename_i hm
      cases hf : s.R (nmX x) with
      | none => rfl
      | some v =>
        refine absurd (List.mem_map.2 ⟨dgt x, List.mem_filter.2 ⟨?_, ?_⟩, rfl⟩) hm
        · exact (mem_allD (dgt_len x)).2 ((hl.2 _).2 (by rw [show bnm (dgt x) = nmX x from rfl, hf]; rfl))
        · cases hc : (O.map dgt).contains (dgt x) with
          | false => rfl
          | true => exact absurd ((keep_mem hO hx).1 hc) hxo
end Go.Proofs.Ytclgiapmbmbknaa
