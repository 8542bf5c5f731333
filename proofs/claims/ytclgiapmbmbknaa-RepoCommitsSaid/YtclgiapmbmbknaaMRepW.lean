/- The files of a list of the law's on a disk, in plain words; no statement of the seat is proved here. -/
import Derived.Test.YtclgiapmbmbknaaMRepDisk
import Derived.Test.YtclgiapmbmbknaaMRepHeadB
import Derived.Test.YtclgiapmbmbknaaMRepHex
namespace Go.Proofs.Ytclgiapmbmbknaa
open Go.RowKit Go.Maps
set_option linter.unusedVariables false

/-- A text of the law's: of which class, which of four. -/
def txt (x : Nat × Nat) : List UInt8 := [116, UInt8.ofNat (97 + x.1), UInt8.ofNat (48 + x.2)]
def dgt (x : Nat × Nat) : List UInt8 := sumM (txt x)
def bnm (d : List UInt8) : List UInt8 := 98 :: 45 :: hexM d
def nmX (x : Nat × Nat) : List UInt8 := bnm (dgt x)
def isX (x : Nat × Nat) : Prop := x.1 < 6 ∧ x.2 < 4
def allX : List (Nat × Nat) := (List.range 6).flatMap fun i => (List.range 4).map fun j => (i, j)
theorem mem_allX {x : Nat × Nat} : x ∈ allX ↔ isX x := by
  simp only [allX, List.mem_flatMap, List.mem_map, List.mem_range, isX]
  constructor
  · rintro ⟨i, hi, j, hj, rfl⟩
    exact ⟨hi, hj⟩
  · rintro ⟨h1, h2⟩
    exact ⟨x.1, h1, x.2, h2, rfl⟩
set_option maxRecDepth 100000 in
theorem dgt_nodup : (allX.map fun x => (dgt x).take 4).Nodup := by decide +kernel
theorem nodup_inj {α β : Type} {f : α → β} : ∀ {l : List α}, (l.map f).Nodup → ∀ a ∈ l, ∀ b ∈ l, f a = f b → a = b
  | [], _, a, ha, _, _, _ => by cases ha
  | c :: l, h, a, ha, b, hb, e => by
    rw [List.map_cons, List.nodup_cons] at h
    rcases List.mem_cons.1 ha with rfl | ha' <;> rcases List.mem_cons.1 hb with rfl | hb'
    · rfl
    · exact absurd (List.mem_map.2 ⟨b, hb', e.symm⟩) h.1
    · exact absurd (List.mem_map.2 ⟨a, ha', e⟩) h.1
    · exact nodup_inj h.2 a ha' b hb' e
theorem dgt_inj {x y : Nat × Nat} (hx : isX x) (hy : isX y) (h : dgt x = dgt y) : x = y :=
  nodup_inj dgt_nodup x (mem_allX.2 hx) y (mem_allX.2 hy) (by rw [h])
theorem dgt_len (x : Nat × Nat) : (dgt x).length = 32 := sumM_len _
theorem hexM_inj {a b : List UInt8} (ha : a.length = 32) (hb : b.length = 32) (h : hexM a = hexM b) : a = b := by
  have h1 := parse_hex a ha
  have h2 := parse_hex b hb
  rw [h] at h1
  rw [h1] at h2
  exact congrArg Prod.fst h2
theorem bnm_inj {a b : List UInt8} (ha : a.length = 32) (hb : b.length = 32) (h : bnm a = bnm b) : a = b := by
  unfold bnm at h
  injection h with _ h
  injection h with _ h
  exact hexM_inj ha hb h
theorem nmX_inj {x y : Nat × Nat} (hx : isX x) (hy : isX y) (h : nmX x = nmX y) : x = y := dgt_inj hx hy (bnm_inj (dgt_len x) (dgt_len y) h)
theorem bnm_len (d : List UInt8) : (bnm d).length = 2 + 2 * d.length := by simp [bnm, hexM_len]; omega
theorem nmX_len (x : Nat × Nat) : (nmX x).length = 66 := by rw [nmX, bnm_len, dgt_len]
def nList : List UInt8 := [108, 105, 115, 116]
def nNext : List UInt8 := [110, 101, 120, 116]
theorem bnm_ne_list (d : List UInt8) : bnm d ≠ nList := by simp [bnm, nList]
theorem bnm_ne_next (d : List UInt8) : bnm d ≠ nNext := by simp [bnm, nNext]
theorem next_ne_list : nNext ≠ nList := by decide

/-- An entry of the law's; a list of them. -/
def entX (x : Nat × Nat) : EnP := ⟨[UInt8.ofNat (65 + x.1)], sumM ([115, 111, 117, 114, 99, 101, 32] ++ txt x), [], dgt x⟩
def encX (O : List (Nat × Nat)) : List UInt8 := encM (O.map entX)
structure OkX (O : List (Nat × Nat)) : Prop where
  is : ∀ x ∈ O, isX x
  up : O.Pairwise (fun a b => a.1 < b.1)
theorem OkX.nil : OkX [] := ⟨by simp, List.Pairwise.nil⟩
theorem up_len : ∀ (l : List (Nat × Nat)) (a : Nat), (∀ x ∈ l, a ≤ x.1 ∧ x.1 < 6) → l.Pairwise (fun a b => a.1 < b.1) → l.length ≤ 6 - a
  | [], _, _, _ => by simp
  | x :: l, a, h, hp => by
    have h1 := h x (List.mem_cons_self ..)
    have h2 := List.pairwise_cons.1 hp
    have := up_len l (x.1 + 1) (fun y hy => ⟨h2.1 y hy, (h y (List.mem_cons_of_mem _ hy)).2⟩) h2.2
    simp only [List.length_cons]
    omega
theorem OkX.len {O : List (Nat × Nat)} (h : OkX O) : O.length ≤ 6 := up_len O 0 (fun x hx => ⟨Nat.zero_le _, (h.is x hx).1⟩) h.up
theorem OkX.nodup {O : List (Nat × Nat)} (h : OkX O) : O.Nodup := h.up.imp fun {a b} hab e => by subst e; omega

/-- What a list's files are, whatever else of the law's lies beside them. -/
structure Good (O : List (Nat × Nat)) (F : Fl) : Prop where
  list : F nList = some (encX O) ∨ (F nList = none ∧ O = [])
  blob : ∀ x ∈ O, F (nmX x) = some (txt x)
  only : ∀ n v, F n = some v → (n = nList ∨ n = nNext ∨ ∃ x, isX x ∧ n = nmX x ∧ v = txt x) ∧ v.length ≤ 600
/-- A change that does a list no harm. -/
def Harm (O : List (Nat × Nat)) (c : Ch) : Prop := (c.k = 0 ∧ ((∃ x, isX x ∧ c.n = nmX x ∧ c.t = txt x) ∨ (c.n = nNext ∧ c.t.length ≤ 600))) ∨ (c.k = 2 ∧ (c.n = nNext ∨ ∃ x, isX x ∧ x ∉ O ∧ c.n = nmX x))
theorem Good.harm {O : List (Nat × Nat)} {F : Fl} (h : Good O F) (hO : OkX O) {c : Ch} (hc : Harm O c) : Good O (chDo F c) := by
  obtain ⟨k, n, t⟩ := c
  rcases hc with ⟨hk, hc⟩ | ⟨hk, hc⟩
  · simp only at hk hc
    subst hk
    simp only [chDo, if_pos]
    rcases hc with ⟨x, hx, rfl, rfl⟩ | ⟨rfl, ht⟩
    · refine ⟨?_, fun y hy => ?_, fun m v hm => ?_⟩
      · have : nList ≠ nmX x := fun e => bnm_ne_list _ e.symm
        simp only [Fl.set, if_neg this]
        exact h.list
      · unfold Fl.set
        by_cases e : nmX y = nmX x
        · rw [if_pos e, nmX_inj (hO.is y hy) hx e]
        · rw [if_neg e]; exact h.blob y hy
      · unfold Fl.set at hm
        by_cases e : m = nmX x
        · rw [if_pos e] at hm
          injection hm with hm
          subst hm
          exact ⟨.inr (.inr ⟨x, hx, e, rfl⟩), by simp [txt]⟩
        · rw [if_neg e] at hm
          exact h.only m v hm
    · refine ⟨?_, fun y hy => ?_, fun m v hm => ?_⟩
      · have : nList ≠ nNext := fun e => next_ne_list e.symm
        simp only [Fl.set, if_neg this]
        exact h.list
      · unfold Fl.set
        rw [if_neg (show nmX y ≠ nNext from bnm_ne_next _)]
        exact h.blob y hy
      · unfold Fl.set at hm
        by_cases e : m = nNext
        · rw [if_pos e] at hm
          injection hm with hm
          subst hm
          exact ⟨.inr (.inl e), ht⟩
        · rw [if_neg e] at hm
          exact h.only m v hm
  · simp only at hk hc
    subst hk
    have e0 : chDo F ⟨2, n, t⟩ = F.del n := by simp [chDo]
    rw [e0]
    have hon : ∀ m v, F.del n m = some v → F m = some v := fun m v hm => by
      unfold Fl.del at hm
      by_cases e : m = n
      · rw [if_pos e] at hm; cases hm
      · rwa [if_neg e] at hm
    refine ⟨?_, fun y hy => ?_, fun m v hm => h.only m v (hon m v hm)⟩
    · have : nList ≠ n := by
        rcases hc with rfl | ⟨x, _, _, rfl⟩
        · exact fun e => next_ne_list e.symm
        · exact fun e => bnm_ne_list _ e.symm
      simp only [Fl.del, if_neg this]
      exact h.list
    · have : nmX y ≠ n := by
        rcases hc with rfl | ⟨x, hx, hxo, rfl⟩
        · exact bnm_ne_next _
        · exact fun e => hxo (nmX_inj (hO.is y hy) hx e ▸ hy)
      simp only [Fl.del, if_neg this]
      exact h.blob y hy
theorem Good.fold {O : List (Nat × Nat)} (hO : OkX O) {cs : List Ch} {F : Fl} (h : Good O F) (hc : ∀ c ∈ cs, Harm O c) : Good O (cs.foldl chDo F) := by
  induction cs generalizing F with
  | nil => exact h
  | cons c cs ih => exact ih (h.harm hO (hc c (List.mem_cons_self ..))) fun d hd => hc d (List.mem_cons_of_mem _ hd)
theorem kept_mem {ks : List Bool} {cs : List Ch} {c : Ch} (h : c ∈ kept ks cs) : c ∈ cs := by
  obtain ⟨x, hx, rfl⟩ := List.mem_map.1 h
  have := (List.mem_filter.1 hx).1
  exact List.fst_mem_of_mem_zipIdx this
/-- A disk on which what was done since does a list no harm. -/
structure Hs (O : List (Nat × Nat)) (s : Ds) : Prop where
  good : Good O s.F
  harm : ∀ c ∈ s.cs, Harm O c
theorem Hs.R {O : List (Nat × Nat)} (hO : OkX O) {s : Ds} (h : Hs O s) : Good O s.R := Good.fold hO h.good h.harm
theorem Hs.kept {O : List (Nat × Nat)} (hO : OkX O) {s : Ds} (h : Hs O s) (ks : List Bool) : Good O ((kept ks s.cs).foldl chDo s.F) := Good.fold hO h.good fun c hc => h.harm c (kept_mem hc)
theorem Hs.dead {O : List (Nat × Nat)} {s : Ds} (h : Hs O s) : Hs O s.dead := ⟨h.good, h.harm⟩
theorem Hs.tick {O : List (Nat × Nat)} {s : Ds} (h : Hs O s) : Hs O (s.tick s.cs) := ⟨h.good, h.harm⟩
theorem Hs.app {O : List (Nat × Nat)} {s : Ds} (h : Hs O s) {c : Ch} (hc : Harm O c) : Hs O (s.tick (s.cs ++ [c])) :=
  ⟨h.good, fun d hd => by
    rcases List.mem_append.1 hd with hd | hd
    · exact h.harm d hd
    · obtain rfl := List.mem_singleton.1 hd
      exact hc⟩
theorem Hs.sync {O : List (Nat × Nat)} (hO : OkX O) {s : Ds} (h : Hs O s) : Hs O { s.tick [] with F := s.R } := ⟨h.R hO, fun c hc => by cases hc⟩
/-- How much they hold together. -/
theorem tot_of {U : List (List UInt8)} {F : Fl} (hU : U.Nodup) (h : ∀ n v, F n = some v → n ∈ U ∧ v.length ≤ 600) : ∃ tot, Tot F tot ∧ tot ≤ 600 * U.length := by
  have hs : ∀ l : List (List UInt8), lens F l ≤ 600 * l.length := fun l => by
    induction l with
    | nil => simp [lens]
    | cons a l ih =>
      rw [lens_cons]
      have : ((F a).getD []).length ≤ 600 := by
        cases hf : F a with
        | none => simp
        | some v => exact (h a v hf).2
      simp only [List.length_cons]
      omega
  refine ⟨lens F (U.filter (fun n => (F n).isSome)), ⟨_, List.Pairwise.filter _ hU, fun k => ?_, rfl⟩, ?_⟩
  · rw [List.mem_filter]
    refine ⟨fun h => h.2, fun hk => ⟨?_, hk⟩⟩
    obtain ⟨v, hv⟩ := Option.isSome_iff_exists.1 hk
    exact (h k v hv).1
  · exact Nat.le_trans (hs _) (Nat.mul_le_mul_left _ (List.length_filter_le ..))
def allN : List (List UInt8) := nList :: nNext :: allX.map nmX
theorem allN_nodup : allN.Nodup := by
  unfold allN
  refine List.nodup_cons.2 ⟨fun h => ?_, List.nodup_cons.2 ⟨fun h => ?_, ?_⟩⟩
  · rcases List.mem_cons.1 h with e | h
    · exact next_ne_list e.symm
    · obtain ⟨x, _, e⟩ := List.mem_map.1 h
      exact bnm_ne_list _ e
  · obtain ⟨x, _, e⟩ := List.mem_map.1 h
    exact bnm_ne_next _ e
  · have h1 : allX.Nodup := by decide
    have h2 : allX.Pairwise (fun a b => nmX a ≠ nmX b) := List.Pairwise.imp_of_mem (fun {a b} ha hb hab e => hab (nmX_inj (mem_allX.1 ha) (mem_allX.1 hb) e)) h1
    exact List.Pairwise.map _ (fun _ _ h => h) h2
theorem allN_len : allN.length = 26 := by
  simp only [allN, List.length_cons, List.length_map]
  rfl
theorem Good.tot {O : List (Nat × Nat)} {F : Fl} (h : Good O F) : ∃ tot, Tot F tot ∧ tot ≤ 15600 := by
  have := tot_of (U := allN) (F := F) allN_nodup (fun n v hn => by
    obtain ⟨h1, h2⟩ := h.only n v hn
    refine ⟨?_, h2⟩
    rcases h1 with rfl | rfl | ⟨x, hx, rfl, _⟩
    · simp [allN]
    · simp [allN]
    · simp only [allN, List.mem_cons]
      exact .inr (.inr (List.mem_map.2 ⟨x, mem_allX.2 hx, rfl⟩)))
  rwa [allN_len] at this
/-- Just a list's files, and nothing else. -/
structure Exact (O : List (Nat × Nat)) (F : Fl) : Prop where
  good : Good O F
  next : F nNext = none
  less : ∀ x, isX x → x ∉ O → F (nmX x) = none
theorem Exact.names {O : List (Nat × Nat)} {F : Fl} (h : Exact O F) (hO : OkX O) {l : List (List UInt8)} (hl : IsNames F l) : l.length = if (F nList).isSome then O.length + 1 else 0 := by
  have hn : (O.map nmX).Nodup := by
    have : O.Pairwise (fun a b => nmX a ≠ nmX b) := List.Pairwise.imp_of_mem (fun {a b} ha hb hab e => by
      have := nmX_inj (hO.is a ha) (hO.is b hb) e
      subst this
      omega) hO.up
    exact List.Pairwise.map _ (fun _ _ h => h) this
  have hmem : ∀ n, (F n).isSome = true → n = nList ∨ n ∈ O.map nmX := fun n hs => by
    obtain ⟨v, hv⟩ := Option.isSome_iff_exists.1 hs
    rcases (h.good.only n v hv).1 with rfl | rfl | ⟨x, hx, rfl, _⟩
    · exact .inl rfl
    · rw [h.next] at hv; cases hv
    · by_cases hxo : x ∈ O
      · exact .inr (List.mem_map.2 ⟨x, hxo, rfl⟩)
      · rw [h.less x hx hxo] at hv; cases hv
  cases hL : F nList with
  | none =>
    have hO0 : O = [] := by
      rcases h.good.list with h1 | h1
      · rw [hL] at h1; cases h1
      · exact h1.2
    subst hO0
    have : l = [] := by
      apply List.eq_nil_iff_forall_not_mem.2
      intro n hn
      have hs := (hl.2 n).1 hn
      rcases hmem n hs with rfl | hm
      · rw [hL] at hs; cases hs
      · cases hm
    rw [this]
    rfl
  | some v =>
    have := names_len hl (m := nList :: O.map nmX) (List.nodup_cons.2 ⟨fun hm => by
      obtain ⟨x, _, e⟩ := List.mem_map.1 hm
      exact bnm_ne_list _ e, hn⟩) (fun n => ?_)
    · rw [this]; simp
    · refine ⟨fun hm => ?_, fun hs => ?_⟩
      · rcases List.mem_cons.1 hm with rfl | hm
        · rw [hL]; rfl
        · obtain ⟨x, hx, rfl⟩ := List.mem_map.1 hm
          rw [h.good.blob x hx]; rfl
      · rcases hmem n hs with rfl | hm
        · simp
        · exact List.mem_cons_of_mem _ hm
theorem Exact.none : Exact [] (fun _ => none) := ⟨⟨.inr ⟨rfl, rfl⟩, by simp, by simp⟩, rfl, by simp⟩
end Go.Proofs.Ytclgiapmbmbknaa
