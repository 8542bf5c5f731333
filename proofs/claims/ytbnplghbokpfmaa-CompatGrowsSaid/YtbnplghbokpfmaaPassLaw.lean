/- Faces that take others' places, in plain Lean: names that rise are distinct; what the page's two loops count; no program in sight. -/
import Derived.Test.YtbnplghbokpfmaaPasses
import Derived.Sort.Walk0
namespace Go.Proofs.Ytbnplghbokpfmaa

theorem lt_of_leqB {a b : List UInt8} (h : leqB a b = false) : b < a := by
  unfold leqB at h
  rw [Bool.or_eq_false_iff] at h
  obtain ⟨h1, h2⟩ := h
  rw [bytesLess_eq] at h1
  have h1' : ¬ a < b := by simpa using h1
  have h2' : a ≠ b := by simpa using h2
  apply Decidable.byContradiction
  intro h3
  exact h2' (List.le_antisymm (List.not_lt.1 h3) (List.not_lt.1 h1'))

/-- The names rise. -/
def Rise (l : List Sg) : Prop := l.Pairwise fun a b => a.n < b.n

theorem rise_of : ∀ (last : List UInt8) (l : List Sg), riseM last l = true → Rise l ∧ ∀ m ∈ l, last < m.n
  | _, [], _ => ⟨List.Pairwise.nil, by simp⟩
  | last, m :: r, h => by
    unfold riseM at h
    simp only [Bool.and_eq_true, Bool.not_eq_true'] at h
    obtain ⟨⟨⟨h1, _⟩, _⟩, h4⟩ := h
    obtain ⟨hr, hm⟩ := rise_of m.n r h4
    have hl := lt_of_leqB h1
    refine ⟨List.Pairwise.cons hm hr, fun x hx => ?_⟩
    rcases List.mem_cons.1 hx with rfl | hx
    · exact hl
    · exact List.lt_trans hl (hm x hx)

theorem right_rise {f : Fc} (h : f.right = true) : Rise f.ms := by
  unfold Fc.right at h
  simp only [Bool.and_eq_true] at h
  exact (rise_of _ _ h.2).1

theorem rise_inj : ∀ {l : List Sg}, Rise l → ∀ x ∈ l, ∀ y ∈ l, x.n = y.n → x = y
  | [], _, x, hx, _, _, _ => by cases hx
  | a :: r, h, x, hx, y, hy, e => by
    obtain ⟨h1, h2⟩ := List.pairwise_cons.1 h
    rcases List.mem_cons.1 hx with hx' | hx' <;> rcases List.mem_cons.1 hy with hy' | hy'
    · rw [hx', hy']
    · have := h1 y hy'
      rw [← e, hx'] at this
      exact absurd this (List.lt_irrefl _)
    · have := h1 x hx'
      rw [e, hy'] at this
      exact absurd this (List.lt_irrefl _)
    · exact rise_inj h2 x hx' y hy' e

theorem meth_mem {f : Fc} (h : Rise f.ms) {m : Sg} (hm : m ∈ f.ms) : methOf f m.n = some m := by
  unfold methOf
  cases hf : f.ms.find? (fun x => x.n == m.n) with
  | none => have := List.find?_eq_none.1 hf m hm; simp at this
  | some x =>
    have h1 := List.mem_of_find?_eq_some hf
    have h2 := List.find?_some hf
    rw [rise_inj h x h1 m hm (by simpa using h2)]
theorem meth_some {f : Fc} {k : List UInt8} {x : Sg} (h : methOf f k = some x) : x ∈ f.ms ∧ x.n = k :=
  ⟨List.mem_of_find?_eq_some h, by simpa using List.find?_some h⟩
theorem meth_none {f : Fc} {k : List UInt8} : methOf f k = none ↔ ∀ x ∈ f.ms, x.n ≠ k := by
  unfold methOf
  rw [List.find?_eq_none]
  simp

theorem kept_iff {f : Fc} {m : Sg} : keptM f m = true ↔ ∃ x, methOf f m.n = some x ∧ x.p = m.p := by
  unfold keptM
  cases h : methOf f m.n with
  | none => simp
  | some x => simp

theorem new_iff {o : Fc} {m : Sg} : newM o m = true ↔ methOf o m.n = none ∧ m.st = false := by
  unfold newM
  cases h : methOf o m.n with
  | none => simp
  | some x => simp

theorem passH_iff {o f : Fc} : passH o f = true ↔ o.right = true ∧ f.right = true ∧ o.n = f.n ∧ o.su = f.su ∧ o.fs = f.fs := by
  unfold passH
  simp [and_assoc]

theorem passB_iff {o f : Fc} : passB o f = true ↔ passH o f = true ∧ (∀ m ∈ o.ms, ∃ x, methOf f m.n = some x ∧ x.p = m.p) ∧ ∀ n ∈ f.ms, methOf o n.n = none → n.st = true := by
  unfold passB
  rw [Bool.and_eq_true, Bool.and_eq_true, Bool.not_eq_true', List.any_eq_false, List.all_eq_true, and_assoc]
  refine and_congr Iff.rfl (and_congr (forall_congr' fun m => forall_congr' fun _ => kept_iff) (forall_congr' fun n => forall_congr' fun _ => ?_))
  rw [new_iff]
  cases n.st <;> simp

/-- A face passes to itself just if it is right. -/
theorem passB_self (a : Fc) : passB a a = a.right := by
  rw [Bool.eq_iff_iff, passB_iff, passH_iff]
  constructor
  · exact fun h => h.1.1
  · intro h
    refine ⟨⟨h, h, rfl, rfl, rfl⟩, fun m hm => ⟨m, meth_mem (right_rise h) hm, rfl⟩, fun n hn hno => ?_⟩
    rw [meth_mem (right_rise h) hn] at hno
    cases hno

/-- What passes to one that passes to a third passes to that. -/
theorem passB_trans {a b c : Fc} (h : passB a b = true) (k : passB b c = true) : passB a c = true := by
  rw [passB_iff, passH_iff] at h k ⊢
  obtain ⟨⟨ha, hb, e1, e2, e3⟩, h1, h2⟩ := h
  obtain ⟨⟨_, hc, f1, f2, f3⟩, k1, k2⟩ := k
  refine ⟨⟨ha, hc, e1.trans f1, e2.trans f2, e3.trans f3⟩, fun m hm => ?_, fun n hn hno => ?_⟩
  · obtain ⟨x, hx, hp⟩ := h1 m hm
    obtain ⟨hxm, hxn⟩ := meth_some hx
    obtain ⟨y, hy, hq⟩ := k1 x hxm
    exact ⟨y, by rw [← hxn]; exact hy, hq.trans hp⟩
  · cases hbn : methOf b n.n with
    | none => exact k2 n hn hbn
    | some x =>
      obtain ⟨hxm, hxn⟩ := meth_some hbn
      have hs := h2 x hxm (by rw [hxn]; exact hno)
      obtain ⟨y, hy, hq⟩ := k1 x hxm
      rw [hxn, meth_mem (right_rise hc) hn] at hy
      injection hy with hy
      subst hy
      have : n.st = x.st := congrArg (fun p : SgP => p.2.1) hq
      rw [this, hs]

theorem rise_ext : ∀ {l r : List Sg}, Rise l → Rise r → (∀ m ∈ l, ∃ x ∈ r, x.p = m.p) → (∀ m ∈ r, ∃ x ∈ l, x.p = m.p) → l.map Sg.p = r.map Sg.p
  | [], [], _, _, _, _ => rfl
  | [], b :: r, _, _, _, h => by obtain ⟨x, hx, _⟩ := h b (List.mem_cons_self ..); cases hx
  | a :: l, [], _, _, h, _ => by obtain ⟨x, hx, _⟩ := h a (List.mem_cons_self ..); cases hx
  | a :: l, b :: r, hl, hr, h1, h2 => by
    obtain ⟨al, hl'⟩ := List.pairwise_cons.1 hl
    obtain ⟨br, hr'⟩ := List.pairwise_cons.1 hr
    have nm : ∀ {x y : Sg}, x.p = y.p → x.n = y.n := fun h => congrArg (fun p : SgP => p.1) h
    have hab : a.p = b.p := by
      obtain ⟨x, hx, ex⟩ := h1 a (List.mem_cons_self ..)
      obtain ⟨y, hy, ey⟩ := h2 b (List.mem_cons_self ..)
      rcases List.mem_cons.1 hx with rfl | hx
      · exact ex.symm
      · rcases List.mem_cons.1 hy with rfl | hy
        · exact ey
        · have i1 := br x hx
          have i2 := al y hy
          rw [nm ex] at i1
          rw [nm ey] at i2
          exact absurd (List.lt_trans i1 i2) (List.lt_irrefl _)
    have hn := nm hab
    simp only [List.map_cons, List.cons.injEq]
    refine ⟨hab, rise_ext hl' hr' (fun m hm => ?_) (fun m hm => ?_)⟩
    · obtain ⟨x, hx, ex⟩ := h1 m (List.mem_cons_of_mem _ hm)
      rcases List.mem_cons.1 hx with rfl | hx
      · have i := al m hm
        rw [hn, nm ex] at i
        exact absurd i (List.lt_irrefl _)
      · exact ⟨x, hx, ex⟩
    · obtain ⟨x, hx, ex⟩ := h2 m (List.mem_cons_of_mem _ hm)
      rcases List.mem_cons.1 hx with rfl | hx
      · have i := br m hm
        rw [← hn, nm ex] at i
        exact absurd i (List.lt_irrefl _)
      · exact ⟨x, hx, ex⟩

/-- Both ways only the same does. -/
theorem passB_both {a b : Fc} (h : passB a b = true) (k : passB b a = true) : a.p = b.p := by
  rw [passB_iff, passH_iff] at h k
  obtain ⟨⟨ha, hb, e1, e2, e3⟩, h1, _⟩ := h
  obtain ⟨_, k1, _⟩ := k
  have : a.ms.map Sg.p = b.ms.map Sg.p := rise_ext (right_rise ha) (right_rise hb)
    (fun m hm => by obtain ⟨x, hx, e⟩ := h1 m hm; exact ⟨x, (meth_some hx).1, e⟩)
    (fun m hm => by obtain ⟨x, hx, e⟩ := k1 m hm; exact ⟨x, (meth_some hx).1, e⟩)
  show (a.n, a.su, a.fs, a.ms.map Sg.p) = (b.n, b.su, b.fs, b.ms.map Sg.p)
  rw [e1, e2, e3, this]

/-- How many methods of a list have a name. -/
def cntN (l : List Sg) (k : List UInt8) : Nat := l.countP fun m => m.n == k
/-- How many pairs of one name there are. -/
def pairsN (o : List Sg) (l : List Sg) : Nat := (l.map fun n => cntN o n.n).sum

theorem pairs_nil (l : List Sg) : pairsN [] l = 0 := by
  induction l with
  | nil => rfl
  | cons a l ih => simp only [pairsN, List.map_cons, List.sum_cons] at ih ⊢; rw [ih]; rfl
theorem pairs_cons (m : Sg) (o : List Sg) (l : List Sg) : pairsN (m :: o) l = cntN l m.n + pairsN o l := by
  induction l with
  | nil => rfl
  | cons a l ih =>
    simp only [pairsN, List.map_cons, List.sum_cons] at ih ⊢
    rw [ih]
    unfold cntN
    rw [List.countP_cons, List.countP_cons]
    by_cases h : m.n = a.n
    · have h1 : (m.n == a.n) = true := by simpa using h
      have h2 : (a.n == m.n) = true := by simpa using h.symm
      rw [h1, h2]; simp; omega
    · have h1 : (m.n == a.n) = false := by simpa using h
      have h2 : (a.n == m.n) = false := by simpa using fun e => h e.symm
      rw [h1, h2]; simp; omega

theorem cnt_le_one : ∀ {l : List Sg}, Rise l → ∀ k, cntN l k ≤ 1
  | [], _, _ => by simp [cntN]
  | a :: l, h, k => by
    obtain ⟨h1, h2⟩ := List.pairwise_cons.1 h
    unfold cntN
    rw [List.countP_cons]
    by_cases e : a.n = k
    · have : List.countP (fun m : Sg => m.n == k) l = 0 := by
        rw [List.countP_eq_zero]
        intro x hx
        have := h1 x hx
        rw [e] at this
        simp
        intro e2
        rw [e2] at this
        exact List.lt_irrefl _ this
      rw [this]
      split <;> omega
    · have : (a.n == k) = false := by simpa using e
      rw [this]
      have h3 := cnt_le_one h2 k
      unfold cntN at h3
      simpa using h3

/-- There are as many pairs as old methods just if each old one's name is there. -/
theorem pairs_full {l : List Sg} (hl : Rise l) : ∀ o : List Sg, pairsN o l ≤ o.length ∧ (pairsN o l = o.length ↔ ∀ m ∈ o, ∃ x ∈ l, x.n = m.n)
  | [] => by simp [pairs_nil]
  | m :: o => by
    obtain ⟨h1, h2⟩ := pairs_full hl o
    have h3 := cnt_le_one hl m.n
    rw [pairs_cons]
    refine ⟨by simp; omega, ?_⟩
    have h4 : cntN l m.n = 1 ↔ ∃ x ∈ l, x.n = m.n := by
      have : 0 < cntN l m.n ↔ ∃ x ∈ l, x.n = m.n := by
        unfold cntN
        rw [List.countP_pos_iff]
        simp
      rw [← this]; omega
    constructor
    · intro h
      simp only [List.length_cons] at h
      intro y hy
      rcases List.mem_cons.1 hy with rfl | hy
      · exact h4.1 (by omega)
      · exact h2.1 (by omega) y hy
    · intro h
      have e1 := h4.2 (h m (List.mem_cons_self ..))
      have e2 := h2.2 (fun y hy => h y (List.mem_cons_of_mem _ hy))
      simp; omega

/-- A pair of one name that isn't the same: it doesn't pass. -/
theorem pass_differs {o f : Fc} (hH : passH o f = true) {m n : Sg} (hm : m ∈ o.ms) (hn : n ∈ f.ms) (e : m.n = n.n) (hp : m.p ≠ n.p) : passB o f = false := by
  rw [Bool.eq_false_iff]
  intro h
  rw [passB_iff] at h
  obtain ⟨x, hx, hxp⟩ := h.2.1 m hm
  rw [e, meth_mem (right_rise (passH_iff.1 hH).2.1) hn] at hx
  injection hx with hx
  subst hx
  exact hp hxp.symm
/-- A new one that isn't static: it doesn't pass. -/
theorem pass_new {o f : Fc} {n : Sg} (hn : n ∈ f.ms) (hno : ∀ m ∈ o.ms, m.n ≠ n.n) (hs : n.st = false) : passB o f = false := by
  rw [Bool.eq_false_iff]
  intro h
  rw [passB_iff] at h
  have := h.2.2 n hn (meth_none.2 hno)
  rw [hs] at this
  cases this
/-- No such pair, no such new one: it passes just if all are there. -/
theorem pass_counts {o f : Fc} (hH : passH o f = true) (h1 : ∀ n ∈ f.ms, ∀ m ∈ o.ms, m.n = n.n → m.p = n.p) (h2 : ∀ n ∈ f.ms, (∃ m ∈ o.ms, m.n = n.n) ∨ n.st = true) :
    passB o f = decide (pairsN o.ms f.ms = o.ms.length) := by
  have hr := right_rise (passH_iff.1 hH).2.1
  rw [Bool.eq_iff_iff, passB_iff, decide_eq_true_eq, (pairs_full hr o.ms).2]
  constructor
  · intro h m hm
    obtain ⟨x, hx, _⟩ := h.2.1 m hm
    exact ⟨x, (meth_some hx).1, (meth_some hx).2⟩
  · intro h
    refine ⟨hH, fun m hm => ?_, fun n hn hno => ?_⟩
    · obtain ⟨x, hx, e⟩ := h m hm
      exact ⟨x, by rw [← e]; exact meth_mem hr hx, (h1 x hx m hm e.symm).symm⟩
    · rcases h2 n hn with ⟨m, hm, e⟩ | h
      · exact absurd e (meth_none.1 hno m hm)
      · exact h
end Go.Proofs.Ytbnplghbokpfmaa
