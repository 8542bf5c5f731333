/- Where all classes may stand: no field twice above one another, methods of one name the same; plain Lean, no program in sight. -/
import Derived.Test.YtmhnfilingebfaaHierChk
import Derived.Test.YtmhnfilingebfaaHierLaw
import Derived.Sort.Walk0
namespace Go.Proofs.Ytmhnfilingebfaa

theorem ch_up (T : List Fc) : ∀ (j : Nat) (nm : List UInt8) (t : List (List UInt8)) (k : Nat) (out : List (List UInt8)), ch T j nm = some t → (out ++ t).Nodup → t.length < k → up T k out nm = (out ++ t, true)
  | 0, nm, t, k, out, h, _, _ => by simp [ch] at h
  | j + 1, nm, t, 0, out, h, _, hk => by omega
  | j + 1, nm, t, k + 1, out, h, hn, hk => by
    unfold ch at h
    unfold up
    split at h
    · rename_i e
      rw [if_pos e]
      injection h with h
      subst h
      simp
    · rename_i e
      rw [if_neg e]
      split at h
      · rename_i hg
        cases hc : ch T j (faceF T nm).su with
        | none => rw [hc] at h; simp at h
        | some u =>
          rw [hc] at h
          simp at h
          subst h
          have hno : nm ∉ out := by
            rw [List.nodup_append] at hn
            exact fun hm => hn.2.2 nm hm nm (by simp) rfl
          rw [if_pos ⟨hg, hno⟩, ch_up T j _ u k (out ++ [nm]) hc (by simpa using hn) (by simpa using hk)]
          simp
      · simp at h

theorem ch_there {T : List Fc} : ∀ (j : Nat) (nm : List UInt8) (t : List (List UInt8)), ch T j nm = some t → ∀ x ∈ t, (get T x).isSome = true ∧ x ≠ []
  | 0, nm, t, h, _, _ => by simp [ch] at h
  | j + 1, nm, t, h, x, hx => by
    unfold ch at h
    split at h
    · injection h with h; subst h; cases hx
    · rename_i e
      split at h
      · rename_i hg
        cases hc : ch T j (faceF T nm).su with
        | none => rw [hc] at h; simp at h
        | some u =>
          rw [hc] at h
          simp at h
          subst h
          rcases List.mem_cons.1 hx with rfl | hx
          · exact ⟨hg, e⟩
          · exact ch_there j _ u hc x hx
      · simp at h

/-- What stands above a member of a whole chain. -/
theorem above_drop {T : List Fc} {a : List UInt8} (h : (up T 20 [] a).2 = true) {q : Nat} (hq : q < (up T 20 [] a).1.length) :
    (up T 20 [] (faceF T (up T 20 [] a).1[q]).su).1 = (up T 20 [] a).1.drop (q + 1) ∧ (get T (up T 20 [] a).1[q]).isSome = true := by
  obtain ⟨hc, hn⟩ := whole_ch h
  have hlen := up_le T 20 [] a
  obtain ⟨l, hl⟩ : ∃ l, l = (up T 20 [] a).1 := ⟨_, rfl⟩
  simp only [← hl] at hc hn hq hlen ⊢
  have hs : l = l.take q ++ l[q] :: l.drop (q + 1) := by
    rw [← List.drop_eq_getElem_cons hq, List.take_append_drop]
  rw [hs] at hc
  obtain ⟨j', hj, hx⟩ := ch_suffix T _ _ _ _ _ hc
  have hg := (ch_there j' _ _ hx l[q] (List.mem_cons_self ..)).1
  refine ⟨?_, hg⟩
  cases j' with
  | zero => simp [ch] at hx
  | succ j =>
    unfold ch at hx
    split at hx
    · injection hx with hx
      cases hx
    · first
        | rw [if_pos hg] at hx
        | skip
      cases hc2 : ch T j (faceF T l[q]).su with
      | none => rw [hc2] at hx; simp at hx
      | some u =>
        rw [hc2] at hx
        simp only [Option.map_some, Option.some.injEq, List.cons.injEq, true_and] at hx
        subst hx
        have hn2 : (l.drop (q + 1)).Nodup := List.Sublist.nodup (List.drop_sublist _ _) hn
        rw [ch_up T j _ _ 20 [] hc2 (by simpa using hn2) (by simp at hlen ⊢; omega)]
        simp

theorem chkM_zero {T : List Fc} {su : List UInt8} : ∀ {ms : List Sg}, chkM T su ms = 0 → ∀ m ∈ ms, ovr T su m = false
  | [], _, m, hm => by cases hm
  | a :: r, h, m, hm => by
    unfold chkM at h
    split at h
    · split at h
      · cases h
      · rename_i ho
        rcases List.mem_cons.1 hm with rfl | hm
        · simpa using ho
        · exact chkM_zero h m hm
    · cases h
theorem chkL_zero {T : List Fc} {f : Fc} : ∀ {fs : List Vr}, chkL T f fs = 0 → (∀ v ∈ fs, memF T v.n (up T 20 [] f.su).1 = none) ∧ chkM T f.su f.ms = 0
  | [], h => ⟨(fun v hv => by cases hv), h⟩
  | a :: r, h => by
    unfold chkL at h
    split at h
    · split at h
      · cases h
      · rename_i hm
        obtain ⟨h1, h2⟩ := chkL_zero h
        refine ⟨fun v hv => ?_, h2⟩
        rcases List.mem_cons.1 hv with rfl | hv
        · cases hmm : memF T v.n (up T 20 [] f.su).1 with
          | none => rfl
          | some x => rw [hmm] at hm; simp at hm
        · exact h1 v hv
    · cases h

theorem chk_zero {T : List Fc} {nm : List UInt8} (h : chk T nm = 0) : (up T 20 [] nm).2 = true ∧ chkL T (faceF T nm) (faceF T nm).fs = 0 := by
  unfold chk at h
  split at h
  · split at h
    · rename_i hw
      split at h
      · cases h
      · exact ⟨hw, h⟩
    · split at h <;> cases h
  · cases h

/-- All may stand. -/
def AllOk (T : List Fc) : Prop := ∀ f ∈ T, chk T f.n = 0
theorem AllOk.at_ {T : List Fc} (h : AllOk T) {c : List UInt8} (hc : (get T c).isSome = true) : chk T c = 0 := by
  obtain ⟨f, hf⟩ := Option.isSome_iff_exists.1 hc
  obtain ⟨hm, e⟩ := get_mem hf
  rw [← e]
  exact h f hm

/-- No field twice. -/
theorem no_field {T : List Fc} (h : AllOk T) {a : List UInt8} (hw : (up T 20 [] a).2 = true) {q p : Nat} (hqp : q < p) (hp : p < (up T 20 [] a).1.length) {v v2 : Vr}
    (hv : v ∈ (faceF T ((up T 20 [] a).1[q]'(by omega))).fs) (hv2 : v2 ∈ (faceF T (up T 20 [] a).1[p]).fs) : v2.n ≠ v.n := by
  obtain ⟨hd, hg⟩ := above_drop hw (q := q) (by omega)
  have h1 := (chkL_zero (chk_zero (h.at_ hg)).2).1 v hv
  rw [hd] at h1
  unfold memF at h1
  rw [List.findSome?_eq_none_iff] at h1
  have h2 := h1 (up T 20 [] a).1[p] (by
    rw [List.mem_iff_getElem]
    exact ⟨p - (q + 1), by simp; omega, by simp; congr 1; omega⟩)
  rw [Option.map_eq_none_iff] at h2
  unfold fieldOf at h2
  have := List.find?_eq_none.1 h2 v2 hv2
  simpa using this

/-- Methods of one name that aren't static are the same. -/
theorem same_meth {T : List Fc} (h : AllOk T) {a : List UInt8} (hw : (up T 20 [] a).2 = true) {q p : Nat} (hqp : q < p) (hp : p < (up T 20 [] a).1.length) {o m : Sg}
    (ho : o ∈ (faceF T ((up T 20 [] a).1[q]'(by omega))).ms) (hos : o.st = false) (hm : methOf (faceF T (up T 20 [] a).1[p]) o.n = some m) (hms : m.st = false)
    (hmid : ∀ r (hr : r < (up T 20 [] a).1.length), q < r → r < p → ∀ x ∈ (faceF T (up T 20 [] a).1[r]).ms, x.n = o.n → x.st = true) : o.p = m.p := by
  obtain ⟨hd, hg⟩ := above_drop hw (q := q) (by omega)
  have h1 := chkM_zero (chkL_zero (chk_zero (h.at_ hg)).2).2 o ho
  unfold ovr at h1
  rw [hd] at h1
  have h2 : memM T o.n false ((up T 20 [] a).1.drop (q + 1)) = some ((up T 20 [] a).1[p], m) := by
    obtain ⟨l, hl⟩ : ∃ l, l = (up T 20 [] a).1 := ⟨_, rfl⟩
    simp only [← hl] at hm hmid hp ⊢
    have hs : l.drop (q + 1) = (l.drop (q + 1)).take (p - (q + 1)) ++ l[p] :: l.drop (p + 1) := by
      have e : (l.drop (q + 1)).drop (p - (q + 1)) = l[p] :: l.drop (p + 1) := by
        rw [List.drop_drop, show q + 1 + (p - (q + 1)) = p by omega, List.drop_eq_getElem_cons hp]
      rw [← e, List.take_append_drop]
    rw [hs]
    unfold memM
    rw [List.findSome?_append]
    have hn : List.findSome? (fun c => (methOf (faceF T c) o.n).bind fun m : Sg => if m.st = false then some (c, m) else none) ((l.drop (q + 1)).take (p - (q + 1))) = none := by
      rw [List.findSome?_eq_none_iff]
      intro c hc
      obtain ⟨i, hi, rfl⟩ := List.mem_iff_getElem.1 hc
      simp at hi
      have e : ((l.drop (q + 1)).take (p - (q + 1)))[i]'(by simp; omega) = l[q + 1 + i]'(by omega) := by simp
      rw [e]
      cases hmo : methOf (faceF T (l[q + 1 + i]'(by omega))) o.n with
      | none => rfl
      | some x =>
        have hx := hmid (q + 1 + i) (by omega) (by omega) (by omega) x (List.mem_of_find?_eq_some hmo) (by simpa using List.find?_some hmo)
        simp [hx]
    rw [hn, List.findSome?_cons, hm]
    simp [hms]
  rw [h2] at h1
  simpa [hos] using h1
end Go.Proofs.Ytmhnfilingebfaa
