/- What HierAll's maps hold, in plain Lean; and the maps of the call's own. -/
import Derived.Test.YtmhnfilingebfaaHierAllLaw
namespace Go.Proofs.Ytmhnfilingebfaa
open Go.RowKit Go.Maps

def seenP (T : List Fc) (l : List (List UInt8)) (p : Nat) : List (List UInt8) := (l.take p).flatMap fun c => (faceF T c).fs.map Vr.n
def recP (T : List Fc) (l : List (List UInt8)) (p : Nat) : List Sg := (l.take p).flatMap fun c => (faceF T c).ms.filter fun m => !m.st
def getS (L : List Sg) (k : List UInt8) : Option Sg := L.reverse.find? fun m => m.n == k

theorem getS_snoc (L : List Sg) (m : Sg) (k : List UInt8) : getS (L ++ [m]) k = if m.n = k then some m else getS L k := by
  unfold getS
  rw [List.reverse_append, List.reverse_singleton, List.singleton_append, List.find?_cons]
  by_cases h : m.n = k
  · simp [h]
  · rw [if_neg h, show (m.n == k) = false by simpa using h]
theorem getS_append (L M : List Sg) (k : List UInt8) : getS (L ++ M) k = (getS M k).or (getS L k) := by
  unfold getS
  rw [List.reverse_append, List.find?_append]
theorem getS_some {L : List Sg} {k : List UInt8} {o : Sg} (h : getS L k = some o) : o ∈ L ∧ o.n = k := by
  unfold getS at h
  exact ⟨by simpa using List.mem_of_find?_eq_some h, by simpa using List.find?_some h⟩
theorem getS_none {L : List Sg} {k : List UInt8} (h : getS L k = none) : ∀ m ∈ L, m.n ≠ k := by
  unfold getS at h
  intro m hm
  have := List.find?_eq_none.1 h m (by simpa using hm)
  simpa using this

theorem takeS {α : Type} {l : List α} {k : Nat} (hk : k < l.length) : l.take (k + 1) = l.take k ++ [l[k]] := by
  rw [List.take_add_one, List.getElem?_eq_getElem hk]; rfl
theorem seenP_succ {T : List Fc} {l : List (List UInt8)} {p : Nat} (hp : p < l.length) : seenP T l (p + 1) = seenP T l p ++ (faceF T l[p]).fs.map Vr.n := by
  unfold seenP; rw [takeS hp, List.flatMap_append]; simp
theorem recP_succ {T : List Fc} {l : List (List UInt8)} {p : Nat} (hp : p < l.length) : recP T l (p + 1) = recP T l p ++ (faceF T l[p]).ms.filter fun m => !m.st := by
  unfold recP; rw [takeS hp, List.flatMap_append]; simp

theorem get_rec {T : List Fc} {l : List (List UInt8)} {k : List UInt8} {o : Sg} : ∀ p, p ≤ l.length → getS (recP T l p) k = some o →
    ∃ q, ∃ hq : q < l.length, q < p ∧ o ∈ (faceF T l[q]).ms ∧ o.st = false ∧ o.n = k ∧ ∀ r (hr : r < l.length), q < r → r < p → ∀ x ∈ (faceF T l[r]).ms, x.n = k → x.st = true
  | 0, _, h => by simp [recP, getS] at h
  | p + 1, hp, h => by
    rw [recP_succ (by omega), getS_append] at h
    cases hm : getS ((faceF T (l[p]'(by omega))).ms.filter fun m => !m.st) k with
    | some o' =>
      rw [hm] at h
      simp at h
      subst h
      obtain ⟨h1, h2⟩ := getS_some hm
      obtain ⟨h3, h4⟩ := List.mem_filter.1 h1
      exact ⟨p, by omega, by omega, h3, by simpa using h4, h2, fun r hr h5 h6 => by omega⟩
    | none =>
      rw [hm] at h
      obtain ⟨q, hq, h1, h2, h3, h4, h5⟩ := get_rec (l := l) p (by omega) (by simpa using h)
      refine ⟨q, hq, by omega, h2, h3, h4, fun r hr h6 h7 x hx e => ?_⟩
      rcases Nat.lt_or_ge r p with h8 | h8
      · exact h5 r hr h6 h8 x hx e
      · obtain rfl : r = p := by omega
        have h9 := getS_none hm
        cases hs : x.st with
        | true => rfl
        | false => exact absurd e (h9 x (List.mem_filter.2 ⟨hx, by simp [hs]⟩))

theorem field_ok {T : List Fc} (h : AllOk T) {a : List UInt8} {l : List (List UInt8)} (hl : l = (up T 20 [] a).1) (hw : (up T 20 [] a).2 = true) {p : Nat} (hp : p < l.length) {i : Nat} (hi : i < (faceF T l[p]).fs.length)
    (hs : ∀ j (hj : j < (faceF T l[p]).fs.length), j < i → (faceF T l[p]).fs[j].n ≠ (faceF T l[p]).fs[i].n) : (faceF T l[p]).fs[i].n ∉ seenP T l p ++ ((faceF T l[p]).fs.take i).map Vr.n := by
  subst hl
  intro hm
  rcases List.mem_append.1 hm with hm | hm
  · unfold seenP at hm
    obtain ⟨c, hc, hv⟩ := List.mem_flatMap.1 hm
    obtain ⟨q, hq, rfl⟩ := List.mem_iff_getElem.1 hc
    obtain ⟨v, hv, e⟩ := List.mem_map.1 hv
    rw [List.length_take, Nat.lt_min] at hq
    have hv' : v ∈ (faceF T ((up T 20 [] a).1[q]'(by omega))).fs := by simpa using hv
    exact no_field h hw (q := q) (p := p) hq.1 hp hv' (List.getElem_mem hi) e.symm
  · obtain ⟨v, hv, e⟩ := List.mem_map.1 hm
    obtain ⟨j, hj, rfl⟩ := List.mem_iff_getElem.1 hv
    rw [List.length_take, Nat.lt_min] at hj
    exact hs j hj.2 hj.1 (by simpa using e)

theorem meth_ok {T : List Fc} (h : AllOk T) {a : List UInt8} {l : List (List UInt8)} (hl : l = (up T 20 [] a).1) (hw : (up T 20 [] a).2 = true) {p : Nat} (hp : p < l.length) {i : Nat} (hi : i < (faceF T l[p]).ms.length)
    (hs : ∀ j (hj : j < (faceF T l[p]).ms.length), j < i → (faceF T l[p]).ms[j].n ≠ (faceF T l[p]).ms[i].n) (hst : (faceF T l[p]).ms[i].st = false) {o : Sg}
    (ho : getS (recP T l p ++ ((faceF T l[p]).ms.take i).filter fun m => !m.st) (faceF T l[p]).ms[i].n = some o) : o.p = (faceF T l[p]).ms[i].p := by
  rw [getS_append] at ho
  have hn : getS (((faceF T l[p]).ms.take i).filter fun m => !m.st) (faceF T l[p]).ms[i].n = none := by
    cases hg : getS (((faceF T l[p]).ms.take i).filter fun m => !m.st) (faceF T l[p]).ms[i].n with
    | none => rfl
    | some x =>
      obtain ⟨h1, h2⟩ := getS_some hg
      obtain ⟨j, hj, rfl⟩ := List.mem_iff_getElem.1 (List.mem_filter.1 h1).1
      rw [List.length_take, Nat.lt_min] at hj
      exact absurd (by simpa using h2) (hs j hj.2 hj.1)
  rw [hn] at ho
  obtain ⟨q, hq, h1, h2, h3, h4, h5⟩ := get_rec (l := l) p (by omega) (by simpa using ho)
  subst hl
  refine same_meth h hw h1 hp h2 h3 ?_ hst (fun r hr h6 h7 x hx e => h5 r hr h6 h7 x hx (by rw [e, h4]))
  rw [h4]
  unfold methOf
  rw [List.find?_eq_some_iff_getElem]
  exact ⟨by simp, i, hi, rfl, fun j hj => by
    have := hs j (by omega) hj
    simpa using this⟩

/-- The names rise so far. -/
def RiseTo (l : List (List UInt8)) (k : Nat) : Prop := ∀ i (hi : i + 1 < l.length), i + 1 < k → l[i] < l[i + 1]
theorem RiseTo.lt {l : List (List UInt8)} {k : Nat} (h : RiseTo l k) : ∀ (d i : Nat) (hd : i + d + 1 < l.length), i + d + 1 < k → l[i] < l[i + d + 1]
  | 0, i, hd, hk => h i hd hk
  | d + 1, i, hd, hk => List.lt_trans (RiseTo.lt h d i (by omega) (by omega)) (h (i + d + 1) (by omega) (by omega))
theorem RiseTo.ne {l : List (List UInt8)} {k : Nat} (h : RiseTo l k) {i j : Nat} (hij : i < j) (hj : j < l.length) (hk : j < k) : l[i] ≠ l[j] := by
  obtain ⟨d, rfl⟩ : ∃ d, j = i + d + 1 := ⟨j - i - 1, by omega⟩
  intro e
  have := h.lt d i hj hk
  rw [e] at this
  exact List.lt_irrefl _ this
theorem RiseTo.step {l : List (List UInt8)} {j : Nat} (h : RiseTo l (j + 1)) (hl : ∀ hj : j + 1 < l.length, l[j] < l[j + 1]) : RiseTo l (j + 1 + 1) := fun i hi hk => by
  rcases Nat.lt_or_ge (i + 1) (j + 1) with h2 | h2
  · exact h i hi h2
  · obtain rfl : i = j := by omega
    exact hl hi
theorem lt_of_less {a b : List UInt8} (h : Op.bytesLess a b = true) : a < b := by rw [bytesLess_eq] at h; simpa using h

/-- A set of texts of the call's own, as map[string]bool. -/
def SetIs (w : World) (b N : Nat) (L : List (List UInt8)) : Prop :=
  ∃ D : DataW Value, w.ownsMap Try.prog 9 heldR b N D ∧ ∀ k, D.atKey (.string k) (.held (.bool false)) = .held (.bool (decide (k ∈ L)))
/-- The last method of each name, as map[string]face.Sig. -/
def SigIs (w : World) (b N : Nat) (L : List Sg) : Prop :=
  ∃ D : DataW Value, w.ownsMap Try.prog 9 heldR b N D ∧ ∀ k, Maps.has D (.string k) = (getS L k).isSome ∧ ∀ z, D.atKey (.string k) (.held z) = .held (((getS L k).map Sg.val).getD z)

theorem SetIs.of_block {w w' : World} {b N : Nat} {L : List (List UInt8)} (h : SetIs w b N L) (he : w'.heap[b]? = w.heap[b]?) : SetIs w' b N L := by
  obtain ⟨D, h1, h2⟩ := h
  exact ⟨D, owns_of_block h1 he, h2⟩
theorem SigIs.of_block {w w' : World} {b N : Nat} {L : List Sg} (h : SigIs w b N L) (he : w'.heap[b]? = w.heap[b]?) : SigIs w' b N L := by
  obtain ⟨D, h1, h2⟩ := h
  exact ⟨D, owns_of_block h1 he, h2⟩
theorem SetIs.lt {w : World} {b N : Nat} {L : List (List UInt8)} (h : SetIs w b N L) : b < w.heap.size := by obtain ⟨D, h1, _⟩ := h; exact h1.lt
theorem SigIs.lt {w : World} {b N : Nat} {L : List Sg} (h : SigIs w b N L) : b < w.heap.size := by obtain ⟨D, h1, _⟩ := h; exact h1.lt
theorem SetIs.made (w : World) : SetIs (w.alloc (.map #[] 0)) w.heap.size 0 [] := ⟨.map [], World.ownsMap_made _ _ _ _, fun k => by simp [DataW.atKey]⟩
theorem SigIs.made (w : World) : SigIs (w.alloc (.map #[] 0)) w.heap.size 0 [] := ⟨.map [], World.ownsMap_made _ _ _ _, fun k => ⟨by simp [getS, Maps.has], fun z => by simp [getS, DataW.atKey]⟩⟩

theorem set_put {D : DataW Value} {L : List (List UInt8)} {x : List UInt8} (hD : Maps.IsMap D) (h : ∀ k, D.atKey (.string k) (.held (.bool false)) = .held (.bool (decide (k ∈ L)))) :
    ∀ k, (D.put (.string x) (.held (.bool true))).atKey (.string k) (.held (.bool false)) = .held (.bool (decide (k ∈ L ++ [x]))) := by
  intro k
  by_cases e : x = k
  · subst e
    rw [Maps.atKey_put_same hD (keyLit_string _)]
    simp
  · have hne : Lit.string k ≠ Lit.string x := fun h => e (by injection h with h; exact h.symm)
    rw [Maps.atKey_put_other hne, h k]
    have : (k ∈ L ++ [x]) ↔ k ∈ L := by simp; exact fun h => absurd h.symm e
    rw [decide_eq_decide.2 this]
theorem sig_put {D : DataW Value} {L : List Sg} {m : Sg} (hD : Maps.IsMap D) (h : ∀ k, Maps.has D (.string k) = (getS L k).isSome ∧ ∀ z, D.atKey (.string k) (.held z) = .held (((getS L k).map Sg.val).getD z)) :
    ∀ k, Maps.has (D.put (.string m.n) (.held m.val)) (.string k) = (getS (L ++ [m]) k).isSome ∧ ∀ z, (D.put (.string m.n) (.held m.val)).atKey (.string k) (.held z) = .held (((getS (L ++ [m]) k).map Sg.val).getD z) := by
  intro k
  rw [getS_snoc]
  by_cases e : m.n = k
  · subst e
    rw [if_pos rfl]
    exact ⟨Maps.has_put_same hD (keyLit_string _) _, fun z => Maps.atKey_put_same hD (keyLit_string _) _ _⟩
  · rw [if_neg e]
    have hne : Lit.string k ≠ Lit.string m.n := fun h => e (by injection h with h; exact h.symm)
    exact ⟨(Maps.has_put_other hne _).trans (h k).1, fun z => (Maps.atKey_put_other hne _ _).trans ((h k).2 z)⟩
end Go.Proofs.Ytmhnfilingebfaa
