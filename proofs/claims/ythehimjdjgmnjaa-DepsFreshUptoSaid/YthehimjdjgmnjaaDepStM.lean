/- DepsStale in plain words; no statement of the seat is proved here. -/
import Derived.Test.YthehimjdjgmnjaaDepHead
namespace Go.Proofs.Ythehimjdjgmnjaa
open Go.RowKit Go.Maps Go.Sort
set_option linter.unusedVariables false

/-- The four names. -/
def nmA : List (List UInt8) := [[65], [66], [67], [68]]
def nmG (i : Nat) : List UInt8 := nmA.getD i []
def txS (n : List UInt8) : List UInt8 := sumM ([116, 101, 120, 116, 32] ++ n)
def tnS (n : List UInt8) : List UInt8 := sumM ([116, 117, 114, 110, 101, 100, 32] ++ n)
/-- A list of names as it lies. -/
structure Sl where
  A : Option Addr
  k : Nat
  c : Nat
  ss : List (List UInt8)
abbrev Sl.cells (x : Sl) : List Value := [.slice x.A x.k x.c]
def Sl.at_ (w : World) (F : Nat → Prop) (x : Sl) : Prop := Rd w F 1 x.A x.k (x.ss.map S) ∧ x.ss.length = x.k ∧ x.k ≤ 9223372036854775807 ∧ ∀ s ∈ x.ss, short s
/-- What is known of a name; what it reads. -/
def knA (kl : List Bool) (i : Nat) : Bool := kl.getD i true
def rdA (R : List Sl) (i : Nat) : List (List UInt8) := ((R.map Sl.ss)[i]?).getD []
/-- The texts' digests behind i names. -/
def F1 : Nat → Fd
  | 0 => fun _ => none
  | i + 1 => (F1 i).set (nmG i) (txS (nmG i))
/-- The entries behind i names. -/
def E1 (T : List Fc) (R : List Sl) (kl : List Bool) : Nat → List EnP
  | 0 => []
  | i + 1 => E1 T R kl i ++ (if knA kl i then [⟨nmG i, txS (nmG i), (rdA R i).map (rdOf T), []⟩] else [])
/-- A turn. -/
structure Trn where
  K : Int
  N : Int
def Trn.nm (x : Trn) : List UInt8 := nmG (IntKind.i64.wrap (bits .and .i64 x.N 3)).toNat
def Trn.kd (x : Trn) : Nat := ((IntKind.u64.wrap x.K) % 3).toNat
def suX (n : List UInt8) (T : List Fc) : List Fc := T.map fun f => if f.n = n then { f with su := f.su ++ [88] } else f
def trF (F : Fd) (x : Trn) : Fd := if x.kd = 0 then F.set x.nm (tnS x.nm) else if x.kd = 1 then F else F.del x.nm
def trT (T : List Fc) (x : Trn) : List Fc := if x.kd = 1 then suX x.nm T else T
/-- A name is stale, by the law. -/
def stA (T T2 : List Fc) (R : List Sl) (kl : List Bool) (F : Fd) (i : Nat) : Bool := ((F (nmG i)).getD Z32 != txS (nmG i)) || !knA kl i || (rdA R i).any (fun r => digM T r != digM T2 r)
/-- What is wanted behind i names. -/
def W1 (T T2 : List Fc) (R : List Sl) (kl : List Bool) (F : Fd) : Nat → List (List UInt8)
  | 0 => []
  | i + 1 => W1 T T2 R kl F i ++ (if (F (nmG i)).isSome && stA T T2 R kl F i then [nmG i] else [])

theorem sorted_uniq : ∀ {l m : List (List UInt8)}, l.Pairwise (fun x y => x < y) → m.Pairwise (fun x y => x < y) → (∀ x, x ∈ l ↔ x ∈ m) → l = m
  | [], [], _, _, _ => rfl
  | [], b :: m, _, _, h => by have := (h b).2 (by simp); simp at this
  | a :: l, [], _, _, h => by have := (h a).1 (by simp); simp at this
  | a :: l, b :: m, hl, hm, h => by
    have hl' := List.pairwise_cons.1 hl
    have hm' := List.pairwise_cons.1 hm
    have e : a = b := by
      rcases List.mem_cons.1 ((h a).1 (by simp)) with e | ha
      · exact e
      · rcases List.mem_cons.1 ((h b).2 (by simp)) with e | hb
        · exact e.symm
        · have h1 := hm'.1 a ha
          have h2 := hl'.1 b hb
          exact absurd (List.lt_trans h1 h2) (List.lt_irrefl _)
    subst e
    rw [sorted_uniq hl'.2 hm'.2 fun x => ?_]
    constructor
    · intro hx
      rcases List.mem_cons.1 ((h x).1 (by simp [hx])) with e | h1
      · subst e; exact absurd (hl'.1 _ hx) (List.lt_irrefl _)
      · exact h1
    · intro hx
      rcases List.mem_cons.1 ((h x).2 (by simp [hx])) with e | h1
      · subst e; exact absurd (hm'.1 _ hx) (List.lt_irrefl _)
      · exact h1
theorem names_are {F : Fd} {l : List (List UInt8)} (h : IsNames F l) (hF : ∀ k, (F k).isSome = true → k ∈ nmA) : l = nmA.filter (fun n => (F n).isSome) := by
  refine sorted_uniq h.1 (List.Pairwise.filter _ (by unfold nmA; decide)) fun x => ?_
  rw [h.2, List.mem_filter]
  exact ⟨fun hx => ⟨hF x hx, hx⟩, fun hx => hx.2⟩
theorem findM_pl (L : List Enq) (k : List UInt8) : (findM L k).map Enq.pl = (L.map Enq.pl).find? (fun e => e.n == k) := by
  unfold findM
  induction L with
  | nil => rfl
  | cons a L ih =>
    simp only [List.map_cons, List.find?_cons]
    show Option.map Enq.pl (match a.n == k with | true => some a | false => L.find? _) = match a.n == k with | true => some a.pl | false => _
    cases a.n == k
    · exact ih
    · rfl
theorem fresh_rd (T T2 : List Fc) (l : List (List UInt8)) : (l.map (rdOf T)).any (othr T2) = l.any (fun r => digM T r != digM T2 r) := by
  induction l with
  | nil => rfl
  | cons a l ih =>
    simp only [List.map_cons, List.any_cons, ih]
    congr 1
    show (digM T2 a != digM T a) = (digM T a != digM T2 a)
    rw [bne_comm]
theorem stale_is {T T2 : List Fc} {R : List Sl} {kl : List Bool} {F : Fd} {L : List Enq} (hL : L.map Enq.pl = E1 T R kl 4) {i : Nat} (hi : i < 4) (hs : (F (nmG i)).isSome = true) : staleM T2 L F (nmG i) = stA T T2 R kl F i := by
  have h := findM_pl L (nmG i)
  rw [hL] at h
  have he : (E1 T R kl 4).find? (fun e => e.n == nmG i) = if knA kl i then some ⟨nmG i, txS (nmG i), (rdA R i).map (rdOf T), []⟩ else none := by
    match i, hi with
    | 0, _ => simp only [E1, List.nil_append]; cases knA kl 0 <;> cases knA kl 1 <;> cases knA kl 2 <;> cases knA kl 3 <;> simp [nmG, nmA]
    | 1, _ => simp only [E1, List.nil_append]; cases knA kl 0 <;> cases knA kl 1 <;> cases knA kl 2 <;> cases knA kl 3 <;> simp [nmG, nmA]
    | 2, _ => simp only [E1, List.nil_append]; cases knA kl 0 <;> cases knA kl 1 <;> cases knA kl 2 <;> cases knA kl 3 <;> simp [nmG, nmA]
    | 3, _ => simp only [E1, List.nil_append]; cases knA kl 0 <;> cases knA kl 1 <;> cases knA kl 2 <;> cases knA kl 3 <;> simp [nmG, nmA]
  rw [he] at h
  unfold staleM stA
  generalize (F (nmG i)).getD Z32 = d
  cases hk : knA kl i with
  | false =>
    rw [hk] at h
    have hf : findM L (nmG i) = none := by simpa using h
    rw [hf]
    simp
  | true =>
    rw [hk, if_pos rfl] at h
    obtain ⟨e, hf, hpl⟩ := Option.map_eq_some_iff.1 h
    rw [hf]
    obtain ⟨en, es, eA, ek, ec, ers, eb⟩ := e
    simp only [Enq.pl, EnP.mk.injEq] at hpl
    obtain ⟨_, h1, h2, _⟩ := hpl
    simp only [freshM]
    rw [h1, h2, fresh_rd, bne, BEq.comm (a := d)]
    cases (txS (nmG i) == d) <;> cases (rdA R i).any (fun r => digM T r != digM T2 r) <;> rfl
theorem filter_is {T T2 : List Fc} {R : List Sl} {kl : List Bool} {F : Fd} {L : List Enq} (hL : L.map Enq.pl = E1 T R kl 4) {l : List (List UInt8)} (h : IsNames F l) (hF : ∀ k, (F k).isSome = true → k ∈ nmA) : l.filter (staleM T2 L F) = W1 T T2 R kl F 4 := by
  rw [names_are h hF, List.filter_filter]
  have e : ∀ i, i < 4 → (staleM T2 L F (nmG i) && (F (nmG i)).isSome) = ((F (nmG i)).isSome && stA T T2 R kl F i) := fun i hi => by
    cases hs : (F (nmG i)).isSome with
    | false => simp
    | true => rw [stale_is hL hi hs]; simp
  have e0 := e 0 (by omega)
  have e1 := e 1 (by omega)
  have e2 := e 2 (by omega)
  have e3 := e 3 (by omega)
  simp only [W1, List.nil_append]
  rw [show nmA = [nmG 0, nmG 1, nmG 2, nmG 3] from rfl]
  simp only [List.filter_cons, List.filter_nil, e0, e1, e2, e3]
  cases ((F (nmG 0)).isSome && stA T T2 R kl F 0) <;> cases ((F (nmG 1)).isSome && stA T T2 R kl F 1) <;> cases ((F (nmG 2)).isSome && stA T T2 R kl F 2) <;> cases ((F (nmG 3)).isSome && stA T T2 R kl F 3) <;> rfl
end Go.Proofs.Ythehimjdjgmnjaa
