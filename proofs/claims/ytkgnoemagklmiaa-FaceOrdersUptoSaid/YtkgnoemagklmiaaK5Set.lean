/- A set of texts of the call's own: map[string]bool; no statement of the seat is proved here. -/
import Derived.Test.YtkgnoemagklmiaaFaceDataC
import Derived.Maps.OwnSet
import Derived.Maps.OwnOps
namespace Go.Proofs.Ytkgnoemagklmiaa.K5
open Go.RowKit Go.Maps
set_option linter.unusedVariables false

theorem klaw : Keyed Try.prog 9 := string_keyed Try.underlying9
theorem zero_bool (w : World) : (zeroValue 4).run Try.prog w = .ok (.bool false) w := by kernel_rfl
/-- An element reads as itself. -/
def heldR (v : Value) : Option (DataW Value × List MemPlace) := some (.held v, [])
theorem heldR_inv {v V : Value} {ps : List MemPlace} (h : heldR v = some (.held V, ps)) : v = V := by
  simp [heldR] at h
  exact h.1
theorem key_S {l : List UInt8} (h : short l) : keyOf Try.prog 9 (S l) = some (.string l) := by
  have := Go.WideMaps.keyOf_string_mk Try.underlying9 (s := ⟨l.toArray⟩) (by show l.toArray.size ≤ maxLen; simp only [List.size_toArray]; unfold maxLen; unfold short at h; omega)
  simpa using this
theorem keyLit_string (l : List UInt8) : WideAt.IsKeyLit (.string l) := by simp [WideAt.IsKeyLit]
theorem owns_of_block {w w' : World} {m N : Nat} {D : DataW Value} (h : w.ownsMap Try.prog 9 heldR m N D) (he : w'.heap[m]? = w.heap[m]?) : w'.ownsMap Try.prog 9 heldR m N D := by
  obtain ⟨es, clock, hb, r⟩ := h
  exact ⟨es, clock, he.trans hb, r⟩
theorem lookup_held1 {P : Program} (w : World) {ops : Array Oper} {rest : List Oper} {o : Oper} {a : Act} {Q : Exit → Act → World → Prop} (hg : o.guard = none) (m x : Operand) (t : TypeId) (hop : o.op = Op.lookup t m x false)
    (k e : TypeId) (K : Keyed P k) (ht : P.underlying t = some (.map k e)) {z : Value} (hz : (zeroValue e).run P w = .ok z w) (b n : Nat) (D : DataW Value)
    (hm : a.eval m = .map (some b)) (hown : w.ownsMap P k heldR b n D) (key : Value) (kl : Lit) (hx : a.eval x = key) (hkey : keyOf P k key = some kl) (V : Value) (hV : D.atKey kl (.held z) = .held V)
    (hK : wpList P ops Q rest (a.put o.dst V) w) :
    wpList P ops Q (o :: rest) a w := by
  refine wpList_plain hg fun K' hK' => ?_
  obtain ⟨v, ps, hrun, hv⟩ := hown.lookup K ht hz (zd := .held z) (zp := []) rfl hkey
  rw [hV] at hv
  obtain rfl := heldR_inv hv
  unfold Oper.wp
  simp [execOp, hop, hm, hx, hrun, Result.andThen]
  exact hK' _ _ hK

/-- A set of texts of the call's own, as map[string]bool. -/
def SetIs (w : World) (b N : Nat) (L : List (List UInt8)) : Prop :=
  ∃ D : DataW Value, w.ownsMap Try.prog 9 heldR b N D ∧ ∀ k, D.atKey (.string k) (.held (.bool false)) = .held (.bool (decide (k ∈ L)))
theorem SetIs.of_block {w w' : World} {b N : Nat} {L : List (List UInt8)} (h : SetIs w b N L) (he : w'.heap[b]? = w.heap[b]?) : SetIs w' b N L := by
  obtain ⟨D, h1, h2⟩ := h
  exact ⟨D, owns_of_block h1 he, h2⟩
theorem SetIs.lt {w : World} {b N : Nat} {L : List (List UInt8)} (h : SetIs w b N L) : b < w.heap.size := by obtain ⟨D, h1, _⟩ := h; exact h1.lt
theorem SetIs.made (w : World) : SetIs (w.alloc (.map #[] 0)) w.heap.size 0 [] := ⟨.map [], World.ownsMap_made _ _ _ _, fun k => by simp [DataW.atKey]⟩
theorem set_put {D : DataW Value} {L : List (List UInt8)} {x : List UInt8} (hD : Maps.IsMap D) (h : ∀ k, D.atKey (.string k) (.held (.bool false)) = .held (.bool (decide (k ∈ L)))) :
    ∀ k, (D.put (.string x) (.held (.bool true))).atKey (.string k) (.held (.bool false)) = .held (.bool (decide (k ∈ L ++ [x]))) := by
  intro k
  by_cases e : x = k
  · subst e
    rw [Maps.atKey_put_same hD (keyLit_string _)]
    simp
  · have hne : Lit.string k ≠ Lit.string x := fun h => e (by injection h with h; exact h.symm)
    rw [Maps.atKey_put_other hne, h k]
    have : (k ∈ L ++ [x]) ↔ k ∈ L := by simp; exact fun h => absurd h.symm e
    rw [decide_eq_decide.2 this]
end Go.Proofs.Ytkgnoemagklmiaa.K5
