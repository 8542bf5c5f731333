/- Texts by their names: a map of the call's own, as a function; a change done to it; no statement of the seat is proved here. -/
import Derived.Test.YtkgljicibjlabaaBase
import Derived.Test.YtkgljicibjlabaaProg
import Derived.Maps.OwnSet
import Derived.Maps.OwnOps
namespace Go.Proofs.Ytkgljicibjlabaa
open Go.RowKit Go.Maps

theorem klaw : Keyed Try.prog 9 := string_keyed Try.underlying9
def short (s : List UInt8) : Prop := s.length ≤ 9223372036854775807

/-- An element reads as itself. -/
def heldR (v : Value) : Option (DataW Value × List MemPlace) := some (.held v, [])
theorem heldR_inv {v V : Value} {ps : List MemPlace} (h : heldR v = some (.held V, ps)) : v = V := by
  simp [heldR] at h
  exact h.1
theorem key_S {l : List UInt8} (h : short l) : keyOf Try.prog 9 (S l) = some (.string l) := by
  have := Go.WideMaps.keyOf_string_mk Try.underlying9 (s := ⟨l.toArray⟩) (by show l.toArray.size ≤ maxLen; simp only [List.size_toArray]; unfold maxLen; unfold short at h; omega)
  simpa using this
theorem keyLit_string (l : List UInt8) : WideAt.IsKeyLit (.string l) := by simp [WideAt.IsKeyLit]
theorem owns_of_block {w w' : World} {m N : Nat} {D : DataW Value} (h : w.ownsMap Try.prog 9 heldR m N D) (he : w'.heap[m]? = w.heap[m]?) : w'.ownsMap Try.prog 9 heldR m N D := by
  obtain ⟨es, clock, hb, r⟩ := h
  exact ⟨es, clock, he.trans hb, r⟩
theorem zero_str (w : World) : (zeroValue 9).run Try.prog w = .ok (S []) w := by kernel_rfl

theorem lookup_held2 {P : Program} (w : World) {ops : Array Oper} {rest : List Oper} {o : Oper} {a : Act} {Q : Exit → Act → World → Prop} (hg : o.guard = none) (m x : Operand) (t : TypeId) (hop : o.op = Op.lookup t m x true)
    (k e : TypeId) (K : Keyed P k) (ht : P.underlying t = some (.map k e)) {z : Value} (hz : (zeroValue e).run P w = .ok z w) (b n : Nat) (D : DataW Value)
    (hm : a.eval m = .map (some b)) (hown : w.ownsMap P k heldR b n D) (key : Value) (kl : Lit) (hx : a.eval x = key) (hkey : keyOf P k key = some kl) (V : Value) (B : Bool) (hV : D.atKey kl (.held z) = .held V) (hB : Maps.has D kl = B)
    (hK : wpList P ops Q rest (a.put o.dst (.tuple #[V, .bool B])) w) :
    wpList P ops Q (o :: rest) a w := by
  refine wpList_lookup_own_ok w hg m x t hop k e K ht heldR hz (.held z) [] rfl b n D hm hown key kl hx hkey fun v ps hv => ?_
  rw [hV] at hv
  rw [heldR_inv hv, hB]
  exact hK

theorem lookup_held1 {P : Program} (w : World) {ops : Array Oper} {rest : List Oper} {o : Oper} {a : Act} {Q : Exit → Act → World → Prop} (hg : o.guard = none) (m x : Operand) (t : TypeId) (hop : o.op = Op.lookup t m x false)
    (k e : TypeId) (K : Keyed P k) (ht : P.underlying t = some (.map k e)) {z : Value} (hz : (zeroValue e).run P w = .ok z w) (b n : Nat) (D : DataW Value)
    (hm : a.eval m = .map (some b)) (hown : w.ownsMap P k heldR b n D) (key : Value) (kl : Lit) (hx : a.eval x = key) (hkey : keyOf P k key = some kl) (V : Value) (hV : D.atKey kl (.held z) = .held V)
    (hK : wpList P ops Q rest (a.put o.dst V) w) :
    wpList P ops Q (o :: rest) a w := by
  refine wpList_plain hg fun K' hK' => ?_
  obtain ⟨v, ps, hrun, hv⟩ := hown.lookup K ht hz (zd := .held z) (zp := []) rfl hkey
  rw [hV] at hv
  obtain rfl := heldR_inv hv
  unfold Oper.wp
  simp [execOp, hop, hm, hx, hrun, Result.andThen]
  exact hK' _ _ hK

/-- What the names have. -/
abbrev Fl := List UInt8 → Option (List UInt8)
def Fl.set (F : Fl) (k v : List UInt8) : Fl := fun x => if x = k then some v else F x
def Fl.del (F : Fl) (k : List UInt8) : Fl := fun x => if x = k then none else F x
/-- A map reads so. -/
def Reads (D : DataW Value) (F : Fl) : Prop := Maps.IsMap D ∧ ∀ k, Maps.has D (.string k) = (F k).isSome ∧ ∀ z, D.atKey (.string k) (.held z) = .held (((F k).map S).getD z)
/-- The map of block b: N entries at most were ever laid. -/
def TxtIs (w : World) (b N : Nat) (F : Fl) : Prop := ∃ D : DataW Value, w.ownsMap Try.prog 9 heldR b N D ∧ Reads D F
theorem Reads.none : Reads (.map []) (fun _ => none) := ⟨Maps.isMap_empty, fun k => ⟨by simp [Maps.has], fun z => by simp [DataW.atKey]⟩⟩
theorem Reads.set {D : DataW Value} {F : Fl} (h : Reads D F) (k v : List UInt8) : Reads (D.put (.string k) (.held (S v))) (F.set k v) := by
  refine ⟨h.1.put _ _, fun x => ?_⟩
  by_cases e : x = k
  · subst e
    simp only [Fl.set, if_pos]
    exact ⟨Maps.has_put_same h.1 (keyLit_string _) _, fun z => Maps.atKey_put_same h.1 (keyLit_string _) _ _⟩
  · simp only [Fl.set, if_neg e]
    have hne : Lit.string x ≠ Lit.string k := fun h => e (by injection h)
    exact ⟨(Maps.has_put_other hne _).trans (h.2 x).1, fun z => (Maps.atKey_put_other hne _ _).trans ((h.2 x).2 z)⟩
theorem Reads.del {D : DataW Value} {F : Fl} (h : Reads D F) (k : List UInt8) : Reads (D.del (.string k)) (F.del k) := by
  refine ⟨h.1.del _, fun x => ?_⟩
  by_cases e : x = k
  · subst e
    simp only [Fl.del, if_pos]
    exact ⟨Maps.has_del_same, fun z => Maps.atKey_del_same _⟩
  · simp only [Fl.del, if_neg e]
    have hne : Lit.string x ≠ Lit.string k := fun h => e (by injection h)
    exact ⟨(Maps.has_del_other hne).trans (h.2 x).1, fun z => (Maps.atKey_del_other hne _).trans ((h.2 x).2 z)⟩
theorem TxtIs.of_block {w w' : World} {b N : Nat} {F : Fl} (h : TxtIs w b N F) (he : w'.heap[b]? = w.heap[b]?) : TxtIs w' b N F := by
  obtain ⟨D, h1, h2⟩ := h
  exact ⟨D, owns_of_block h1 he, h2⟩
theorem TxtIs.lt {w : World} {b N : Nat} {F : Fl} (h : TxtIs w b N F) : b < w.heap.size := by obtain ⟨D, h1, _⟩ := h; exact h1.lt
theorem TxtIs.mono {w : World} {b N N' : Nat} {F : Fl} (h : TxtIs w b N F) (hn : N ≤ N') : TxtIs w b N' F := by obtain ⟨D, h1, h2⟩ := h; exact ⟨D, h1.mono hn, h2⟩
theorem TxtIs.made (w : World) : TxtIs (w.alloc (.map #[] 0)) w.heap.size 0 (fun _ => none) := ⟨.map [], World.ownsMap_made _ _ _ _, Reads.none⟩

/-- A change: 0 write, 1 rename, 2 remove. -/
structure Ch where
  k : Nat
  n : List UInt8
  t : List UInt8
abbrev Ch.cells (c : Ch) : List Value := [.int .i64 c.k, S c.n, S c.t]
abbrev Ch.val (c : Ch) : Value := .agg #[.int .i64 c.k, S c.n, S c.t]
def Ch.ok (c : Ch) : Prop := short c.n ∧ short c.t
/-- A change done. -/
def chDo (F : Fl) (c : Ch) : Fl :=
  if c.k = 0 then F.set c.n c.t else if c.k = 1 then (match F c.n with | some o => (F.del c.n).set c.t o | none => F) else if c.k = 2 then F.del c.n else F
end Go.Proofs.Ytkgljicibjlabaa
