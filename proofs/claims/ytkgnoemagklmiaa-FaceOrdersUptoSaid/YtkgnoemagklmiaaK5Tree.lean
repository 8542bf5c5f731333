/- Expressions and statements as trees, as they lie; what a bulk bounds; no statement of the seat is proved here. -/
import Derived.Test.YtkgnoemagklmiaaFaceDataC
import Derived.Test.YtkgnoemagklmiaaRows
namespace Go.Proofs.Ytkgnoemagklmiaa.K5
open Go.ChangeShapes Go.WideShapes Go.ChangeAt Go.RowKit Go.Deep
set_option linter.unusedVariables false

section
variable {H : Type} {enc : TypeId × Value → H} {P : Program} {w : World} {base : Nat} {spare : Nat → Bool} {held : Bool}
theorem bulkAll_mem {d : DataW H} : ∀ {l : List (DataW H)}, d ∈ l → Rows.uptoBulk d ≤ Rows.uptoBulkAll l
  | [], h => by cases h
  | a :: l, h => by
    rw [Rows.uptoBulkAll]
    rcases List.mem_cons.1 h with rfl | h
    · omega
    · have := bulkAll_mem h
      omega
/-- Of no more bulk than memory bears. -/
def Light (P : Program) (t : TypeId) (d : DataW H) : Prop := Rows.uptoBulk d ≤ 140737488351232
theorem light_str {t : TypeId} {l : List UInt8} (h : Light P t (.lit (.string l) : DataW H)) : l.length ≤ 140737488351232 := by
  have h2 : Rows.uptoBulk (.lit (.string l) : DataW H) ≤ 140737488351232 := h
  rw [Rows.uptoBulk] at h2
  omega
theorem light_slice {t e : TypeId} {elems sp : List (DataW H)} (ht : P.underlying t = some (.slice e)) (h : Light P t (.slice elems sp)) : ∀ d ∈ elems, Light P e d := by
  intro d hd
  have h2 : Rows.uptoBulk (.slice elems sp : DataW H) ≤ 140737488351232 := h
  rw [Rows.uptoBulk] at h2
  have := bulkAll_mem hd
  show Rows.uptoBulk d ≤ _
  omega
theorem light_agg {t : TypeId} {fs : Array Field} {parts : List (DataW H)} (ht : P.underlying t = some (.struct fs)) (h : Light P t (.agg parts)) {i : Nat} {f : Field} {d : DataW H} (hf : fs[i]? = some f) (hd : parts[i]? = some d) : Light P f.type d := by
  have h2 : Rows.uptoBulk (.agg parts : DataW H) ≤ 140737488351232 := h
  rw [Rows.uptoBulk] at h2
  have := bulkAll_mem (List.mem_of_getElem? hd)
  show Rows.uptoBulk d ≤ _
  omega
/-- A struct's fields, each with its datum. -/
theorem trod_fldW {t : TypeId} {fs : Array Field} {fuel : Nat} {cs : List Value} {x : DataW H × List MemPlace} (ht : P.underlying t = some (.struct fs)) (h : DataW.trod enc P w base spare held fuel t cs = some x) (hl : Light P t x.1) :
    cs.length = P.cellsOf t ∧ ∃ n, ∀ (i : Nat) (f : Field), fs[i]? = some f → ∃ y, DataW.trod enc P w base spare held n f.type ((cs.drop f.offset).take (P.cellsOf f.type)) = some y ∧ Light P f.type y.1 := by
  obtain ⟨xs, n', _, hx, hcl, hxl, hf⟩ := DataW.trod_struct ht h
  refine ⟨hcl, n', fun i f hi => ?_⟩
  have hix : i < xs.length := by have := (Array.getElem?_eq_some_iff.1 hi).1; omega
  refine ⟨_, (hf i f hi).trans (List.getElem?_eq_getElem hix), ?_⟩
  rw [hx] at hl
  exact light_agg ht hl hi (by simp [hix])
/-- A string, with its bound. -/
theorem trod_strW {t : TypeId} {fuel : Nat} {cs : List Value} {y : DataW H × List MemPlace} (ht : P.underlying t = some .string) (h : DataW.trod enc P w base spare held fuel t cs = some y) (hl : Light P t y.1) : ∃ s : List UInt8, cs = [S s] ∧ s.length ≤ 140737488351232 := by
  obtain ⟨s, rfl, hy, hs⟩ := DataW.trod_string ht h
  rw [hy] at hl
  exact ⟨s.data.toList, by rw [← S_of], light_str hl⟩
/-- A slice whose elements are read by a law of their own, with their bounds. -/
theorem open_recsW {t e : TypeId} {α : Type} {f : α → List Value} {size fuel : Nat} {A : Option Addr} {n c : Nat} {y : DataW H × List MemPlace} (OK : α → Prop) (ht : P.underlying t = some (.slice e)) (hC : P.cellsOf e = size) (hs : 0 < size) (hf : ∀ x, (f x).length = size)
    (hel : ∀ cs n' y, DataW.trod enc P w base spare held n' e cs = some y → Light P e y.1 → ∃ x, cs = f x ∧ OK x)
    (h : DataW.trod enc P w base spare held fuel t [.slice A n c] = some y) (hl : Light P t y.1) :
    ∃ l : List α, Rd w (fun _ => False) size A n (l.flatMap f) ∧ l.length = n ∧ (∀ x ∈ l, OK x) ∧ n ≤ 9223372036854775807 := by
  rcases open_slice ht h with ⟨hcs, _⟩ | ⟨a, len, cap, m, n', D, Pl, hcs, _, hl', hm, hmm, hy, hx⟩
  · simp at hcs
    obtain ⟨rfl, rfl, rfl⟩ := hcs
    exact ⟨[], Rd.nil _ _ _ _, rfl, by simp, by omega⟩
  · simp at hcs
    obtain ⟨rfl, rfl, rfl⟩ := hcs
    have hle : n ≤ m := by rw [hmm]; split <;> omega
    rw [hy] at hl
    have hLD : ∀ i, i < n → Light P e (D i) := fun i hi => light_slice ht hl _ (List.mem_map.2 ⟨i, List.mem_range.2 hi, rfl⟩)
    have hX' : ∃ X : Nat → Option α, ∀ i, i < n → ∃ q, X i = some q ∧ OK q ∧ ∀ j u, (f q)[j]? = some u → w.cell? (a.add (i * size + j)) = some u := by
      refine choose_lt (α := Option α) (n := n) (p := fun i q' => ∃ q, q' = some q ∧ OK q ∧ ∀ j u, (f q)[j]? = some u → w.cell? (a.add (i * size + j)) = some u) (fun i hi => ?_)
      obtain ⟨cs', hc, hd⟩ := hx i (by omega)
      obtain ⟨q, rfl, hok⟩ := hel cs' n' _ hd (hLD i hi)
      refine ⟨some q, q, rfl, hok, fun j u hu => ?_⟩
      obtain ⟨_, hcl, hat⟩ := World.cells?_some hc
      rw [hC] at hcl hat
      have hj : j < size := by
        have := (List.getElem?_eq_some_iff.1 hu).1
        rwa [hf] at this
      rw [← Go.Deep.add_add, hat j hj, hu]
    obtain ⟨X, hX⟩ := hX'
    rcases Nat.eq_zero_or_pos n with h0 | h0
    · subst h0
      exact ⟨[], Rd.nil _ _ _ _, rfl, by simp, by omega⟩
    · obtain ⟨q0, _⟩ := hX 0 (by omega)
      let Y : Nat → α := fun i => (X i).getD q0
      have hY : ∀ i, i < n → OK (Y i) ∧ ∀ j u, (f (Y i))[j]? = some u → w.cell? (a.add (i * size + j)) = some u := by
        intro i hi
        obtain ⟨q, e1, e2, e3⟩ := hX i hi
        have : Y i = q := by show (X i).getD q0 = q; rw [e1]; rfl
        rw [this]
        exact ⟨e2, e3⟩
      refine ⟨(List.range n).map Y, Rd.of_recs (size := size) hs hf (fun i hi => (hY i (by omega)).2), by simp, fun q hq => ?_, le63 (Nat.le_trans hl' hm)⟩
      obtain ⟨i, hi, rfl⟩ := List.mem_map.1 hq
      exact (hY i (by have := List.mem_range.1 hi; omega)).1
end
def i64B (z : Int) : Prop := -9223372036854775808 ≤ z ∧ z ≤ 9223372036854775807
/-- An expression as it lies: kind, place, number, name, type, parts in a slice, type and owner as the checker says. -/
inductive Ex where
  | mk (kd ln co nu : Int) (n tn : List UInt8) (ta : Bool) (A : Option Addr) (k c : Nat) (ks : List Ex) (on : List UInt8) (oa : Bool) (ow : List UInt8)
def Ex.ks : Ex → List Ex | .mk _ _ _ _ _ _ _ _ _ _ ks _ _ _ => ks
abbrev exC (kd ln co nu : Int) (n tn : List UInt8) (ta : Bool) (A : Option Addr) (k c : Nat) (on : List UInt8) (oa : Bool) (ow : List UInt8) : List Value := [.int .i64 kd, .int .i64 ln, .int .i64 co, .int .i64 nu, S n, S tn, .bool ta, .slice A k c, S on, .bool oa, S ow]
def Ex.cells : Ex → List Value | .mk kd ln co nu n tn ta A k c _ on oa ow => exC kd ln co nu n tn ta A k c on oa ow
def Ex.val (e : Ex) : Value := .agg e.cells.toArray
theorem Ex.cells_len (e : Ex) : e.cells.length = 11 := by cases e; rfl

theorem Ex.ind {P : Ex → Prop} (h : ∀ e, (∀ x ∈ e.ks, P x) → P e) : ∀ e, P e
  | .mk kd ln co nu n tn ta A k c ks on oa ow => h _ fun x _hx => Ex.ind h x
termination_by e => SizeOf.sizeOf e
decreasing_by
  have := List.sizeOf_lt_of_mem (show x ∈ ks from _hx)
  simp only [Ex.mk.sizeOf_spec]
  omega

/-- A tree reads as it says. -/
inductive Ex.At (w : World) (F : Nat → Prop) : Ex → Prop
  | mk {kd ln co nu : Int} {n tn : List UInt8} {ta : Bool} {A : Option Addr} {k c : Nat} {ks : List Ex} {on : List UInt8} {oa : Bool} {ow : List UInt8}
      (hr : Rd w F 11 A k (ks.flatMap Ex.cells)) (hl : ks.length = k) (hkc : k ≤ c) (hk : c ≤ 9223372036854775807) (hi : i64B kd ∧ i64B nu) (hs : n.length ≤ 140737488351232 ∧ tn.length ≤ 140737488351232) (hall : ∀ x ∈ ks, Ex.At w F x) :
      Ex.At w F (.mk kd ln co nu n tn ta A k c ks on oa ow)

section
variable {w w' : World} {F G : Nat → Prop} {B : Nat}
theorem Ex.At.bel {e : Ex} (h : e.At w (fun k => B ≤ k)) (hk : Below B w w') : e.At w' (fun k => B ≤ k) := by
  induction h with
  | mk hr hl hkc hk' hi hs _ ih => exact .mk (hr.below hk) hl hkc hk' hi hs ih
theorem Ex.At.weak {e : Ex} (h : e.At w F) (hs : ∀ k, G k → F k) : e.At w G := by
  induction h with
  | mk hr hl hkc hk' hi hs' _ ih => exact .mk (hr.weak fun k _ => hs k) hl hkc hk' hi hs' ih
theorem Ex.At.old {e : Ex} (h : e.At w (fun _ => False)) : e.At w (fun k => w.heap.size ≤ k) := by
  induction h with
  | mk hr hl hkc hk' hi hs' _ ih => exact .mk hr.old hl hkc hk' hi hs' ih
/-- At a later world, all that was there untouched. -/
theorem Ex.At.on {e : Ex} (h : e.At w (fun k => w.heap.size ≤ k)) (hb : Below w.heap.size w w') : e.At w' (fun k => w'.heap.size ≤ k) :=
  (h.bel hb).weak fun _ hk => Nat.le_trans hb.size hk
end
/-- A bound on an expression's text. -/
def Ex.len : Ex → Nat
  | .mk _ _ _ _ n tn _ _ _ _ ks _ _ _ => 64 + n.length + tn.length + (ks.attach.map fun x => x.1.len).sum
termination_by e => SizeOf.sizeOf e
decreasing_by
  have := List.sizeOf_lt_of_mem x.2
  simp only [Ex.mk.sizeOf_spec]
  omega
theorem Ex.len_mk (kd ln co nu : Int) (n tn : List UInt8) (ta : Bool) (A : Option Addr) (k c : Nat) (ks : List Ex) (on : List UInt8) (oa : Bool) (ow : List UInt8) : (Ex.mk kd ln co nu n tn ta A k c ks on oa ow).len = 64 + n.length + tn.length + (ks.map Ex.len).sum := by
  rw [Ex.len]
  congr 2
  rw [List.attach_map_val (f := Ex.len)]
theorem sum_mem {α : Type} {f : α → Nat} : ∀ {l : List α} {x : α}, x ∈ l → f x ≤ (l.map f).sum
  | [], _, h => by cases h
  | a :: l, x, h => by
    rw [List.map_cons, List.sum_cons]
    rcases List.mem_cons.1 h with rfl | h
    · omega
    · have := sum_mem (f := f) h; omega
theorem sum_le {α : Type} {f g : α → Nat} : ∀ {l : List α}, (∀ x ∈ l, f x ≤ g x) → (l.map f).sum ≤ (l.map g).sum
  | [], _ => Nat.le_refl _
  | a :: l, h => by
    rw [List.map_cons, List.map_cons, List.sum_cons, List.sum_cons]
    have h1 := h a List.mem_cons_self
    have h2 := sum_le (f := f) (g := g) fun x hx => h x (List.mem_cons_of_mem _ hx)
    omega
theorem Ex.len_pos (e : Ex) : 64 ≤ e.len := by cases e; rw [Ex.len_mk]; omega
theorem sum_count {α : Type} {f : α → Nat} {b : Nat} : ∀ {l : List α}, (∀ x ∈ l, b ≤ f x) → l.length * b ≤ (l.map f).sum
  | [], _ => by simp
  | a :: l, h => by
    rw [List.map_cons, List.sum_cons, List.length_cons, Nat.add_mul]
    have h1 := h a List.mem_cons_self
    have h2 := sum_count (f := f) fun x hx => h x (List.mem_cons_of_mem _ hx)
    omega
/-- A statement as it lies: what it does, place, name, type, expressions, then, else. -/
inductive St where
  | mk (ds ln co : Int) (n tn : List UInt8) (ta : Bool) (eA : Option Addr) (ek ec : Nat) (es : List Ex) (tA : Option Addr) (tk tc : Nat) (ts : List St) (lA : Option Addr) (lk lc : Nat) (ls : List St)
def St.es : St → List Ex | .mk _ _ _ _ _ _ _ _ _ es _ _ _ _ _ _ _ _ => es
def St.ts : St → List St | .mk _ _ _ _ _ _ _ _ _ _ _ _ _ ts _ _ _ _ => ts
def St.ls : St → List St | .mk _ _ _ _ _ _ _ _ _ _ _ _ _ _ _ _ _ ls => ls
def St.cells : St → List Value | .mk ds ln co n tn ta eA ek ec _ tA tk tc _ lA lk lc _ => [.int .i64 ds, .int .i64 ln, .int .i64 co, S n, S tn, .bool ta, .slice eA ek ec, .slice tA tk tc, .slice lA lk lc]
def St.val (s : St) : Value := .agg s.cells.toArray
theorem St.cells_len (s : St) : s.cells.length = 9 := by cases s; rfl

theorem St.ind {P : St → Prop} (h : ∀ s, (∀ x ∈ s.ts, P x) → (∀ x ∈ s.ls, P x) → P s) : ∀ s, P s
  | .mk ds ln co n tn ta eA ek ec es tA tk tc ts lA lk lc ls => h _ (fun x _hx => St.ind h x) (fun x _hx => St.ind h x)
termination_by s => SizeOf.sizeOf s
decreasing_by
  · have := List.sizeOf_lt_of_mem (show x ∈ ts from _hx)
    simp only [St.mk.sizeOf_spec]
    omega
  · have := List.sizeOf_lt_of_mem (show x ∈ ls from _hx)
    simp only [St.mk.sizeOf_spec]
    omega

/-- A statement reads as it says. -/
inductive St.At (w : World) (F : Nat → Prop) : St → Prop
  | mk {ds ln co : Int} {n tn : List UInt8} {ta : Bool} {eA : Option Addr} {ek ec : Nat} {es : List Ex} {tA : Option Addr} {tk tc : Nat} {ts : List St} {lA : Option Addr} {lk lc : Nat} {ls : List St}
      (hr : Rd w F 11 eA ek (es.flatMap Ex.cells)) (hl : es.length = ek) (hkc : ek ≤ ec) (hk : ec ≤ 9223372036854775807) (he : ∀ x ∈ es, x.At w F)
      (tr : Rd w F 9 tA tk (ts.flatMap St.cells)) (tl : ts.length = tk) (tkc : tk ≤ tc) (tk' : tc ≤ 9223372036854775807) (ht : ∀ x ∈ ts, St.At w F x)
      (lr : Rd w F 9 lA lk (ls.flatMap St.cells)) (ll : ls.length = lk) (lkc : lk ≤ lc) (lk' : lc ≤ 9223372036854775807) (hla : ∀ x ∈ ls, St.At w F x)
      (hi : i64B ds) (hs : n.length ≤ 140737488351232 ∧ tn.length ≤ 140737488351232) :
      St.At w F (.mk ds ln co n tn ta eA ek ec es tA tk tc ts lA lk lc ls)

section
variable {w w' : World} {F G : Nat → Prop} {B : Nat}
theorem St.At.bel {s : St} (h : s.At w (fun k => B ≤ k)) (hk : Below B w w') : s.At w' (fun k => B ≤ k) := by
  induction h with
  | mk hr hl hkc hk' he tr tl tkc tk' _ lr ll lkc lk' _ hi hs iht ihl => exact .mk (hr.below hk) hl hkc hk' (fun x hx => (he x hx).bel hk) (tr.below hk) tl tkc tk' iht (lr.below hk) ll lkc lk' ihl hi hs
theorem St.At.weak {s : St} (h : s.At w F) (hs : ∀ k, G k → F k) : s.At w G := by
  induction h with
  | mk hr hl hkc hk' he tr tl tkc tk' _ lr ll lkc lk' _ hi hs' iht ihl => exact .mk (hr.weak fun k _ => hs k) hl hkc hk' (fun x hx => (he x hx).weak hs) (tr.weak fun k _ => hs k) tl tkc tk' iht (lr.weak fun k _ => hs k) ll lkc lk' ihl hi hs'
theorem St.At.old {s : St} (h : s.At w (fun _ => False)) : s.At w (fun k => w.heap.size ≤ k) := by
  induction h with
  | mk hr hl hkc hk' he tr tl tkc tk' _ lr ll lkc lk' _ hi hs' iht ihl => exact .mk hr.old hl hkc hk' (fun x hx => (he x hx).old) tr.old tl tkc tk' iht lr.old ll lkc lk' ihl hi hs'
/-- At a later world, all that was there untouched. -/
theorem St.At.on {s : St} (h : s.At w (fun k => w.heap.size ≤ k)) (hb : Below w.heap.size w w') : s.At w' (fun k => w'.heap.size ≤ k) :=
  (h.bel hb).weak fun _ hk => Nat.le_trans hb.size hk
end
theorem name_world {p : World → Prop} {w : World} (h : ∀ w', w' = w → p w') : p w := h w rfl
end Go.Proofs.Ytkgnoemagklmiaa.K5
