/- A class as it lies, opened; how much it holds; no statement of the seat is proved here. -/
import Derived.Test.YtkgnoemagklmiaaK5Tree
namespace Go.Proofs.Ytkgnoemagklmiaa.K5
open Go.ChangeShapes Go.WideShapes Go.ChangeAt Go.RowKit Go.Deep
set_option linter.unusedVariables false

section
variable {H : Type} {enc : TypeId × Value → H} {P : Program} {w : World} {base : Nat} {spare : Nat → Bool} {held : Bool}
theorem trod_i64 {t : TypeId} {fuel : Nat} {cs : List Value} {y : DataW H × List MemPlace} (ht : P.underlying t = some (.int .i64)) (h : DataW.trod enc P w base spare held fuel t cs = some y) : ∃ x : Int, cs = [.int .i64 x] ∧ i64B x := by
  obtain ⟨x, rfl, _, hw⟩ := DataW.trod_int ht h
  exact ⟨x, rfl, wf_i64_le hw⟩
end
section
variable {H : Type} {enc : TypeId × Value → H} {w : World} {base : Nat} {spare : Nat → Bool} {held : Bool} {r : Reach} {b0 : Nat} {v : Value} {d : DataW H} {p : List MemPlace}
set_option maxRecDepth 100000 in
theorem trod_typQ {cs : List Value} {n : Nat} {y : DataW H × List MemPlace} (h : DataW.trod enc Try.prog w base spare held n 43 cs = some y) (hl : Light Try.prog 43 y.1) : ∃ s a, cs = [S s, .bool a] ∧ s.length ≤ 140737488351232 := by
  obtain ⟨hc, n', hf⟩ := trod_fldW Try.underlying43 h hl
  obtain ⟨a, b, rfl⟩ := cs2 (hc.trans (by kernel_rfl))
  obtain ⟨_, f0, l0⟩ := hf 0 _ rfl
  obtain ⟨_, f1, _⟩ := hf 1 _ rfl
  obtain ⟨s, hs, hsl⟩ := trod_strW Try.underlying9 f0 l0
  obtain ⟨q, hq, _⟩ := DataW.trod_bool Try.underlying4 f1
  have hs' : [a] = [S s] := hs
  have hq' : [b] = [.bool q] := hq
  injection hs' with hs'
  injection hq' with hq'
  exact ⟨s, q, by rw [hs', hq'], hsl⟩
set_option maxRecDepth 100000 in
theorem trod_pos {cs : List Value} {n : Nat} {y : DataW H × List MemPlace} (h : DataW.trod enc Try.prog w base spare held n 36 cs = some y) : ∃ x z, cs = [.int .i64 x, .int .i64 z] := by
  obtain ⟨hc, n', hf⟩ := trod_fld Try.underlying36 h
  obtain ⟨a, b, rfl⟩ := cs2 (hc.trans (by kernel_rfl))
  obtain ⟨_, f0⟩ := hf 0 _ rfl
  obtain ⟨_, f1⟩ := hf 1 _ rfl
  obtain ⟨s, hs, _⟩ := trod_i64 Try.underlying3 f0
  obtain ⟨q, hq, _⟩ := trod_i64 Try.underlying3 f1
  have hs' : [a] = [.int .i64 s] := hs
  have hq' : [b] = [.int .i64 q] := hq
  injection hs' with hs'
  injection hq' with hq'
  exact ⟨s, q, by rw [hs', hq']⟩
theorem cs11 {cs : List Value} (h : cs.length = 11) : ∃ a b c d e f g h i j k, cs = [a, b, c, d, e, f, g, h, i, j, k] := by match cs, h with | [a, b, c, d, e, f, g, h, i, j, k], _ => exact ⟨a, b, c, d, e, f, g, h, i, j, k, rfl⟩
end
theorem cs9 {cs : List Value} (h : cs.length = 9) : ∃ a b c d e f g h i, cs = [a, b, c, d, e, f, g, h, i] := by match cs, h with | [a, b, c, d, e, f, g, h, i], _ => exact ⟨a, b, c, d, e, f, g, h, i, rfl⟩
/-- A method as it lies. -/
structure Me where
  ln : Int
  co : Int
  n : List UInt8
  st : Bool
  pA : Option Addr
  pk : Nat
  pc : Nat
  ps : List Vr
  rn : List UInt8
  ra : Bool
  bA : Option Addr
  bk : Nat
  bc : Nat
  bs : List St
def Me.cells (m : Me) : List Value := [.int .i64 m.ln, .int .i64 m.co, S m.n, .bool m.st, .slice m.pA m.pk m.pc, S m.rn, .bool m.ra, .slice m.bA m.bk m.bc]
abbrev Me.val (m : Me) : Value := .agg #[.int .i64 m.ln, .int .i64 m.co, S m.n, .bool m.st, .slice m.pA m.pk m.pc, S m.rn, .bool m.ra, .slice m.bA m.bk m.bc]
theorem Me.cells_len (m : Me) : m.cells.length = 8 := rfl
structure Me.At (w : World) (F : Nat → Prop) (m : Me) : Prop where
  pr : Rd w F 3 m.pA m.pk (m.ps.flatMap Vr.cells)
  pl : m.ps.length = m.pk
  pm : m.pk ≤ 9223372036854775807
  br : Rd w F 9 m.bA m.bk (m.bs.flatMap St.cells)
  bl : m.bs.length = m.bk
  bm : m.bk ≤ 9223372036854775807
  ba : ∀ s ∈ m.bs, s.At w F
  sb : m.n.length ≤ 140737488351232 ∧ m.rn.length ≤ 140737488351232
/-- A class as it lies. -/
structure Kl where
  ln : Int
  co : Int
  n : List UInt8
  su : List UInt8
  fA : Option Addr
  fk : Nat
  fc : Nat
  fs : List Vr
  mA : Option Addr
  mq : Nat
  mc : Nat
  ms : List Me
abbrev Kl.val (c : Kl) : Value := .agg #[.int .i64 c.ln, .int .i64 c.co, S c.n, S c.su, .slice c.fA c.fk c.fc, .slice c.mA c.mq c.mc]
structure Kl.At (w : World) (F : Nat → Prop) (c : Kl) : Prop where
  fr : Rd w F 3 c.fA c.fk (c.fs.flatMap Vr.cells)
  fl : c.fs.length = c.fk
  fm : c.fk ≤ c.fc ∧ c.fc ≤ 9223372036854775807
  mr : Rd w F 8 c.mA c.mq (c.ms.flatMap Me.cells)
  ml : c.ms.length = c.mq
  mm : c.mq ≤ c.mc ∧ c.mc ≤ 9223372036854775807
  ma : ∀ m ∈ c.ms, m.At w F
  sb : c.n.length ≤ 140737488351232 ∧ c.su.length ≤ 140737488351232

section
variable {w w' : World} {F G : Nat → Prop} {B : Nat}
theorem Me.At.bel {m : Me} (h : m.At w (fun k => B ≤ k)) (hk : Below B w w') : m.At w' (fun k => B ≤ k) :=
  { h with pr := h.pr.below hk, br := h.br.below hk, ba := fun s hs => (h.ba s hs).bel hk }
theorem Me.At.weak {m : Me} (h : m.At w F) (hs : ∀ k, G k → F k) : m.At w G :=
  { h with pr := h.pr.weak fun k _ => hs k, br := h.br.weak fun k _ => hs k, ba := fun s hs' => (h.ba s hs').weak hs }
theorem Me.At.old {m : Me} (h : m.At w (fun _ => False)) : m.At w (fun k => w.heap.size ≤ k) :=
  { h with pr := h.pr.old, br := h.br.old, ba := fun s hs' => (h.ba s hs').old }
theorem Me.At.on {m : Me} (h : m.At w (fun k => w.heap.size ≤ k)) (hb : Below w.heap.size w w') : m.At w' (fun k => w'.heap.size ≤ k) := (h.bel hb).weak fun _ hk => Nat.le_trans hb.size hk
theorem Kl.At.old {c : Kl} (h : c.At w (fun _ => False)) : c.At w (fun k => w.heap.size ≤ k) :=
  { h with fr := h.fr.old, mr := h.mr.old, ma := fun m hm => (h.ma m hm).old }
theorem Kl.At.on {c : Kl} (h : c.At w (fun k => w.heap.size ≤ k)) (hb : Below w.heap.size w w') : c.At w' (fun k => w'.heap.size ≤ k) :=
  { h with fr := (h.fr.below hb).weak fun _ _ hk => Nat.le_trans hb.size hk, mr := (h.mr.below hb).weak fun _ _ hk => Nat.le_trans hb.size hk, ma := fun m hm => (h.ma m hm).on hb }
end

/-- How much a statement, a method, a class holds. -/
def St.len : St → Nat
  | .mk _ _ _ n tn _ _ _ _ es _ _ _ ts _ _ _ ls => 100 + n.length + tn.length + (es.map Ex.len).sum + (ts.attach.map fun x => x.1.len).sum + (ls.attach.map fun x => x.1.len).sum
termination_by s => SizeOf.sizeOf s
decreasing_by
  · have := List.sizeOf_lt_of_mem x.2
    simp only [St.mk.sizeOf_spec]
    omega
  · have := List.sizeOf_lt_of_mem x.2
    simp only [St.mk.sizeOf_spec]
    omega
theorem St.len_mk (ds ln co : Int) (n tn : List UInt8) (ta : Bool) (eA : Option Addr) (ek ec : Nat) (es : List Ex) (tA : Option Addr) (tk tc : Nat) (ts : List St) (lA : Option Addr) (lk lc : Nat) (ls : List St) :
    (St.mk ds ln co n tn ta eA ek ec es tA tk tc ts lA lk lc ls).len = 100 + n.length + tn.length + (es.map Ex.len).sum + (ts.map St.len).sum + (ls.map St.len).sum := by
  rw [St.len, List.attach_map_val (f := St.len), List.attach_map_val (f := St.len)]
def _root_.Go.Proofs.Ytkgnoemagklmiaa.Vr.len (v : Vr) : Nat := 100 + v.n.length + v.t.n.length
def Me.len (m : Me) : Nat := 100 + m.n.length + m.rn.length + (m.ps.map Vr.len).sum + (m.bs.map St.len).sum
def Kl.len (c : Kl) : Nat := 100 + c.n.length + c.su.length + (c.fs.map Vr.len).sum + (c.ms.map Me.len).sum

section
variable {H : Type} {enc : TypeId × Value → H} {P : Program} {w : World} {base : Nat} {spare : Nat → Bool} {held : Bool}
theorem trod_fldB {t : TypeId} {fs : Array Field} {fuel : Nat} {cs : List Value} {x : DataW H × List MemPlace} (ht : P.underlying t = some (.struct fs)) (h : DataW.trod enc P w base spare held fuel t cs = some x) (hl : Light P t x.1) :
    cs.length = P.cellsOf t ∧ ∃ (xs : List (DataW H × List MemPlace)) (n : Nat), x.1 = .agg (xs.map (·.1)) ∧ xs.length = fs.size ∧ ∀ (i : Nat) (f : Field), fs[i]? = some f → ∃ y, xs[i]? = some y ∧ DataW.trod enc P w base spare held n f.type ((cs.drop f.offset).take (P.cellsOf f.type)) = some y ∧ Light P f.type y.1 ∧ SizeOf.sizeOf y.1 < SizeOf.sizeOf x.1 := by
  obtain ⟨xs, n', _, hx, hcl, hxl, hf⟩ := DataW.trod_struct ht h
  refine ⟨hcl, xs, n', by rw [hx], hxl, fun i f hi => ?_⟩
  have hix : i < xs.length := by have := (Array.getElem?_eq_some_iff.1 hi).1; omega
  refine ⟨_, List.getElem?_eq_getElem hix, (hf i f hi).trans (List.getElem?_eq_getElem hix), ?_, ?_⟩
  · rw [hx] at hl
    exact light_agg ht hl hi (by simp [hix])
  · rw [hx]
    have := List.sizeOf_lt_of_mem (show xs[i].1 ∈ xs.map (·.1) from List.mem_map.2 ⟨_, List.getElem_mem hix, rfl⟩)
    simp only [DataW.agg.sizeOf_spec]
    omega
theorem bulk_pos (d : DataW H) : 1 ≤ Rows.uptoBulk d := by cases d <;> (try (rename_i l; cases l)) <;> simp [Rows.uptoBulk]
theorem sum_bulk {α : Type} {K : Nat} {M : α → Nat} {D : Nat → DataW H} {Y : Nat → α} : ∀ n, (∀ i, i < n → M (Y i) ≤ K * Rows.uptoBulk (D i)) → (((List.range n).map Y).map M).sum ≤ K * Rows.uptoBulkAll ((List.range n).map D) := by
  have app : ∀ l m : List (DataW H), Rows.uptoBulkAll (l ++ m) = Rows.uptoBulkAll l + Rows.uptoBulkAll m := by
    intro l m
    induction l with
    | nil => simp [Rows.uptoBulkAll]
    | cons a l ih => simp only [List.cons_append, Rows.uptoBulkAll, ih]; omega
  intro n
  induction n with
  | zero => simp
  | succ n ih =>
    intro h
    have h1 := ih fun i hi => h i (by omega)
    have h2 := h n (by omega)
    rw [List.range_succ, List.map_append, List.map_append, List.map_append, app, List.sum_append, Nat.mul_add]
    simp only [List.map_cons, List.map_nil, List.sum_cons, List.sum_nil, Rows.uptoBulkAll, Nat.add_zero]
    omega
/-- A slice whose elements are read by a law of their own; what they hold together. -/
theorem open_recsB {t e : TypeId} {α : Type} {f : α → List Value} {size fuel : Nat} {A : Option Addr} {n c : Nat} {y : DataW H × List MemPlace} (OK : α → Prop) (K : Nat) (M : α → Nat) (ht : P.underlying t = some (.slice e)) (hC : P.cellsOf e = size) (hs : 0 < size) (hf : ∀ x, (f x).length = size)
    (hel : ∀ cs n' z, DataW.trod enc P w base spare held n' e cs = some z → Light P e z.1 → SizeOf.sizeOf z.1 < SizeOf.sizeOf y.1 → ∃ x, cs = f x ∧ OK x ∧ M x ≤ K * Rows.uptoBulk z.1)
    (h : DataW.trod enc P w base spare held fuel t [.slice A n c] = some y) (hl : Light P t y.1) :
    ∃ l : List α, Rd w (fun _ => False) size A n (l.flatMap f) ∧ l.length = n ∧ (∀ x ∈ l, OK x) ∧ n ≤ c ∧ c ≤ 9223372036854775807 ∧ (l.map M).sum + K ≤ K * Rows.uptoBulk y.1 := by
  rcases open_slice ht h with ⟨hcs, hy⟩ | ⟨a, len, cap, m, n', D, Pl, hcs, _, hl', hm, hmm, hy, hx⟩
  · simp at hcs
    obtain ⟨rfl, rfl, rfl⟩ := hcs
    exact ⟨[], Rd.nil _ _ _ _, rfl, by simp, by omega, by omega, by rw [hy]; simp [Rows.uptoBulk]⟩
  · simp at hcs
    obtain ⟨rfl, rfl, rfl⟩ := hcs
    have hle : n ≤ m := by rw [hmm]; split <;> omega
    have hSD : ∀ i, i < n → SizeOf.sizeOf (D i) < SizeOf.sizeOf y.1 := by
      intro i hi
      rw [hy]
      have := List.sizeOf_lt_of_mem (show D i ∈ (List.range n).map D from List.mem_map.2 ⟨i, List.mem_range.2 hi, rfl⟩)
      simp only [DataW.slice.sizeOf_spec]
      omega
    have hBD : Rows.uptoBulkAll ((List.range n).map D) + 1 ≤ Rows.uptoBulk y.1 := by rw [hy]; simp only [Rows.uptoBulk]; omega
    rw [hy] at hl
    have hLD : ∀ i, i < n → Light P e (D i) := fun i hi => light_slice ht hl _ (List.mem_map.2 ⟨i, List.mem_range.2 hi, rfl⟩)
    have hX' : ∃ X : Nat → Option α, ∀ i, i < n → ∃ q, X i = some q ∧ (OK q ∧ M q ≤ K * Rows.uptoBulk (D i)) ∧ ∀ j u, (f q)[j]? = some u → w.cell? (a.add (i * size + j)) = some u := by
      refine choose_lt (α := Option α) (n := n) (p := fun i q' => ∃ q, q' = some q ∧ (OK q ∧ M q ≤ K * Rows.uptoBulk (D i)) ∧ ∀ j u, (f q)[j]? = some u → w.cell? (a.add (i * size + j)) = some u) (fun i hi => ?_)
      obtain ⟨cs', hc, hd⟩ := hx i (by omega)
      obtain ⟨q, rfl, hok⟩ := hel cs' n' _ hd (hLD i hi) (hSD i hi)
      refine ⟨some q, q, rfl, hok, fun j u hu => ?_⟩
      obtain ⟨_, hcl, hat⟩ := World.cells?_some hc
      rw [hC] at hcl hat
      have hj : j < size := by
        have := (List.getElem?_eq_some_iff.1 hu).1
        rwa [hf] at this
      rw [← Go.Deep.add_add, hat j hj, hu]
    obtain ⟨X, hX⟩ := hX'
    have hc63 := le63 hm
    rcases Nat.eq_zero_or_pos n with h0 | h0
    · subst h0
      refine ⟨[], Rd.nil _ _ _ _, rfl, by simp, hl', hc63, ?_⟩
      have : K * 1 ≤ K * Rows.uptoBulk y.1 := Nat.mul_le_mul_left _ (bulk_pos _)
      simpa using this
    · obtain ⟨q0, _⟩ := hX 0 (by omega)
      let Y : Nat → α := fun i => (X i).getD q0
      have hY : ∀ i, i < n → (OK (Y i) ∧ M (Y i) ≤ K * Rows.uptoBulk (D i)) ∧ ∀ j u, (f (Y i))[j]? = some u → w.cell? (a.add (i * size + j)) = some u := by
        intro i hi
        obtain ⟨q, e1, e2, e3⟩ := hX i hi
        have : Y i = q := by show (X i).getD q0 = q; rw [e1]; rfl
        rw [this]
        exact ⟨e2, e3⟩
      refine ⟨(List.range n).map Y, Rd.of_recs (size := size) hs hf (fun i hi => (hY i (by omega)).2), by simp, fun q hq => ?_, hl', hc63, ?_⟩
      · obtain ⟨i, hi, rfl⟩ := List.mem_map.1 hq
        exact (hY i (by have := List.mem_range.1 hi; omega)).1.1
      · have h1 := sum_bulk (K := K) (M := M) (D := D) (Y := Y) n fun i hi => (hY i hi).1.2
        have h2 : K * (Rows.uptoBulkAll ((List.range n).map D) + 1) ≤ K * Rows.uptoBulk y.1 := Nat.mul_le_mul_left _ hBD
        rw [Nat.mul_add, Nat.mul_one] at h2
        omega
theorem trod_strB {t : TypeId} {fuel : Nat} {cs : List Value} {y : DataW H × List MemPlace} (ht : P.underlying t = some .string) (h : DataW.trod enc P w base spare held fuel t cs = some y) (hl : Light P t y.1) : ∃ s : List UInt8, cs = [S s] ∧ s.length ≤ 140737488351232 ∧ s.length + 1 = Rows.uptoBulk y.1 := by
  obtain ⟨s, rfl, hy, hs⟩ := DataW.trod_string ht h
  rw [hy] at hl ⊢
  exact ⟨s.data.toList, by rw [← S_of], light_str hl, by simp [Rows.uptoBulk]⟩
end
section
variable {H : Type} {enc : TypeId × Value → H} {w : World} {base : Nat} {spare : Nat → Bool} {held : Bool} {r : Reach} {b0 : Nat} {v : Value} {d : DataW H} {p : List MemPlace}
theorem xs2 {α : Type} {xs : List α} (h : xs.length = 2) : ∃ a b, xs = [a, b] := by match xs, h with | [a, b], _ => exact ⟨a, b, rfl⟩
theorem xs5 {α : Type} {xs : List α} (h : xs.length = 5) : ∃ a b c d e, xs = [a, b, c, d, e] := by match xs, h with | [a, b, c, d, e], _ => exact ⟨a, b, c, d, e, rfl⟩
theorem xs6 {α : Type} {xs : List α} (h : xs.length = 6) : ∃ a b c d e f, xs = [a, b, c, d, e, f] := by match xs, h with | [a, b, c, d, e, f], _ => exact ⟨a, b, c, d, e, f, rfl⟩
theorem xs7 {α : Type} {xs : List α} (h : xs.length = 7) : ∃ a b c d e f g, xs = [a, b, c, d, e, f, g] := by match xs, h with | [a, b, c, d, e, f, g], _ => exact ⟨a, b, c, d, e, f, g, rfl⟩
theorem xs8 {α : Type} {xs : List α} (h : xs.length = 8) : ∃ a b c d e f g i, xs = [a, b, c, d, e, f, g, i] := by match xs, h with | [a, b, c, d, e, f, g, i], _ => exact ⟨a, b, c, d, e, f, g, i, rfl⟩
theorem cs8' {cs : List Value} (h : cs.length = 8) : ∃ a b c d e f g i, cs = [a, b, c, d, e, f, g, i] := xs8 h
set_option maxRecDepth 100000 in
theorem trod_typB {cs : List Value} {n : Nat} {y : DataW H × List MemPlace} (h : DataW.trod enc Try.prog w base spare held n 43 cs = some y) (hl : Light Try.prog 43 y.1) : ∃ s a, cs = [S s, .bool a] ∧ s.length ≤ 140737488351232 ∧ s.length + 1 ≤ Rows.uptoBulk y.1 := by
  obtain ⟨hc, xs, n', hx, hxl, hf⟩ := trod_fldB Try.underlying43 h hl
  obtain ⟨a, b, rfl⟩ := cs2 (hc.trans (by kernel_rfl))
  obtain ⟨y0, y1, rfl⟩ := xs2 hxl
  obtain ⟨_, g0, f0, l0, _⟩ := hf 0 _ rfl
  obtain ⟨_, g1, f1, _, _⟩ := hf 1 _ rfl
  obtain rfl := Option.some.inj g0
  obtain rfl := Option.some.inj g1
  obtain ⟨s, hs, hsl, hsb⟩ := trod_strB Try.underlying9 f0 l0
  obtain ⟨q, hq, _⟩ := DataW.trod_bool Try.underlying4 f1
  have hs' : [a] = [S s] := hs
  have hq' : [b] = [.bool q] := hq
  injection hs' with hs'
  injection hq' with hq'
  refine ⟨s, q, by rw [hs', hq'], hsl, ?_⟩
  rw [hx]
  simp only [List.map_cons, List.map_nil, Rows.uptoBulk, Rows.uptoBulkAll]
  omega
set_option maxRecDepth 100000 in
theorem trod_vrB {cs : List Value} {n : Nat} {y : DataW H × List MemPlace} (h : DataW.trod enc Try.prog w base spare held n 45 cs = some y) (hl : Light Try.prog 45 y.1) : ∃ v : Vr, cs = v.cells ∧ True ∧ v.len ≤ 100 * Rows.uptoBulk y.1 := by
  obtain ⟨hc, xs, n', hx, hxl, hf⟩ := trod_fldB Try.underlying45 h hl
  obtain ⟨a, b, c, rfl⟩ := cs3 (hc.trans (by kernel_rfl))
  obtain ⟨y0, y1, rfl⟩ := xs2 hxl
  obtain ⟨_, g0, f0, l0, _⟩ := hf 0 _ rfl
  obtain ⟨_, g1, f1, l1, _⟩ := hf 1 _ rfl
  obtain rfl := Option.some.inj g0
  obtain rfl := Option.some.inj g1
  obtain ⟨s, hs, _, hsb⟩ := trod_strB Try.underlying9 f0 l0
  obtain ⟨tn, ta, ht, _, htb⟩ := trod_typB f1 l1
  replace hs : [a] = [S s] := hs
  replace ht : [b, c] = [S tn, .bool ta] := ht
  simp only [List.cons.injEq, and_true] at hs ht
  obtain ⟨ht, ht'⟩ := ht
  subst hs ht ht'
  refine ⟨⟨s, ⟨tn, ta⟩⟩, rfl, trivial, ?_⟩
  rw [hx]
  simp only [List.map_cons, List.map_nil, Rows.uptoBulk, Rows.uptoBulkAll, Vr.len]
  omega
set_option maxRecDepth 100000 in
theorem trod_exB : ∀ (N : Nat) {cs : List Value} {n : Nat} {y : DataW H × List MemPlace}, SizeOf.sizeOf y.1 < N → DataW.trod enc Try.prog w base spare held n 111 cs = some y → Light Try.prog 111 y.1 → ∃ e : Ex, cs = e.cells ∧ e.At w (fun _ => False) ∧ e.len ≤ 100 * Rows.uptoBulk y.1
  | 0, _, _, _, h, _, _ => absurd h (Nat.not_lt_zero _)
  | N + 1, cs, n, y, hN, h, hl => by
    obtain ⟨hc, xs, n', hx, hxl, hf⟩ := trod_fldB Try.underlying111 h hl
    obtain ⟨c0, c1, c2, c3, c4, c5, c6, c7, c8, c9, c10, rfl⟩ := cs11 (hc.trans (by kernel_rfl))
    obtain ⟨y0, y1, y2, y3, y4, y5, y6, y7, rfl⟩ := xs8 hxl
    obtain ⟨_, g0, f0, l0, z0⟩ := hf 0 _ rfl
    obtain ⟨_, g1, f1, l1, z1⟩ := hf 1 _ rfl
    obtain ⟨_, g2, f2, l2, z2⟩ := hf 2 _ rfl
    obtain ⟨_, g3, f3, l3, z3⟩ := hf 3 _ rfl
    obtain ⟨_, g4, f4, l4, z4⟩ := hf 4 _ rfl
    obtain ⟨_, g5, f5, l5, z5⟩ := hf 5 _ rfl
    obtain ⟨_, g6, f6, l6, z6⟩ := hf 6 _ rfl
    obtain ⟨_, g7, f7, l7, z7⟩ := hf 7 _ rfl
    obtain rfl := Option.some.inj g0
    obtain rfl := Option.some.inj g1
    obtain rfl := Option.some.inj g2
    obtain rfl := Option.some.inj g3
    obtain rfl := Option.some.inj g4
    obtain rfl := Option.some.inj g5
    obtain rfl := Option.some.inj g6
    obtain rfl := Option.some.inj g7
    obtain ⟨kd, e0, hkd⟩ := trod_i64 Try.underlying109 f0
    obtain ⟨ln, co, e1⟩ := trod_pos f1
    obtain ⟨nu, e2, hnu⟩ := trod_i64 Try.underlying2 f2
    obtain ⟨nm, e3, hnm, bnm⟩ := trod_strB Try.underlying9 f3 l3
    obtain ⟨tn, ta, e4, htn, btn⟩ := trod_typB f4 l4
    obtain ⟨on, oa, e6, _⟩ := trod_typQ f6 l6
    obtain ⟨ow, e7, _⟩ := trod_strW Try.underlying9 f7 l7
    replace e0 : [c0] = [.int .i64 kd] := e0
    replace e1 : [c1, c2] = [.int .i64 ln, .int .i64 co] := e1
    replace e2 : [c3] = [.int .i64 nu] := e2
    replace e3 : [c4] = [S nm] := e3
    replace e4 : [c5, c6] = [S tn, .bool ta] := e4
    replace e6 : [c8, c9] = [S on, .bool oa] := e6
    replace e7 : [c10] = [S ow] := e7
    replace f5 : DataW.trod enc Try.prog w base spare held n' 106 [c7] = some y5 := f5
    simp only [List.cons.injEq, and_true] at e0 e1 e2 e3 e4 e6 e7
    obtain ⟨e1, e1'⟩ := e1
    obtain ⟨e4, e4'⟩ := e4
    obtain ⟨e6, e6'⟩ := e6
    subst e0 e1 e1' e2 e3 e4 e4' e6 e6' e7
    obtain ⟨A, k, c, rfl⟩ := trod_sl Try.underlying106 f5
    obtain ⟨ks, hr, hlen, hok, hkc, hc63, hsum⟩ := open_recsB (f := Ex.cells) (size := 11) (fun e : Ex => e.At w (fun _ => False)) 100 Ex.len Try.underlying106 (by kernel_rfl) (by omega) Ex.cells_len
      (fun cs' n2 z hz hlz hsz => trod_exB N (by omega) hz hlz) f5 l5
    refine ⟨.mk kd ln co nu nm tn ta A k c ks on oa ow, rfl, .mk hr hlen hkc hc63 ⟨hkd, hnu⟩ ⟨hnm, htn⟩ hok, ?_⟩
    rw [Ex.len_mk, hx]
    simp only [List.map_cons, List.map_nil, Rows.uptoBulk, Rows.uptoBulkAll]
    omega
set_option maxRecDepth 100000 in
theorem trod_stB : ∀ (N : Nat) {cs : List Value} {n : Nat} {y : DataW H × List MemPlace}, SizeOf.sizeOf y.1 < N → DataW.trod enc Try.prog w base spare held n 108 cs = some y → Light Try.prog 108 y.1 → ∃ s : St, cs = s.cells ∧ s.At w (fun _ => False) ∧ s.len ≤ 100 * Rows.uptoBulk y.1
  | 0, _, _, _, h, _, _ => absurd h (Nat.not_lt_zero _)
  | N + 1, cs, n, y, hN, h, hl => by
    obtain ⟨hc, xs, n', hx, hxl, hf⟩ := trod_fldB Try.underlying108 h hl
    obtain ⟨c0, c1, c2, c3, c4, c5, c6, c7, c8, rfl⟩ := cs9 (hc.trans (by kernel_rfl))
    obtain ⟨y0, y1, y2, y3, y4, y5, y6, rfl⟩ := xs7 hxl
    obtain ⟨_, g0, f0, l0, z0⟩ := hf 0 _ rfl
    obtain ⟨_, g1, f1, l1, z1⟩ := hf 1 _ rfl
    obtain ⟨_, g2, f2, l2, z2⟩ := hf 2 _ rfl
    obtain ⟨_, g3, f3, l3, z3⟩ := hf 3 _ rfl
    obtain ⟨_, g4, f4, l4, z4⟩ := hf 4 _ rfl
    obtain ⟨_, g5, f5, l5, z5⟩ := hf 5 _ rfl
    obtain ⟨_, g6, f6, l6, z6⟩ := hf 6 _ rfl
    obtain rfl := Option.some.inj g0
    obtain rfl := Option.some.inj g1
    obtain rfl := Option.some.inj g2
    obtain rfl := Option.some.inj g3
    obtain rfl := Option.some.inj g4
    obtain rfl := Option.some.inj g5
    obtain rfl := Option.some.inj g6
    obtain ⟨ds, e0, hds⟩ := trod_i64 Try.underlying105 f0
    obtain ⟨ln, co, e1⟩ := trod_pos f1
    obtain ⟨nm, e2, hnm, bnm⟩ := trod_strB Try.underlying9 f2 l2
    obtain ⟨tn, ta, e3, htn, btn⟩ := trod_typB f3 l3
    replace e0 : [c0] = [.int .i64 ds] := e0
    replace e1 : [c1, c2] = [.int .i64 ln, .int .i64 co] := e1
    replace e2 : [c3] = [S nm] := e2
    replace e3 : [c4, c5] = [S tn, .bool ta] := e3
    replace f4 : DataW.trod enc Try.prog w base spare held n' 106 [c6] = some y4 := f4
    replace f5 : DataW.trod enc Try.prog w base spare held n' 46 [c7] = some y5 := f5
    replace f6 : DataW.trod enc Try.prog w base spare held n' 46 [c8] = some y6 := f6
    simp only [List.cons.injEq, and_true] at e0 e1 e2 e3
    obtain ⟨e1, e1'⟩ := e1
    obtain ⟨e3, e3'⟩ := e3
    subst e0 e1 e1' e2 e3 e3'
    obtain ⟨eA, ek, ec, rfl⟩ := trod_sl Try.underlying106 f4
    obtain ⟨tA, tk, tc, rfl⟩ := trod_sl Try.underlying46 f5
    obtain ⟨lA, lk, lc, rfl⟩ := trod_sl Try.underlying46 f6
    obtain ⟨es, er, el, eok, ekc, ec63, esum⟩ := open_recsB (f := Ex.cells) (size := 11) (fun e : Ex => e.At w (fun _ => False)) 100 Ex.len Try.underlying106 (by kernel_rfl) (by omega) Ex.cells_len
      (fun cs' n2 z hz hlz hsz => trod_exB _ (Nat.lt_succ_self _) hz hlz) f4 l4
    obtain ⟨ts, tr, tl, tok, tkc, tc63, tsum⟩ := open_recsB (f := St.cells) (size := 9) (fun s : St => s.At w (fun _ => False)) 100 St.len Try.underlying46 (by kernel_rfl) (by omega) St.cells_len
      (fun cs' n2 z hz hlz hsz => trod_stB N (by omega) hz hlz) f5 l5
    obtain ⟨ls, lr, ll, lok, lkc, lc63, lsum⟩ := open_recsB (f := St.cells) (size := 9) (fun s : St => s.At w (fun _ => False)) 100 St.len Try.underlying46 (by kernel_rfl) (by omega) St.cells_len
      (fun cs' n2 z hz hlz hsz => trod_stB N (by omega) hz hlz) f6 l6
    refine ⟨.mk ds ln co nm tn ta eA ek ec es tA tk tc ts lA lk lc ls, rfl, .mk er el ekc ec63 eok tr tl tkc tc63 tok lr ll lkc lc63 lok hds ⟨hnm, htn⟩, ?_⟩
    rw [St.len_mk, hx]
    simp only [List.map_cons, List.map_nil, Rows.uptoBulk, Rows.uptoBulkAll]
    omega
set_option maxRecDepth 100000 in
theorem trod_meB {cs : List Value} {n : Nat} {y : DataW H × List MemPlace} (h : DataW.trod enc Try.prog w base spare held n 48 cs = some y) (hl : Light Try.prog 48 y.1) : ∃ m : Me, cs = m.cells ∧ m.At w (fun _ => False) ∧ m.len ≤ 100 * Rows.uptoBulk y.1 := by
  obtain ⟨hc, xs, n', hx, hxl, hf⟩ := trod_fldB Try.underlying48 h hl
  obtain ⟨c0, c1, c2, c3, c4, c5, c6, c7, rfl⟩ := cs8' (hc.trans (by kernel_rfl))
  obtain ⟨y0, y1, y2, y3, y4, y5, rfl⟩ := xs6 hxl
  obtain ⟨_, g0, f0, l0, z0⟩ := hf 0 _ rfl
  obtain ⟨_, g1, f1, l1, z1⟩ := hf 1 _ rfl
  obtain ⟨_, g2, f2, l2, z2⟩ := hf 2 _ rfl
  obtain ⟨_, g3, f3, l3, z3⟩ := hf 3 _ rfl
  obtain ⟨_, g4, f4, l4, z4⟩ := hf 4 _ rfl
  obtain ⟨_, g5, f5, l5, z5⟩ := hf 5 _ rfl
  obtain rfl := Option.some.inj g0
  obtain rfl := Option.some.inj g1
  obtain rfl := Option.some.inj g2
  obtain rfl := Option.some.inj g3
  obtain rfl := Option.some.inj g4
  obtain rfl := Option.some.inj g5
  obtain ⟨ln, co, e0⟩ := trod_pos f0
  obtain ⟨nm, e1, hnm, bnm⟩ := trod_strB Try.underlying9 f1 l1
  obtain ⟨st, e2, _⟩ := DataW.trod_bool Try.underlying4 f2
  obtain ⟨rn, ra, e4, hrn, brn⟩ := trod_typB f4 l4
  replace e0 : [c0, c1] = [.int .i64 ln, .int .i64 co] := e0
  replace e1 : [c2] = [S nm] := e1
  replace e2 : [c3] = [.bool st] := e2
  replace e4 : [c5, c6] = [S rn, .bool ra] := e4
  replace f3 : DataW.trod enc Try.prog w base spare held n' 22 [c4] = some y3 := f3
  replace f5 : DataW.trod enc Try.prog w base spare held n' 46 [c7] = some y5 := f5
  simp only [List.cons.injEq, and_true] at e0 e1 e2 e4
  obtain ⟨e0, e0'⟩ := e0
  obtain ⟨e4, e4'⟩ := e4
  subst e0 e0' e1 e2 e4 e4'
  obtain ⟨pA, pk, pc, rfl⟩ := trod_sl Try.underlying22 f3
  obtain ⟨bA, bk, bc, rfl⟩ := trod_sl Try.underlying46 f5
  obtain ⟨ps, pr, pl, _, pkc, pc63, psum⟩ := open_recsB (f := Vr.cells) (size := 3) (fun _ : Vr => True) 100 Vr.len Try.underlying22 (by kernel_rfl) (by omega) (fun _ => rfl)
    (fun cs' n2 z hz hlz hsz => trod_vrB hz hlz) f3 l3
  obtain ⟨bs, br, bl, bok, bkc, bc63, bsum⟩ := open_recsB (f := St.cells) (size := 9) (fun s : St => s.At w (fun _ => False)) 100 St.len Try.underlying46 (by kernel_rfl) (by omega) St.cells_len
    (fun cs' n2 z hz hlz hsz => trod_stB _ (Nat.lt_succ_self _) hz hlz) f5 l5
  refine ⟨⟨ln, co, nm, st, pA, pk, pc, ps, rn, ra, bA, bk, bc, bs⟩, rfl, ⟨pr, pl, Nat.le_trans pkc pc63, br, bl, Nat.le_trans bkc bc63, bok, ⟨hnm, hrn⟩⟩, ?_⟩
  rw [hx]
  simp only [List.map_cons, List.map_nil, Rows.uptoBulk, Rows.uptoBulkAll, Me.len]
  omega
set_option maxRecDepth 100000 in
theorem open_kl (hv : Value.okWide Try.prog w r b0 39 v) (h : DataW.Trod enc Try.prog w base spare held 39 v d p) (hl : Light Try.prog 39 d) : ∃ c : Kl, v = c.val ∧ c.At w (fun _ => False) ∧ c.len ≤ 100 * Rows.uptoBulk d := by
  obtain ⟨cs, rfl, _⟩ := okWide_struct Try.underlying39 hv
  obtain ⟨fuel, hf0⟩ := h
  have hcc : (Value.agg cs).cells.toList = cs.toList := by simp [Value.cells]
  rw [hcc] at hf0
  obtain ⟨hc, xs, n', hx, hxl, hf⟩ := trod_fldB Try.underlying39 hf0 hl
  obtain ⟨c0, c1, c2, c3, c4, c5, hcs⟩ := cs6 (hc.trans (by kernel_rfl))
  rw [hcs] at hf
  obtain ⟨y0, y1, y2, y3, y4, rfl⟩ := xs5 hxl
  obtain ⟨_, g0, f0, l0, z0⟩ := hf 0 _ rfl
  obtain ⟨_, g1, f1, l1, z1⟩ := hf 1 _ rfl
  obtain ⟨_, g2, f2, l2, z2⟩ := hf 2 _ rfl
  obtain ⟨_, g3, f3, l3, z3⟩ := hf 3 _ rfl
  obtain ⟨_, g4, f4, l4, z4⟩ := hf 4 _ rfl
  obtain rfl := Option.some.inj g0
  obtain rfl := Option.some.inj g1
  obtain rfl := Option.some.inj g2
  obtain rfl := Option.some.inj g3
  obtain rfl := Option.some.inj g4
  obtain ⟨ln, co, e0⟩ := trod_pos f0
  obtain ⟨nm, e1, hnm, bnm⟩ := trod_strB Try.underlying9 f1 l1
  obtain ⟨su, e2, hsu, bsu⟩ := trod_strB Try.underlying9 f2 l2
  replace e0 : [c0, c1] = [.int .i64 ln, .int .i64 co] := e0
  replace e1 : [c2] = [S nm] := e1
  replace e2 : [c3] = [S su] := e2
  replace f3 : DataW.trod enc Try.prog w base spare held n' 22 [c4] = some y3 := f3
  replace f4 : DataW.trod enc Try.prog w base spare held n' 37 [c5] = some y4 := f4
  simp only [List.cons.injEq, and_true] at e0 e1 e2
  obtain ⟨e0, e0'⟩ := e0
  subst e0 e0' e1 e2
  obtain ⟨fA, fk, fc, rfl⟩ := trod_sl Try.underlying22 f3
  obtain ⟨mA, mk, mc, rfl⟩ := trod_sl Try.underlying37 f4
  obtain ⟨fs, fr, fl, _, fkc, fc63, fsum⟩ := open_recsB (f := Vr.cells) (size := 3) (fun _ : Vr => True) 100 Vr.len Try.underlying22 (by kernel_rfl) (by omega) (fun _ => rfl)
    (fun cs' n2 z hz hlz hsz => trod_vrB hz hlz) f3 l3
  obtain ⟨ms, mr, ml, mok, mkc, mc63, msum⟩ := open_recsB (f := Me.cells) (size := 8) (fun m : Me => m.At w (fun _ => False)) 100 Me.len Try.underlying37 (by kernel_rfl) (by omega) Me.cells_len
    (fun cs' n2 z hz hlz hsz => trod_meB hz hlz) f4 l4
  refine ⟨⟨ln, co, nm, su, fA, fk, fc, fs, mA, mk, mc, ms⟩, (by rw [show cs = cs.toList.toArray by simp, hcs] <;> rfl), ⟨fr, fl, ⟨fkc, fc63⟩, mr, ml, ⟨mkc, mc63⟩, mok, ⟨hnm, hsu⟩⟩, ?_⟩
  have hx' : d = _ := hx
  rw [hx']
  simp only [List.map_cons, List.map_nil, Rows.uptoBulk, Rows.uptoBulkAll, Kl.len]
  omega
end
end Go.Proofs.Ytkgnoemagklmiaa.K5
