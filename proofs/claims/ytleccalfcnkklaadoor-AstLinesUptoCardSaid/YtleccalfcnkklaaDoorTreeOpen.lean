/- An argument that is an expression, opened: it is a tree; no statement of the seat is proved here. -/
import Derived.Test.YtleccalfcnkklaaDoorTree
import Derived.Test.YtleccalfcnkklaaDoorAstTyOpen
namespace Go.Proofs.YtleccalfcnkklaaDoor
open Go.ChangeShapes Go.WideShapes Go.ChangeAt Go.RowKit Go.Deep

section
variable {H : Type} {enc : TypeId × Value → H} {P : Program} {w : World} {base : Nat} {spare : Nat → Bool} {held : Bool}
/-- A struct's fields, each with its datum, which is a part of the whole. -/
theorem trod_fldQ {t : TypeId} {fs : Array Field} {fuel : Nat} {cs : List Value} {x : DataW H × List MemPlace} (ht : P.underlying t = some (.struct fs)) (h : DataW.trod enc P w base spare held fuel t cs = some x) (hl : Light P t x.1) :
    cs.length = P.cellsOf t ∧ ∃ n, ∀ (i : Nat) (f : Field), fs[i]? = some f → ∃ y, DataW.trod enc P w base spare held n f.type ((cs.drop f.offset).take (P.cellsOf f.type)) = some y ∧ Light P f.type y.1 ∧ SizeOf.sizeOf y.1 < SizeOf.sizeOf x.1 := by
  obtain ⟨xs, n', _, hx, hcl, hxl, hf⟩ := DataW.trod_struct ht h
  refine ⟨hcl, n', fun i f hi => ?_⟩
  have hix : i < xs.length := by have := (Array.getElem?_eq_some_iff.1 hi).1; omega
  refine ⟨_, (hf i f hi).trans (List.getElem?_eq_getElem hix), ?_, ?_⟩
  · rw [hx] at hl
    exact light_agg ht hl hi (by simp [hix])
  · rw [hx]
    have := List.sizeOf_lt_of_mem (show xs[i].1 ∈ xs.map (·.1) from List.mem_map.2 ⟨_, List.getElem_mem hix, rfl⟩)
    simp only [DataW.agg.sizeOf_spec]
    omega
/-- A slice whose elements are read by a law of their own, on data that are parts of the whole. -/
theorem open_recsQ {t e : TypeId} {α : Type} {f : α → List Value} {size fuel : Nat} {A : Option Addr} {n c : Nat} {y : DataW H × List MemPlace} (OK : α → Prop) (ht : P.underlying t = some (.slice e)) (hC : P.cellsOf e = size) (hs : 0 < size) (hf : ∀ x, (f x).length = size)
    (hel : ∀ cs n' z, DataW.trod enc P w base spare held n' e cs = some z → Light P e z.1 → SizeOf.sizeOf z.1 < SizeOf.sizeOf y.1 → ∃ x, cs = f x ∧ OK x)
    (h : DataW.trod enc P w base spare held fuel t [.slice A n c] = some y) (hl : Light P t y.1) :
    ∃ l : List α, Rd w (fun _ => False) size A n (l.flatMap f) ∧ l.length = n ∧ (∀ x ∈ l, OK x) ∧ n ≤ c ∧ c ≤ 9223372036854775807 := by
  rcases open_slice ht h with ⟨hcs, _⟩ | ⟨a, len, cap, m, n', D, Pl, hcs, _, hl', hm, hmm, hy, hx⟩
  · simp at hcs
    obtain ⟨rfl, rfl, rfl⟩ := hcs
    exact ⟨[], Rd.nil _ _ _ _, rfl, by simp, by omega, by omega⟩
  · simp at hcs
    obtain ⟨rfl, rfl, rfl⟩ := hcs
    have hle : n ≤ m := by rw [hmm]; split <;> omega
    have hSD : ∀ i, i < n → SizeOf.sizeOf (D i) < SizeOf.sizeOf y.1 := by
      intro i hi
      rw [hy]
      have := List.sizeOf_lt_of_mem (show D i ∈ (List.range n).map D from List.mem_map.2 ⟨i, List.mem_range.2 hi, rfl⟩)
      simp only [DataW.slice.sizeOf_spec]
      omega
    rw [hy] at hl
    have hLD : ∀ i, i < n → Light P e (D i) := fun i hi => light_slice ht hl _ (List.mem_map.2 ⟨i, List.mem_range.2 hi, rfl⟩)
    have hX' : ∃ X : Nat → Option α, ∀ i, i < n → ∃ q, X i = some q ∧ OK q ∧ ∀ j u, (f q)[j]? = some u → w.cell? (a.add (i * size + j)) = some u := by
      refine choose_lt (α := Option α) (n := n) (p := fun i q' => ∃ q, q' = some q ∧ OK q ∧ ∀ j u, (f q)[j]? = some u → w.cell? (a.add (i * size + j)) = some u) (fun i hi => ?_)
      obtain ⟨cs', hc, hd⟩ := hx i (by omega)
      obtain ⟨q, rfl, hok⟩ := hel cs' n' _ hd (hLD i hi) (hSD i hi)
      refine ⟨some q, q, rfl, hok, fun j u hu => ?_⟩
      obtain ⟨_, hcl, hat⟩ := World.cells?_some hc
      rw [hC] at hcl hat
      have hj : j < size := by
        have := (List.getElem?_eq_some_iff.1 hu).1
        rwa [hf] at this
      rw [← Go.Deep.add_add, hat j hj, hu]
    obtain ⟨X, hX⟩ := hX'
    have hc63 := le63 hm
    rcases Nat.eq_zero_or_pos n with h0 | h0
    · subst h0
      exact ⟨[], Rd.nil _ _ _ _, rfl, by simp, hl', hc63⟩
    · obtain ⟨q0, _⟩ := hX 0 (by omega)
      let Y : Nat → α := fun i => (X i).getD q0
      have hY : ∀ i, i < n → OK (Y i) ∧ ∀ j u, (f (Y i))[j]? = some u → w.cell? (a.add (i * size + j)) = some u := by
        intro i hi
        obtain ⟨q, e1, e2, e3⟩ := hX i hi
        have : Y i = q := by show (X i).getD q0 = q; rw [e1]; rfl
        rw [this]
        exact ⟨e2, e3⟩
      refine ⟨(List.range n).map Y, Rd.of_recs (size := size) hs hf (fun i hi => (hY i (by omega)).2), by simp, fun q hq => ?_, hl', hc63⟩
      obtain ⟨i, hi, rfl⟩ := List.mem_map.1 hq
      exact (hY i (by have := List.mem_range.1 hi; omega)).1
theorem trod_i64 {t : TypeId} {fuel : Nat} {cs : List Value} {y : DataW H × List MemPlace} (ht : P.underlying t = some (.int .i64)) (h : DataW.trod enc P w base spare held fuel t cs = some y) : ∃ x : Int, cs = [.int .i64 x] ∧ i64B x := by
  obtain ⟨x, rfl, _, hw⟩ := DataW.trod_int ht h
  exact ⟨x, rfl, wf_i64_le hw⟩
end
section
variable {H : Type} {enc : TypeId × Value → H} {w : World} {base : Nat} {spare : Nat → Bool} {held : Bool} {r : Reach} {b0 : Nat} {v : Value} {d : DataW H} {p : List MemPlace}
set_option maxRecDepth 100000 in
theorem trod_typQ {cs : List Value} {n : Nat} {y : DataW H × List MemPlace} (h : DataW.trod enc Tryd.prog w base spare held n 26 cs = some y) (hl : Light Tryd.prog 26 y.1) : ∃ s a, cs = [S s, .bool a] ∧ s.length ≤ 140737488351232 := by
  obtain ⟨hc, n', hf⟩ := trod_fldW Tryd.underlying26 h hl
  obtain ⟨a, b, rfl⟩ := cs2 (hc.trans (by kernel_rfl))
  obtain ⟨_, f0, l0⟩ := hf 0 _ rfl
  obtain ⟨_, f1, _⟩ := hf 1 _ rfl
  obtain ⟨s, hs, hsl⟩ := trod_strW Tryd.underlying9 f0 l0
  obtain ⟨q, hq, _⟩ := DataW.trod_bool Tryd.underlying4 f1
  have hs' : [a] = [S s] := hs
  have hq' : [b] = [.bool q] := hq
  injection hs' with hs'
  injection hq' with hq'
  exact ⟨s, q, by rw [hs', hq'], hsl⟩
set_option maxRecDepth 100000 in
theorem trod_pos {cs : List Value} {n : Nat} {y : DataW H × List MemPlace} (h : DataW.trod enc Tryd.prog w base spare held n 24 cs = some y) : ∃ x z, cs = [.int .i64 x, .int .i64 z] := by
  obtain ⟨hc, n', hf⟩ := trod_fld Tryd.underlying24 h
  obtain ⟨a, b, rfl⟩ := cs2 (hc.trans (by kernel_rfl))
  obtain ⟨_, f0⟩ := hf 0 _ rfl
  obtain ⟨_, f1⟩ := hf 1 _ rfl
  obtain ⟨s, hs, _⟩ := trod_i64 Tryd.underlying3 f0
  obtain ⟨q, hq, _⟩ := trod_i64 Tryd.underlying3 f1
  have hs' : [a] = [.int .i64 s] := hs
  have hq' : [b] = [.int .i64 q] := hq
  injection hs' with hs'
  injection hq' with hq'
  exact ⟨s, q, by rw [hs', hq']⟩
theorem cs11 {cs : List Value} (h : cs.length = 11) : ∃ a b c d e f g h i j k, cs = [a, b, c, d, e, f, g, h, i, j, k] := by match cs, h with | [a, b, c, d, e, f, g, h, i, j, k], _ => exact ⟨a, b, c, d, e, f, g, h, i, j, k, rfl⟩
set_option maxRecDepth 100000 in
theorem trod_ex : ∀ (N : Nat) {cs : List Value} {n : Nat} {y : DataW H × List MemPlace}, SizeOf.sizeOf y.1 < N → DataW.trod enc Tryd.prog w base spare held n 29 cs = some y → Light Tryd.prog 29 y.1 → ∃ e : Ex, cs = e.cells ∧ e.At w (fun _ => False)
  | 0, _, _, _, h, _, _ => absurd h (Nat.not_lt_zero _)
  | N + 1, cs, n, y, hN, h, hl => by
    obtain ⟨hc, n', hf⟩ := trod_fldQ Tryd.underlying29 h hl
    obtain ⟨c0, c1, c2, c3, c4, c5, c6, c7, c8, c9, c10, rfl⟩ := cs11 (hc.trans (by kernel_rfl))
    obtain ⟨_, f0, l0, z0⟩ := hf 0 _ rfl
    obtain ⟨_, f1, l1, z1⟩ := hf 1 _ rfl
    obtain ⟨_, f2, l2, z2⟩ := hf 2 _ rfl
    obtain ⟨_, f3, l3, z3⟩ := hf 3 _ rfl
    obtain ⟨_, f4, l4, z4⟩ := hf 4 _ rfl
    obtain ⟨y5, f5, l5, z5⟩ := hf 5 _ rfl
    obtain ⟨_, f6, l6, z6⟩ := hf 6 _ rfl
    obtain ⟨_, f7, l7, z7⟩ := hf 7 _ rfl
    obtain ⟨kd, e0, hkd⟩ := trod_i64 Tryd.underlying22 f0
    obtain ⟨ln, co, e1⟩ := trod_pos f1
    obtain ⟨nu, e2, hnu⟩ := trod_i64 Tryd.underlying2 f2
    obtain ⟨nm, e3, hnm⟩ := trod_strW Tryd.underlying9 f3 l3
    obtain ⟨tn, ta, e4, htn⟩ := trod_typQ f4 l4
    obtain ⟨on, oa, e6, _⟩ := trod_typQ f6 l6
    obtain ⟨ow, e7, _⟩ := trod_strW Tryd.underlying9 f7 l7
    replace e0 : [c0] = [.int .i64 kd] := e0
    replace e1 : [c1, c2] = [.int .i64 ln, .int .i64 co] := e1
    replace e2 : [c3] = [.int .i64 nu] := e2
    replace e3 : [c4] = [S nm] := e3
    replace e4 : [c5, c6] = [S tn, .bool ta] := e4
    replace e6 : [c8, c9] = [S on, .bool oa] := e6
    replace e7 : [c10] = [S ow] := e7
    replace f5 : DataW.trod enc Tryd.prog w base spare held n' 27 [c7] = some y5 := f5
    simp only [List.cons.injEq, and_true] at e0 e1 e2 e3 e4 e6 e7
    obtain ⟨e1, e1'⟩ := e1
    obtain ⟨e4, e4'⟩ := e4
    obtain ⟨e6, e6'⟩ := e6
    subst e0 e1 e1' e2 e3 e4 e4' e6 e6' e7
    obtain ⟨A, k, c, rfl⟩ := trod_sl Tryd.underlying27 f5
    obtain ⟨ks, hr, hlen, hok, hkc, hc63⟩ := open_recsQ (f := Ex.cells) (size := 11) (fun e : Ex => e.At w (fun _ => False)) Tryd.underlying27 (by kernel_rfl) (by omega) Ex.cells_len
      (fun cs' n2 z hz hlz hsz => trod_ex N (by omega) hz hlz) f5 l5
    exact ⟨.mk kd ln co nu nm tn ta A k c ks on oa ow, rfl, .mk hr hlen hkc hc63 ⟨hkd, hnu⟩ ⟨hnm, htn⟩ hok⟩
set_option maxRecDepth 100000 in
theorem open_ex (hv : Value.okWide Tryd.prog w r b0 29 v) (h : DataW.Trod enc Tryd.prog w base spare held 29 v d p) (hl : Light Tryd.prog 29 d) : ∃ e : Ex, v = e.val ∧ e.At w (fun _ => False) := by
  obtain ⟨cs, rfl, _⟩ := okWide_struct Tryd.underlying29 hv
  obtain ⟨fuel, hf⟩ := h
  have hc : (Value.agg cs).cells.toList = cs.toList := by simp [Value.cells]
  rw [hc] at hf
  obtain ⟨e, he, hat⟩ := trod_ex _ (Nat.lt_succ_self _) hf hl
  exact ⟨e, by rw [Ex.val, ← he], hat⟩
end
end Go.Proofs.YtleccalfcnkklaaDoor
