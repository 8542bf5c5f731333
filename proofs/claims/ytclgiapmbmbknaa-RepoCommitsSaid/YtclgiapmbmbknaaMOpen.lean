/- How arguments that come in are opened for the walks: slices of numbers, strings, flags; no statement of the seat is proved here. -/
import Derived.Test.YtclgiapmbmbknaaMBase
import Derived.ProofKit
import Derived.OpenShut
import Derived.SliceStrings
import Derived.Deep.Slices
import Derived.Deep.Fields
import Derived.ShutString
import Derived.ChangeOld
namespace Go.Proofs.Ytclgiapmbmbknaa
open Go.ChangeShapes Go.WideShapes Go.ChangeAt Go.RowKit Go.Deep
open Go.ChangeMaps (open_string shut_string)

section
variable {H : Type} {enc : TypeId × Value → H} {P : Program} {w : World} {base : Nat} {spare : Nat → Bool} {held : Bool}

/-- A row of cells that are there is a slice that reads so. -/
theorem Rd.of_cells {a : Addr} {n : Nat} {xs : List Value} (hl : xs.length = n) (hc : ∀ i, i < n → w.cell? (a.add i) = xs[i]?) : Rd w (fun _ => False) 1 (some a) n xs := by
  refine ⟨by omega, fun hn => ?_⟩
  have h0 : w.cell? a = some (xs[0]'(by omega)) := by
    have := hc 0 hn
    rw [List.getElem?_eq_getElem (by omega)] at this
    simpa [Addr.add] using this
  obtain ⟨b, o, s⟩ := a
  have hs : s = none := World.cell?_spot h0
  subst hs
  refine ⟨b, o, rfl, fun h => h, World.block_lt_of_cell? w _ h0, fun j u hu => ?_⟩
  have hj : j < n := by
    have := (List.getElem?_eq_some_iff.1 hu).1
    omega
  have := hc j hj
  rw [hu, Addr.add_lit] at this
  exact this

theorem open_slice_ints {t e : TypeId} {k : IntKind} {r : Reach} {b0 : Nat} {v : Value} {d : DataW H} {p : List MemPlace} (ht : P.underlying t = some (.slice e)) (he : P.underlying e = some (.int k)) (hc : P.cellsOf e = 1)
    (hv : Value.okWide P w r b0 t v) (h : DataW.Trod enc P w base spare held t v d p) :
    ∃ (A : Option Addr) (n c : Nat) (l : List Int), v = .slice A n c ∧ Rd w (fun _ => False) 1 A n (l.map (Value.int k)) ∧ (∀ x ∈ l, (Lit.int k x).wf = true) ∧ n ≤ maxLen := by
  obtain ⟨A, n, c, rfl⟩ := okWide_slice ht hv
  obtain ⟨fuel, hf⟩ := h
  rcases open_ints ht he hc hf with ⟨hcs, _⟩ | ⟨x, l, c', zs, hcs, _, hl, hm, hz, _, hcell, hwz⟩
  · simp [Value.cells] at hcs
    obtain ⟨rfl, rfl, rfl⟩ := hcs
    exact ⟨none, 0, 0, [], rfl, Rd.nil _ _ _ _, by simp, by simp [maxLen]⟩
  · simp [Value.cells] at hcs
    obtain ⟨rfl, rfl, rfl⟩ := hcs
    have hle : n ≤ zs.length := by rw [hz]; split <;> omega
    refine ⟨some x, n, c, zs.take n, rfl, Rd.of_cells (by simp; omega) (fun i hi => ?_), fun y hy => hwz y (List.mem_of_mem_take hy), by omega⟩
    rw [hcell i (by omega)]
    simp [hi, List.getD, show i < zs.length by omega]

theorem open_slice_strings {t e : TypeId} {r : Reach} {b0 : Nat} {v : Value} {d : DataW H} {p : List MemPlace} (ht : P.underlying t = some (.slice e)) (he : P.underlying e = some .string) (hc : P.cellsOf e = 1)
    (hv : Value.okWide P w r b0 t v) (h : DataW.Trod enc P w base spare held t v d p) :
    ∃ (A : Option Addr) (n c : Nat) (l : List (List UInt8)), v = .slice A n c ∧ Rd w (fun _ => False) 1 A n (l.map S) ∧ (∀ x ∈ l, x.length ≤ maxLen) ∧ n ≤ maxLen := by
  obtain ⟨A, n, c, rfl⟩ := okWide_slice ht hv
  obtain ⟨fuel, hf⟩ := h
  rcases open_strings ht he hc hf with ⟨hcs, _⟩ | ⟨x, l, c', zs, hcs, _, hl, hm, hz, _, hcell, hwz⟩
  · simp [Value.cells] at hcs
    obtain ⟨rfl, rfl, rfl⟩ := hcs
    exact ⟨none, 0, 0, [], rfl, Rd.nil _ _ _ _, by simp, by simp [maxLen]⟩
  · simp [Value.cells] at hcs
    obtain ⟨rfl, rfl, rfl⟩ := hcs
    have hle : n ≤ zs.length := by rw [hz]; split <;> omega
    refine ⟨some x, n, c, (zs.take n).map (·.data.toList), rfl, Rd.of_cells (by simp; omega) (fun i hi => ?_), fun y hy => ?_, by omega⟩
    · rw [hcell i (by omega)]
      simp [hi, List.getD, show i < zs.length by omega]
    · obtain ⟨s, hs, rfl⟩ := List.mem_map.1 hy
      rw [← Lib.size_eq]
      exact hwz s (List.mem_of_mem_take hs)

theorem open_slice_bools {t e : TypeId} {r : Reach} {b0 : Nat} {v : Value} {d : DataW H} {p : List MemPlace} (ht : P.underlying t = some (.slice e)) (he : P.underlying e = some .bool) (hc : P.cellsOf e = 1)
    (hv : Value.okWide P w r b0 t v) (h : DataW.Trod enc P w base spare held t v d p) :
    ∃ (A : Option Addr) (n c : Nat) (l : List Bool), v = .slice A n c ∧ Rd w (fun _ => False) 1 A n (l.map Value.bool) ∧ n ≤ maxLen := by
  obtain ⟨A, n, c, rfl⟩ := okWide_slice ht hv
  obtain ⟨fuel, hf⟩ := h
  rcases open_slice1 ht hc hf with ⟨hcs, _⟩ | ⟨x, l, c', m, m', V, D, Pl, hcs, _, hl, hm, hmm, _, hx⟩
  · simp [Value.cells] at hcs
    obtain ⟨rfl, rfl, rfl⟩ := hcs
    exact ⟨none, 0, 0, [], rfl, Rd.nil _ _ _ _, by simp [maxLen]⟩
  · simp [Value.cells] at hcs
    obtain ⟨rfl, rfl, rfl⟩ := hcs
    have hle : n ≤ m := by rw [hmm]; split <;> omega
    obtain ⟨B, hB⟩ : ∃ B : Nat → Bool, ∀ i, i < m → w.cell? (x.add i) = some (.bool (B i)) := by
      obtain ⟨B, hB⟩ := choose_lt (α := Bool) (p := fun i b => w.cell? (x.add i) = some (.bool b)) (fun i hi => by
        obtain ⟨h1, h2⟩ := hx i hi
        obtain ⟨b, h3, _⟩ := DataW.trod_bool he h2
        simp at h3
        exact ⟨b, by rw [h1, h3]⟩)
      exact ⟨B, hB⟩
    refine ⟨some x, n, c, (List.range n).map B, rfl, Rd.of_cells (by simp) (fun i hi => ?_), by omega⟩
    rw [hB i (by omega)]
    simp [hi]

/-- A slice of structs of one-cell fields (after the kit's page on structs). -/
theorem open_slice_fields {t e : TypeId} {fs : Array Field} {fuel : Nat} {cs : List Value} {x : DataW H × List MemPlace} (ht : P.underlying t = some (.slice e)) (he : P.underlying e = some (.struct fs))
    (hone : oneCellFields P fs = true) (hC : P.cellsOf e = fs.size) (h : DataW.trod enc P w base spare held fuel t cs = some x) :
    (cs = [.slice none 0 0] ∧ x = (.nil, [])) ∨
    ∃ (a : Addr) (len cap m : Nat) (D : Nat → DataW H) (Pl : Nat → List MemPlace), cs = [.slice (some a) len cap] ∧ base ≤ a.block ∧ len ≤ cap ∧ cap ≤ maxLen ∧ m = (if spare a.block then cap else len) ∧
      x = (.slice ((List.range len).map D) ((List.range (m - len)).map fun j => D (len + j)), MemPlace.row a (m * fs.size) ++ (List.range m).flatMap Pl) ∧
      ∀ i, i < m → ∃ (ys : List (DataW H × List MemPlace)) (n : Nat), D i = .agg (ys.map (·.1)) ∧ Pl i = ys.flatMap (·.2) ∧ ys.length = fs.size ∧
        ∀ (j : Nat) (f : Field), fs[j]? = some f → ∃ (v : Value) (y : DataW H × List MemPlace), w.cell? (a.add (i * fs.size + j)) = some v ∧ ys[j]? = some y ∧ DataW.trod enc P w base spare held n f.type [v] = some y := by
  rcases open_slice ht h with h0 | ⟨a, len, cap, m, n, D, Pl, hcs, hb, hl, hm, hmm, hx, hi⟩
  · exact .inl h0
  · refine .inr ⟨a, len, cap, m, D, Pl, hcs, hb, hl, hm, hmm, by rw [hC] at hx; exact hx, fun i him => ?_⟩
    obtain ⟨cs', hc, ht'⟩ := hi i him
    rw [hC] at hc
    obtain ⟨ys, n', hn', hy, hlen, hyl, hf⟩ := DataW.trod_struct he ht'
    obtain ⟨_, hcl, hat⟩ := World.cells?_some hc
    simp only [Prod.mk.injEq] at hy
    refine ⟨ys, n', hy.1, hy.2, hyl, fun j f hj => ?_⟩
    obtain ⟨ho, hk⟩ := hone_of hone j f hj
    have hjl : j < fs.size := (Array.getElem?_eq_some_iff.1 hj).1
    have hcell := hat j hjl
    have hv : cs'[j]? = some (cs'[j]'(by omega)) := List.getElem?_eq_getElem (by omega)
    have h1 := hf j f hj
    rw [ho, hk] at h1
    have hone' : (cs'.drop j).take 1 = [cs'[j]'(by omega)] := by
      rw [List.drop_eq_getElem_cons (by omega)]
      rfl
    rw [hone'] at h1
    have hys : ys[j]? = some (ys[j]'(by omega)) := List.getElem?_eq_getElem (by omega)
    refine ⟨_, _, ?_, hys, h1.trans hys⟩
    rw [← Go.Deep.add_add, hcell, hv]

/-- The cells of a slice of records, of 'size' cells each. -/
theorem Rd.of_recs {α : Type} {f : α → List Value} {size : Nat} (hs : 0 < size) (hf : ∀ x, (f x).length = size) {a : Addr} {n : Nat} {X : Nat → α} (hc : ∀ i, i < n → ∀ j u, (f (X i))[j]? = some u → w.cell? (a.add (i * size + j)) = some u) :
    Rd w (fun _ => False) size (some a) n (((List.range n).map X).flatMap f) := by
  have hlen : ∀ l : List α, (l.flatMap f).length = l.length * size := by
    intro l
    induction l with
    | nil => simp
    | cons x l ih => rw [List.flatMap_cons, List.length_append, ih, hf, List.length_cons, Nat.add_mul]; omega
  refine ⟨by rw [hlen]; simp, fun hn => ?_⟩
  have h0 := hc 0 hn 0 ((f (X 0))[0]'(by rw [hf]; exact hs)) (List.getElem?_eq_getElem _)
  simp only [Nat.zero_mul, Nat.add_zero, Addr.add, if_true] at h0
  obtain ⟨b, o, sp⟩ := a
  have hsp : sp = none := World.cell?_spot h0
  subst hsp
  refine ⟨b, o, rfl, fun h => h, World.block_lt_of_cell? w _ h0, fun j u hu => ?_⟩
  have hj : j < n * size := by
    have := (List.getElem?_eq_some_iff.1 hu).1
    rw [hlen] at this
    simpa using this
  have hi : j / size < n := (Nat.div_lt_iff_lt_mul hs).2 hj
  have hdm : j / size * size + j % size = j := by rw [Nat.mul_comm]; exact Nat.div_add_mod j size
  have hat : ∀ (l : List α) (k : Nat) (hk : k < l.length) (m : Nat), m < size → (l.flatMap f)[k * size + m]? = (f l[k])[m]? := by
    intro l
    induction l with
    | nil => intro k hk; simp at hk
    | cons x l ih =>
      intro k hk m hm
      cases k with
      | zero =>
        rw [List.flatMap_cons, List.getElem?_append_left (by rw [hf]; omega)]
        simp
      | succ k =>
        rw [List.flatMap_cons, List.getElem?_append_right (by rw [hf, Nat.add_mul]; omega), hf, show (k + 1) * size + m - size = k * size + m by rw [Nat.add_mul]; omega]
        exact ih k (by simpa using hk) m hm
  have hu2 : (f (X (j / size)))[j % size]? = some u := by
    have := hat ((List.range n).map X) (j / size) (by simpa using hi) (j % size) (Nat.mod_lt _ hs)
    rw [hdm, hu] at this
    simpa using this.symm
  have := hc (j / size) hi (j % size) u hu2
  rw [hdm, Addr.add_lit] at this
  exact this

theorem open_i64 {t : TypeId} {r : Reach} {b0 : Nat} {v : Value} {d : DataW H} {p : List MemPlace} (ht : P.underlying t = some (.int .i64)) (hv : Value.okWide P w r b0 t v) (h : DataW.Trod enc P w base spare held t v d p) :
    ∃ x : Int, (-9223372036854775808 ≤ x ∧ x ≤ 9223372036854775807) ∧ v = .int .i64 x := by
  obtain ⟨x, rfl, _, _, hw⟩ := open_int ht hv h
  refine ⟨x, ?_, rfl⟩
  simp [Lit.wf, IntKind.min, IntKind.max, IntKind.signed, IntKind.bits] at hw
  omega
theorem open_u8 {t : TypeId} {r : Reach} {b0 : Nat} {v : Value} {d : DataW H} {p : List MemPlace} (ht : P.underlying t = some (.int .u8)) (hv : Value.okWide P w r b0 t v) (h : DataW.Trod enc P w base spare held t v d p) :
    ∃ x : UInt8, v = B8 x := by
  obtain ⟨x, rfl, _, _, hw⟩ := open_int ht hv h
  simp [Lit.wf, IntKind.min, IntKind.max, IntKind.signed, IntKind.bits] at hw
  refine ⟨UInt8.ofNat x.toNat, ?_⟩
  rw [B8, show (UInt8.ofNat x.toNat).toNat = x.toNat by simp; omega]
  congr 1
  omega
theorem open_str {t : TypeId} {r : Reach} {b0 : Nat} {v : Value} {d : DataW H} {p : List MemPlace} (ht : P.underlying t = some .string) (hv : Value.okWide P w r b0 t v) (h : DataW.Trod enc P w base spare held t v d p) :
    ∃ l : List UInt8, l.length ≤ 9223372036854775807 ∧ v = S l := by
  obtain ⟨s, rfl, _, _, hs⟩ := open_string ht hv h
  refine ⟨s.data.toList, ?_, S_of s⟩
  rw [← Lib.size_eq]
  simpa [maxLen] using hs
theorem open_bit {t : TypeId} {r : Reach} {b0 : Nat} {v : Value} {d : DataW H} {p : List MemPlace} (ht : P.underlying t = some .bool) (hv : Value.okWide P w r b0 t v) (h : DataW.Trod enc P w base spare held t v d p) :
    ∃ x : Bool, v = .bool x := by
  obtain ⟨x, rfl, _, _⟩ := open_bool ht hv h
  exact ⟨x, rfl⟩

theorem wf_i64_le {x : Int} (h : (Lit.int .i64 x).wf = true) : -9223372036854775808 ≤ x ∧ x ≤ 9223372036854775807 := by
  simp [Lit.wf, IntKind.min, IntKind.max, IntKind.signed, IntKind.bits] at h
  omega
theorem wf_u8_le {x : Int} (h : (Lit.int .u8 x).wf = true) : 0 ≤ x ∧ x ≤ 255 := by
  simp [Lit.wf, IntKind.min, IntKind.max, IntKind.signed, IntKind.bits] at h
  omega
end

end Go.Proofs.Ytclgiapmbmbknaa
