/- A face that comes in: how long its bytes are at most, by its bulk; no statement of the seat is proved here. -/
import Derived.Test.YthehimjdjgmnjaaFacePD
import Derived.Test.YthehimjdjgmnjaaFaceDataD
import Derived.Test.YthehimjdjgmnjaaOpen
import Derived.Test.YthehimjdjgmnjaaRows
namespace Go.Proofs.Ythehimjdjgmnjaa
open Go.ChangeShapes Go.WideShapes Go.ChangeAt Go.RowKit Go.Deep
set_option linter.unusedVariables false

def Ty.len (t : Ty) : Nat := 100 + t.n.length
def Vr.len (v : Vr) : Nat := 100 + v.n.length + v.t.n.length
def Sg.len (m : Sg) : Nat := 100 + m.n.length + m.r.n.length + (m.ps.map Ty.len).sum
def Fc.len (f : Fc) : Nat := 100 + f.n.length + f.su.length + (f.fs.map Vr.len).sum + (f.ms.map Sg.len).sum
theorem catAll_sum {α : Type} {f : α → List UInt8} {M : α → Nat} : ∀ (l : List α), (∀ x ∈ l, (f x).length ≤ M x) → (catAll f l).length ≤ (l.map M).sum
  | [], _ => by simp [catAll]
  | a :: l, h => by
    have h1 := catAll_sum l fun x hx => h x (List.mem_cons_of_mem _ hx)
    have h2 := h a (List.mem_cons_self ..)
    simp only [catAll, List.flatMap_cons, List.length_append, List.map_cons, List.sum_cons] at h1 ⊢
    omega
theorem tx_10 (s : List UInt8) (h : short s) : (tx s).length ≤ 10 + s.length := by
  have := vi_len_10 s.length (by unfold short at h; omega)
  unfold tx
  rw [List.length_append]
  omega
theorem tyL_len (t : Ty) (h : t.ok) : (tyL t).length ≤ t.len := by
  have h1 := tx_10 t.n h
  have h2 : (fl t.a).length = 1 := by cases t.a <;> rfl
  unfold tyL Ty.len
  rw [List.length_append]
  omega
theorem fcL_len {f : Fc} {w : World} {F : Nat → Prop} (h : f.at_ w F) : (fcL f.pl).length ≤ f.len := by
  have h1 := tx_10 f.n h.2.2.1
  have h2 := tx_10 f.su h.2.2.2
  have h3 := vi_len_10 f.fs.length (by rw [h.1.2.1]; have := h.1.2.2.1; omega)
  have h4 := vi_len_10 f.ms.length (by rw [h.2.1.2.1]; have := h.2.1.2.2.1; omega)
  have h5 := catAll_sum (f := vrL) (M := Vr.len) f.fs (fun v hv => by
    have a := h.1.2.2.2 v hv
    have b := tx_10 v.n a.1
    have c := tyL_len v.t a.2
    unfold vrL Vr.len
    unfold Ty.len at c
    have c1 := tx_10 v.t.n a.2
    have c2 : (fl v.t.a).length = 1 := by cases v.t.a <;> rfl
    unfold tyL
    rw [List.length_append, List.length_append]
    omega)
  have h6 := catAll_sum (f := sgL) (M := fun q => 100 + q.n.length + q.r.n.length + (q.ps.map Ty.len).sum) (f.ms.map Sg.pl) (fun q hq => by
    obtain ⟨m, hm, rfl⟩ := List.mem_map.1 hq
    have a := h.2.1.2.2.2 m hm
    have b := tx_10 m.n a.2.2.2.1
    have c1 := tx_10 m.r.n a.2.2.2.2.1
    have c2 : (fl m.r.a).length = 1 := by cases m.r.a <;> rfl
    have c3 : (fl m.st).length = 1 := by cases m.st <;> rfl
    have d := vi_len_10 m.ps.length (by rw [a.2.1]; have := a.2.2.1; omega)
    have e := catAll_sum (f := tyL) (M := Ty.len) m.ps (fun p hp => tyL_len p (a.2.2.2.2.2 p hp))
    show (tx m.n ++ (fl m.st ++ (tyL m.r ++ (vi m.ps.length ++ catAll tyL m.ps)))).length ≤ 100 + m.n.length + m.r.n.length + (m.ps.map Ty.len).sum
    unfold tyL at e ⊢
    simp only [List.length_append] at e ⊢
    omega)
  have h7 : ((f.ms.map Sg.pl).map (fun q => 100 + q.n.length + q.r.n.length + (q.ps.map Ty.len).sum)).sum = (f.ms.map Sg.len).sum := by
    rw [List.map_map]
    rfl
  rw [h7] at h6
  show (tx f.n ++ (tx f.su ++ (vi f.fs.length ++ (catAll vrL f.fs ++ (vi (f.ms.map Sg.pl).length ++ catAll sgL (f.ms.map Sg.pl)))))).length ≤ _
  simp only [List.length_append, List.length_map]
  unfold Fc.len
  omega

section
variable {H : Type} {enc : TypeId × Value → H} {P : Program} {w : World} {base : Nat} {spare : Nat → Bool} {held : Bool}
theorem trod_fldB {t : TypeId} {fs : Array Field} {fuel : Nat} {cs : List Value} {x : DataW H × List MemPlace} (ht : P.underlying t = some (.struct fs)) (h : DataW.trod enc P w base spare held fuel t cs = some x) :
    cs.length = P.cellsOf t ∧ ∃ (xs : List (DataW H × List MemPlace)) (n : Nat), x.1 = .agg (xs.map (·.1)) ∧ xs.length = fs.size ∧ ∀ (i : Nat) (f : Field), fs[i]? = some f → ∃ y, xs[i]? = some y ∧ DataW.trod enc P w base spare held n f.type ((cs.drop f.offset).take (P.cellsOf f.type)) = some y := by
  obtain ⟨xs, n', _, hx, hcl, hxl, hf⟩ := DataW.trod_struct ht h
  refine ⟨hcl, xs, n', by rw [hx], hxl, fun i f hi => ?_⟩
  have hix : i < xs.length := by have := (Array.getElem?_eq_some_iff.1 hi).1; omega
  exact ⟨_, List.getElem?_eq_getElem hix, (hf i f hi).trans (List.getElem?_eq_getElem hix)⟩
theorem bulk_pos (d : DataW H) : 1 ≤ Rows.uptoBulk d := by cases d <;> (try (rename_i l; cases l)) <;> simp [Rows.uptoBulk]
theorem sum_bulk {α : Type} {K : Nat} {M : α → Nat} {D : Nat → DataW H} {Y : Nat → α} : ∀ n, (∀ i, i < n → M (Y i) ≤ K * Rows.uptoBulk (D i)) → (((List.range n).map Y).map M).sum ≤ K * Rows.uptoBulkAll ((List.range n).map D) := by
  have app : ∀ l m : List (DataW H), Rows.uptoBulkAll (l ++ m) = Rows.uptoBulkAll l + Rows.uptoBulkAll m := by
    intro l m
    induction l with
    | nil => simp [Rows.uptoBulkAll]
    | cons a l ih => simp only [List.cons_append, Rows.uptoBulkAll, ih]; omega
  intro n
  induction n with
  | zero => simp
  | succ n ih =>
    intro h
    have h1 := ih fun i hi => h i (by omega)
    have h2 := h n (by omega)
    rw [List.range_succ, List.map_append, List.map_append, List.map_append, app, List.sum_append, Nat.mul_add]
    simp only [List.map_cons, List.map_nil, List.sum_cons, List.sum_nil, Rows.uptoBulkAll, Nat.add_zero]
    omega
/-- A slice whose elements are read by a law of their own; what they hold together. -/
theorem open_recsB {t e : TypeId} {α : Type} {f : α → List Value} {size fuel : Nat} {A : Option Addr} {n c : Nat} {y : DataW H × List MemPlace} (OK : α → Prop) (K : Nat) (M : α → Nat) (ht : P.underlying t = some (.slice e)) (hC : P.cellsOf e = size) (hs : 0 < size) (hf : ∀ x, (f x).length = size)
    (hel : ∀ cs n' z, DataW.trod enc P w base spare held n' e cs = some z → ∃ x, cs = f x ∧ OK x ∧ M x ≤ K * Rows.uptoBulk z.1)
    (h : DataW.trod enc P w base spare held fuel t [.slice A n c] = some y) :
    ∃ l : List α, Rd w (fun _ => False) size A n (l.flatMap f) ∧ l.length = n ∧ (∀ x ∈ l, OK x) ∧ n ≤ 9223372036854775807 ∧ (l.map M).sum + K ≤ K * Rows.uptoBulk y.1 := by
  rcases open_slice ht h with ⟨hcs, hy⟩ | ⟨a, len, cap, m, n', D, Pl, hcs, _, hl', hm, hmm, hy, hx⟩
  · simp at hcs
    obtain ⟨rfl, rfl, rfl⟩ := hcs
    exact ⟨[], Rd.nil _ _ _ _, rfl, by simp, by omega, by rw [hy]; simp [Rows.uptoBulk]⟩
  · simp at hcs
    obtain ⟨rfl, rfl, rfl⟩ := hcs
    have hle : n ≤ m := by rw [hmm]; split <;> omega
    have hBD : Rows.uptoBulkAll ((List.range n).map D) + 1 ≤ Rows.uptoBulk y.1 := by rw [hy]; simp only [Rows.uptoBulk]; omega
    have hX' : ∃ X : Nat → Option α, ∀ i, i < n → ∃ q, X i = some q ∧ (OK q ∧ M q ≤ K * Rows.uptoBulk (D i)) ∧ ∀ j u, (f q)[j]? = some u → w.cell? (a.add (i * size + j)) = some u := by
      refine choose_lt (α := Option α) (n := n) (p := fun i q' => ∃ q, q' = some q ∧ (OK q ∧ M q ≤ K * Rows.uptoBulk (D i)) ∧ ∀ j u, (f q)[j]? = some u → w.cell? (a.add (i * size + j)) = some u) (fun i hi => ?_)
      obtain ⟨cs', hc, hd⟩ := hx i (by omega)
      obtain ⟨q, rfl, hok⟩ := hel cs' n' _ hd
      refine ⟨some q, q, rfl, hok, fun j u hu => ?_⟩
      obtain ⟨_, hcl, hat⟩ := World.cells?_some hc
      rw [hC] at hcl hat
      have hj : j < size := by
        have := (List.getElem?_eq_some_iff.1 hu).1
        rwa [hf] at this
      rw [← Go.Deep.add_add, hat j hj, hu]
    obtain ⟨X, hX⟩ := hX'
    have hc63 := le63 hm
    rcases Nat.eq_zero_or_pos n with h0 | h0
    · subst h0
      refine ⟨[], Rd.nil _ _ _ _, rfl, by simp, by omega, ?_⟩
      have : K * 1 ≤ K * Rows.uptoBulk y.1 := Nat.mul_le_mul_left _ (bulk_pos _)
      simpa using this
    · obtain ⟨q0, _⟩ := hX 0 (by omega)
      let Y : Nat → α := fun i => (X i).getD q0
      have hY : ∀ i, i < n → (OK (Y i) ∧ M (Y i) ≤ K * Rows.uptoBulk (D i)) ∧ ∀ j u, (f (Y i))[j]? = some u → w.cell? (a.add (i * size + j)) = some u := by
        intro i hi
        obtain ⟨q, e1, e2, e3⟩ := hX i hi
        have : Y i = q := by show (X i).getD q0 = q; rw [e1]; rfl
        rw [this]
        exact ⟨e2, e3⟩
      refine ⟨(List.range n).map Y, Rd.of_recs (size := size) hs hf (fun i hi => (hY i (by omega)).2), by simp, fun q hq => ?_, by omega, ?_⟩
      · obtain ⟨i, hi, rfl⟩ := List.mem_map.1 hq
        exact (hY i (by have := List.mem_range.1 hi; omega)).1.1
      · have h1 := sum_bulk (K := K) (M := M) (D := D) (Y := Y) n fun i hi => (hY i hi).1.2
        have h2 : K * (Rows.uptoBulkAll ((List.range n).map D) + 1) ≤ K * Rows.uptoBulk y.1 := Nat.mul_le_mul_left _ hBD
        rw [Nat.mul_add, Nat.mul_one] at h2
        omega
theorem trod_strB {t : TypeId} {fuel : Nat} {cs : List Value} {y : DataW H × List MemPlace} (ht : P.underlying t = some .string) (h : DataW.trod enc P w base spare held fuel t cs = some y) : ∃ s : List UInt8, cs = [S s] ∧ short s ∧ s.length + 1 = Rows.uptoBulk y.1 := by
  obtain ⟨s, rfl, hy, hs⟩ := DataW.trod_string ht h
  rw [hy]
  exact ⟨s.data.toList, by rw [← S_of], by unfold short; rw [← Lib.size_eq]; exact le63 hs, by simp [Rows.uptoBulk]⟩
end
section
variable {H : Type} {enc : TypeId × Value → H} {w : World} {base : Nat} {spare : Nat → Bool} {held : Bool} {r : Reach} {b0 : Nat} {v : Value} {d : DataW H} {p : List MemPlace}
theorem xs2 {α : Type} {xs : List α} (h : xs.length = 2) : ∃ a b, xs = [a, b] := by match xs, h with | [a, b], _ => exact ⟨a, b, rfl⟩
theorem xs4 {α : Type} {xs : List α} (h : xs.length = 4) : ∃ a b c d, xs = [a, b, c, d] := by match xs, h with | [a, b, c, d], _ => exact ⟨a, b, c, d, rfl⟩
set_option maxRecDepth 100000 in
theorem trod_tyB {cs : List Value} {n : Nat} {y : DataW H × List MemPlace} (h : DataW.trod enc Try.prog w base spare held n 56 cs = some y) : ∃ t : Ty, cs = t.cells ∧ t.ok ∧ t.len ≤ 100 * Rows.uptoBulk y.1 := by
  obtain ⟨hc, xs, n', hx, hxl, hf⟩ := trod_fldB Try.underlying56 h
  obtain ⟨a, b, rfl⟩ := cs2 (hc.trans (by kernel_rfl))
  obtain ⟨y0, y1, rfl⟩ := xs2 hxl
  obtain ⟨_, g0, f0⟩ := hf 0 _ rfl
  obtain ⟨_, g1, f1⟩ := hf 1 _ rfl
  obtain rfl := Option.some.inj g0
  obtain rfl := Option.some.inj g1
  obtain ⟨s, hs, hsl, hsb⟩ := trod_strB Try.underlying9 f0
  obtain ⟨q, hq, _⟩ := DataW.trod_bool Try.underlying4 f1
  replace hs : [a] = [S s] := hs
  replace hq : [b] = [.bool q] := hq
  simp only [List.cons.injEq, and_true] at hs hq
  subst hs hq
  refine ⟨⟨s, q⟩, rfl, hsl, ?_⟩
  rw [hx]
  simp only [List.map_cons, List.map_nil, Rows.uptoBulk, Rows.uptoBulkAll, Ty.len]
  omega
set_option maxRecDepth 100000 in
theorem trod_vrB {cs : List Value} {n : Nat} {y : DataW H × List MemPlace} (h : DataW.trod enc Try.prog w base spare held n 59 cs = some y) : ∃ v : Vr, cs = v.cells ∧ v.ok ∧ v.len ≤ 100 * Rows.uptoBulk y.1 := by
  obtain ⟨hc, xs, n', hx, hxl, hf⟩ := trod_fldB Try.underlying59 h
  obtain ⟨a, b, c, rfl⟩ := cs3 (hc.trans (by kernel_rfl))
  obtain ⟨y0, y1, rfl⟩ := xs2 hxl
  obtain ⟨_, g0, f0⟩ := hf 0 _ rfl
  obtain ⟨_, g1, f1⟩ := hf 1 _ rfl
  obtain rfl := Option.some.inj g0
  obtain rfl := Option.some.inj g1
  obtain ⟨s, hs, hsl, hsb⟩ := trod_strB Try.underlying9 f0
  obtain ⟨t, ht, htl, htb⟩ := trod_tyB f1
  replace hs : [a] = [S s] := hs
  replace ht : [b, c] = t.cells := ht
  simp only [Ty.cells, List.cons.injEq, and_true] at hs ht
  obtain ⟨ht, ht'⟩ := ht
  subst hs ht ht'
  refine ⟨⟨s, t⟩, rfl, ⟨hsl, htl⟩, ?_⟩
  rw [hx]
  unfold Ty.len at htb
  simp only [List.map_cons, List.map_nil, Rows.uptoBulk, Rows.uptoBulkAll, Vr.len]
  omega
set_option maxRecDepth 100000 in
theorem trod_sgB {cs : List Value} {n : Nat} {y : DataW H × List MemPlace} (h : DataW.trod enc Try.prog w base spare held n 93 cs = some y) : ∃ m : Sg, cs = m.cells ∧ m.at_ w (fun _ => False) ∧ m.len ≤ 100 * Rows.uptoBulk y.1 := by
  obtain ⟨hc, xs, n', hx, hxl, hf⟩ := trod_fldB Try.underlying93 h
  obtain ⟨a, b, c, d, e, rfl⟩ := cs5 (hc.trans (by kernel_rfl))
  obtain ⟨y0, y1, y2, y3, rfl⟩ := xs4 hxl
  obtain ⟨_, g0, f0⟩ := hf 0 _ rfl
  obtain ⟨_, g1, f1⟩ := hf 1 _ rfl
  obtain ⟨_, g2, f2⟩ := hf 2 _ rfl
  obtain ⟨_, g3, f3⟩ := hf 3 _ rfl
  obtain rfl := Option.some.inj g0
  obtain rfl := Option.some.inj g1
  obtain rfl := Option.some.inj g2
  obtain rfl := Option.some.inj g3
  obtain ⟨s, hs, hsl, hsb⟩ := trod_strB Try.underlying9 f0
  obtain ⟨q, hq, _⟩ := DataW.trod_bool Try.underlying4 f1
  obtain ⟨A, k, c', rfl⟩ := trod_sl (v := c) Try.underlying91 f2
  obtain ⟨l, hr, hll, hok, hk, hsum⟩ := open_recsB (f := Ty.cells) (size := 2) Ty.ok 100 Ty.len Try.underlying91 (by kernel_rfl) (by decide) (fun _ => rfl) (fun cs n' y h => trod_tyB h) f2
  obtain ⟨t, ht, htok, htb⟩ := trod_tyB f3
  replace hs : [a] = [S s] := hs
  replace hq : [b] = [.bool q] := hq
  replace ht : [d, e] = t.cells := ht
  simp only [Ty.cells, List.cons.injEq, and_true] at hs hq ht
  obtain ⟨ht, ht'⟩ := ht
  subst hs hq ht ht'
  refine ⟨⟨s, q, A, k, c', l, t⟩, rfl, ⟨hr, hll, hk, hsl, htok, hok⟩, ?_⟩
  rw [hx]
  unfold Ty.len at htb
  simp only [List.map_cons, List.map_nil, Rows.uptoBulk, Rows.uptoBulkAll, Sg.len]
  omega
set_option maxRecDepth 100000 in
theorem trod_fcB {cs : List Value} {n : Nat} {y : DataW H × List MemPlace} (h : DataW.trod enc Try.prog w base spare held n 47 cs = some y) : ∃ f : Fc, cs = f.cells ∧ f.at_ w (fun _ => False) ∧ f.len ≤ 100 * Rows.uptoBulk y.1 := by
  obtain ⟨hc, xs, n', hx, hxl, hf⟩ := trod_fldB Try.underlying47 h
  obtain ⟨a, b, c, d, rfl⟩ := cs4 (hc.trans (by kernel_rfl))
  obtain ⟨y0, y1, y2, y3, rfl⟩ := xs4 hxl
  obtain ⟨_, g0, f0⟩ := hf 0 _ rfl
  obtain ⟨_, g1, f1⟩ := hf 1 _ rfl
  obtain ⟨_, g2, f2⟩ := hf 2 _ rfl
  obtain ⟨_, g3, f3⟩ := hf 3 _ rfl
  obtain rfl := Option.some.inj g0
  obtain rfl := Option.some.inj g1
  obtain rfl := Option.some.inj g2
  obtain rfl := Option.some.inj g3
  obtain ⟨s, hs, hsl, hsb⟩ := trod_strB Try.underlying9 f0
  obtain ⟨u, hu, hul, hub⟩ := trod_strB Try.underlying9 f1
  obtain ⟨A, k, c', rfl⟩ := trod_sl (v := c) Try.underlying44 f2
  obtain ⟨l, hr, hll, hok, hk, hsum⟩ := open_recsB (f := Vr.cells) (size := 3) Vr.ok 100 Vr.len Try.underlying44 (by kernel_rfl) (by decide) (fun _ => rfl) (fun cs n' y h => trod_vrB h) f2
  obtain ⟨A', k', c'', rfl⟩ := trod_sl (v := d) Try.underlying45 f3
  obtain ⟨l', hr', hll', hok', hk', hsum'⟩ := open_recsB (f := Sg.cells) (size := 5) (fun m : Sg => m.at_ w (fun _ => False)) 100 Sg.len Try.underlying45 (by kernel_rfl) (by decide) (fun _ => rfl) (fun cs n' y h => trod_sgB h) f3
  replace hs : [a] = [S s] := hs
  replace hu : [b] = [S u] := hu
  simp only [List.cons.injEq, and_true] at hs hu
  subst hs hu
  refine ⟨⟨s, u, A, k, c', l, A', k', c'', l'⟩, rfl, ⟨⟨hr, hll, hk, hok⟩, ⟨hr', hll', hk', hok'⟩, hsl, hul⟩, ?_⟩
  rw [hx]
  simp only [List.map_cons, List.map_nil, Rows.uptoBulk, Rows.uptoBulkAll, Fc.len]
  omega
set_option maxRecDepth 100000 in
theorem open_faceB (hv : Value.okWide Try.prog w r b0 47 v) (h : DataW.Trod enc Try.prog w base spare held 47 v d p) : ∃ f : Fc, v = f.val ∧ f.at_ w (fun _ => False) ∧ (fcL f.pl).length ≤ 100 * Rows.uptoBulk d := by
  obtain ⟨cs, rfl, _⟩ := okWide_struct Try.underlying47 hv
  obtain ⟨fuel, hf⟩ := h
  have hc : (Value.agg cs).cells.toList = cs.toList := by simp [Value.cells]
  rw [hc] at hf
  obtain ⟨t, ht, hok, hb⟩ := trod_fcB hf
  exact ⟨t, by rw [show cs = cs.toList.toArray by simp, ht], hok, Nat.le_trans (fcL_len hok) hb⟩
end
end Go.Proofs.Ythehimjdjgmnjaa
