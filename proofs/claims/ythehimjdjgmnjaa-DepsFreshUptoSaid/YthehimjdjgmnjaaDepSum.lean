/- A digest of one text; an entry built; no statement of the seat is proved here. -/
import Derived.Test.YthehimjdjgmnjaaDepPage
namespace Go.Proofs.Ythehimjdjgmnjaa
open Go.RowKit Go.Maps
set_option linter.unusedVariables false

theorem Rd.of_one {w : World} {b : Nat} {t : TypeId} {size : Nat} {cs : List Value} {F : Nat → Prop} (h : Blk w b t cs.toArray) (hs : cs.length = size) (hF : ¬ F b) : Rd w F size (some ⟨b, 0, none⟩) 1 cs :=
  ⟨by rw [hs, Nat.one_mul], fun _ => ⟨b, 0, rfl, hF, h.lt, fun j u hu => by rw [Nat.zero_add, h.cell j]; simpa using hu⟩⟩
/-- 'sha.Sum(x)': its slice lies in a new block. -/
theorem sum_lit (w : World) (l : List UInt8) (hl : l.length ≤ 1099511627776) : Calls Try.prog 8 #[.slice (some ⟨w.heap.size, 0, none⟩) 1 1] (w.alloc (.cells #[S l] 9)) fun e w' => e = .returned (.agg (darr (sumM l))) ∧ Below w.heap.size w w' := by
  have hb : Blk (w.alloc (.cells #[S l] 9)) w.heap.size 9 [S l].toArray := Blk.new _ _ _
  refine (sum_any (w.alloc (.cells #[S l] 9)) (some ⟨w.heap.size, 0, none⟩) 1 1 [l] (Rd.of_one hb rfl (by simp)) rfl (by simpa using hl) (by omega)).mono ?_
  rintro e w' ⟨rfl, hbe⟩
  exact ⟨by simp, ((Below.refl _ w).alloc (Nat.le_refl _) _).trans (hbe.mono (by simp))⟩
set_option maxRecDepth 100000 in
theorem built_en2 (n d : List UInt8) (h : d.length = 32) : Try.prog.built 39 [(0, S n), (1, .agg (darr d))] = some (Enq.cells ⟨n, d, none, 0, 0, [], []⟩).toArray := by
  match d, h with
  | [a0, a1, a2, a3, a4, a5, a6, a7, a8, a9, b0, b1, b2, b3, b4, b5, b6, b7, b8, b9, c0, c1, c2, c3, c4, c5, c6, c7, c8, c9, d0, d1], _ => (show (_ : Option (Array Value)) = _; kernel_rfl)
set_option maxRecDepth 100000 in
theorem built_en3 (n d : List UInt8) (h : d.length = 32) (A : Option Addr) (k c : Nat) (rs : List Rdq) : Try.prog.built 39 [(0, S n), (1, .agg (darr d)), (2, .slice A k c)] = some (Enq.cells ⟨n, d, A, k, c, rs, []⟩).toArray := by
  match d, h with
  | [a0, a1, a2, a3, a4, a5, a6, a7, a8, a9, b0, b1, b2, b3, b4, b5, b6, b7, b8, b9, c0, c1, c2, c3, c4, c5, c6, c7, c8, c9, d0, d1], _ => (show (_ : Option (Array Value)) = _; kernel_rfl)
theorem wpList_enOf2 {ops : Array Oper} {rest : List Oper} {o : Oper} {a : Act} {w : World} {Q : Exit → Act → World → Prop} (hg : o.guard = none) (x y : Operand) (ho : o.op = .build 39 #[(0, x), (1, y)])
    (n d : List UInt8) (v : Array Value) (hx : a.eval x = S n) (hy : a.eval y = .agg v) (hv : v = darr d) (hl : d.length = 32) (u : Array Value) (hu : u = (Enq.cells ⟨n, d, none, 0, 0, [], []⟩).toArray)
    (h : wpList Try.prog ops Q rest (a.put o.dst (.agg u)) w) : wpList Try.prog ops Q (o :: rest) a w := by
  have e : Try.prog.built 39 ((#[(0, x), (1, y)] : Array (Nat × Operand)).map fun (i, x) => (i, a.eval x)).toList = some u := by
    simp only [List.map_toArray, List.map_cons, List.map_nil, hx, hy]
    rw [hv, hu]
    exact built_en2 n d hl
  refine wpList_build hg 39 #[(0, x), (1, y)] ho (by rw [e]; rfl) ?_
  rw [e]
  exact h
theorem wpList_enOf3 {ops : Array Oper} {rest : List Oper} {o : Oper} {a : Act} {w : World} {Q : Exit → Act → World → Prop} (hg : o.guard = none) (x y z : Operand) (ho : o.op = .build 39 #[(0, x), (1, y), (2, z)])
    (n d : List UInt8) (v : Array Value) (A : Option Addr) (k c : Nat) (rs : List Rdq) (hx : a.eval x = S n) (hy : a.eval y = .agg v) (hz : a.eval z = .slice A k c) (hv : v = darr d) (hl : d.length = 32) (u : Array Value) (hu : u = (Enq.cells ⟨n, d, A, k, c, rs, []⟩).toArray)
    (h : wpList Try.prog ops Q rest (a.put o.dst (.agg u)) w) : wpList Try.prog ops Q (o :: rest) a w := by
  have e : Try.prog.built 39 ((#[(0, x), (1, y), (2, z)] : Array (Nat × Operand)).map fun (i, x) => (i, a.eval x)).toList = some u := by
    simp only [List.map_toArray, List.map_cons, List.map_nil, hx, hy, hz]
    rw [hv, hu]
    exact built_en3 n d hl A k c rs
  refine wpList_build hg 39 #[(0, x), (1, y), (2, z)] ho (by rw [e]; rfl) ?_
  rw [e]
  exact h
/-- The document's example: the two tables' faces, and what tells them apart. -/
def hA : Fc := ⟨[65], [], none, 0, 0, [], none, 0, 0, []⟩
def hU (b : Nat) : Fc := ⟨[65], [], some ⟨b, 0, none⟩, 1, 1, [⟨[102], [105, 110, 116], false⟩], none, 0, 0, []⟩
theorem sum_bc : (sumM [98] == sumM [99]) = false := by decide +kernel
theorem dig_au : (digF (hU 0).pl == digF hA.pl) = false := by decide +kernel
theorem len_a : (fcL hA.pl).length ≤ 1000 := by decide +kernel
theorem len_u : (fcL (hU 0).pl).length ≤ 1000 := by decide +kernel
end Go.Proofs.Ythehimjdjgmnjaa
