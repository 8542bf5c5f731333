/- Arguments that are statements, opened: they are trees; no statement of the seat is proved here. -/
import Derived.Test.YtleccalfcnkklaaDoorStm
import Derived.Test.YtleccalfcnkklaaDoorTreeOpen
namespace Go.Proofs.YtleccalfcnkklaaDoor
open Go.ChangeShapes Go.WideShapes Go.ChangeAt Go.RowKit Go.Deep

section
variable {H : Type} {enc : TypeId × Value → H} {w : World} {base : Nat} {spare : Nat → Bool} {held : Bool} {r : Reach} {b0 : Nat} {v : Value} {d : DataW H} {p : List MemPlace}
theorem cs9 {cs : List Value} (h : cs.length = 9) : ∃ a b c d e f g h i, cs = [a, b, c, d, e, f, g, h, i] := by match cs, h with | [a, b, c, d, e, f, g, h, i], _ => exact ⟨a, b, c, d, e, f, g, h, i, rfl⟩
set_option maxRecDepth 100000 in
theorem trod_st : ∀ (N : Nat) {cs : List Value} {n : Nat} {y : DataW H × List MemPlace}, SizeOf.sizeOf y.1 < N → DataW.trod enc Tryd.prog w base spare held n 53 cs = some y → Light Tryd.prog 53 y.1 → ∃ s : St, cs = s.cells ∧ s.At w (fun _ => False)
  | 0, _, _, _, h, _, _ => absurd h (Nat.not_lt_zero _)
  | N + 1, cs, n, y, hN, h, hl => by
    obtain ⟨hc, n', hf⟩ := trod_fldQ Tryd.underlying53 h hl
    obtain ⟨c0, c1, c2, c3, c4, c5, c6, c7, c8, rfl⟩ := cs9 (hc.trans (by kernel_rfl))
    obtain ⟨_, f0, l0, z0⟩ := hf 0 _ rfl
    obtain ⟨_, f1, l1, z1⟩ := hf 1 _ rfl
    obtain ⟨_, f2, l2, z2⟩ := hf 2 _ rfl
    obtain ⟨_, f3, l3, z3⟩ := hf 3 _ rfl
    obtain ⟨y4, f4, l4, z4⟩ := hf 4 _ rfl
    obtain ⟨y5, f5, l5, z5⟩ := hf 5 _ rfl
    obtain ⟨y6, f6, l6, z6⟩ := hf 6 _ rfl
    obtain ⟨ds, e0, hds⟩ := trod_i64 Tryd.underlying51 f0
    obtain ⟨ln, co, e1⟩ := trod_pos f1
    obtain ⟨nm, e2, hnm⟩ := trod_strW Tryd.underlying9 f2 l2
    obtain ⟨tn, ta, e3, htn⟩ := trod_typQ f3 l3
    replace e0 : [c0] = [.int .i64 ds] := e0
    replace e1 : [c1, c2] = [.int .i64 ln, .int .i64 co] := e1
    replace e2 : [c3] = [S nm] := e2
    replace e3 : [c4, c5] = [S tn, .bool ta] := e3
    replace f4 : DataW.trod enc Tryd.prog w base spare held n' 27 [c6] = some y4 := f4
    replace f5 : DataW.trod enc Tryd.prog w base spare held n' 46 [c7] = some y5 := f5
    replace f6 : DataW.trod enc Tryd.prog w base spare held n' 46 [c8] = some y6 := f6
    simp only [List.cons.injEq, and_true] at e0 e1 e2 e3
    obtain ⟨e1, e1'⟩ := e1
    obtain ⟨e3, e3'⟩ := e3
    subst e0 e1 e1' e2 e3 e3'
    obtain ⟨eA, ek, ec, rfl⟩ := trod_sl Tryd.underlying27 f4
    obtain ⟨tA, tk, tc, rfl⟩ := trod_sl Tryd.underlying46 f5
    obtain ⟨lA, lk, lc, rfl⟩ := trod_sl Tryd.underlying46 f6
    obtain ⟨es, er, el, eok, ekc, ec63⟩ := open_recsQ (f := Ex.cells) (size := 11) (fun e : Ex => e.At w (fun _ => False)) Tryd.underlying27 (by kernel_rfl) (by omega) Ex.cells_len
      (fun cs' n2 z hz hlz hsz => trod_ex _ (Nat.lt_succ_self _) hz hlz) f4 l4
    obtain ⟨ts, tr, tl, tok, tkc, tc63⟩ := open_recsQ (f := St.cells) (size := 9) (fun s : St => s.At w (fun _ => False)) Tryd.underlying46 (by kernel_rfl) (by omega) St.cells_len
      (fun cs' n2 z hz hlz hsz => trod_st N (by omega) hz hlz) f5 l5
    obtain ⟨ls, lr, ll, lok, lkc, lc63⟩ := open_recsQ (f := St.cells) (size := 9) (fun s : St => s.At w (fun _ => False)) Tryd.underlying46 (by kernel_rfl) (by omega) St.cells_len
      (fun cs' n2 z hz hlz hsz => trod_st N (by omega) hz hlz) f6 l6
    exact ⟨.mk ds ln co nm tn ta eA ek ec es tA tk tc ts lA lk lc ls, rfl, .mk er el ekc ec63 eok tr tl tkc tc63 tok lr ll lkc lc63 lok hds ⟨hnm, htn⟩⟩
set_option maxRecDepth 100000 in
theorem open_sts (hv : Value.okWide Tryd.prog w r b0 46 v) (h : DataW.Trod enc Tryd.prog w base spare held 46 v d p) (hl : Light Tryd.prog 46 d) :
    ∃ A k c, ∃ ts : List St, v = .slice A k c ∧ Rd w (fun _ => False) 9 A k (ts.flatMap St.cells) ∧ ts.length = k ∧ (∀ s ∈ ts, s.At w (fun _ => False)) ∧ k ≤ 9223372036854775807 := by
  obtain ⟨A, k, c, rfl⟩ := okWide_slice Tryd.underlying46 hv
  obtain ⟨fuel, hf⟩ := h
  have hc : (Value.slice A k c).cells.toList = [.slice A k c] := by simp [Value.cells]
  rw [hc] at hf
  obtain ⟨ts, tr, tl, tok, tkc, tc63⟩ := open_recsQ (f := St.cells) (size := 9) (fun s : St => s.At w (fun _ => False)) Tryd.underlying46 (by kernel_rfl) (by omega) St.cells_len
    (fun cs' n2 z hz hlz hsz => trod_st _ (Nat.lt_succ_self _) hz hlz) hf hl
  exact ⟨A, k, c, ts, rfl, tr, tl, tok, Nat.le_trans tkc tc63⟩
end
end Go.Proofs.YtleccalfcnkklaaDoor
