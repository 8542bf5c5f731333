/- Lists of names, turns, that come in; no statement of the seat is proved here. -/
import Derived.Test.YthehimjdjgmnjaaDepStaleW
import Derived.Test.YthehimjdjgmnjaaOpen
namespace Go.Proofs.Ythehimjdjgmnjaa
open Go.ChangeShapes Go.WideShapes Go.ChangeAt Go.RowKit Go.Deep
set_option linter.unusedVariables false

section
variable {H : Type} {enc : TypeId × Value → H} {w : World} {base : Nat} {spare : Nat → Bool} {held : Bool}
theorem wf_int {n : Int} (h : (Lit.int .i64 n).wf = true) : -9223372036854775808 ≤ n ∧ n ≤ 9223372036854775807 := by
  simp [Lit.wf, IntKind.min, IntKind.max, IntKind.signed, IntKind.bits] at h
  omega
theorem trod_nm {cs : List Value} {n : Nat} {y : DataW H × List MemPlace} (h : DataW.trod enc Try.prog w base spare held n 9 cs = some y) : ∃ s : List UInt8, cs = [S s] ∧ short s := trod_str Try.underlying9 h
set_option maxRecDepth 100000 in
theorem trod_lst {cs : List Value} {n : Nat} {y : DataW H × List MemPlace} (h : DataW.trod enc Try.prog w base spare held n 33 cs = some y) : ∃ x : Sl, cs = x.cells ∧ x.at_ w (fun _ => False) := by
  have h1 : ∃ A k c, cs = [.slice A k c] := by
    rcases open_slice Try.underlying33 h with ⟨hcs, _⟩ | ⟨a, len, cap, m, n', D, Pl, hcs, _⟩
    · exact ⟨_, _, _, hcs⟩
    · exact ⟨_, _, _, hcs⟩
  obtain ⟨A, k, c, rfl⟩ := h1
  obtain ⟨l, hr, hll, hok, hk⟩ := open_recs (f := fun s => [S s]) (size := 1) short Try.underlying33 (by kernel_rfl) (by decide) (fun _ => rfl) (fun cs n' y h => trod_nm h) h
  exact ⟨⟨A, k, c, l⟩, rfl, by rw [List.map_eq_flatMap]; exact hr, hll, hk, hok⟩
set_option maxRecDepth 100000 in
theorem open_lists {r : Reach} {b0 : Nat} {v : Value} {d : DataW H} {p : List MemPlace} (hv : Value.okWide Try.prog w r b0 23 v) (h : DataW.Trod enc Try.prog w base spare held 23 v d p) :
    ∃ (A : Option Addr) (n c : Nat) (R : List Sl), v = .slice A n c ∧ Rd w (fun k => w.heap.size ≤ k) 1 A n (R.flatMap Sl.cells) ∧ R.length = n ∧ n ≤ 9223372036854775807 ∧ ∀ x ∈ R, x.at_ w (fun k => w.heap.size ≤ k) := by
  obtain ⟨A, n, c, rfl⟩ := okWide_slice Try.underlying23 hv
  obtain ⟨fuel, hf⟩ := h
  have hc : (Value.slice A n c).cells.toList = [.slice A n c] := by simp [Value.cells]
  rw [hc] at hf
  obtain ⟨l, hr, hll, hok, hk⟩ := open_recs (f := Sl.cells) (size := 1) (fun x => x.at_ w (fun _ => False)) Try.underlying23 (by kernel_rfl) (by decide) (fun _ => rfl) (fun cs n' y h => trod_lst h) hf
  exact ⟨A, n, c, l, rfl, hr.old, hll, hk, fun x hx => ⟨(hok x hx).1.old, (hok x hx).2⟩⟩
set_option maxRecDepth 100000 in
theorem trod_trn {cs : List Value} {n : Nat} {y : DataW H × List MemPlace} (h : DataW.trod enc Try.prog w base spare held n 42 cs = some y) : ∃ x : Trn, cs = x.cells ∧ x.ok := by
  obtain ⟨hl, n', hf⟩ := trod_fld Try.underlying42 h
  obtain ⟨a, b, rfl⟩ := cs2 (hl.trans (by kernel_rfl))
  obtain ⟨_, f0⟩ := hf 0 _ rfl
  obtain ⟨_, f1⟩ := hf 1 _ rfl
  obtain ⟨x0, h0, _, w0⟩ := DataW.trod_int Try.underlying3 f0
  obtain ⟨x1, h1, _, w1⟩ := DataW.trod_int Try.underlying3 f1
  have h0' : [a] = [.int .i64 x0] := h0
  have h1' : [b] = [.int .i64 x1] := h1
  injection h0' with h0'
  injection h1' with h1'
  have b0 := wf_int w0
  have b1 := wf_int w1
  exact ⟨⟨x0, x1⟩, by rw [h0', h1'], b0, b1⟩
set_option maxRecDepth 100000 in
theorem open_trns {r : Reach} {b0 : Nat} {v : Value} {d : DataW H} {p : List MemPlace} (hv : Value.okWide Try.prog w r b0 24 v) (h : DataW.Trod enc Try.prog w base spare held 24 v d p) :
    ∃ (A : Option Addr) (n c : Nat) (X : List Trn), v = .slice A n c ∧ Rd w (fun k => w.heap.size ≤ k) 2 A n (X.flatMap Trn.cells) ∧ X.length = n ∧ n ≤ 9223372036854775807 ∧ ∀ x ∈ X, x.ok := by
  obtain ⟨A, n, c, rfl⟩ := okWide_slice Try.underlying24 hv
  obtain ⟨fuel, hf⟩ := h
  have hc : (Value.slice A n c).cells.toList = [.slice A n c] := by simp [Value.cells]
  rw [hc] at hf
  obtain ⟨l, hr, hll, hok, hk⟩ := open_recs (f := Trn.cells) (size := 2) Trn.ok Try.underlying24 (by kernel_rfl) (by decide) (fun _ => rfl) (fun cs n' y h => trod_trn h) hf
  exact ⟨A, n, c, l, rfl, hr.old, hll, hk, hok⟩
end
end Go.Proofs.Ythehimjdjgmnjaa
