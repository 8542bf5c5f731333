/- RepoCommits' steps as they lie, and as they come in; a disk under stores into the law's own struct; no statement of the seat is proved here. -/
import Derived.Test.YtclgiapmbmbknaaMRepMadeO
import Derived.Test.YtclgiapmbmbknaaMOpen
import Derived.Test.YtclgiapmbmbknaaMRecs
namespace Go.Proofs.Ytclgiapmbmbknaa
open Go.ChangeShapes Go.WideShapes Go.ChangeAt Go.RowKit Go.Deep Go.Maps
set_option linter.unusedVariables false

/-- A step as it lies. -/
structure Stp where
  nA : Option Addr
  nk : Nat
  nc : Nat
  ns : List Int
  seed : Int
  fall : Int
  kA : Option Addr
  kk : Nat
  kc : Nat
  ks : List Bool
  again : Int
def Stp.cells (x : Stp) : List Value := [.slice x.nA x.nk x.nc, .int .i64 x.seed, .int .i64 x.fall, .slice x.kA x.kk x.kc, .int .i64 x.again]
structure Stp.at_ (w : World) (F : Nat → Prop) (x : Stp) : Prop where
  nr : Rd w F 1 x.nA x.nk (x.ns.map (Value.int .i64))
  kr : Rd w F 1 x.kA x.kk (x.ks.map Value.bool)
  nb : x.nk ≤ 9223372036854775807
  kb : x.kk ≤ 9223372036854775807
  kl : x.ks.length = x.kk
section
variable {H : Type} {enc : TypeId × Value → H} {w : World} {base : Nat} {spare : Nat → Bool} {held : Bool}
set_option maxRecDepth 100000 in
theorem trod_is {cs : List Value} {n : Nat} {y : DataW H × List MemPlace} (h : DataW.trod enc Try.prog w base spare held n 22 cs = some y) : ∃ (A : Option Addr) (k c : Nat) (l : List Int), cs = [.slice A k c] ∧ Rd w (fun _ => False) 1 A k (l.map (Value.int .i64)) ∧ k ≤ 9223372036854775807 := by
  have h1 : ∃ A k c, cs = [.slice A k c] := by
    rcases open_slice Try.underlying22 h with ⟨hcs, _⟩ | ⟨a, len, cap, m, n', D, Pl, hcs, _⟩
    · exact ⟨_, _, _, hcs⟩
    · exact ⟨_, _, _, hcs⟩
  obtain ⟨A, k, c, rfl⟩ := h1
  obtain ⟨l, hr, hll, hok, hk⟩ := open_recs (f := fun n : Int => [Value.int .i64 n]) (size := 1) (fun _ => True) Try.underlying22 (by kernel_rfl) (by decide) (fun _ => rfl) (fun cs n' y h => by
    obtain ⟨x0, h0, _, w0⟩ := DataW.trod_int Try.underlying3 h
    exact ⟨x0, h0, trivial⟩) h
  exact ⟨A, k, c, l, rfl, by rw [List.map_eq_flatMap]; exact hr, hk⟩
set_option maxRecDepth 100000 in
theorem trod_bs {cs : List Value} {n : Nat} {y : DataW H × List MemPlace} (h : DataW.trod enc Try.prog w base spare held n 54 cs = some y) : ∃ (A : Option Addr) (k c : Nat) (l : List Bool), cs = [.slice A k c] ∧ Rd w (fun _ => False) 1 A k (l.map Value.bool) ∧ k ≤ 9223372036854775807 ∧ l.length = k := by
  have h1 : ∃ A k c, cs = [.slice A k c] := by
    rcases open_slice Try.underlying54 h with ⟨hcs, _⟩ | ⟨a, len, cap, m, n', D, Pl, hcs, _⟩
    · exact ⟨_, _, _, hcs⟩
    · exact ⟨_, _, _, hcs⟩
  obtain ⟨A, k, c, rfl⟩ := h1
  obtain ⟨l, hr, hll, hok, hk⟩ := open_recs (f := fun b : Bool => [Value.bool b]) (size := 1) (fun _ => True) Try.underlying54 (by kernel_rfl) (by decide) (fun _ => rfl) (fun cs n' y h => by
    obtain ⟨x0, h0, _⟩ := DataW.trod_bool Try.underlying4 h
    exact ⟨x0, h0, trivial⟩) h
  exact ⟨A, k, c, l, rfl, by rw [List.map_eq_flatMap]; exact hr, hk, hll⟩
set_option maxRecDepth 100000 in
theorem trod_step {cs : List Value} {n : Nat} {y : DataW H × List MemPlace} (h : DataW.trod enc Try.prog w base spare held n 56 cs = some y) : ∃ x : Stp, cs = x.cells ∧ x.at_ w (fun _ => False) := by
  obtain ⟨hl, n', hf⟩ := trod_fld Try.underlying56 h
  obtain ⟨a, b, c, d, e, rfl⟩ : ∃ a b c d e, cs = [a, b, c, d, e] := by
    have hl5 : cs.length = 5 := hl.trans (by kernel_rfl)
    match cs, hl5 with
    | [a, b, c, d, e], _ => exact ⟨a, b, c, d, e, rfl⟩
  obtain ⟨_, f0⟩ := hf 0 _ rfl
  obtain ⟨_, f1⟩ := hf 1 _ rfl
  obtain ⟨_, f2⟩ := hf 2 _ rfl
  obtain ⟨_, f3⟩ := hf 3 _ rfl
  obtain ⟨_, f4⟩ := hf 4 _ rfl
  obtain ⟨A0, k0, c0, l0, h0, r0, b0⟩ := trod_is f0
  obtain ⟨x1, h1, _, w1⟩ := DataW.trod_int Try.underlying3 f1
  obtain ⟨x2, h2, _, w2⟩ := DataW.trod_int Try.underlying3 f2
  obtain ⟨A3, k3, c3, l3, h3, r3, b3, m3⟩ := trod_bs f3
  obtain ⟨x4, h4, _, w4⟩ := DataW.trod_int Try.underlying3 f4
  have h0' : [a] = [.slice A0 k0 c0] := h0
  have h1' : [b] = [.int .i64 x1] := h1
  have h2' : [c] = [.int .i64 x2] := h2
  have h3' : [d] = [.slice A3 k3 c3] := h3
  have h4' : [e] = [.int .i64 x4] := h4
  injection h0' with h0'
  injection h1' with h1'
  injection h2' with h2'
  injection h3' with h3'
  injection h4' with h4'
  exact ⟨⟨A0, k0, c0, l0, x1, x2, A3, k3, c3, l3, x4⟩, by rw [h0', h1', h2', h3', h4']; rfl, r0, r3, b0, b3, m3⟩
set_option maxRecDepth 100000 in
theorem open_steps {r : Reach} {b0 : Nat} {v : Value} {d : DataW H} {p : List MemPlace} (hv : Value.okWide Try.prog w r b0 53 v) (h : DataW.Trod enc Try.prog w base spare held 53 v d p) :
    ∃ (A : Option Addr) (n c : Nat) (X : List Stp), v = .slice A n c ∧ Rd w (fun k => w.heap.size ≤ k) 5 A n (X.flatMap Stp.cells) ∧ X.length = n ∧ n ≤ 9223372036854775807 ∧ ∀ x ∈ X, x.at_ w (fun k => w.heap.size ≤ k) := by
  obtain ⟨A, n, c, rfl⟩ := okWide_slice Try.underlying53 hv
  obtain ⟨fuel, hf⟩ := h
  have hc : (Value.slice A n c).cells.toList = [.slice A n c] := by simp [Value.cells]
  rw [hc] at hf
  obtain ⟨l, hr, hll, hok, hk⟩ := open_recs (f := Stp.cells) (size := 5) (fun x => x.at_ w (fun _ => False)) Try.underlying53 (by kernel_rfl) (by decide) (fun _ => rfl) (fun cs n' y h => trod_step h) hf
  exact ⟨A, n, c, l, rfl, hr.old, hll, hk, fun x hx => { hok x hx with nr := (hok x hx).nr.old, kr := (hok x hx).kr.old }⟩
end
/-- A store into a struct that is none of the disk's. -/
theorem DAt.store {w w' : World} {B g room M q : Nat} {s : Ds} {t : TypeId} {cs : Array Value} (h : DAt w B g room M s) (hq : Blk w q t cs) (h1 : t ≠ 66) (h2 : t ≠ 80) (hk : Keep (fun k => k = q) w w') : DAt w' B g room M s := by
  obtain ⟨b, N, n, c, A, d, h3, h4⟩ := h
  refine ⟨b, N, n, c, A, d.keep hk (fun e => (hq.ne_ d.blk h1) e.symm) (fun e => ?_) (fun k hk' e => own_blk_ne d.own hq (fun e2 => h2 e2.symm) (e ▸ hk')), h3, h4⟩
  obtain ⟨D, ⟨es, clock, hb, _⟩, _⟩ := d.txt
  unfold Blk at hq
  rw [← e, hb] at hq
  cases hq
end Go.Proofs.Ytclgiapmbmbknaa
