/- Files that come in, with the bounds on their fields' names; no statement of the seat is proved here. -/
import Derived.Test.YtkldfbacagnhoaaDoorLight
import Derived.Test.YtkldfbacagnhoaaDoorClsOpen
import Derived.Test.YtkldfbacagnhoaaDoorClsFewD
import Derived.Test.YtkldfbacagnhoaaDoorClsArc
namespace Go.Proofs.YtkldfbacagnhoaaDoor
open Go.ChangeShapes Go.WideShapes Go.ChangeAt Go.RowKit Go.Deep

section
variable {H : Type} {enc : TypeId × Value → H} {w : World} {base : Nat} {spare : Nat → Bool} {held : Bool}
set_option maxRecDepth 100000 in
theorem trod_fdW {cs : List Value} {n : Nat} {y : DataW H × List MemPlace} (h : DataW.trod enc Tryd.prog w base spare held n 92 cs = some y) (hl : Light Tryd.prog 92 y.1) : ∃ x : FdP, cs = x.cells ∧ x.ok ∧ x.lite := by
  obtain ⟨x, hx, hok⟩ := trod_fd h
  refine ⟨x, hx, hok, ?_⟩
  obtain ⟨_, n', hf⟩ := trod_fldW Tryd.underlying92 h hl
  obtain ⟨y0, f0, l0⟩ := hf 0 _ rfl
  obtain ⟨y1, f1, l1⟩ := hf 1 _ rfl
  obtain ⟨_, n2, hg⟩ := trod_fldW Tryd.underlying90 f0 l0
  obtain ⟨y2, f2, l2⟩ := hg 0 _ rfl
  obtain ⟨y3, f3, l3⟩ := hg 1 _ rfl
  obtain ⟨_, n3, hi⟩ := trod_fldW Tryd.underlying49 f3 l3
  obtain ⟨y4, f4, l4⟩ := hi 0 _ rfl
  subst hx
  obtain ⟨s1, e1, b1⟩ := trod_strW Tryd.underlying9 f1 l1
  obtain ⟨s2, e2, b2⟩ := trod_strW Tryd.underlying9 f2 l2
  obtain ⟨s4, e4, b4⟩ := trod_strW Tryd.underlying9 f4 l4
  have e1' : [S x.c] = [S s1] := e1
  have e2' : [S x.v.n] = [S s2] := e2
  have e4' : [S x.v.t.n] = [S s4] := e4
  have hS : ∀ a b : List UInt8, [S a] = [S b] → a = b := by
    intro a b e
    injection e with e _
    injection e with e
    injection e with e
    simpa using congrArg Array.toList e
  exact ⟨by rw [hS _ _ e2']; exact b2, by rw [hS _ _ e1']; exact b1, by rw [hS _ _ e4']; exact b4⟩

set_option maxRecDepth 100000 in
theorem trod_flW {cs : List Value} {n : Nat} {y : DataW H × List MemPlace} (h : DataW.trod enc Tryd.prog w base spare held n 36 cs = some y) (hl : Light Tryd.prog 36 y.1) : ∃ f : Fl, cs = f.cells ∧ f.at_ w (fun _ => False) ∧ ∀ x ∈ f.fds, x.lite := by
  obtain ⟨hcl, n', hf⟩ := trod_fldW Tryd.underlying36 h hl
  obtain ⟨a, b, c, d, e1, e2, e3, e4, e5, g, rfl⟩ := cs10 (hcl.trans (by kernel_rfl))
  obtain ⟨_, f0, g0⟩ := hf 0 _ rfl
  obtain ⟨_, f1, g1⟩ := hf 1 _ rfl
  obtain ⟨_, f2, g2⟩ := hf 2 _ rfl
  obtain ⟨fc, hfc, hfok⟩ := trod_fc f0
  obtain ⟨_, n2, hp⟩ := trod_fldW Tryd.underlying33 f1 g1
  obtain ⟨_, p0, _⟩ := hp 0 _ rfl
  obtain ⟨_, p1, _⟩ := hp 1 _ rfl
  obtain ⟨_, p2, _⟩ := hp 2 _ rfl
  obtain ⟨_, p3, q3⟩ := hp 3 _ rfl
  obtain ⟨_, p4, _⟩ := hp 4 _ rfl
  obtain ⟨A0, k0, c0, rfl⟩ := trod_sl (v := e1) Tryd.underlying27 p0
  obtain ⟨A1, k1, c1, rfl⟩ := trod_sl (v := e2) Tryd.underlying28 p1
  obtain ⟨A2, k2, c2, rfl⟩ := trod_sl (v := e3) Tryd.underlying29 p2
  obtain ⟨A3, k3, c3, rfl⟩ := trod_sl (v := e4) Tryd.underlying30 p3
  obtain ⟨A4, k4, c4, rfl⟩ := trod_sl (v := e5) Tryd.underlying31 p4
  obtain ⟨A5, k5, c5, rfl⟩ := trod_sl (v := g) Tryd.underlying34 f2
  obtain ⟨l0, hr0, hl0, hok0, hk0⟩ := open_recs (f := fun x => [Value.int .i64 x]) (size := 1) i64In Tryd.underlying27 (by kernel_rfl) (by decide) (fun _ => rfl) (fun cs n' y h => trod_i64 Tryd.underlying2 h) p0
  obtain ⟨l1, hr1, hl1, hok1, hk1⟩ := open_recs (f := fun x => [S x]) (size := 1) short Tryd.underlying28 (by kernel_rfl) (by decide) (fun _ => rfl) (fun cs n' y h => trod_str Tryd.underlying9 h) p1
  obtain ⟨l2, hr2, hl2, hok2, hk2⟩ := open_recs (f := Ty.cells) (size := 2) Ty.ok Tryd.underlying29 (by kernel_rfl) (by decide) (fun _ => rfl) (fun cs n' y h => trod_ty h) p2
  obtain ⟨l3, hr3, hl3, hok3, hk3⟩ := open_recsW (f := FdP.cells) (size := 4) (fun x => x.ok ∧ x.lite) Tryd.underlying30 (by kernel_rfl) (by decide) (fun _ => rfl) (fun cs n' y h hl => trod_fdW h hl) p3 q3
  obtain ⟨l4, hr4, hl4, hok4, hk4⟩ := open_recs (f := Mt.cells) (size := 6) (fun m => m.at_ w (fun _ => False)) Tryd.underlying31 (by kernel_rfl) (by decide) (fun _ => rfl) (fun cs n' y h => trod_mt h) p4
  obtain ⟨l5, hr5, hl5, hok5, hk5⟩ := open_recs (f := Bd.cells) (size := 3) (fun m => m.at_ w (fun _ => False)) Tryd.underlying34 (by kernel_rfl) (by decide) (fun _ => rfl) (fun cs n' y h => trod_bd h) f2
  have hfc' : [a, b, c, d] = fc.cells := hfc
  injection hfc' with q0 hfc'
  injection hfc' with q1 hfc'
  injection hfc' with q2 hfc'
  injection hfc' with q3 _
  refine ⟨⟨fc, A0, k0, c0, l0, A1, k1, c1, l1, A2, k2, c2, l2, A3, k3, c3, l3, A4, k4, c4, l4, A5, k5, c5, l5⟩, by rw [q0, q1, q2, q3], ⟨hfok, ?_, hr5, hl5, hk5, hok5⟩, fun x hx => (hok3 x hx).2⟩
  refine ⟨?_, hl0, hk0, hok0, ?_, hl1, hk1, hok1, hr2, hl2, hk2, hok2, hr3, hl3, hk3, (fun x hx => (hok3 x hx).1), hr4, hl4, hk4, hok4⟩
  · rwa [← List.map_eq_flatMap] at hr0
  · rwa [← List.map_eq_flatMap] at hr1

set_option maxRecDepth 100000 in
theorem open_files {r : Reach} {b0 : Nat} {v : Value} {d : DataW H} {p : List MemPlace} (hv : Value.okWide Tryd.prog w r b0 42 v) (h : DataW.Trod enc Tryd.prog w base spare held 42 v d p) (hl : Light Tryd.prog 42 d) :
    ∃ (A : Option Addr) (n c : Nat) (Fs : List Fl), v = .slice A n c ∧ FlsAt w (fun k => w.heap.size ≤ k) A n Fs ∧ ∀ f ∈ Fs, ∀ x ∈ f.fds, x.lite := by
  obtain ⟨A, n, c, rfl⟩ := okWide_slice Tryd.underlying42 hv
  obtain ⟨fuel, hf⟩ := h
  have hc : (Value.slice A n c).cells.toList = [.slice A n c] := by simp [Value.cells]
  rw [hc] at hf
  obtain ⟨l, h1, h2, h3, h4⟩ := open_recsW (f := Fl.cells) (size := 10) (fun f => f.at_ w (fun _ => False) ∧ ∀ x ∈ f.fds, x.lite) Tryd.underlying42 (by kernel_rfl) (by decide) (fun _ => rfl) (fun cs n' y h hl => by obtain ⟨f, e, a, b⟩ := trod_flW h hl; exact ⟨f, e, a, b⟩) hf hl
  exact ⟨A, n, c, l, rfl, ⟨h1.old, h2, h4, fun f hf => (h3 f hf).1.old⟩, fun f hf => (h3 f hf).2⟩
end
end Go.Proofs.YtkldfbacagnhoaaDoor
