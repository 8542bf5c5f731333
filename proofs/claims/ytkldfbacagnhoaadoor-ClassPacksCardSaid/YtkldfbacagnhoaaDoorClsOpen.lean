/- Class files that come in, and slices of them, read as records; no statement of the seat is proved here. -/
import Derived.Test.YtkldfbacagnhoaaDoorClsData
namespace Go.Proofs.YtkldfbacagnhoaaDoor
open Go.ChangeShapes Go.WideShapes Go.ChangeAt Go.RowKit Go.Deep

section
variable {H : Type} {enc : TypeId × Value → H} {w : World} {base : Nat} {spare : Nat → Bool} {held : Bool}

theorem trod_i64 {t : TypeId} {fuel : Nat} {cs : List Value} {y : DataW H × List MemPlace} (ht : Tryd.prog.underlying t = some (.int .i64)) (h : DataW.trod enc Tryd.prog w base spare held fuel t cs = some y) : ∃ x : Int, cs = [.int .i64 x] ∧ i64In x := by
  obtain ⟨x, rfl, _, hw⟩ := DataW.trod_int ht h
  refine ⟨x, rfl, ?_⟩
  simp [Lit.wf, IntKind.min, IntKind.max, IntKind.signed, IntKind.bits] at hw
  unfold i64In
  omega

set_option maxRecDepth 100000 in
theorem trod_fd {cs : List Value} {n : Nat} {y : DataW H × List MemPlace} (h : DataW.trod enc Tryd.prog w base spare held n 92 cs = some y) : ∃ x : FdP, cs = x.cells ∧ x.ok := by
  obtain ⟨hl, n', hf⟩ := trod_fld Tryd.underlying92 h
  obtain ⟨a, b, c, d, rfl⟩ := cs4 (hl.trans (by kernel_rfl))
  obtain ⟨_, f0⟩ := hf 0 _ rfl
  obtain ⟨_, f1⟩ := hf 1 _ rfl
  obtain ⟨v, hv, hok⟩ := trod_vr f0
  obtain ⟨s, hs, hsl⟩ := trod_str Tryd.underlying9 f1
  have hv' : [a, b, c] = v.cells := hv
  have hs' : [d] = [S s] := hs
  injection hv' with h0 hv'
  injection hv' with h1 hv'
  injection hv' with h2 _
  injection hs' with hs'
  exact ⟨⟨v, s⟩, by rw [h0, h1, h2, hs'], hok.1, hok.2, hsl⟩

set_option maxRecDepth 100000 in
theorem trod_mt {cs : List Value} {n : Nat} {y : DataW H × List MemPlace} (h : DataW.trod enc Tryd.prog w base spare held n 94 cs = some y) : ∃ x : Mt, cs = x.cells ∧ x.at_ w (fun _ => False) := by
  obtain ⟨hl, n', hf⟩ := trod_fld Tryd.underlying94 h
  obtain ⟨a, b, c, d, e, g, rfl⟩ := cs6 (hl.trans (by kernel_rfl))
  obtain ⟨_, f0⟩ := hf 0 _ rfl
  obtain ⟨_, f1⟩ := hf 1 _ rfl
  obtain ⟨m, hm, hok⟩ := trod_sg f0
  obtain ⟨s, hs, hsl⟩ := trod_str Tryd.underlying9 f1
  have hm' : [a, b, c, d, e] = m.cells := hm
  have hs' : [g] = [S s] := hs
  injection hm' with h0 hm'
  injection hm' with h1 hm'
  injection hm' with h2 hm'
  injection hm' with h3 hm'
  injection hm' with h4 _
  injection hs' with hs'
  exact ⟨⟨m, s⟩, by rw [h0, h1, h2, h3, h4, hs'], hok, hsl⟩

set_option maxRecDepth 100000 in
theorem trod_ins {cs : List Value} {n : Nat} {y : DataW H × List MemPlace} (h : DataW.trod enc Tryd.prog w base spare held n 55 cs = some y) : ∃ x : Int × Int, cs = coC x ∧ i64In x.1 ∧ i64In x.2 := by
  obtain ⟨hl, n', hf⟩ := trod_fld Tryd.underlying55 h
  obtain ⟨a, b, rfl⟩ := cs2 (hl.trans (by kernel_rfl))
  obtain ⟨_, f0⟩ := hf 0 _ rfl
  obtain ⟨_, f1⟩ := hf 1 _ rfl
  obtain ⟨x, hx, hxl⟩ := trod_i64 Tryd.underlying53 f0
  obtain ⟨z, hz, hzl⟩ := trod_i64 Tryd.underlying3 f1
  have hx' : [a] = [.int .i64 x] := hx
  have hz' : [b] = [.int .i64 z] := hz
  injection hx' with hx'
  injection hz' with hz'
  exact ⟨⟨x, z⟩, by rw [hx', hz'], hxl, hzl⟩

set_option maxRecDepth 100000 in
theorem trod_bd {cs : List Value} {n : Nat} {y : DataW H × List MemPlace} (h : DataW.trod enc Tryd.prog w base spare held n 58 cs = some y) : ∃ x : Bd, cs = x.cells ∧ x.at_ w (fun _ => False) := by
  obtain ⟨hl, n', hf⟩ := trod_fld Tryd.underlying58 h
  obtain ⟨a, b, c, rfl⟩ := cs3 (hl.trans (by kernel_rfl))
  obtain ⟨_, f0⟩ := hf 0 _ rfl
  obtain ⟨_, f1⟩ := hf 1 _ rfl
  obtain ⟨_, f2⟩ := hf 2 _ rfl
  obtain ⟨x, hx, hxl⟩ := trod_i64 Tryd.underlying3 f0
  obtain ⟨z, hz, hzl⟩ := trod_i64 Tryd.underlying3 f1
  obtain ⟨A, k, c', rfl⟩ := trod_sl (v := c) Tryd.underlying56 f2
  obtain ⟨l, hr, hll, hok, hk⟩ := open_recs (f := coC) (size := 2) (fun x => i64In x.1 ∧ i64In x.2) Tryd.underlying56 (by kernel_rfl) (by decide) (fun _ => rfl) (fun cs n' y h => trod_ins h) f2
  have hx' : [a] = [.int .i64 x] := hx
  have hz' : [b] = [.int .i64 z] := hz
  injection hx' with hx'
  injection hz' with hz'
  exact ⟨⟨x, z, A, k, c', l⟩, by rw [hx', hz'], hr, hll, hk, hxl, hzl, hok⟩

theorem cs10 {cs : List Value} (h : cs.length = 10) : ∃ a b c d e f g i j k, cs = [a, b, c, d, e, f, g, i, j, k] := by match cs, h with | [a, b, c, d, e, f, g, i, j, k], _ => exact ⟨a, b, c, d, e, f, g, i, j, k, rfl⟩

set_option maxRecDepth 100000 in
theorem trod_fl {cs : List Value} {n : Nat} {y : DataW H × List MemPlace} (h : DataW.trod enc Tryd.prog w base spare held n 36 cs = some y) : ∃ f : Fl, cs = f.cells ∧ f.at_ w (fun _ => False) := by
  obtain ⟨hl, n', hf⟩ := trod_fld Tryd.underlying36 h
  obtain ⟨a, b, c, d, e1, e2, e3, e4, e5, g, rfl⟩ := cs10 (hl.trans (by kernel_rfl))
  obtain ⟨_, f0⟩ := hf 0 _ rfl
  obtain ⟨_, f1⟩ := hf 1 _ rfl
  obtain ⟨_, f2⟩ := hf 2 _ rfl
  obtain ⟨fc, hfc, hfok⟩ := trod_fc f0
  obtain ⟨_, n2, hp⟩ := trod_fld Tryd.underlying33 f1
  obtain ⟨_, p0⟩ := hp 0 _ rfl
  obtain ⟨_, p1⟩ := hp 1 _ rfl
  obtain ⟨_, p2⟩ := hp 2 _ rfl
  obtain ⟨_, p3⟩ := hp 3 _ rfl
  obtain ⟨_, p4⟩ := hp 4 _ rfl
  obtain ⟨A0, k0, c0, rfl⟩ := trod_sl (v := e1) Tryd.underlying27 p0
  obtain ⟨A1, k1, c1, rfl⟩ := trod_sl (v := e2) Tryd.underlying28 p1
  obtain ⟨A2, k2, c2, rfl⟩ := trod_sl (v := e3) Tryd.underlying29 p2
  obtain ⟨A3, k3, c3, rfl⟩ := trod_sl (v := e4) Tryd.underlying30 p3
  obtain ⟨A4, k4, c4, rfl⟩ := trod_sl (v := e5) Tryd.underlying31 p4
  obtain ⟨A5, k5, c5, rfl⟩ := trod_sl (v := g) Tryd.underlying34 f2
  obtain ⟨l0, hr0, hl0, hok0, hk0⟩ := open_recs (f := fun x => [Value.int .i64 x]) (size := 1) i64In Tryd.underlying27 (by kernel_rfl) (by decide) (fun _ => rfl) (fun cs n' y h => trod_i64 Tryd.underlying2 h) p0
  obtain ⟨l1, hr1, hl1, hok1, hk1⟩ := open_recs (f := fun x => [S x]) (size := 1) short Tryd.underlying28 (by kernel_rfl) (by decide) (fun _ => rfl) (fun cs n' y h => trod_str Tryd.underlying9 h) p1
  obtain ⟨l2, hr2, hl2, hok2, hk2⟩ := open_recs (f := Ty.cells) (size := 2) Ty.ok Tryd.underlying29 (by kernel_rfl) (by decide) (fun _ => rfl) (fun cs n' y h => trod_ty h) p2
  obtain ⟨l3, hr3, hl3, hok3, hk3⟩ := open_recs (f := FdP.cells) (size := 4) FdP.ok Tryd.underlying30 (by kernel_rfl) (by decide) (fun _ => rfl) (fun cs n' y h => trod_fd h) p3
  obtain ⟨l4, hr4, hl4, hok4, hk4⟩ := open_recs (f := Mt.cells) (size := 6) (fun m => m.at_ w (fun _ => False)) Tryd.underlying31 (by kernel_rfl) (by decide) (fun _ => rfl) (fun cs n' y h => trod_mt h) p4
  obtain ⟨l5, hr5, hl5, hok5, hk5⟩ := open_recs (f := Bd.cells) (size := 3) (fun m => m.at_ w (fun _ => False)) Tryd.underlying34 (by kernel_rfl) (by decide) (fun _ => rfl) (fun cs n' y h => trod_bd h) f2
  have hfc' : [a, b, c, d] = fc.cells := hfc
  injection hfc' with q0 hfc'
  injection hfc' with q1 hfc'
  injection hfc' with q2 hfc'
  injection hfc' with q3 _
  refine ⟨⟨fc, A0, k0, c0, l0, A1, k1, c1, l1, A2, k2, c2, l2, A3, k3, c3, l3, A4, k4, c4, l4, A5, k5, c5, l5⟩, by rw [q0, q1, q2, q3], hfok, ?_, hr5, hl5, hk5, hok5⟩
  refine ⟨?_, hl0, hk0, hok0, ?_, hl1, hk1, hok1, hr2, hl2, hk2, hok2, hr3, hl3, hk3, hok3, hr4, hl4, hk4, hok4⟩
  · rwa [← List.map_eq_flatMap] at hr0
  · rwa [← List.map_eq_flatMap] at hr1

set_option maxRecDepth 100000 in
theorem open_file {r : Reach} {b0 : Nat} {v : Value} {d : DataW H} {p : List MemPlace} (hv : Value.okWide Tryd.prog w r b0 36 v) (h : DataW.Trod enc Tryd.prog w base spare held 36 v d p) : ∃ f : Fl, v = f.val ∧ f.at_ w (fun _ => False) := by
  obtain ⟨cs, rfl, _⟩ := okWide_struct Tryd.underlying36 hv
  obtain ⟨fuel, hf⟩ := h
  have hc : (Value.agg cs).cells.toList = cs.toList := by simp [Value.cells]
  rw [hc] at hf
  obtain ⟨t, ht, hok⟩ := trod_fl hf
  exact ⟨t, by rw [show cs = cs.toList.toArray by simp, ht], hok⟩
end
section
variable {w : World}
theorem Mt.at_.old {x : Mt} (h : x.at_ w (fun _ => False)) : x.at_ w (fun k => w.heap.size ≤ k) := ⟨h.1.old, h.2⟩
theorem Bd.at_.old {x : Bd} (h : x.at_ w (fun _ => False)) : x.at_ w (fun k => w.heap.size ≤ k) := ⟨h.1.old, h.2⟩
theorem Fl.at_.old {f : Fl} (h : f.at_ w (fun _ => False)) : f.at_ w (fun k => w.heap.size ≤ k) :=
  { h with fa := h.fa.old, br := h.br.old, bW := fun x hx => (h.bW x hx).old, po := { h.po with nr := h.po.nr.old, cr := h.po.cr.old, tr := h.po.tr.old, dr := h.po.dr.old, mr := h.po.mr.old, mW := fun x hx => (h.po.mW x hx).old } }
end
end Go.Proofs.YtkldfbacagnhoaaDoor
