/- A class's file in plain words: the pool, the bodies, the whole; which is right; no statement of the seat is proved here. -/
import Derived.Test.YtmbegaobnpoefaaDoorMFaceDataC
import Derived.Test.YtmbegaobnpoefaaDoorMOpLaidC
namespace Go.Proofs.YtmbegaobnpoefaaDoor
open Go.RowKit
def cname (s : List UInt8) : Bool := great s && decide (s.length ≤ 40)
def SgP.good (m : SgP) : Bool := m.r.good && decide (m.ps.length ≤ 200) && !(m.ps.any fun t => !t.good)
def riseP : List UInt8 → List SgP → Bool
 | _, [] => true
 | last, m :: r => !leqB m.n last && decide (m.n.length ≤ 40) && m.good && riseP m.n r
def FcP.right (f : FcP) : Bool := (great f.n && (f.su == [] || great f.su) && decide (f.fs.length ≤ 200) && decide (f.ms.length ≤ 200) && decide (f.n.length ≤ 40) && decide (f.su.length ≤ 40)) && riseV [] f.fs && riseP [] f.ms
theorem Sg.good_pl {w : World} {F : Nat → Prop} {m : Sg} (h : m.at_ w F) : m.good = m.pl.good := by
 unfold Sg.good SgP.good Sg.pl
 simp only
 rw [h.2.1]
theorem riseM_pl {w : World} {F : Nat → Prop} : ∀ (ms : List Sg) (last : List UInt8), (∀ m ∈ ms, m.at_ w F) → riseM last ms = riseP last (ms.map Sg.pl)
 | [], _, _ => rfl
 | m :: ms, last, h => by
  rw [riseM, List.map_cons, riseP, Sg.good_pl (h m (List.mem_cons_self ..)), riseM_pl ms m.n (fun x hx => h x (List.mem_cons_of_mem _ hx))]
  rfl
theorem Fc.right_pl {w : World} {F : Nat → Prop} {f : Fc} (h : f.at_ w F) : f.right = f.pl.right := by
 obtain ⟨⟨_, h1, _⟩, ⟨_, h2, _, h3⟩, _⟩ := h
 unfold Fc.right FcP.right Fc.headOk Fc.pl
 simp only [List.length_map]
 rw [h1, h2, riseM_pl _ _ h3]
def mtOk (m : MtP) : Bool := cname m.c && FcP.right ⟨[65], [], [], [m.m]⟩
def fdOk (f : FdP) : Bool := cname f.c && !(f.v.n == []) && decide (f.v.n.length ≤ 40) && f.v.t.good
def PoolP.right (p : PoolP) : Bool := (decide (p.nums.length ≤ 16384) && decide (p.cls.length ≤ 16384) && decide (p.tys.length ≤ 16384) && decide (p.fds.length ≤ 16384) && decide (p.mts.length ≤ 16384)) && p.cls.all cname && p.tys.all Ty.good && p.fds.all fdOk && p.mts.all mtOk
def manyV (p : PoolP) (b : BdP) (k : Int) : Int :=
 if k == 110 then p.nums.length else if k == 99 then p.cls.length else if k == 116 then p.tys.length else if k == 102 then p.fds.length else if k == 109 then p.mts.length else if k == 108 then b.lo else if k == 106 then b.code.length else 2
def rtC (c a v : Int) : Bool := kn c && (if pl c == 0 then a == 0 else decide (0 ≤ a) && decide (a < v))
def bdOk (p : PoolP) (m : SgP) (b : BdP) : Bool :=
 (decide ((if m.st then (m.ps.length : Int) else m.ps.length + 1) ≤ b.lo) && decide (b.lo ≤ 401) && decide (0 ≤ b.sk) && decide (b.sk ≤ 1000) && decide (1 ≤ b.code.length) && decide (b.code.length ≤ 16384)) && b.code.all fun x => rtC x.1 x.2 (manyV p b (pl x.1))
def bodiesOk (p : PoolP) : List SgP → List BdP → Bool
 | [], _ => true
 | _ :: _, [] => true
 | m :: ms, b :: bs => bdOk p m b && bodiesOk p ms bs
def FileP.right (F : FileP) : Bool := F.f.right && F.p.right && decide (F.b.length = F.f.ms.length) && bodiesOk F.p F.f.ms F.b
end Go.Proofs.YtmbegaobnpoefaaDoor
namespace Go.Proofs.YtmbegaobnpoefaaDoor
open Go.RowKit
structure Mt where
 m : Sg
 c : List UInt8
structure Bd where
 lo : Int
 sk : Int
 A : Option Addr
 k : Nat
 c : Nat
 code : List (Int × Int)
structure Fl where
 f : Fc
 nA : Option Addr
 nl : Nat
 nc : Nat
 nums : List Int
 cA : Option Addr
 cl : Nat
 cc : Nat
 cls : List (List UInt8)
 tA : Option Addr
 tl : Nat
 tc : Nat
 tys : List Ty
 dA : Option Addr
 dl : Nat
 dc : Nat
 fds : List FdP
 mA : Option Addr
 ml : Nat
 mc : Nat
 mts : List Mt
 bA : Option Addr
 bl : Nat
 bc : Nat
 bs : List Bd
abbrev FdP.cells (x : FdP) : List Value := [S x.v.n, S x.v.t.n, .bool x.v.t.a, S x.c]
abbrev Mt.cells (x : Mt) : List Value := [S x.m.n, .bool x.m.st, .slice x.m.A x.m.k x.m.c, S x.m.r.n, .bool x.m.r.a, S x.c]
abbrev Mt.val (x : Mt) : Value := .agg #[S x.m.n, .bool x.m.st, .slice x.m.A x.m.k x.m.c, S x.m.r.n, .bool x.m.r.a, S x.c]
abbrev coC (x : Int × Int) : List Value := [.int .i64 x.1, .int .i64 x.2]
abbrev Bd.cells (b : Bd) : List Value := [.int .i64 b.lo, .int .i64 b.sk, .slice b.A b.k b.c]
abbrev Bd.val (b : Bd) : Value := .agg #[.int .i64 b.lo, .int .i64 b.sk, .slice b.A b.k b.c]
abbrev Fl.pcells (f : Fl) : List Value := [.slice f.nA f.nl f.nc, .slice f.cA f.cl f.cc, .slice f.tA f.tl f.tc, .slice f.dA f.dl f.dc, .slice f.mA f.ml f.mc]
abbrev Fl.cells (f : Fl) : List Value := [S f.f.n, S f.f.su, .slice f.f.fA f.f.fl f.f.fc, .slice f.f.mA f.f.ml f.f.mc, .slice f.nA f.nl f.nc, .slice f.cA f.cl f.cc, .slice f.tA f.tl f.tc, .slice f.dA f.dl f.dc, .slice f.mA f.ml f.mc, .slice f.bA f.bl f.bc]
abbrev Fl.pval (f : Fl) : Value := .agg #[.slice f.nA f.nl f.nc, .slice f.cA f.cl f.cc, .slice f.tA f.tl f.tc, .slice f.dA f.dl f.dc, .slice f.mA f.ml f.mc]
abbrev Fl.val (f : Fl) : Value := .agg #[S f.f.n, S f.f.su, .slice f.f.fA f.f.fl f.f.fc, .slice f.f.mA f.f.ml f.f.mc, .slice f.nA f.nl f.nc, .slice f.cA f.cl f.cc, .slice f.tA f.tl f.tc, .slice f.dA f.dl f.dc, .slice f.mA f.ml f.mc, .slice f.bA f.bl f.bc]
def i64In (z : Int) : Prop := -9223372036854775808 ≤ z ∧ z ≤ 9223372036854775807
def FdP.ok (x : FdP) : Prop := short x.v.n ∧ short x.v.t.n ∧ short x.c
def Mt.at_ (w : World) (F : Nat → Prop) (x : Mt) : Prop := x.m.at_ w F ∧ short x.c
def Bd.at_ (w : World) (F : Nat → Prop) (b : Bd) : Prop := Rd w F 2 b.A b.k (b.code.flatMap coC) ∧ b.code.length = b.k ∧ b.k ≤ 9223372036854775807 ∧ i64In b.lo ∧ i64In b.sk ∧ ∀ x ∈ b.code, i64In x.1 ∧ i64In x.2
structure Fl.pat (w : World) (F : Nat → Prop) (f : Fl) : Prop where
 nr : Rd w F 1 f.nA f.nl (f.nums.map (Value.int .i64))
 nL : f.nums.length = f.nl
 nB : f.nl ≤ 9223372036854775807
 nW : ∀ x ∈ f.nums, i64In x
 cr : Rd w F 1 f.cA f.cl (f.cls.map S)
 cL : f.cls.length = f.cl
 cB : f.cl ≤ 9223372036854775807
 cW : ∀ x ∈ f.cls, short x
 tr : Rd w F 2 f.tA f.tl (f.tys.flatMap Ty.cells)
 tL : f.tys.length = f.tl
 tB : f.tl ≤ 9223372036854775807
 tW : ∀ x ∈ f.tys, x.ok
 dr : Rd w F 4 f.dA f.dl (f.fds.flatMap FdP.cells)
 dL : f.fds.length = f.dl
 dB : f.dl ≤ 9223372036854775807
 dW : ∀ x ∈ f.fds, x.ok
 mr : Rd w F 6 f.mA f.ml (f.mts.flatMap Mt.cells)
 mL : f.mts.length = f.ml
 mB : f.ml ≤ 9223372036854775807
 mW : ∀ x ∈ f.mts, x.at_ w F
structure Fl.at_ (w : World) (F : Nat → Prop) (f : Fl) : Prop where
 fa : f.f.at_ w F
 po : f.pat w F
 br : Rd w F 3 f.bA f.bl (f.bs.flatMap Bd.cells)
 bL : f.bs.length = f.bl
 bB : f.bl ≤ 9223372036854775807
 bW : ∀ x ∈ f.bs, x.at_ w F
def Mt.pl (x : Mt) : MtP := ⟨x.m.pl, x.c⟩
def Bd.pl (b : Bd) : BdP := ⟨b.lo, b.sk, b.code⟩
def Fl.ppl (f : Fl) : PoolP := ⟨f.nums, f.cls, f.tys, f.fds, f.mts.map Mt.pl⟩
def Fl.pl (f : Fl) : FileP := ⟨f.f.pl, f.ppl, f.bs.map Bd.pl⟩
section
variable {w w' : World} {F G : Nat → Prop} {B : Nat}
theorem Mt.at_.below {x : Mt} (h : x.at_ w (fun k => B ≤ k)) (hk : Below B w w') : x.at_ w' (fun k => B ≤ k) := ⟨h.1.below hk, h.2⟩
theorem Bd.at_.below {x : Bd} (h : x.at_ w (fun k => B ≤ k)) (hk : Below B w w') : x.at_ w' (fun k => B ≤ k) := ⟨h.1.below hk, h.2⟩
theorem Fl.pat.below {f : Fl} (h : f.pat w (fun k => B ≤ k)) (hk : Below B w w') : f.pat w' (fun k => B ≤ k) :=
 { h with nr := h.nr.below hk, cr := h.cr.below hk, tr := h.tr.below hk, dr := h.dr.below hk, mr := h.mr.below hk, mW := fun x hx => (h.mW x hx).below hk }
theorem Fl.at_.below {f : Fl} (h : f.at_ w (fun k => B ≤ k)) (hk : Below B w w') : f.at_ w' (fun k => B ≤ k) :=
 { h with fa := h.fa.below hk, po := h.po.below hk, br := h.br.below hk, bW := fun x hx => (h.bW x hx).below hk }
theorem Mt.at_.weak {x : Mt} (h : x.at_ w F) (hs : ∀ k, G k → F k) : x.at_ w G := ⟨h.1.weak hs, h.2⟩
theorem Bd.at_.weak {x : Bd} (h : x.at_ w F) (hs : ∀ k, G k → F k) : x.at_ w G := ⟨h.1.weak (fun k _ => hs k), h.2⟩
theorem Fl.pat.weak {f : Fl} (h : f.pat w F) (hs : ∀ k, G k → F k) : f.pat w G :=
 { h with nr := h.nr.weak (fun k _ => hs k), cr := h.cr.weak (fun k _ => hs k), tr := h.tr.weak (fun k _ => hs k), dr := h.dr.weak (fun k _ => hs k), mr := h.mr.weak (fun k _ => hs k), mW := fun x hx => (h.mW x hx).weak hs }
theorem Fl.at_.weak {f : Fl} (h : f.at_ w F) (hs : ∀ k, G k → F k) : f.at_ w G :=
 { h with fa := h.fa.weak hs, po := h.po.weak hs, br := h.br.weak (fun k _ => hs k), bW := fun x hx => (h.bW x hx).weak hs }
end
end Go.Proofs.YtmbegaobnpoefaaDoor
namespace Go.Proofs.YtmbegaobnpoefaaDoor
open Go.ChangeShapes Go.WideShapes Go.ChangeAt Go.RowKit Go.Deep
section
variable {H : Type} {enc : TypeId × Value → H} {w : World} {base : Nat} {spare : Nat → Bool} {held : Bool}
theorem trod_i64 {t : TypeId} {fuel : Nat} {cs : List Value} {y : DataW H × List MemPlace} (ht : Tryd.prog.underlying t = some (.int .i64)) (h : DataW.trod enc Tryd.prog w base spare held fuel t cs = some y) : ∃ x : Int, cs = [.int .i64 x] ∧ i64In x := by
 obtain ⟨x, rfl, _, hw⟩ := DataW.trod_int ht h
 refine ⟨x, rfl, ?_⟩
 simp [Lit.wf, IntKind.min, IntKind.max, IntKind.signed, IntKind.bits] at hw
 unfold i64In
 omega
set_option maxRecDepth 100000 in
theorem trod_fd {cs : List Value} {n : Nat} {y : DataW H × List MemPlace} (h : DataW.trod enc Tryd.prog w base spare held n 93 cs = some y) : ∃ x : FdP, cs = x.cells ∧ x.ok := by
 obtain ⟨hl, n', hf⟩ := trod_fld Tryd.underlying93 h
 obtain ⟨a, b, c, d, rfl⟩ := cs4 (hl.trans (by kernel_rfl))
 obtain ⟨_, f0⟩ := hf 0 _ rfl
 obtain ⟨_, f1⟩ := hf 1 _ rfl
 obtain ⟨v, hv, hok⟩ := trod_vr f0
 obtain ⟨s, hs, hsl⟩ := trod_str Tryd.underlying9 f1
 have hv' : [a, b, c] = v.cells := hv
 have hs' : [d] = [S s] := hs
 injection hv' with h0 hv'
 injection hv' with h1 hv'
 injection hv' with h2 _
 injection hs' with hs'
 exact ⟨⟨v, s⟩, by rw [h0, h1, h2, hs'], hok.1, hok.2, hsl⟩
set_option maxRecDepth 100000 in
theorem trod_mt {cs : List Value} {n : Nat} {y : DataW H × List MemPlace} (h : DataW.trod enc Tryd.prog w base spare held n 95 cs = some y) : ∃ x : Mt, cs = x.cells ∧ x.at_ w (fun _ => False) := by
 obtain ⟨hl, n', hf⟩ := trod_fld Tryd.underlying95 h
 obtain ⟨a, b, c, d, e, g, rfl⟩ := cs6 (hl.trans (by kernel_rfl))
 obtain ⟨_, f0⟩ := hf 0 _ rfl
 obtain ⟨_, f1⟩ := hf 1 _ rfl
 obtain ⟨m, hm, hok⟩ := trod_sg f0
 obtain ⟨s, hs, hsl⟩ := trod_str Tryd.underlying9 f1
 have hm' : [a, b, c, d, e] = m.cells := hm
 have hs' : [g] = [S s] := hs
 injection hm' with h0 hm'
 injection hm' with h1 hm'
 injection hm' with h2 hm'
 injection hm' with h3 hm'
 injection hm' with h4 _
 injection hs' with hs'
 exact ⟨⟨m, s⟩, by rw [h0, h1, h2, h3, h4, hs'], hok, hsl⟩
set_option maxRecDepth 100000 in
theorem trod_ins {cs : List Value} {n : Nat} {y : DataW H × List MemPlace} (h : DataW.trod enc Tryd.prog w base spare held n 87 cs = some y) : ∃ x : Int × Int, cs = coC x ∧ i64In x.1 ∧ i64In x.2 := by
 obtain ⟨hl, n', hf⟩ := trod_fld Tryd.underlying87 h
 obtain ⟨a, b, rfl⟩ := cs2 (hl.trans (by kernel_rfl))
 obtain ⟨_, f0⟩ := hf 0 _ rfl
 obtain ⟨_, f1⟩ := hf 1 _ rfl
 obtain ⟨x, hx, hxl⟩ := trod_i64 Tryd.underlying85 f0
 obtain ⟨z, hz, hzl⟩ := trod_i64 Tryd.underlying3 f1
 have hx' : [a] = [.int .i64 x] := hx
 have hz' : [b] = [.int .i64 z] := hz
 injection hx' with hx'
 injection hz' with hz'
 exact ⟨⟨x, z⟩, by rw [hx', hz'], hxl, hzl⟩
set_option maxRecDepth 100000 in
theorem trod_bd {cs : List Value} {n : Nat} {y : DataW H × List MemPlace} (h : DataW.trod enc Tryd.prog w base spare held n 75 cs = some y) : ∃ x : Bd, cs = x.cells ∧ x.at_ w (fun _ => False) := by
 obtain ⟨hl, n', hf⟩ := trod_fld Tryd.underlying75 h
 obtain ⟨a, b, c, rfl⟩ := cs3 (hl.trans (by kernel_rfl))
 obtain ⟨_, f0⟩ := hf 0 _ rfl
 obtain ⟨_, f1⟩ := hf 1 _ rfl
 obtain ⟨_, f2⟩ := hf 2 _ rfl
 obtain ⟨x, hx, hxl⟩ := trod_i64 Tryd.underlying3 f0
 obtain ⟨z, hz, hzl⟩ := trod_i64 Tryd.underlying3 f1
 obtain ⟨A, k, c', rfl⟩ := trod_sl (v := c) Tryd.underlying73 f2
 obtain ⟨l, hr, hll, hok, hk⟩ := open_recs (f := coC) (size := 2) (fun x => i64In x.1 ∧ i64In x.2) Tryd.underlying73 (by kernel_rfl) (by decide) (fun _ => rfl) (fun cs n' y h => trod_ins h) f2
 have hx' : [a] = [.int .i64 x] := hx
 have hz' : [b] = [.int .i64 z] := hz
 injection hx' with hx'
 injection hz' with hz'
 exact ⟨⟨x, z, A, k, c', l⟩, by rw [hx', hz'], hr, hll, hk, hxl, hzl, hok⟩
theorem cs10 {cs : List Value} (h : cs.length = 10) : ∃ a b c d e f g i j k, cs = [a, b, c, d, e, f, g, i, j, k] := by match cs, h with | [a, b, c, d, e, f, g, i, j, k], _ => exact ⟨a, b, c, d, e, f, g, i, j, k, rfl⟩
set_option maxRecDepth 100000 in
theorem trod_fl {cs : List Value} {n : Nat} {y : DataW H × List MemPlace} (h : DataW.trod enc Tryd.prog w base spare held n 52 cs = some y) : ∃ f : Fl, cs = f.cells ∧ f.at_ w (fun _ => False) := by
 obtain ⟨hl, n', hf⟩ := trod_fld Tryd.underlying52 h
 obtain ⟨a, b, c, d, e1, e2, e3, e4, e5, g, rfl⟩ := cs10 (hl.trans (by kernel_rfl))
 obtain ⟨_, f0⟩ := hf 0 _ rfl
 obtain ⟨_, f1⟩ := hf 1 _ rfl
 obtain ⟨_, f2⟩ := hf 2 _ rfl
 obtain ⟨fc, hfc, hfok⟩ := trod_fc f0
 obtain ⟨_, n2, hp⟩ := trod_fld Tryd.underlying49 f1
 obtain ⟨_, p0⟩ := hp 0 _ rfl
 obtain ⟨_, p1⟩ := hp 1 _ rfl
 obtain ⟨_, p2⟩ := hp 2 _ rfl
 obtain ⟨_, p3⟩ := hp 3 _ rfl
 obtain ⟨_, p4⟩ := hp 4 _ rfl
 obtain ⟨A0, k0, c0, rfl⟩ := trod_sl (v := e1) Tryd.underlying44 p0
 obtain ⟨A1, k1, c1, rfl⟩ := trod_sl (v := e2) Tryd.underlying37 p1
 obtain ⟨A2, k2, c2, rfl⟩ := trod_sl (v := e3) Tryd.underlying45 p2
 obtain ⟨A3, k3, c3, rfl⟩ := trod_sl (v := e4) Tryd.underlying46 p3
 obtain ⟨A4, k4, c4, rfl⟩ := trod_sl (v := e5) Tryd.underlying47 p4
 obtain ⟨A5, k5, c5, rfl⟩ := trod_sl (v := g) Tryd.underlying50 f2
 obtain ⟨l0, hr0, hl0, hok0, hk0⟩ := open_recs (f := fun x => [Value.int .i64 x]) (size := 1) i64In Tryd.underlying44 (by kernel_rfl) (by decide) (fun _ => rfl) (fun cs n' y h => trod_i64 Tryd.underlying2 h) p0
 obtain ⟨l1, hr1, hl1, hok1, hk1⟩ := open_recs (f := fun x => [S x]) (size := 1) short Tryd.underlying37 (by kernel_rfl) (by decide) (fun _ => rfl) (fun cs n' y h => trod_str Tryd.underlying9 h) p1
 obtain ⟨l2, hr2, hl2, hok2, hk2⟩ := open_recs (f := Ty.cells) (size := 2) Ty.ok Tryd.underlying45 (by kernel_rfl) (by decide) (fun _ => rfl) (fun cs n' y h => trod_ty h) p2
 obtain ⟨l3, hr3, hl3, hok3, hk3⟩ := open_recs (f := FdP.cells) (size := 4) FdP.ok Tryd.underlying46 (by kernel_rfl) (by decide) (fun _ => rfl) (fun cs n' y h => trod_fd h) p3
 obtain ⟨l4, hr4, hl4, hok4, hk4⟩ := open_recs (f := Mt.cells) (size := 6) (fun m => m.at_ w (fun _ => False)) Tryd.underlying47 (by kernel_rfl) (by decide) (fun _ => rfl) (fun cs n' y h => trod_mt h) p4
 obtain ⟨l5, hr5, hl5, hok5, hk5⟩ := open_recs (f := Bd.cells) (size := 3) (fun m => m.at_ w (fun _ => False)) Tryd.underlying50 (by kernel_rfl) (by decide) (fun _ => rfl) (fun cs n' y h => trod_bd h) f2
 have hfc' : [a, b, c, d] = fc.cells := hfc
 injection hfc' with q0 hfc'
 injection hfc' with q1 hfc'
 injection hfc' with q2 hfc'
 injection hfc' with q3 _
 refine ⟨⟨fc, A0, k0, c0, l0, A1, k1, c1, l1, A2, k2, c2, l2, A3, k3, c3, l3, A4, k4, c4, l4, A5, k5, c5, l5⟩, by rw [q0, q1, q2, q3], hfok, ?_, hr5, hl5, hk5, hok5⟩
 refine ⟨?_, hl0, hk0, hok0, ?_, hl1, hk1, hok1, hr2, hl2, hk2, hok2, hr3, hl3, hk3, hok3, hr4, hl4, hk4, hok4⟩
 ·rwa [← List.map_eq_flatMap] at hr0
 ·rwa [← List.map_eq_flatMap] at hr1
end
section
variable {w : World}
theorem Mt.at_.old {x : Mt} (h : x.at_ w (fun _ => False)) : x.at_ w (fun k => w.heap.size ≤ k) := ⟨h.1.old, h.2⟩
theorem Bd.at_.old {x : Bd} (h : x.at_ w (fun _ => False)) : x.at_ w (fun k => w.heap.size ≤ k) := ⟨h.1.old, h.2⟩
theorem Fl.at_.old {f : Fl} (h : f.at_ w (fun _ => False)) : f.at_ w (fun k => w.heap.size ≤ k) :=
 { h with fa := h.fa.old, br := h.br.old, bW := fun x hx => (h.bW x hx).old, po := { h.po with nr := h.po.nr.old, cr := h.po.cr.old, tr := h.po.tr.old, dr := h.po.dr.old, mr := h.po.mr.old, mW := fun x hx => (h.po.mW x hx).old } }
end
end Go.Proofs.YtmbegaobnpoefaaDoor
