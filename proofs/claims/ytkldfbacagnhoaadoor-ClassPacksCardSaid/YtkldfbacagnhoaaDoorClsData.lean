/- A class's file as it lies in memory; no statement of the seat is proved here. -/
import Derived.Test.YtkldfbacagnhoaaDoorClsM2
namespace Go.Proofs.YtkldfbacagnhoaaDoor
open Go.RowKit

/-- A method of the pool, a body, a file as they lie. -/
structure Mt where
  m : Sg
  c : List UInt8
structure Bd where
  lo : Int
  sk : Int
  A : Option Addr
  k : Nat
  c : Nat
  code : List (Int × Int)
structure Fl where
  f : Fc
  nA : Option Addr
  nl : Nat
  nc : Nat
  nums : List Int
  cA : Option Addr
  cl : Nat
  cc : Nat
  cls : List (List UInt8)
  tA : Option Addr
  tl : Nat
  tc : Nat
  tys : List Ty
  dA : Option Addr
  dl : Nat
  dc : Nat
  fds : List FdP
  mA : Option Addr
  ml : Nat
  mc : Nat
  mts : List Mt
  bA : Option Addr
  bl : Nat
  bc : Nat
  bs : List Bd
abbrev FdP.cells (x : FdP) : List Value := [S x.v.n, S x.v.t.n, .bool x.v.t.a, S x.c]
abbrev FdP.val (x : FdP) : Value := .agg #[S x.v.n, S x.v.t.n, .bool x.v.t.a, S x.c]
abbrev Mt.cells (x : Mt) : List Value := [S x.m.n, .bool x.m.st, .slice x.m.A x.m.k x.m.c, S x.m.r.n, .bool x.m.r.a, S x.c]
abbrev Mt.val (x : Mt) : Value := .agg #[S x.m.n, .bool x.m.st, .slice x.m.A x.m.k x.m.c, S x.m.r.n, .bool x.m.r.a, S x.c]
abbrev coC (x : Int × Int) : List Value := [.int .i64 x.1, .int .i64 x.2]
abbrev Bd.cells (b : Bd) : List Value := [.int .i64 b.lo, .int .i64 b.sk, .slice b.A b.k b.c]
abbrev Bd.val (b : Bd) : Value := .agg #[.int .i64 b.lo, .int .i64 b.sk, .slice b.A b.k b.c]
abbrev Fl.pcells (f : Fl) : List Value := [.slice f.nA f.nl f.nc, .slice f.cA f.cl f.cc, .slice f.tA f.tl f.tc, .slice f.dA f.dl f.dc, .slice f.mA f.ml f.mc]
abbrev Fl.cells (f : Fl) : List Value := [S f.f.n, S f.f.su, .slice f.f.fA f.f.fl f.f.fc, .slice f.f.mA f.f.ml f.f.mc, .slice f.nA f.nl f.nc, .slice f.cA f.cl f.cc, .slice f.tA f.tl f.tc, .slice f.dA f.dl f.dc, .slice f.mA f.ml f.mc, .slice f.bA f.bl f.bc]
abbrev Fl.pval (f : Fl) : Value := .agg #[.slice f.nA f.nl f.nc, .slice f.cA f.cl f.cc, .slice f.tA f.tl f.tc, .slice f.dA f.dl f.dc, .slice f.mA f.ml f.mc]
abbrev Fl.val (f : Fl) : Value := .agg #[S f.f.n, S f.f.su, .slice f.f.fA f.f.fl f.f.fc, .slice f.f.mA f.f.ml f.f.mc, .slice f.nA f.nl f.nc, .slice f.cA f.cl f.cc, .slice f.tA f.tl f.tc, .slice f.dA f.dl f.dc, .slice f.mA f.ml f.mc, .slice f.bA f.bl f.bc]
def i64In (z : Int) : Prop := -9223372036854775808 ≤ z ∧ z ≤ 9223372036854775807
def FdP.ok (x : FdP) : Prop := short x.v.n ∧ short x.v.t.n ∧ short x.c
def Mt.at_ (w : World) (F : Nat → Prop) (x : Mt) : Prop := x.m.at_ w F ∧ short x.c
def Bd.at_ (w : World) (F : Nat → Prop) (b : Bd) : Prop := Rd w F 2 b.A b.k (b.code.flatMap coC) ∧ b.code.length = b.k ∧ b.k ≤ 9223372036854775807 ∧ i64In b.lo ∧ i64In b.sk ∧ ∀ x ∈ b.code, i64In x.1 ∧ i64In x.2
/-- A pool's slices read as they say. -/
structure Fl.pat (w : World) (F : Nat → Prop) (f : Fl) : Prop where
  nr : Rd w F 1 f.nA f.nl (f.nums.map (Value.int .i64))
  nL : f.nums.length = f.nl
  nB : f.nl ≤ 9223372036854775807
  nW : ∀ x ∈ f.nums, i64In x
  cr : Rd w F 1 f.cA f.cl (f.cls.map S)
  cL : f.cls.length = f.cl
  cB : f.cl ≤ 9223372036854775807
  cW : ∀ x ∈ f.cls, short x
  tr : Rd w F 2 f.tA f.tl (f.tys.flatMap Ty.cells)
  tL : f.tys.length = f.tl
  tB : f.tl ≤ 9223372036854775807
  tW : ∀ x ∈ f.tys, x.ok
  dr : Rd w F 4 f.dA f.dl (f.fds.flatMap FdP.cells)
  dL : f.fds.length = f.dl
  dB : f.dl ≤ 9223372036854775807
  dW : ∀ x ∈ f.fds, x.ok
  mr : Rd w F 6 f.mA f.ml (f.mts.flatMap Mt.cells)
  mL : f.mts.length = f.ml
  mB : f.ml ≤ 9223372036854775807
  mW : ∀ x ∈ f.mts, x.at_ w F
structure Fl.at_ (w : World) (F : Nat → Prop) (f : Fl) : Prop where
  fa : f.f.at_ w F
  po : f.pat w F
  br : Rd w F 3 f.bA f.bl (f.bs.flatMap Bd.cells)
  bL : f.bs.length = f.bl
  bB : f.bl ≤ 9223372036854775807
  bW : ∀ x ∈ f.bs, x.at_ w F
def Mt.pl (x : Mt) : MtP := ⟨x.m.pl, x.c⟩
def Bd.pl (b : Bd) : BdP := ⟨b.lo, b.sk, b.code⟩
def Fl.ppl (f : Fl) : PoolP := ⟨f.nums, f.cls, f.tys, f.fds, f.mts.map Mt.pl⟩
def Fl.pl (f : Fl) : FileP := ⟨f.f.pl, f.ppl, f.bs.map Bd.pl⟩
section
variable {w w' : World} {F G : Nat → Prop} {B : Nat}
theorem Mt.at_.below {x : Mt} (h : x.at_ w (fun k => B ≤ k)) (hk : Below B w w') : x.at_ w' (fun k => B ≤ k) := ⟨h.1.below hk, h.2⟩
theorem Bd.at_.below {x : Bd} (h : x.at_ w (fun k => B ≤ k)) (hk : Below B w w') : x.at_ w' (fun k => B ≤ k) := ⟨h.1.below hk, h.2⟩
theorem Fl.pat.below {f : Fl} (h : f.pat w (fun k => B ≤ k)) (hk : Below B w w') : f.pat w' (fun k => B ≤ k) :=
  { h with nr := h.nr.below hk, cr := h.cr.below hk, tr := h.tr.below hk, dr := h.dr.below hk, mr := h.mr.below hk, mW := fun x hx => (h.mW x hx).below hk }
theorem Fl.at_.below {f : Fl} (h : f.at_ w (fun k => B ≤ k)) (hk : Below B w w') : f.at_ w' (fun k => B ≤ k) :=
  { h with fa := h.fa.below hk, po := h.po.below hk, br := h.br.below hk, bW := fun x hx => (h.bW x hx).below hk }
theorem Mt.at_.weak {x : Mt} (h : x.at_ w F) (hs : ∀ k, G k → F k) : x.at_ w G := ⟨h.1.weak hs, h.2⟩
theorem Bd.at_.weak {x : Bd} (h : x.at_ w F) (hs : ∀ k, G k → F k) : x.at_ w G := ⟨h.1.weak (fun k _ => hs k), h.2⟩
theorem Fl.pat.weak {f : Fl} (h : f.pat w F) (hs : ∀ k, G k → F k) : f.pat w G :=
  { h with nr := h.nr.weak (fun k _ => hs k), cr := h.cr.weak (fun k _ => hs k), tr := h.tr.weak (fun k _ => hs k), dr := h.dr.weak (fun k _ => hs k), mr := h.mr.weak (fun k _ => hs k), mW := fun x hx => (h.mW x hx).weak hs }
theorem Fl.at_.weak {f : Fl} (h : f.at_ w F) (hs : ∀ k, G k → F k) : f.at_ w G :=
  { h with fa := h.fa.weak hs, po := h.po.weak hs, br := h.br.weak (fun k _ => hs k), bW := fun x hx => (h.bW x hx).weak hs }
end
end Go.Proofs.YtkldfbacagnhoaaDoor
