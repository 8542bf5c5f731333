/- Faces as they lie in memory, and how an argument that holds them is opened; no statement of the seat is proved here. -/
import Derived.Test.YtmbegaobnpoefaaDoorMBase
import Derived.Test.YtmbegaobnpoefaaDoorChecked
import Derived.Test.YtmbegaobnpoefaaDoorMVarint
namespace Go.Proofs.YtmbegaobnpoefaaDoor
open Go.ChangeShapes Go.WideShapes Go.ChangeAt Go.RowKit Go.Deep
structure Ty where
 n : List UInt8
 a : Bool
deriving DecidableEq
structure Vr where
 n : List UInt8
 t : Ty
deriving DecidableEq
structure Sg where
 n : List UInt8
 st : Bool
 A : Option Addr
 k : Nat
 c : Nat
 ps : List Ty
 r : Ty
structure Fc where
 n : List UInt8
 su : List UInt8
 fA : Option Addr
 fl : Nat
 fc : Nat
 fs : List Vr
 mA : Option Addr
 ml : Nat
 mc : Nat
 ms : List Sg
abbrev Ty.cells (t : Ty) : List Value := [S t.n, .bool t.a]
abbrev Ty.val (t : Ty) : Value := .agg #[S t.n, .bool t.a]
abbrev Vr.cells (v : Vr) : List Value := [S v.n, S v.t.n, .bool v.t.a]
abbrev Sg.cells (m : Sg) : List Value := [S m.n, .bool m.st, .slice m.A m.k m.c, S m.r.n, .bool m.r.a]
abbrev Sg.val (m : Sg) : Value := .agg #[S m.n, .bool m.st, .slice m.A m.k m.c, S m.r.n, .bool m.r.a]
abbrev Fc.cells (f : Fc) : List Value := [S f.n, S f.su, .slice f.fA f.fl f.fc, .slice f.mA f.ml f.mc]
abbrev Fc.val (f : Fc) : Value := .agg #[S f.n, S f.su, .slice f.fA f.fl f.fc, .slice f.mA f.ml f.mc]
def short (s : List UInt8) : Prop := s.length ≤ 9223372036854775807
def Ty.ok (t : Ty) : Prop := short t.n
def Vr.ok (v : Vr) : Prop := short v.n ∧ v.t.ok
def Sg.at_ (w : World) (F : Nat → Prop) (m : Sg) : Prop := Rd w F 2 m.A m.k (m.ps.flatMap Ty.cells) ∧ m.ps.length = m.k ∧ m.k ≤ 9223372036854775807 ∧ short m.n ∧ m.r.ok ∧ ∀ p ∈ m.ps, p.ok
def Fc.at_ (w : World) (F : Nat → Prop) (f : Fc) : Prop :=
 (Rd w F 3 f.fA f.fl (f.fs.flatMap Vr.cells) ∧ f.fs.length = f.fl ∧ f.fl ≤ 9223372036854775807 ∧ ∀ v ∈ f.fs, v.ok) ∧
 (Rd w F 5 f.mA f.ml (f.ms.flatMap Sg.cells) ∧ f.ms.length = f.ml ∧ f.ml ≤ 9223372036854775807 ∧ ∀ m ∈ f.ms, m.at_ w F) ∧ short f.n ∧ short f.su
def FcsAt (w : World) (F : Nat → Prop) (A : Option Addr) (n : Nat) (T : List Fc) : Prop := Rd w F 4 A n (T.flatMap Fc.cells) ∧ T.length = n ∧ n ≤ 9223372036854775807 ∧ ∀ f ∈ T, f.at_ w F
section
variable {w : World} {F G : Nat → Prop}
theorem Sg.at_.weak {m : Sg} (h : m.at_ w F) (hs : ∀ k, G k → F k) : m.at_ w G := ⟨h.1.weak (fun k _ => hs k), h.2⟩
theorem Fc.at_.weak {f : Fc} (h : f.at_ w F) (hs : ∀ k, G k → F k) : f.at_ w G := ⟨⟨h.1.1.weak (fun k _ => hs k), h.1.2⟩, ⟨h.2.1.1.weak (fun k _ => hs k), h.2.1.2.1, h.2.1.2.2.1, fun m hm => (h.2.1.2.2.2 m hm).weak hs⟩, h.2.2⟩
end
section
variable {w w' : World} {B : Nat}
theorem Sg.at_.old {m : Sg} (h : m.at_ w (fun _ => False)) : m.at_ w (fun k => w.heap.size ≤ k) := ⟨h.1.old, h.2⟩
theorem Fc.at_.old {f : Fc} (h : f.at_ w (fun _ => False)) : f.at_ w (fun k => w.heap.size ≤ k) := ⟨⟨h.1.1.old, h.1.2⟩, ⟨h.2.1.1.old, h.2.1.2.1, h.2.1.2.2.1, fun m hm => (h.2.1.2.2.2 m hm).old⟩, h.2.2⟩
theorem Sg.at_.below {m : Sg} (h : m.at_ w (fun k => B ≤ k)) (hk : Below B w w') : m.at_ w' (fun k => B ≤ k) := ⟨h.1.below hk, h.2⟩
theorem Fc.at_.below {f : Fc} (h : f.at_ w (fun k => B ≤ k)) (hk : Below B w w') : f.at_ w' (fun k => B ≤ k) := ⟨⟨h.1.1.below hk, h.1.2⟩, ⟨h.2.1.1.below hk, h.2.1.2.1, h.2.1.2.2.1, fun m hm => (h.2.1.2.2.2 m hm).below hk⟩, h.2.2⟩
end
section
variable {H : Type} {enc : TypeId × Value → H} {w : World} {base : Nat} {spare : Nat → Bool} {held : Bool}
set_option maxRecDepth 100000 in
theorem trod_ty {cs : List Value} {n : Nat} {y : DataW H × List MemPlace} (h : DataW.trod enc Tryd.prog w base spare held n 24 cs = some y) : ∃ t : Ty, cs = t.cells ∧ t.ok := by
 obtain ⟨hl, n', hf⟩ := trod_fld Tryd.underlying24 h
 obtain ⟨a, b, rfl⟩ := cs2 (hl.trans (by kernel_rfl))
 obtain ⟨_, f0⟩ := hf 0 _ rfl
 obtain ⟨_, f1⟩ := hf 1 _ rfl
 obtain ⟨s, hs, hsl⟩ := trod_str Tryd.underlying9 f0
 obtain ⟨q, hq, _⟩ := DataW.trod_bool Tryd.underlying4 f1
 have hs' : [a] = [S s] := hs
 have hq' : [b] = [.bool q] := hq
 injection hs' with hs'
 injection hq' with hq'
 exact ⟨⟨s, q⟩, by rw [hs', hq'], hsl⟩
set_option maxRecDepth 100000 in
theorem trod_vr {cs : List Value} {n : Nat} {y : DataW H × List MemPlace} (h : DataW.trod enc Tryd.prog w base spare held n 63 cs = some y) : ∃ v : Vr, cs = v.cells ∧ v.ok := by
 obtain ⟨hl, n', hf⟩ := trod_fld Tryd.underlying63 h
 obtain ⟨a, b, c, rfl⟩ := cs3 (hl.trans (by kernel_rfl))
 obtain ⟨_, f0⟩ := hf 0 _ rfl
 obtain ⟨_, f1⟩ := hf 1 _ rfl
 obtain ⟨s, hs, hsl⟩ := trod_str Tryd.underlying9 f0
 obtain ⟨t, ht, hok⟩ := trod_ty f1
 have hs' : [a] = [S s] := hs
 have ht' : [b, c] = t.cells := ht
 injection hs' with hs'
 injection ht' with h1 h2
 injection h2 with h2
 exact ⟨⟨s, t⟩, by rw [hs', h1, h2], hsl, hok⟩
set_option maxRecDepth 100000 in
theorem trod_sg {cs : List Value} {n : Nat} {y : DataW H × List MemPlace} (h : DataW.trod enc Tryd.prog w base spare held n 55 cs = some y) : ∃ m : Sg, cs = m.cells ∧ m.at_ w (fun _ => False) := by
 obtain ⟨hl, n', hf⟩ := trod_fld Tryd.underlying55 h
 obtain ⟨a, b, c, d, e, rfl⟩ := cs5 (hl.trans (by kernel_rfl))
 obtain ⟨_, f0⟩ := hf 0 _ rfl
 obtain ⟨_, f1⟩ := hf 1 _ rfl
 obtain ⟨_, f2⟩ := hf 2 _ rfl
 obtain ⟨_, f3⟩ := hf 3 _ rfl
 obtain ⟨s, hs, hsl⟩ := trod_str Tryd.underlying9 f0
 obtain ⟨q, hq, _⟩ := DataW.trod_bool Tryd.underlying4 f1
 obtain ⟨A, k, c', rfl⟩ := trod_sl (v := c) Tryd.underlying45 f2
 obtain ⟨l, hr, hll, hok, hk⟩ := open_recs (f := Ty.cells) (size := 2) Ty.ok Tryd.underlying45 (by kernel_rfl) (by decide) (fun _ => rfl) (fun cs n' y h => trod_ty h) f2
 obtain ⟨t, ht, htok⟩ := trod_ty f3
 have hs' : [a] = [S s] := hs
 have hq' : [b] = [.bool q] := hq
 have ht' : [d, e] = t.cells := ht
 injection hs' with hs'
 injection hq' with hq'
 injection ht' with h1 h2
 injection h2 with h2
 exact ⟨⟨s, q, A, k, c', l, t⟩, by rw [hs', hq', h1, h2], hr, hll, hk, hsl, htok, hok⟩
set_option maxRecDepth 100000 in
theorem trod_fc {cs : List Value} {n : Nat} {y : DataW H × List MemPlace} (h : DataW.trod enc Tryd.prog w base spare held n 43 cs = some y) : ∃ f : Fc, cs = f.cells ∧ f.at_ w (fun _ => False) := by
 obtain ⟨hl, n', hf⟩ := trod_fld Tryd.underlying43 h
 obtain ⟨a, b, c, d, rfl⟩ := cs4 (hl.trans (by kernel_rfl))
 obtain ⟨_, f0⟩ := hf 0 _ rfl
 obtain ⟨_, f1⟩ := hf 1 _ rfl
 obtain ⟨_, f2⟩ := hf 2 _ rfl
 obtain ⟨_, f3⟩ := hf 3 _ rfl
 obtain ⟨s, hs, hsl⟩ := trod_str Tryd.underlying9 f0
 obtain ⟨u, hu, hlu⟩ := trod_str Tryd.underlying9 f1
 obtain ⟨A, k, c', rfl⟩ := trod_sl (v := c) Tryd.underlying40 f2
 obtain ⟨l, hr, hll, hok, hk⟩ := open_recs (f := Vr.cells) (size := 3) Vr.ok Tryd.underlying40 (by kernel_rfl) (by decide) (fun _ => rfl) (fun cs n' y h => trod_vr h) f2
 obtain ⟨A', k', c'', rfl⟩ := trod_sl (v := d) Tryd.underlying41 f3
 obtain ⟨l', hr', hll', hok', hk'⟩ := open_recs (f := Sg.cells) (size := 5) (fun m => m.at_ w (fun _ => False)) Tryd.underlying41 (by kernel_rfl) (by decide) (fun _ => rfl) (fun cs n' y h => trod_sg h) f3
 have hs' : [a] = [S s] := hs
 have hu' : [b] = [S u] := hu
 injection hs' with hs'
 injection hu' with hu'
 exact ⟨⟨s, u, A, k, c', l, A', k', c'', l'⟩, by rw [hs', hu'], ⟨hr, hll, hk, hok⟩, ⟨hr', hll', hk', hok'⟩, hsl, hlu⟩
end
end Go.Proofs.YtmbegaobnpoefaaDoor
namespace Go.Proofs.YtmbegaobnpoefaaDoor
open Go.RowKit
theorem name_world {P : Program} {c : Code} {Q : Exit → Act → World → Prop} {a : Act} {w : World} (h : ∀ wB, wB = w → c.wp P Q a wB) : c.wp P Q a w := h w rfl
structure SgP where
 n : List UInt8
 st : Bool
 ps : List Ty
 r : Ty
deriving DecidableEq
structure FcP where
 n : List UInt8
 su : List UInt8
 fs : List Vr
 ms : List SgP
deriving DecidableEq
def Sg.pl (m : Sg) : SgP := ⟨m.n, m.st, m.ps, m.r⟩
def Fc.pl (f : Fc) : FcP := ⟨f.n, f.su, f.fs, f.ms.map Sg.pl⟩
structure MtP where
 m : SgP
 c : List UInt8
deriving DecidableEq
structure FdP where
 v : Vr
 c : List UInt8
deriving DecidableEq
structure BdP where
 lo : Int
 sk : Int
 code : List (Int × Int)
deriving DecidableEq
structure PoolP where
 nums : List Int
 cls : List (List UInt8)
 tys : List Ty
 fds : List FdP
 mts : List MtP
structure FileP where
 f : FcP
 p : PoolP
 b : List BdP
end Go.Proofs.YtmbegaobnpoefaaDoor
