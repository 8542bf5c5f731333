/- Statements as trees: their plain form, how they lie in memory, their text; no statement of the seat is proved here. -/
import Derived.Test.YtleccalfcnkklaaDoorBdr
import Derived.Test.YtleccalfcnkklaaDoorTreeTextE
namespace Go.Proofs.YtleccalfcnkklaaDoor
open Go.ChangeShapes Go.WideShapes Go.ChangeAt Go.RowKit Go.Deep

/-- A statement as it lies: what it does, place, name, type, expressions, then, else. -/
inductive St where
  | mk (ds ln co : Int) (n tn : List UInt8) (ta : Bool) (eA : Option Addr) (ek ec : Nat) (es : List Ex) (tA : Option Addr) (tk tc : Nat) (ts : List St) (lA : Option Addr) (lk lc : Nat) (ls : List St)
def St.es : St → List Ex | .mk _ _ _ _ _ _ _ _ _ es _ _ _ _ _ _ _ _ => es
def St.ts : St → List St | .mk _ _ _ _ _ _ _ _ _ _ _ _ _ ts _ _ _ _ => ts
def St.ls : St → List St | .mk _ _ _ _ _ _ _ _ _ _ _ _ _ _ _ _ _ ls => ls
def St.cells : St → List Value | .mk ds ln co n tn ta eA ek ec _ tA tk tc _ lA lk lc _ => [.int .i64 ds, .int .i64 ln, .int .i64 co, S n, S tn, .bool ta, .slice eA ek ec, .slice tA tk tc, .slice lA lk lc]
def St.val (s : St) : Value := .agg s.cells.toArray
theorem St.cells_len (s : St) : s.cells.length = 9 := by cases s; rfl

theorem St.ind {P : St → Prop} (h : ∀ s, (∀ x ∈ s.ts, P x) → (∀ x ∈ s.ls, P x) → P s) : ∀ s, P s
  | .mk ds ln co n tn ta eA ek ec es tA tk tc ts lA lk lc ls => h _ (fun x _hx => St.ind h x) (fun x _hx => St.ind h x)
termination_by s => SizeOf.sizeOf s
decreasing_by
  · have := List.sizeOf_lt_of_mem (show x ∈ ts from _hx)
    simp only [St.mk.sizeOf_spec]
    omega
  · have := List.sizeOf_lt_of_mem (show x ∈ ls from _hx)
    simp only [St.mk.sizeOf_spec]
    omega

/-- A statement reads as it says. -/
inductive St.At (w : World) (F : Nat → Prop) : St → Prop
  | mk {ds ln co : Int} {n tn : List UInt8} {ta : Bool} {eA : Option Addr} {ek ec : Nat} {es : List Ex} {tA : Option Addr} {tk tc : Nat} {ts : List St} {lA : Option Addr} {lk lc : Nat} {ls : List St}
      (hr : Rd w F 11 eA ek (es.flatMap Ex.cells)) (hl : es.length = ek) (hkc : ek ≤ ec) (hk : ec ≤ 9223372036854775807) (he : ∀ x ∈ es, x.At w F)
      (tr : Rd w F 9 tA tk (ts.flatMap St.cells)) (tl : ts.length = tk) (tkc : tk ≤ tc) (tk' : tc ≤ 9223372036854775807) (ht : ∀ x ∈ ts, St.At w F x)
      (lr : Rd w F 9 lA lk (ls.flatMap St.cells)) (ll : ls.length = lk) (lkc : lk ≤ lc) (lk' : lc ≤ 9223372036854775807) (hla : ∀ x ∈ ls, St.At w F x)
      (hi : i64B ds) (hs : n.length ≤ 140737488351232 ∧ tn.length ≤ 140737488351232) :
      St.At w F (.mk ds ln co n tn ta eA ek ec es tA tk tc ts lA lk lc ls)

section
variable {w w' : World} {F G : Nat → Prop} {B : Nat}
theorem St.At.bel {s : St} (h : s.At w (fun k => B ≤ k)) (hk : Below B w w') : s.At w' (fun k => B ≤ k) := by
  induction h with
  | mk hr hl hkc hk' he tr tl tkc tk' _ lr ll lkc lk' _ hi hs iht ihl => exact .mk (hr.below hk) hl hkc hk' (fun x hx => (he x hx).bel hk) (tr.below hk) tl tkc tk' iht (lr.below hk) ll lkc lk' ihl hi hs
theorem St.At.weak {s : St} (h : s.At w F) (hs : ∀ k, G k → F k) : s.At w G := by
  induction h with
  | mk hr hl hkc hk' he tr tl tkc tk' _ lr ll lkc lk' _ hi hs' iht ihl => exact .mk (hr.weak fun k _ => hs k) hl hkc hk' (fun x hx => (he x hx).weak hs) (tr.weak fun k _ => hs k) tl tkc tk' iht (lr.weak fun k _ => hs k) ll lkc lk' ihl hi hs'
theorem St.At.old {s : St} (h : s.At w (fun _ => False)) : s.At w (fun k => w.heap.size ≤ k) := by
  induction h with
  | mk hr hl hkc hk' he tr tl tkc tk' _ lr ll lkc lk' _ hi hs' iht ihl => exact .mk hr.old hl hkc hk' (fun x hx => (he x hx).old) tr.old tl tkc tk' iht lr.old ll lkc lk' ihl hi hs'
/-- At a later world, all that was there untouched. -/
theorem St.At.on {s : St} (h : s.At w (fun k => w.heap.size ≤ k)) (hb : Below w.heap.size w w') : s.At w' (fun k => w'.heap.size ≤ k) :=
  (h.bel hb).weak fun _ hk => Nat.le_trans hb.size hk
end

/-! The plain text. -/
def tyT (tn : List UInt8) (ta : Bool) : List UInt8 := if ta then tn ++ [91, 93] else tn
def blockT (d : Nat) (tx : List (List UInt8)) : List UInt8 := [123, 10] ++ tx.flatten ++ tabs d ++ [125]
def elseT (d k : Nat) (tx : List (List UInt8)) : List UInt8 := if k = 0 then [] else [32, 101, 108, 115, 101, 32] ++ blockT d tx
def stK (ds : Int) (tab ty n e0 e1 tb lb : List UInt8) : List UInt8 :=
  if ds = 1 then tab ++ [108, 101, 116, 32] ++ ty ++ [32] ++ n ++ [32, 61, 32] ++ e0 ++ [59, 10]
  else if ds = 2 then tab ++ e0 ++ [32, 61, 32] ++ e1 ++ [59, 10]
  else if ds = 4 then tab ++ [105, 102, 32] ++ e0 ++ [32] ++ tb ++ lb ++ [10]
  else if ds = 5 then tab ++ [119, 104, 105, 108, 101, 32] ++ e0 ++ [32] ++ tb ++ [10]
  else if ds = 6 then tab ++ [114, 101, 116, 117, 114, 110, 32] ++ e0 ++ [59, 10]
  else if ds = 7 then tab ++ [112, 114, 105, 110, 116, 32] ++ e0 ++ [59, 10]
  else tab ++ e0 ++ [59, 10]
def St.text : St → Nat → List UInt8
  | .mk ds _ _ n tn ta _ _ _ es _ _ _ ts _ _ _ ls, d =>
    stK ds (tabs d) (tyT tn ta) n (kidT (es.map Ex.text) 0) (kidT (es.map Ex.text) 1) (blockT d (ts.attach.map fun x => x.1.text (d + 1))) (elseT d ls.length (ls.attach.map fun x => x.1.text (d + 1)))
termination_by s => SizeOf.sizeOf s
decreasing_by
  · have := List.sizeOf_lt_of_mem x.2
    simp only [St.mk.sizeOf_spec]
    omega
  · have := List.sizeOf_lt_of_mem x.2
    simp only [St.mk.sizeOf_spec]
    omega
theorem St.text_mk (ds ln co : Int) (n tn : List UInt8) (ta : Bool) (eA : Option Addr) (ek ec : Nat) (es : List Ex) (tA : Option Addr) (tk tc : Nat) (ts : List St) (lA : Option Addr) (lk lc : Nat) (ls : List St) (d : Nat) :
    (St.mk ds ln co n tn ta eA ek ec es tA tk tc ts lA lk lc ls).text d = stK ds (tabs d) (tyT tn ta) n (kidT (es.map Ex.text) 0) (kidT (es.map Ex.text) 1) (blockT d (ts.map fun x => x.text (d + 1))) (elseT d ls.length (ls.map fun x => x.text (d + 1))) := by
  rw [St.text, List.attach_map_val (f := fun x : St => x.text (d + 1)), List.attach_map_val (f := fun x : St => x.text (d + 1))]

/-- What is needed that the text can be made: no expression and no block is longer than memory bears. -/
inductive St.Fits : St → Nat → Prop
  | mk {ds ln co : Int} {n tn : List UInt8} {ta : Bool} {eA : Option Addr} {ek ec : Nat} {es : List Ex} {tA : Option Addr} {tk tc : Nat} {ts : List St} {lA : Option Addr} {lk lc : Nat} {ls : List St} {d : Nat}
      (hd : d ≤ 1000) (he : ∀ x ∈ es, x.len ≤ 1099511627776) (hn : n.length ≤ 1099511627776) (htn : tn.length ≤ 1099511627776)
      (hb : (blockT d (ts.map fun x => x.text (d + 1))).length ≤ 225000000000000) (hlb : (blockT d (ls.map fun x => x.text (d + 1))).length ≤ 225000000000000)
      (ht : ∀ x ∈ ts, St.Fits x (d + 1)) (hl : ∀ x ∈ ls, St.Fits x (d + 1)) :
      St.Fits (.mk ds ln co n tn ta eA ek ec es tA tk tc ts lA lk lc ls) d
end Go.Proofs.YtleccalfcnkklaaDoor
