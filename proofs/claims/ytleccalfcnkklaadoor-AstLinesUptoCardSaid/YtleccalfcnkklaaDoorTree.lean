/- Expressions as trees: their plain form, how they lie in memory, their text; no statement of the seat is proved here. -/
import Derived.Test.YtleccalfcnkklaaDoorLight
import Derived.Test.YtleccalfcnkklaaDoorAstShelf
import Derived.Lib.Join
import Derived.Test.YtleccalfcnkklaaDoorAstTy
namespace Go.Proofs.YtleccalfcnkklaaDoor
open Go.ChangeShapes Go.WideShapes Go.ChangeAt Go.RowKit Go.Deep

def i64B (z : Int) : Prop := -9223372036854775808 ≤ z ∧ z ≤ 9223372036854775807
/-- An expression as it lies: kind, place, number, name, type, parts in a slice, type and owner as the checker says. -/
inductive Ex where
  | mk (kd ln co nu : Int) (n tn : List UInt8) (ta : Bool) (A : Option Addr) (k c : Nat) (ks : List Ex) (on : List UInt8) (oa : Bool) (ow : List UInt8)
def Ex.ks : Ex → List Ex | .mk _ _ _ _ _ _ _ _ _ _ ks _ _ _ => ks
abbrev exC (kd ln co nu : Int) (n tn : List UInt8) (ta : Bool) (A : Option Addr) (k c : Nat) (on : List UInt8) (oa : Bool) (ow : List UInt8) : List Value := [.int .i64 kd, .int .i64 ln, .int .i64 co, .int .i64 nu, S n, S tn, .bool ta, .slice A k c, S on, .bool oa, S ow]
def Ex.cells : Ex → List Value | .mk kd ln co nu n tn ta A k c _ on oa ow => exC kd ln co nu n tn ta A k c on oa ow
def Ex.val (e : Ex) : Value := .agg e.cells.toArray
theorem Ex.cells_len (e : Ex) : e.cells.length = 11 := by cases e; rfl

theorem Ex.ind {P : Ex → Prop} (h : ∀ e, (∀ x ∈ e.ks, P x) → P e) : ∀ e, P e
  | .mk kd ln co nu n tn ta A k c ks on oa ow => h _ fun x _hx => Ex.ind h x
termination_by e => SizeOf.sizeOf e
decreasing_by
  have := List.sizeOf_lt_of_mem (show x ∈ ks from _hx)
  simp only [Ex.mk.sizeOf_spec]
  omega

/-- A tree reads as it says. -/
inductive Ex.At (w : World) (F : Nat → Prop) : Ex → Prop
  | mk {kd ln co nu : Int} {n tn : List UInt8} {ta : Bool} {A : Option Addr} {k c : Nat} {ks : List Ex} {on : List UInt8} {oa : Bool} {ow : List UInt8}
      (hr : Rd w F 11 A k (ks.flatMap Ex.cells)) (hl : ks.length = k) (hkc : k ≤ c) (hk : c ≤ 9223372036854775807) (hi : i64B kd ∧ i64B nu) (hs : n.length ≤ 140737488351232 ∧ tn.length ≤ 140737488351232) (hall : ∀ x ∈ ks, Ex.At w F x) :
      Ex.At w F (.mk kd ln co nu n tn ta A k c ks on oa ow)

section
variable {w w' : World} {F G : Nat → Prop} {B : Nat}
theorem Ex.At.bel {e : Ex} (h : e.At w (fun k => B ≤ k)) (hk : Below B w w') : e.At w' (fun k => B ≤ k) := by
  induction h with
  | mk hr hl hkc hk' hi hs _ ih => exact .mk (hr.below hk) hl hkc hk' hi hs ih
theorem Ex.At.weak {e : Ex} (h : e.At w F) (hs : ∀ k, G k → F k) : e.At w G := by
  induction h with
  | mk hr hl hkc hk' hi hs' _ ih => exact .mk (hr.weak fun k _ => hs k) hl hkc hk' hi hs' ih
theorem Ex.At.old {e : Ex} (h : e.At w (fun _ => False)) : e.At w (fun k => w.heap.size ≤ k) := by
  induction h with
  | mk hr hl hkc hk' hi hs' _ ih => exact .mk hr.old hl hkc hk' hi hs' ih
/-- At a later world, all that was there untouched. -/
theorem Ex.At.on {e : Ex} (h : e.At w (fun k => w.heap.size ≤ k)) (hb : Below w.heap.size w w') : e.At w' (fun k => w'.heap.size ≤ k) :=
  (h.bel hb).weak fun _ hk => Nat.le_trans hb.size hk
end

/-! The plain text. -/
def nul : List UInt8 := [110, 117, 108, 108]
def kidT (ts : List (List UInt8)) (i : Nat) : List UInt8 := ts.getD i nul
def joinC (ts : List (List UInt8)) : List UInt8 := Lib.join ts [44, 32]
def textK (kd nu : Int) (n tn : List UInt8) (ts : List (List UInt8)) : List UInt8 :=
  if kd = 1 then Lib.itoa nu else if kd = 2 then [116, 114, 117, 101] else if kd = 3 then [102, 97, 108, 115, 101] else if kd = 5 then [116, 104, 105, 115] else if kd = 6 then n
  else if kd = 7 then kidT ts 0 ++ [46] ++ n
  else if kd = 8 then kidT ts 0 ++ [46] ++ n ++ [40] ++ joinC (ts.drop 1) ++ [41]
  else if kd = 9 then tn ++ [46] ++ n ++ [40] ++ joinC ts ++ [41]
  else if kd = 10 then [40, 110, 101, 119, 32] ++ tn ++ [41]
  else if kd = 11 then [110, 101, 119, 32] ++ tn ++ [91] ++ kidT ts 0 ++ [93]
  else if kd = 12 then kidT ts 0 ++ [91] ++ kidT ts 1 ++ [93]
  else if kd = 13 then kidT ts 0 ++ [46, 108, 101, 110, 103, 116, 104]
  else if kd = 14 then [40, 45] ++ kidT ts 0 ++ [41]
  else if kd = 15 then [40, 33] ++ kidT ts 0 ++ [41]
  else if kd = 16 then [40] ++ kidT ts 0 ++ [32] ++ n ++ [32] ++ kidT ts 1 ++ [41]
  else if kd = 17 then [40] ++ kidT ts 0 ++ [32, 38, 38, 32] ++ kidT ts 1 ++ [41]
  else if kd = 18 then [40] ++ kidT ts 0 ++ [32, 124, 124, 32] ++ kidT ts 1 ++ [41]
  else if kd = 19 then [40] ++ kidT ts 0 ++ [32, 97, 115, 32] ++ tn ++ [41]
  else if kd = 20 then [40] ++ kidT ts 0 ++ [32, 105, 115, 32] ++ tn ++ [41]
  else nul
def Ex.text : Ex → List UInt8
  | .mk kd _ _ nu n tn _ _ _ _ ks _ _ _ => textK kd nu n tn (ks.attach.map fun x => x.1.text)
termination_by e => SizeOf.sizeOf e
decreasing_by
  have := List.sizeOf_lt_of_mem x.2
  simp only [Ex.mk.sizeOf_spec]
  omega
theorem Ex.text_mk (kd ln co nu : Int) (n tn : List UInt8) (ta : Bool) (A : Option Addr) (k c : Nat) (ks : List Ex) (on : List UInt8) (oa : Bool) (ow : List UInt8) : (Ex.mk kd ln co nu n tn ta A k c ks on oa ow).text = textK kd nu n tn (ks.map Ex.text) := by
  rw [Ex.text]
  congr 1
  rw [List.attach_map_val (f := Ex.text)]

/-- A bound on an expression's text. -/
def Ex.len : Ex → Nat
  | .mk _ _ _ _ n tn _ _ _ _ ks _ _ _ => 64 + n.length + tn.length + (ks.attach.map fun x => x.1.len).sum
termination_by e => SizeOf.sizeOf e
decreasing_by
  have := List.sizeOf_lt_of_mem x.2
  simp only [Ex.mk.sizeOf_spec]
  omega
theorem Ex.len_mk (kd ln co nu : Int) (n tn : List UInt8) (ta : Bool) (A : Option Addr) (k c : Nat) (ks : List Ex) (on : List UInt8) (oa : Bool) (ow : List UInt8) : (Ex.mk kd ln co nu n tn ta A k c ks on oa ow).len = 64 + n.length + tn.length + (ks.map Ex.len).sum := by
  rw [Ex.len]
  congr 2
  rw [List.attach_map_val (f := Ex.len)]
theorem sum_mem {α : Type} {f : α → Nat} : ∀ {l : List α} {x : α}, x ∈ l → f x ≤ (l.map f).sum
  | [], _, h => by cases h
  | a :: l, x, h => by
    rw [List.map_cons, List.sum_cons]
    rcases List.mem_cons.1 h with rfl | h
    · omega
    · have := sum_mem (f := f) h; omega
theorem sum_le {α : Type} {f g : α → Nat} : ∀ {l : List α}, (∀ x ∈ l, f x ≤ g x) → (l.map f).sum ≤ (l.map g).sum
  | [], _ => Nat.le_refl _
  | a :: l, h => by
    rw [List.map_cons, List.map_cons, List.sum_cons, List.sum_cons]
    have h1 := h a List.mem_cons_self
    have h2 := sum_le (f := f) (g := g) fun x hx => h x (List.mem_cons_of_mem _ hx)
    omega
theorem Ex.len_pos (e : Ex) : 64 ≤ e.len := by cases e; rw [Ex.len_mk]; omega
theorem sum_count {α : Type} {f : α → Nat} {b : Nat} : ∀ {l : List α}, (∀ x ∈ l, b ≤ f x) → l.length * b ≤ (l.map f).sum
  | [], _ => by simp
  | a :: l, h => by
    rw [List.map_cons, List.sum_cons, List.length_cons, Nat.add_mul]
    have h1 := h a List.mem_cons_self
    have h2 := sum_count (f := f) fun x hx => h x (List.mem_cons_of_mem _ hx)
    omega
theorem join_len (ts : List (List UInt8)) (sep : List UInt8) : (Lib.join ts sep).length ≤ (ts.map List.length).sum + ts.length * sep.length := by
  induction ts with
  | nil => simp [Lib.join, List.intercalate]
  | cons a l ih =>
    cases l with
    | nil => simp [Lib.join, List.intercalate]
    | cons b r =>
      have e : Lib.join (a :: b :: r) sep = a ++ sep ++ Lib.join (b :: r) sep := by simp [Lib.join, List.intercalate, List.intersperse]
      rw [e, List.length_append, List.length_append]
      simp only [List.map_cons, List.sum_cons, List.length_cons, Nat.add_mul] at ih ⊢
      omega
end Go.Proofs.YtleccalfcnkklaaDoor
