/- Small lemmas on worlds, blocks and byte strings that the other texts of this seat use; no statement of the seat is proved here. -/
import Derived.WalkKit
import Derived.WalkSpells
import Derived.WalkLawsBesides
import Derived.Below
import Derived.Laws.OwnMore
import Derived.Laws.CopyOwn
import Derived.Laws.Rows
import Derived.Laws.IdiomStrings
import Derived.Laws.BytesArg
import Derived.Laws.Concat
import Derived.Deep.Draws
import Derived.Maps.AppendAt
import Derived.Lib.Hide
import Derived.Lib.Strings
import Derived.Lib.BufferRead
import Derived.Deep.QuietTactic
import Derived.BigQuiet
import Derived.Lib.AppendStr
import Derived.ProofKit
import Derived.OpenShut
import Derived.SliceStrings
import Derived.Deep.Slices
import Derived.Deep.Fields
import Derived.ShutString
import Derived.ChangeOld
namespace Go.Proofs.YtmbegaobnpoefaaDoor
open Go.RowKit
theorem ba_get (l : List UInt8) (k : Nat) (h : k < (ByteArray.mk l.toArray).size) : (ByteArray.mk l.toArray)[k] = l[k]'h := rfl
theorem take_drop_rest (l : List UInt8) (a : Nat) : List.take (l.length - a) (List.drop a l) = List.drop a l := List.take_of_length_le (by simp)
attribute [go_sem] ByteArray.extract_mk ByteArray.mk_append_mk ba_get take_drop_rest
abbrev S (l : List UInt8) : Value := .string ⟨l.toArray⟩
theorem S_of (s : ByteArray) : Value.string s = S s.data.toList := by
 show Value.string s = Value.string ⟨s.data.toList.toArray⟩
 rw [Lib.mk_data]
def Gives (w : World) (v : Value) (e : Ending) (w' : World) : Prop := e = .returned v ∧ Below w.heap.size w w'
structure After (w : World) where
 val : World
 prop : Below w.heap.size w val
instance (w : World) : Nonempty (After w) := ⟨⟨w, Below.refl _ _⟩⟩
theorem region_after {P : Program} {id : Nat} {Q : Exit → Act → World → Prop} {a : Act} {w : World} {l : List Oper} (hm : P.follows .mixedOrders = true) (hB : Region.lexB .any l.toArray = true)
  (h : wpQuiet P l.toArray (fun w' => ∃ t : After w, w' = t.val) (fun a' => ∀ w', (∃ t : After w, w' = t.val) → Q .normal a' w') l a) : (Code.region id l.toArray true).wp P Q a w :=
 wp_region_quiet (C := fun w' => ∃ t : After w, w' = t.val) hm hB ⟨⟨w.drew, (Below.refl _ _).drew⟩, rfl⟩ (by simpa using h)
theorem call_after {P : Program} {f : FuncId} {args : Array Value} {v : Value} {w : World} {t : After w} (h : Calls P f args t.val (Gives t.val v)) :
  Calls P f args t.val (fun e w' => e = .returned v ∧ ∃ m : After w, w' = m.val) :=
 h.mono fun _ _ ⟨he, hb⟩ => ⟨he, ⟨⟨_, t.prop.trans (hb.mono t.prop.size)⟩, rfl⟩⟩
theorem bdrewN {B : Nat} {a w : World} (h : Below B a w) (n : Nat) : Below B a (w.drewN n) := ⟨h.os, h.tape, h.output, h.size, h.block⟩
theorem hide {p : Prop} (h : p) : Hid p := h
structure Keep (F : Nat → Prop) (w w' : World) : Prop where
 os : w'.os = w.os
 tape : w'.tape = w.tape
 output : w'.output = w.output
 size : w.heap.size ≤ w'.heap.size
 block : ∀ k, k < w.heap.size → ¬ F k → w'.heap[k]? = w.heap[k]?
section
variable {F G : Nat → Prop} {w w1 w2 : World}
theorem Keep.refl (F : Nat → Prop) (w : World) : Keep F w w := ⟨rfl, rfl, rfl, Nat.le_refl _, fun _ _ _ => rfl⟩
theorem Keep.mono (h : Keep F w w1) (hs : ∀ k, k < w.heap.size → F k → G k) : Keep G w w1 :=
 ⟨h.os, h.tape, h.output, h.size, fun k hk hn => h.block k hk fun hf => hn (hs k hk hf)⟩
theorem Keep.trans' (h : Keep F w w1) (k : Keep G w1 w2) (hs : ∀ i, i < w.heap.size → G i → F i) : Keep F w w2 :=
 ⟨k.os.trans h.os, k.tape.trans h.tape, k.output.trans h.output, Nat.le_trans h.size k.size,
  fun i hi hn => (k.block i (Nat.lt_of_lt_of_le hi h.size) fun hg => hn (hs i hi hg)).trans (h.block i hi hn)⟩
theorem Keep.tr (h : Keep F w w1) (k : Keep F w1 w2) : Keep F w w2 := h.trans' k fun _ _ h => h
theorem Keep.drew (h : Keep F w w1) : Keep F w w1.drew := ⟨h.os, h.tape, h.output, h.size, h.block⟩
theorem Keep.drewN (h : Keep F w w1) (n : Nat) : Keep F w (w1.drewN n) := ⟨h.os, h.tape, h.output, h.size, h.block⟩
theorem Keep.alloc (h : Keep F w w1) (o : Obj) : Keep F w (w1.alloc o) :=
 h.trans' (G := F) ⟨rfl, rfl, rfl, by simp, fun k hk _ => Below.heap_alloc _ _ _ hk⟩ fun _ _ h => h
theorem Keep.setCell (h : Keep F w w1) {p : Addr} (hp : p.block < w.heap.size → F p.block) (u : Value) : Keep F w (w1.setCell p u) :=
 h.trans' (G := fun i => i = p.block) ⟨rfl, rfl, rfl, by simp [World.setCell], fun k _ hn => Below.heap_setCell _ _ _ _ hn⟩ fun i hi e => by subst e; exact hp hi
theorem Keep.grown (h : Keep F w w1) {row : Option Nat} (hg : w1.grownBy w2 row) (hr : ∀ k, row = some k → k < w.heap.size → F k) : Keep F w w2 :=
 h.trans' (G := fun i => some i = row) ⟨hg.os, hg.tape, hg.output, hg.size, fun k hk hn => hg.block k hk hn⟩ fun i hi e => hr i e.symm hi
theorem Keep.of_below {B : Nat} (h : Below B w w1) (hB : ∀ k, k < w.heap.size → B ≤ k → F k) : Keep F w w1 :=
 ⟨h.os, h.tape, h.output, h.size, fun k hk hn => h.block k (Nat.lt_of_not_le fun hb => hn (hB k hk hb))⟩
theorem Keep.below {B : Nat} (h : Keep F w w1) (hB : B ≤ w.heap.size) (hF : ∀ k, F k → B ≤ k) : Below B w w1 :=
 ⟨h.os, h.tape, h.output, h.size, fun k hk => h.block k (by omega) fun hf => by have := hF k hf; omega⟩
theorem Keep.cell (h : Keep F w w1) {p : Addr} (hp : p.block < w.heap.size) (hn : ¬ F p.block) : w1.cell? p = w.cell? p :=
 World.cell?_of_block (w := w) (h.block p.block hp hn)
end
def Blk (w : World) (g : Nat) (t : TypeId) (cs : Array Value) : Prop := w.heap[g]? = some (.cells cs t (0, 0))
section
variable {w w' : World} {g : Nat} {t : TypeId} {cs : Array Value}
theorem Blk.lt (h : Blk w g t cs) : g < w.heap.size := by
 rcases Nat.lt_or_ge g w.heap.size with hlt | hge
 ·exact hlt
 ·unfold Blk at h; rw [Array.getElem?_eq_none hge] at h; cases h
theorem Blk.cell (h : Blk w g t cs) (i : Nat) : w.cell? ⟨g, i, none⟩ = cs[i]? := cell_of_row w g i cs t (0, 0) h
theorem Blk.frozen (h : Blk w g t cs) (i : Nat) : w.frozen? ⟨g, i, none⟩ = false := by
 unfold Blk at h
 simp [World.frozen?, h]
theorem Blk.new (w : World) (t : TypeId) (cs : Array Value) : Blk (w.alloc (.cells cs t)) w.heap.size t cs := heap_alloc_new w _
theorem Blk.drew (h : Blk w g t cs) : Blk w.drew g t cs := h
theorem Blk.alloc (h : Blk w g t cs) (o : Obj) : Blk (w.alloc o) g t cs := (Below.heap_alloc w o g h.lt).trans h
theorem Blk.set_ (h : Blk w g t cs) (i : Nat) (u : Value) : Blk (w.setCell ⟨g, i, none⟩ u) g t (cs.setIfInBounds i u) := by
 unfold Blk at h ⊢
 simp [World.setCell, Array.getElem?_modify, h]
theorem Blk.far (h : Blk w g t cs) {p : Addr} (hp : g ≠ p.block) (u : Value) : Blk (w.setCell p u) g t cs := (Below.heap_setCell w p u g hp).trans h
theorem Blk.below {B : Nat} (h : Blk w g t cs) (hb : Below B w w') (hg : g < B) : Blk w' g t cs := (hb.block g hg).trans h
theorem Blk.keep {F : Nat → Prop} (h : Blk w g t cs) (hb : Keep F w w') (hg : ¬ F g) : Blk w' g t cs := (hb.block g h.lt hg).trans h
theorem Blk.grown {row : Option Nat} (h : Blk w g t cs) (hb : w.grownBy w' row) (hg : some g ≠ row) : Blk w' g t cs := (hb.block g h.lt hg).trans h
theorem Blk.ne_ {g' : Nat} {t' : TypeId} {cs' : Array Value} (h : Blk w g t cs) (h' : Blk w g' t' cs') (hne : t ≠ t') : g ≠ g' := by
 rintro rfl
 unfold Blk at h h'
 rw [h] at h'
 injection h' with h'
 injection h' with _ ht
 exact hne ht
theorem own_blk_ne {base : Nat} {e : TypeId} {size n : Nat} {v : Value} {xs : List Value} (h : w.ownsRow base e size v n xs) (hg : Blk w g t cs) (hne : e ≠ t) : v.ownBlock ≠ some g := by
 rcases h.2 with ⟨rfl, _⟩ | ⟨g', cap, cur, rfl, _, hh, _⟩
 ·simp [Value.ownBlock]
 ·intro he
  have : g' = g := by simpa [Value.ownBlock] using he
  subst this
  exact Blk.ne_ (t := e) hh hg hne rfl
end
theorem own_keep {F : Nat → Prop} {w w' : World} {base : Nat} {e : TypeId} {size n : Nat} {v : Value} {xs : List Value} (h : w.ownsRow base e size v n xs) (hb : Keep F w w') (hn : ∀ k, v.ownBlock = some k → ¬ F k) :
  w'.ownsRow base e size v n xs := by
 refine ⟨h.1, ?_⟩
 rcases h.2 with h2 | ⟨g, cap, cur, hv, hg, hh, r⟩
 ·exact .inl h2
 ·refine .inr ⟨g, cap, cur, hv, hg, ?_, r⟩
  rw [hb.block g (Array.getElem?_eq_some_iff.1 hh).1 (hn g (by rw [hv]; rfl))]
  exact hh
theorem own_slice {w : World} {base : Nat} {e : TypeId} {size n : Nat} {v : Value} {xs : List Value} (h : w.ownsRow base e size v n xs) : ∃ a c, v = .slice a n c := by
 rcases h.2 with ⟨rfl, rfl⟩ | ⟨g, cap, cur, rfl, _⟩
 ·exact ⟨_, _, rfl⟩
 ·exact ⟨_, _, rfl⟩
theorem app1 {P : Program} {w : World} {ops : Array Oper} {rest : List Oper} {o : Oper} {a : Act} {Q : Exit → Act → World → Prop} (hgd : o.guard = none) (s x : Operand) (t : TypeId)
  (ho : o.op = .call { callee := .builtin .append, args := #[s, x], argTypes := #[t, t] })
  (base : Nat) (e : TypeId) (z : Value) (bytes : Nat) (ht : P.underlying t = some (.slice e)) (hinfo : (P.info? e).map (fun i => (i.zero, i.size, i.bytes)) = some (some z, 1, bytes)) (hzs : z.cells.size = 1)
  (v : Value) (n : Nat) (xs : List Value) (hs : a.eval s = v) (hown : w.ownsRow base e 1 v n xs) (u : Value) (h1 : u.oneCell' = true)
  (hx : a.eval x = .slice (some ⟨w.heap.size, 0, none⟩) 1 1) (hbytes : (n + 1) * bytes ≤ 140737488355328) (h63 : n + 1 ≤ 140737488355328) (hbase : base ≤ w.heap.size)
  (h : ∀ a' c' w', w'.ownsRow base e 1 (.slice a' (n + 1) c') (n + 1) (xs ++ [u]) → w.grownBy w' v.ownBlock → ((Value.slice a' (n + 1) c').ownBlock = v.ownBlock ∨ (Value.slice a' (n + 1) c').ownBlock = some (w.heap.size + 1)) → wpList P ops Q rest (a.put o.dst (.slice a' (n + 1) c')) w') :
  wpList P ops Q (o :: rest) a (w.alloc (.cells #[u] e)) := by
 obtain ⟨i, hi, hz, hz1, hz2⟩ := info_parts hinfo
 refine wpList_append_own_at _ hgd s x t ho base e i z 1 bytes ht hi hz hz1 hz2 hzs (by decide) v n xs hs (hown.alloc _) ⟨w.heap.size, 0, none⟩ 1 1 [u] hx rfl (cell_one_new _ _ _) (by simpa using h1) (by unfold maxLen; omega) hbytes (by simp; omega) ?_
 intro v' w' hown' hg _ hat
 obtain ⟨a', c', rfl⟩ := own_slice hown'
 exact h a' c' w' hown' (World.grownBy.trans (World.grownBy_alloc w _ _) hg) (by simpa using hat)
def Rd (w : World) (F : Nat → Prop) (size : Nat) (A : Option Addr) (n : Nat) (xs : List Value) : Prop :=
 xs.length = n * size ∧ (0 < n → ∃ b o, A = some ⟨b, o, none⟩ ∧ ¬ F b ∧ b < w.heap.size ∧ ∀ j u, xs[j]? = some u → w.cell? ⟨b, o + j, none⟩ = some u)
section
variable {w w' : World} {F G : Nat → Prop} {size n : Nat} {A : Option Addr} {xs : List Value}
theorem Rd.nil (w : World) (F : Nat → Prop) (size : Nat) (A : Option Addr) : Rd w F size A 0 [] := ⟨by simp, fun h => absurd h (Nat.lt_irrefl 0)⟩
theorem Rd.keep (h : Rd w F size A n xs) (hk : Keep F w w') : Rd w' F size A n xs :=
 ⟨h.1, fun hn => by
  obtain ⟨b, o, e, hf, hlt, hc⟩ := h.2 hn
  exact ⟨b, o, e, hf, Nat.lt_of_lt_of_le hlt hk.size, fun j u hu => (hk.cell (p := ⟨b, o + j, none⟩) hlt hf).trans (hc j u hu)⟩⟩
theorem Rd.weak (h : Rd w F size A n xs) (hs : ∀ k, k < w.heap.size → G k → F k) : Rd w G size A n xs :=
 ⟨h.1, fun hn => by
  obtain ⟨b, o, e, hf, hlt, hc⟩ := h.2 hn
  exact ⟨b, o, e, fun hg => hf (hs b hlt hg), hlt, hc⟩⟩
theorem Rd.drew (h : Rd w F size A n xs) : Rd w.drew F size A n xs := h
theorem Rd.alloc (h : Rd w F size A n xs) (o : Obj) : Rd (w.alloc o) F size A n xs := h.keep ((Keep.refl F w).alloc o)
theorem Rd.old (h : Rd w F size A n xs) : Rd w (fun k => w.heap.size ≤ k) size A n xs :=
 ⟨h.1, fun hn => by
  obtain ⟨b, o, e, hf, hlt, hc⟩ := h.2 hn
  exact ⟨b, o, e, by omega, hlt, hc⟩⟩
theorem Rd.below {B : Nat} (h : Rd w (fun k => B ≤ k) size A n xs) (hk : Below B w w') : Rd w' (fun k => B ≤ k) size A n xs :=
 h.keep (Keep.of_below hk fun _ _ h => h)
theorem Rd.at_ (h : Rd w F 1 A n xs) (j : Nat) (hj : j < n) : ∃ b o u, A = some ⟨b, o, none⟩ ∧ xs[j]? = some u ∧ w.cell? ⟨b, o + j, none⟩ = some u := by
 obtain ⟨b, o, e, hf, hlt, hc⟩ := h.2 (by omega)
 have hl := h.1
 rw [Nat.mul_one] at hl
 have hu : xs[j]? = some (xs[j]'(by omega)) := List.getElem?_eq_getElem (by omega)
 exact ⟨b, o, _, e, hu, hc j _ hu⟩
end
end Go.Proofs.YtmbegaobnpoefaaDoor
namespace Go.Proofs.YtmbegaobnpoefaaDoor
open Go.ChangeShapes Go.WideShapes Go.ChangeAt Go.RowKit Go.Deep
open Go.ChangeMaps (open_string shut_string)
section
variable {H : Type} {enc : TypeId × Value → H} {P : Program} {w : World} {base : Nat} {spare : Nat → Bool} {held : Bool}
theorem Rd.of_recs {α : Type} {f : α → List Value} {size : Nat} (hs : 0 < size) (hf : ∀ x, (f x).length = size) {a : Addr} {n : Nat} {X : Nat → α} (hc : ∀ i, i < n → ∀ j u, (f (X i))[j]? = some u → w.cell? (a.add (i * size + j)) = some u) :
  Rd w (fun _ => False) size (some a) n (((List.range n).map X).flatMap f) := by
 have hlen : ∀ l : List α, (l.flatMap f).length = l.length * size := by
  intro l
  induction l with
  | nil => simp
  | cons x l ih => rw [List.flatMap_cons, List.length_append, ih, hf, List.length_cons, Nat.add_mul]; omega
 refine ⟨by rw [hlen]; simp, fun hn => ?_⟩
 have h0 := hc 0 hn 0 ((f (X 0))[0]'(by rw [hf]; exact hs)) (List.getElem?_eq_getElem _)
 simp only [Nat.zero_mul, Nat.add_zero, Addr.add, if_true] at h0
 obtain ⟨b, o, sp⟩ := a
 have hsp : sp = none := World.cell?_spot h0
 subst hsp
 refine ⟨b, o, rfl, fun h => h, World.block_lt_of_cell? w _ h0, fun j u hu => ?_⟩
 have hj : j < n * size := by
  have := (List.getElem?_eq_some_iff.1 hu).1
  rw [hlen] at this
  simpa using this
 have hi : j / size < n := (Nat.div_lt_iff_lt_mul hs).2 hj
 have hdm : j / size * size + j % size = j := by rw [Nat.mul_comm]; exact Nat.div_add_mod j size
 have hat : ∀ (l : List α) (k : Nat) (hk : k < l.length) (m : Nat), m < size → (l.flatMap f)[k * size + m]? = (f l[k])[m]? := by
  intro l
  induction l with
  | nil => intro k hk; simp at hk
  | cons x l ih =>
   intro k hk m hm
   cases k with
   | zero =>
    rw [List.flatMap_cons, List.getElem?_append_left (by rw [hf]; omega)]
    simp
   | succ k =>
    rw [List.flatMap_cons, List.getElem?_append_right (by rw [hf, Nat.add_mul]; omega), hf, show (k + 1) * size + m - size = k * size + m by rw [Nat.add_mul]; omega]
    exact ih k (by simpa using hk) m hm
 have hu2 : (f (X (j / size)))[j % size]? = some u := by
  have := hat ((List.range n).map X) (j / size) (by simpa using hi) (j % size) (Nat.mod_lt _ hs)
  rw [hdm, hu] at this
  simpa using this.symm
 have := hc (j / size) hi (j % size) u hu2
 rw [hdm, Addr.add_lit] at this
 exact this
theorem open_i64 {t : TypeId} {r : Reach} {b0 : Nat} {v : Value} {d : DataW H} {p : List MemPlace} (ht : P.underlying t = some (.int .i64)) (hv : Value.okWide P w r b0 t v) (h : DataW.Trod enc P w base spare held t v d p) :
  ∃ x : Int, (-9223372036854775808 ≤ x ∧ x ≤ 9223372036854775807) ∧ v = .int .i64 x := by
 obtain ⟨x, rfl, _, _, hw⟩ := open_int ht hv h
 refine ⟨x, ?_, rfl⟩
 simp [Lit.wf, IntKind.min, IntKind.max, IntKind.signed, IntKind.bits] at hw
 omega
end
end Go.Proofs.YtmbegaobnpoefaaDoor
namespace Go.Proofs.YtmbegaobnpoefaaDoor
open Go.ChangeShapes Go.WideShapes Go.ChangeAt Go.RowKit Go.Deep
section
variable {H : Type} {enc : TypeId × Value → H} {P : Program} {w : World} {base : Nat} {spare : Nat → Bool} {held : Bool}
theorem flat_at {α : Type} (f : α → List Value) (size : Nat) (hf : ∀ x, (f x).length = size) : ∀ (l : List α) (k : Nat) (hk : k < l.length) (j : Nat), j < size → (l.flatMap f)[k * size + j]? = (f l[k])[j]?
 | [], k, hk, _, _ => by simp at hk
 | x :: l, 0, _, j, hj => by
  rw [List.flatMap_cons, List.getElem?_append_left (by rw [hf]; omega)]
  simp
 | x :: l, k + 1, hk, j, hj => by
  rw [List.flatMap_cons, List.getElem?_append_right (by rw [hf, Nat.add_mul]; omega), hf, show (k + 1) * size + j - size = k * size + j by rw [Nat.add_mul]; omega]
  exact flat_at f size hf l k (by simpa using hk) j hj
theorem flat_len {α : Type} (f : α → List Value) (size : Nat) (hf : ∀ x, (f x).length = size) (l : List α) : (l.flatMap f).length = l.length * size := by
 induction l with
 | nil => simp
 | cons x l ih => rw [List.flatMap_cons, List.length_append, ih, hf, List.length_cons, Nat.add_mul]; omega
theorem Rd.rec_ {α : Type} {f : α → List Value} {size : Nat} (hf : ∀ x, (f x).length = size) {w : World} {F : Nat → Prop} {A : Option Addr} {n : Nat} {l : List α} (h : Rd w F size A n (l.flatMap f)) (hl : l.length = n) (k : Nat) (hk : k < n) :
  ∃ b o, A = some ⟨b, o, none⟩ ∧ ¬ F b ∧ b < w.heap.size ∧ ∀ j u, (f (l[k]'(by omega)))[j]? = some u → w.cell? ⟨b, o + k * size + j, none⟩ = some u := by
 obtain ⟨b, o, rfl, hF, hb, hc⟩ := h.2 (by omega)
 refine ⟨b, o, rfl, hF, hb, fun j u hu => ?_⟩
 have hj : j < size := by
  have := (List.getElem?_eq_some_iff.1 hu).1
  rwa [hf] at this
 rw [Nat.add_assoc]
 exact hc _ u (by rw [flat_at f size hf l k (by omega) j hj]; exact hu)
theorem le63 {n : Nat} (h : n ≤ maxLen) : n ≤ 9223372036854775807 := by simpa [maxLen] using h
theorem open_recs {t e : TypeId} {α : Type} {f : α → List Value} {size fuel : Nat} {A : Option Addr} {n c : Nat} {y : DataW H × List MemPlace} (OK : α → Prop) (ht : P.underlying t = some (.slice e)) (hC : P.cellsOf e = size) (hs : 0 < size) (hf : ∀ x, (f x).length = size)
  (hel : ∀ cs n' y, DataW.trod enc P w base spare held n' e cs = some y → ∃ x, cs = f x ∧ OK x)
  (h : DataW.trod enc P w base spare held fuel t [.slice A n c] = some y) :
  ∃ l : List α, Rd w (fun _ => False) size A n (l.flatMap f) ∧ l.length = n ∧ (∀ x ∈ l, OK x) ∧ n ≤ 9223372036854775807 := by
 rcases open_slice ht h with ⟨hcs, _⟩ | ⟨a, len, cap, m, n', D, Pl, hcs, _, hl, hm, hmm, _, hx⟩
 ·simp at hcs
  obtain ⟨rfl, rfl, rfl⟩ := hcs
  exact ⟨[], Rd.nil _ _ _ _, rfl, by simp, by omega⟩
 ·simp at hcs
  obtain ⟨rfl, rfl, rfl⟩ := hcs
  have hle : n ≤ m := by rw [hmm]; split <;> omega
  have hX' : ∃ X : Nat → Option α, ∀ i, i < m → ∃ q, X i = some q ∧ OK q ∧ ∀ j u, (f q)[j]? = some u → w.cell? (a.add (i * size + j)) = some u := by
   refine choose_lt (α := Option α) (n := m) (p := fun i q' => ∃ q, q' = some q ∧ OK q ∧ ∀ j u, (f q)[j]? = some u → w.cell? (a.add (i * size + j)) = some u) (fun i hi => ?_)
   obtain ⟨cs', hc, hd⟩ := hx i hi
   obtain ⟨q, rfl, hok⟩ := hel cs' n' _ hd
   refine ⟨some q, q, rfl, hok, fun j u hu => ?_⟩
   obtain ⟨_, hcl, hat⟩ := World.cells?_some hc
   rw [hC] at hcl hat
   have hj : j < size := by
    have := (List.getElem?_eq_some_iff.1 hu).1
    rwa [hf] at this
   rw [← Go.Deep.add_add, hat j hj, hu]
  obtain ⟨X, hX⟩ := hX'
  rcases Nat.eq_zero_or_pos n with h0 | h0
  ·subst h0
   exact ⟨[], Rd.nil _ _ _ _, rfl, by simp, by omega⟩
  ·obtain ⟨q0, _⟩ := hX 0 (by omega)
   let Y : Nat → α := fun i => (X i).getD q0
   have hY : ∀ i, i < m → OK (Y i) ∧ ∀ j u, (f (Y i))[j]? = some u → w.cell? (a.add (i * size + j)) = some u := by
    intro i hi
    obtain ⟨q, e1, e2, e3⟩ := hX i hi
    have : Y i = q := by show (X i).getD q0 = q; rw [e1]; rfl
    rw [this]
    exact ⟨e2, e3⟩
   refine ⟨(List.range n).map Y, Rd.of_recs (size := size) hs hf (fun i hi => (hY i (by omega)).2), by simp, fun q hq => ?_, le63 (Nat.le_trans hl hm)⟩
   obtain ⟨i, hi, rfl⟩ := List.mem_map.1 hq
   exact (hY i (by have := List.mem_range.1 hi; omega)).1
theorem trod_str {t : TypeId} {fuel : Nat} {cs : List Value} {y : DataW H × List MemPlace} (ht : P.underlying t = some .string) (h : DataW.trod enc P w base spare held fuel t cs = some y) : ∃ s : List UInt8, cs = [S s] ∧ s.length ≤ 9223372036854775807 := by
 obtain ⟨s, rfl, _, hs⟩ := DataW.trod_string ht h
 refine ⟨s.data.toList, by rw [← S_of], ?_⟩
 rw [← Lib.size_eq]
 exact le63 hs
theorem trod_fld {t : TypeId} {fs : Array Field} {fuel : Nat} {cs : List Value} {x : DataW H × List MemPlace} (ht : P.underlying t = some (.struct fs)) (h : DataW.trod enc P w base spare held fuel t cs = some x) :
  cs.length = P.cellsOf t ∧ ∃ n, ∀ (i : Nat) (f : Field), fs[i]? = some f → ∃ y, DataW.trod enc P w base spare held n f.type ((cs.drop f.offset).take (P.cellsOf f.type)) = some y := by
 obtain ⟨xs, n', _, _, hl, hxl, hf⟩ := DataW.trod_struct ht h
 refine ⟨hl, n', fun i f hi => ⟨_, (hf i f hi).trans (List.getElem?_eq_getElem (by have := (Array.getElem?_eq_some_iff.1 hi).1; omega))⟩⟩
theorem cs2 {cs : List Value} (h : cs.length = 2) : ∃ a b, cs = [a, b] := by match cs, h with | [a, b], _ => exact ⟨a, b, rfl⟩
theorem cs3 {cs : List Value} (h : cs.length = 3) : ∃ a b c, cs = [a, b, c] := by match cs, h with | [a, b, c], _ => exact ⟨a, b, c, rfl⟩
theorem cs4 {cs : List Value} (h : cs.length = 4) : ∃ a b c d, cs = [a, b, c, d] := by match cs, h with | [a, b, c, d], _ => exact ⟨a, b, c, d, rfl⟩
theorem cs5 {cs : List Value} (h : cs.length = 5) : ∃ a b c d e, cs = [a, b, c, d, e] := by match cs, h with | [a, b, c, d, e], _ => exact ⟨a, b, c, d, e, rfl⟩
theorem cs6 {cs : List Value} (h : cs.length = 6) : ∃ a b c d e f, cs = [a, b, c, d, e, f] := by match cs, h with | [a, b, c, d, e, f], _ => exact ⟨a, b, c, d, e, f, rfl⟩
theorem trod_sl {t e : TypeId} {fuel : Nat} {v : Value} {y : DataW H × List MemPlace} (ht : P.underlying t = some (.slice e)) (h : DataW.trod enc P w base spare held fuel t [v] = some y) : ∃ A n c, v = .slice A n c := by
 rcases open_slice ht h with ⟨hcs, _⟩ | ⟨a, len, cap, m, n', D, Pl, hcs, _⟩
 ·simp at hcs; exact ⟨_, _, _, hcs⟩
 ·simp at hcs; exact ⟨_, _, _, hcs⟩
end
end Go.Proofs.YtmbegaobnpoefaaDoor
