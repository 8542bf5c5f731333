/- Small lemmas on worlds, blocks and byte strings that the other texts of this seat use; no statement of the seat is proved here. -/
import Derived.WalkKit
import Derived.WalkSpells
import Derived.WalkLawsBesides
import Derived.Below
import Derived.Laws.OwnMore
import Derived.Laws.CopyOwn
import Derived.Laws.Rows
import Derived.Laws.IdiomStrings
import Derived.Laws.BytesArg
import Derived.Laws.Concat
import Derived.Deep.Draws
import Derived.Maps.AppendAt
import Derived.Lib.Hide
import Derived.Lib.Strings
import Derived.Lib.BufferRead
import Derived.Deep.QuietTactic
import Derived.BigQuiet
import Derived.Lib.AppendStr
namespace Go.Proofs.Ytclgiapmbmbknaa
open Go.RowKit

theorem ba_get (l : List UInt8) (k : Nat) (h : k < (ByteArray.mk l.toArray).size) : (ByteArray.mk l.toArray)[k] = l[k]'h := rfl
theorem take_drop_rest (l : List UInt8) (a : Nat) : List.take (l.length - a) (List.drop a l) = List.drop a l := List.take_of_length_le (by simp)
attribute [go_sem] ByteArray.extract_mk ByteArray.mk_append_mk ba_get take_drop_rest

/-- A string value out of its bytes. -/
abbrev S (l : List UInt8) : Value := .string ⟨l.toArray⟩
/-- A byte as a cell. -/
abbrev B8 (b : UInt8) : Value := .int .u8 (b.toNat : Int)

theorem S_of (s : ByteArray) : Value.string s = S s.data.toList := by
  show Value.string s = Value.string ⟨s.data.toList.toArray⟩
  rw [Lib.mk_data]

/-- It answers v, and touches nothing that was there. -/
def Gives (w : World) (v : Value) (e : Ending) (w' : World) : Prop := e = .returned v ∧ Below w.heap.size w w'

/-- A world that was come to from w, all that was there untouched. -/
structure After (w : World) where
  val : World
  prop : Below w.heap.size w val

instance (w : World) : Nonempty (After w) := ⟨⟨w, Below.refl _ _⟩⟩

/-- A region that draws its order, whose operations only read and whose calls touch nothing that was there: walked once, in the text's order. -/
theorem region_after {P : Program} {id : Nat} {Q : Exit → Act → World → Prop} {a : Act} {w : World} {l : List Oper} (hm : P.follows .mixedOrders = true) (hB : Region.lexB .any l.toArray = true)
    (h : wpQuiet P l.toArray (fun w' => ∃ t : After w, w' = t.val) (fun a' => ∀ w', (∃ t : After w, w' = t.val) → Q .normal a' w') l a) : (Code.region id l.toArray true).wp P Q a w :=
  wp_region_quiet (C := fun w' => ∃ t : After w, w' = t.val) hm hB ⟨⟨w.drew, (Below.refl _ _).drew⟩, rfl⟩ (by simpa using h)

theorem call_after {P : Program} {f : FuncId} {args : Array Value} {v : Value} {w : World} {t : After w} (h : Calls P f args t.val (Gives t.val v)) :
    Calls P f args t.val (fun e w' => e = .returned v ∧ ∃ m : After w, w' = m.val) :=
  h.mono fun _ _ ⟨he, hb⟩ => ⟨he, ⟨⟨_, t.prop.trans (hb.mono t.prop.size)⟩, rfl⟩⟩
theorem call_after_same {P : Program} {f : FuncId} {args : Array Value} {v : Value} {w : World} {t : After w} (h : Calls P f args t.val (fun e w' => e = .returned v ∧ t.val = w')) :
    Calls P f args t.val (fun e w' => e = .returned v ∧ ∃ m : After w, w' = m.val) :=
  h.mono fun _ _ ⟨he, hb⟩ => ⟨he, t, hb.symm⟩

theorem bdrewN {B : Nat} {a w : World} (h : Below B a w) (n : Nat) : Below B a (w.drewN n) := ⟨h.os, h.tape, h.output, h.size, h.block⟩

theorem hide {p : Prop} (h : p) : Hid p := h
theorem unhide {p : Prop} (h : Hid p) : p := h

/-- All blocks that were there, but for those in F, are as they were. -/
structure Keep (F : Nat → Prop) (w w' : World) : Prop where
  os : w'.os = w.os
  tape : w'.tape = w.tape
  output : w'.output = w.output
  size : w.heap.size ≤ w'.heap.size
  block : ∀ k, k < w.heap.size → ¬ F k → w'.heap[k]? = w.heap[k]?

section
variable {F G : Nat → Prop} {w w1 w2 : World}
theorem Keep.refl (F : Nat → Prop) (w : World) : Keep F w w := ⟨rfl, rfl, rfl, Nat.le_refl _, fun _ _ _ => rfl⟩
theorem Keep.mono (h : Keep F w w1) (hs : ∀ k, k < w.heap.size → F k → G k) : Keep G w w1 :=
  ⟨h.os, h.tape, h.output, h.size, fun k hk hn => h.block k hk fun hf => hn (hs k hk hf)⟩
theorem Keep.trans (h : Keep F w w1) (k : Keep F w1 w2) : Keep F w w2 :=
  ⟨k.os.trans h.os, k.tape.trans h.tape, k.output.trans h.output, Nat.le_trans h.size k.size,
    fun i hi hn => (k.block i (Nat.lt_of_lt_of_le hi h.size) hn).trans (h.block i hi hn)⟩
/-- The second step may touch what is new as well. -/
theorem Keep.trans' (h : Keep F w w1) (k : Keep G w1 w2) (hs : ∀ i, i < w.heap.size → G i → F i) : Keep F w w2 :=
  ⟨k.os.trans h.os, k.tape.trans h.tape, k.output.trans h.output, Nat.le_trans h.size k.size,
    fun i hi hn => (k.block i (Nat.lt_of_lt_of_le hi h.size) fun hg => hn (hs i hi hg)).trans (h.block i hi hn)⟩
theorem Keep.drew (h : Keep F w w1) : Keep F w w1.drew := ⟨h.os, h.tape, h.output, h.size, h.block⟩
theorem Keep.drewN (h : Keep F w w1) (n : Nat) : Keep F w (w1.drewN n) := ⟨h.os, h.tape, h.output, h.size, h.block⟩
theorem Keep.alloc (h : Keep F w w1) (o : Obj) : Keep F w (w1.alloc o) :=
  h.trans' (G := F) ⟨rfl, rfl, rfl, by simp, fun k hk _ => Below.heap_alloc _ _ _ hk⟩ fun _ _ h => h
theorem Keep.setCell (h : Keep F w w1) {p : Addr} (hp : p.block < w.heap.size → F p.block) (u : Value) : Keep F w (w1.setCell p u) :=
  h.trans' (G := fun i => i = p.block) ⟨rfl, rfl, rfl, by simp [World.setCell], fun k _ hn => Below.heap_setCell _ _ _ _ hn⟩ fun i hi e => by subst e; exact hp hi
theorem Keep.grown (h : Keep F w w1) {row : Option Nat} (hg : w1.grownBy w2 row) (hr : ∀ k, row = some k → k < w.heap.size → F k) : Keep F w w2 :=
  h.trans' (G := fun i => some i = row) ⟨hg.os, hg.tape, hg.output, hg.size, fun k hk hn => hg.block k hk hn⟩ fun i hi e => hr i e.symm hi
theorem Keep.of_below {B : Nat} (h : Below B w w1) (hB : ∀ k, k < w.heap.size → B ≤ k → F k) : Keep F w w1 :=
  ⟨h.os, h.tape, h.output, h.size, fun k hk hn => h.block k (Nat.lt_of_not_le fun hb => hn (hB k hk hb))⟩
theorem Keep.below {B : Nat} (h : Keep F w w1) (hB : B ≤ w.heap.size) (hF : ∀ k, F k → B ≤ k) : Below B w w1 :=
  ⟨h.os, h.tape, h.output, h.size, fun k hk => h.block k (by omega) fun hf => by have := hF k hf; omega⟩
theorem Keep.cell (h : Keep F w w1) {p : Addr} (hp : p.block < w.heap.size) (hn : ¬ F p.block) : w1.cell? p = w.cell? p :=
  World.cell?_of_block (w := w) (h.block p.block hp hn)
theorem Keep.frozen (h : Keep F w w1) {p : Addr} (hp : p.block < w.heap.size) (hn : ¬ F p.block) : w1.frozen? p = w.frozen? p :=
  World.frozen?_of_block (w := w) (h.block p.block hp hn)
end

/-- Block g is just the cells cs of type t, none frozen. -/
def Blk (w : World) (g : Nat) (t : TypeId) (cs : Array Value) : Prop := w.heap[g]? = some (.cells cs t (0, 0))

section
variable {w w' : World} {g : Nat} {t : TypeId} {cs : Array Value}
theorem Blk.lt (h : Blk w g t cs) : g < w.heap.size := by
  rcases Nat.lt_or_ge g w.heap.size with hlt | hge
  · exact hlt
  · unfold Blk at h; rw [Array.getElem?_eq_none hge] at h; cases h
theorem Blk.cell (h : Blk w g t cs) (i : Nat) : w.cell? ⟨g, i, none⟩ = cs[i]? := cell_of_row w g i cs t (0, 0) h
theorem Blk.frozen (h : Blk w g t cs) (i : Nat) : w.frozen? ⟨g, i, none⟩ = false := by
  unfold Blk at h
  simp [World.frozen?, h]
theorem Blk.new (w : World) (t : TypeId) (cs : Array Value) : Blk (w.alloc (.cells cs t)) w.heap.size t cs := heap_alloc_new w _
theorem Blk.drew (h : Blk w g t cs) : Blk w.drew g t cs := h
theorem Blk.drewN (h : Blk w g t cs) (n : Nat) : Blk (w.drewN n) g t cs := h
theorem Blk.alloc (h : Blk w g t cs) (o : Obj) : Blk (w.alloc o) g t cs := (Below.heap_alloc w o g h.lt).trans h
theorem Blk.set_ (h : Blk w g t cs) (i : Nat) (u : Value) : Blk (w.setCell ⟨g, i, none⟩ u) g t (cs.setIfInBounds i u) := by
  unfold Blk at h ⊢
  simp [World.setCell, Array.getElem?_modify, h]
theorem Blk.far (h : Blk w g t cs) {p : Addr} (hp : g ≠ p.block) (u : Value) : Blk (w.setCell p u) g t cs := (Below.heap_setCell w p u g hp).trans h
theorem Blk.below {B : Nat} (h : Blk w g t cs) (hb : Below B w w') (hg : g < B) : Blk w' g t cs := (hb.block g hg).trans h
theorem Blk.keep {F : Nat → Prop} (h : Blk w g t cs) (hb : Keep F w w') (hg : ¬ F g) : Blk w' g t cs := (hb.block g h.lt hg).trans h
theorem Blk.grown {row : Option Nat} (h : Blk w g t cs) (hb : w.grownBy w' row) (hg : some g ≠ row) : Blk w' g t cs := (hb.block g h.lt hg).trans h
theorem Blk.ne_ {g' : Nat} {t' : TypeId} {cs' : Array Value} (h : Blk w g t cs) (h' : Blk w g' t' cs') (hne : t ≠ t') : g ≠ g' := by
  rintro rfl
  unfold Blk at h h'
  rw [h] at h'
  injection h' with h'
  injection h' with _ ht
  exact hne ht
theorem own_blk_ne {base : Nat} {e : TypeId} {size n : Nat} {v : Value} {xs : List Value} (h : w.ownsRow base e size v n xs) (hg : Blk w g t cs) (hne : e ≠ t) : v.ownBlock ≠ some g := by
  rcases h.2 with ⟨rfl, _⟩ | ⟨g', cap, cur, rfl, _, hh, _⟩
  · simp [Value.ownBlock]
  · intro he
    have : g' = g := by simpa [Value.ownBlock] using he
    subst this
    exact Blk.ne_ (t := e) hh hg hne rfl
end

/-- What is owned stays owned where its row is not touched. -/
theorem own_keep {F : Nat → Prop} {w w' : World} {base : Nat} {e : TypeId} {size n : Nat} {v : Value} {xs : List Value} (h : w.ownsRow base e size v n xs) (hb : Keep F w w') (hn : ∀ k, v.ownBlock = some k → ¬ F k) :
    w'.ownsRow base e size v n xs := by
  refine ⟨h.1, ?_⟩
  rcases h.2 with h2 | ⟨g, cap, cur, hv, hg, hh, r⟩
  · exact .inl h2
  · refine .inr ⟨g, cap, cur, hv, hg, ?_, r⟩
    rw [hb.block g (Array.getElem?_eq_some_iff.1 hh).1 (hn g (by rw [hv]; rfl))]
    exact hh

theorem own_slice {w : World} {base : Nat} {e : TypeId} {size n : Nat} {v : Value} {xs : List Value} (h : w.ownsRow base e size v n xs) : ∃ a c, v = .slice a n c := by
  rcases h.2 with ⟨rfl, rfl⟩ | ⟨g, cap, cur, rfl, _⟩
  · exact ⟨_, _, rfl⟩
  · exact ⟨_, _, rfl⟩

/-- 'append(v, u)', one element of one cell, onto what the call owns: the element was laid in a new block just before. -/
theorem app1 {P : Program} {w : World} {ops : Array Oper} {rest : List Oper} {o : Oper} {a : Act} {Q : Exit → Act → World → Prop} (hgd : o.guard = none) (s x : Operand) (t : TypeId)
    (ho : o.op = .call { callee := .builtin .append, args := #[s, x], argTypes := #[t, t] })
    (base : Nat) (e : TypeId) (z : Value) (bytes : Nat) (ht : P.underlying t = some (.slice e)) (hinfo : (P.info? e).map (fun i => (i.zero, i.size, i.bytes)) = some (some z, 1, bytes)) (hzs : z.cells.size = 1)
    (v : Value) (n : Nat) (xs : List Value) (hs : a.eval s = v) (hown : w.ownsRow base e 1 v n xs) (u : Value) (h1 : u.oneCell' = true)
    (hx : a.eval x = .slice (some ⟨w.heap.size, 0, none⟩) 1 1) (hbytes : (n + 1) * bytes ≤ 140737488355328) (h63 : n + 1 ≤ 140737488355328) (hbase : base ≤ w.heap.size)
    (h : ∀ a' c' w', w'.ownsRow base e 1 (.slice a' (n + 1) c') (n + 1) (xs ++ [u]) → w.grownBy w' v.ownBlock → ((Value.slice a' (n + 1) c').ownBlock = v.ownBlock ∨ (Value.slice a' (n + 1) c').ownBlock = some (w.heap.size + 1)) → wpList P ops Q rest (a.put o.dst (.slice a' (n + 1) c')) w') :
    wpList P ops Q (o :: rest) a (w.alloc (.cells #[u] e)) := by
  obtain ⟨i, hi, hz, hz1, hz2⟩ := info_parts hinfo
  refine wpList_append_own_at _ hgd s x t ho base e i z 1 bytes ht hi hz hz1 hz2 hzs (by decide) v n xs hs (hown.alloc _) ⟨w.heap.size, 0, none⟩ 1 1 [u] hx rfl (cell_one_new _ _ _) (by simpa using h1) (by unfold maxLen; omega) hbytes (by simp; omega) ?_
  intro v' w' hown' hg _ hat
  obtain ⟨a', c', rfl⟩ := own_slice hown'
  exact h a' c' w' hown' (World.grownBy.trans (World.grownBy_alloc w _ _) hg) (by simpa using hat)

/-- 'append(v, s...)', s a string: as the library's law, and where the new row lies. -/
theorem run_app_str {P : Program} (w : World) (base : Nat) (t u ty e : TypeId) (ht : P.underlying t = some (.slice e)) (hu : P.underlying u = some .string) (hinfo : (P.info? e).map (fun i => (i.zero, i.size, i.bytes)) = some (some (.int .u8 0), 1, 1))
    (v : Value) (n : Nat) (xs : List Value) (hown : w.ownsRow base e 1 v n xs) (l : List UInt8) (hbytes : n + l.length ≤ 140737488355328) (hbase : base ≤ w.heap.size) :
    ∃ a' c' w', (Builtin.append_ #[t, u] ty #[v, S l]).run P w = .ok (.slice a' (n + l.length) c') w' ∧ w'.ownsRow base e 1 (.slice a' (n + l.length) c') (n + l.length) (xs ++ l.map B8) ∧ w.grownBy w' v.ownBlock ∧
      ((Value.slice a' (n + l.length) c').ownBlock = v.ownBlock ∨ (Value.slice a' (n + l.length) c').ownBlock = some w.heap.size) := by
  obtain ⟨i, hi, hz, hz1, hz2⟩ := info_parts hinfo
  have hsz : (ByteArray.mk l.toArray).size = l.length := rfl
  have hcs : Lib.strCells (ByteArray.mk l.toArray) = l.map B8 := rfl
  obtain ⟨v', w', hr, h2, h3, h4⟩ := Lib.run_append_own_string (P := P) w base t u ty e i ht hu hi hz hz1 hz2 v n xs hown ⟨l.toArray⟩ (by rw [hsz]; unfold maxLen; omega) (by rw [hsz]; exact hbytes) hbase
  rw [hsz, hcs] at h2
  obtain ⟨a', c', rfl⟩ := own_slice h2
  refine ⟨a', c', w', hr, h2, h3, ?_⟩
  rcases hown.2 with ⟨rfl, rfl⟩ | ⟨g, cap, cur, rfl, hbg, hg, hnc, hcm, hcs', htake⟩
  · by_cases hm : l.length = 0
    · have := h4.2 ⟨rfl, by rw [hsz]; exact hm⟩
      left
      rw [this]
    · right
      have hr' := run_append_nil_string (P := P) w t u ty e i (.int .u8 0) ht hu hi hz ⟨l.toArray⟩ (by rw [hsz]; omega) (by rw [hsz]; omega) (by rw [hz2, hsz]; omega)
      rw [hr'] at hr
      injection hr with e1 e2
      rw [← e1]
      rfl
  · have hxl : xs.length = n := by simpa using hown.1
    by_cases hroom : n + l.length ≤ cap
    · left
      have hr' := Lib.run_append_room_string (P := P) w t u ty e i ht hu hi hz1 g n cap cur hg ⟨l.toArray⟩ (by rw [hsz]; exact hroom) (by rw [hsz]; simp at hcs'; omega)
      rw [hr'] at hr
      injection hr with e1 e2
      rw [← e1]
      rfl
    · right
      have hr' := Lib.run_append_grow_string (P := P) w t u ty e i (.int .u8 0) ht hu hi hz ⟨g, 0, none⟩ n cap xs (by rw [hz1]; simpa using hxl) (hown.cells (g := g) rfl) ⟨l.toArray⟩ (by rw [hsz]; omega) (by rw [hsz]; omega) (by rw [hz2]; exact growslice_fits (by rw [hsz]; omega) (by rw [hsz]; omega))
      rw [hr'] at hr
      injection hr with e1 e2
      rw [← e1]
      rfl

theorem app_str {P : Program} {w : World} {ops : Array Oper} {rest : List Oper} {o : Oper} {a : Act} {Q : Exit → Act → World → Prop} (hgd : o.guard = none) (s x : Operand) (t u : TypeId)
    (ho : o.op = .call { callee := .builtin .append, args := #[s, x], argTypes := #[t, u] })
    (base : Nat) (e : TypeId) (ht : P.underlying t = some (.slice e)) (hu : P.underlying u = some .string) (hinfo : (P.info? e).map (fun i => (i.zero, i.size, i.bytes)) = some (some (.int .u8 0), 1, 1))
    (v : Value) (n : Nat) (xs : List Value) (hs : a.eval s = v) (hown : w.ownsRow base e 1 v n xs) (l : List UInt8) (hx : a.eval x = S l) (hbytes : n + l.length ≤ 140737488355328) (hbase : base ≤ w.heap.size)
    (h : ∀ a' c' w', w'.ownsRow base e 1 (.slice a' (n + l.length) c') (n + l.length) (xs ++ l.map B8) → w.grownBy w' v.ownBlock → ((Value.slice a' (n + l.length) c').ownBlock = v.ownBlock ∨ (Value.slice a' (n + l.length) c').ownBlock = some w.heap.size) → wpList P ops Q rest (a.put o.dst (.slice a' (n + l.length) c')) w') :
    wpList P ops Q (o :: rest) a w := by
  refine wpList_plain hgd fun K hK => ?_
  obtain ⟨a', c', w', hr, h2, h3, h4⟩ := run_app_str (P := P) w base t u o.type e ht hu hinfo v n xs hown l hbytes hbase
  unfold Oper.wp execOp
  simp only [ho, resolve, invoke, builtin, Sem.run_bind, Sem.run_pure, Result.andThen_ok, List.map_toArray, List.map_cons, List.map_nil, hs, hx, hr]
  exact hK _ _ (h a' c' w' h2 h3 h4)

/-- 'string(b)' of a slice that owns the bytes bs. -/
theorem conv_own {P : Program} {w : World} {src dst e : TypeId} (hs : P.underlying src = some (.slice e)) (he : P.underlying e = some (.int .u8)) (hd : P.underlying dst = some .string)
    {base : Nat} {v : Value} {bs : List UInt8} (h : w.ownsRow base e 1 v bs.length (bs.map B8)) : (convert src dst v).run P w = .ok (S bs) w := by
  rcases h.2 with ⟨rfl, h0⟩ | ⟨g, cap, cur, rfl, _⟩
  · obtain rfl : bs = [] := List.eq_nil_of_length_eq_zero h0
    exact Lib.run_convert_nil_bytes w src dst e 0 hs he hd
  · refine run_convert_bytes_back w src dst e ⟨g, 0, none⟩ cap bs hs he hd fun j hj => ?_
    exact h.cells (g := g) rfl j _ (by simp [hj])

theorem u8_and_127 (m : Nat) (h : m < 256) : bits .and .u8 (m : Int) 127 = (m : Int) % 128 := by
  have e := u8_and_nat m 127 h (by omega)
  rw [show ((127 : Nat) : Int) = (127 : Int) from rfl] at e
  rw [e, show m &&& 127 = m % 128 from Nat.and_two_pow_sub_one_eq_mod m 7]
  omega

theorem u8_or_128 (m : Nat) : bits .or .u8 ((m : Int) % 256) 128 = (m : Int) % 128 + 128 := by
  have h := u8_or_nat (m % 256) 128 (by omega) (by omega)
  rw [show ((m % 256 : Nat) : Int) = (m : Int) % 256 by omega] at h
  rw [show ((128 : Nat) : Int) = (128 : Int) from rfl] at h
  rw [h]
  have e : m % 256 ||| 128 = m % 128 + 128 := by
    have e1 : m % 256 = (m / 128 % 2) * 128 + m % 128 := by omega
    rcases Nat.mod_two_eq_zero_or_one (m / 128) with h2 | h2
    · rw [e1, h2, Nat.zero_mul, Nat.zero_add, Nat.or_comm, nat_join 7 128 (m % 128) (by decide) (by omega)]
      omega
    · have e2 : (m % 128) + 128 = 128 ||| (m % 128) := by rw [nat_join 7 128 (m % 128) (by decide) (by omega)]; omega
      rw [e1, h2, Nat.one_mul, Nat.add_comm, e2, Nat.or_comm, ← Nat.or_assoc, Nat.or_self]
  rw [e]
  omega

/-- The n elements of a slice value, of 'size' cells each, read as xs; they lie in old blocks outside F. -/
def Rd (w : World) (F : Nat → Prop) (size : Nat) (A : Option Addr) (n : Nat) (xs : List Value) : Prop :=
  xs.length = n * size ∧ (0 < n → ∃ b o, A = some ⟨b, o, none⟩ ∧ ¬ F b ∧ b < w.heap.size ∧ ∀ j u, xs[j]? = some u → w.cell? ⟨b, o + j, none⟩ = some u)

section
variable {w w' : World} {F G : Nat → Prop} {size n : Nat} {A : Option Addr} {xs : List Value}
theorem Rd.nil (w : World) (F : Nat → Prop) (size : Nat) (A : Option Addr) : Rd w F size A 0 [] := ⟨by simp, fun h => absurd h (Nat.lt_irrefl 0)⟩
theorem Rd.keep (h : Rd w F size A n xs) (hk : Keep F w w') : Rd w' F size A n xs :=
  ⟨h.1, fun hn => by
    obtain ⟨b, o, e, hf, hlt, hc⟩ := h.2 hn
    exact ⟨b, o, e, hf, Nat.lt_of_lt_of_le hlt hk.size, fun j u hu => (hk.cell (p := ⟨b, o + j, none⟩) hlt hf).trans (hc j u hu)⟩⟩
theorem Rd.weak (h : Rd w F size A n xs) (hs : ∀ k, k < w.heap.size → G k → F k) : Rd w G size A n xs :=
  ⟨h.1, fun hn => by
    obtain ⟨b, o, e, hf, hlt, hc⟩ := h.2 hn
    exact ⟨b, o, e, fun hg => hf (hs b hlt hg), hlt, hc⟩⟩
theorem Rd.drew (h : Rd w F size A n xs) : Rd w.drew F size A n xs := h
theorem Rd.drewN (h : Rd w F size A n xs) (k : Nat) : Rd (w.drewN k) F size A n xs := h
theorem Rd.alloc (h : Rd w F size A n xs) (o : Obj) : Rd (w.alloc o) F size A n xs := h.keep ((Keep.refl F w).alloc o)
/-- What came in lies below the first new block. -/
theorem Rd.old (h : Rd w F size A n xs) : Rd w (fun k => w.heap.size ≤ k) size A n xs :=
  ⟨h.1, fun hn => by
    obtain ⟨b, o, e, hf, hlt, hc⟩ := h.2 hn
    exact ⟨b, o, e, by omega, hlt, hc⟩⟩
theorem Rd.below {B : Nat} (h : Rd w (fun k => B ≤ k) size A n xs) (hk : Below B w w') : Rd w' (fun k => B ≤ k) size A n xs :=
  h.keep (Keep.of_below hk fun _ _ h => h)
/-- One-cell elements: the j-th. -/
theorem Rd.at_ (h : Rd w F 1 A n xs) (j : Nat) (hj : j < n) : ∃ b o u, A = some ⟨b, o, none⟩ ∧ xs[j]? = some u ∧ w.cell? ⟨b, o + j, none⟩ = some u := by
  obtain ⟨b, o, e, hf, hlt, hc⟩ := h.2 (by omega)
  have hl := h.1
  rw [Nat.mul_one] at hl
  have hu : xs[j]? = some (xs[j]'(by omega)) := List.getElem?_eq_getElem (by omega)
  exact ⟨b, o, _, e, hu, hc j _ hu⟩
end

end Go.Proofs.Ytclgiapmbmbknaa
