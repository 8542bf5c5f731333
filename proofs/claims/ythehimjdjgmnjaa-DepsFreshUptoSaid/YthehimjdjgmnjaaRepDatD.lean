/- Entries and reads as they lie; no statement of the seat is proved here. -/
import Derived.Test.YthehimjdjgmnjaaDigestD
import Derived.Test.YthehimjdjgmnjaaShaEqD
import Derived.Test.YthehimjdjgmnjaaRepB
import Derived.WalkLawsBesides
import Derived.Great.BuildSlice
namespace Go.Proofs.Ythehimjdjgmnjaa
open Go.RowKit
set_option linter.unusedVariables false

/-- Thirty-two bytes: what is there, and noughts behind it. -/
def dpad (s : List UInt8) : List UInt8 := (s ++ List.replicate 32 0).take 32
theorem dpad_len (s : List UInt8) : (dpad s).length = 32 := by simp [dpad]
theorem dpad_id {s : List UInt8} (h : s.length = 32) : dpad s = s := by
  unfold dpad
  rw [List.take_append_of_le_length (by omega), List.take_of_length_le (by omega)]
/-- A face that was looked at: whose, and the bytes of its digest, as they were read. -/
structure Rdq where
  n : List UInt8
  d : List UInt8
/-- An entry in plain words. -/
structure EnP where
  n : List UInt8
  s : List UInt8
  rs : List Rdq
  b : List UInt8
/-- An entry as it lies. -/
structure Enq where
  n : List UInt8
  s : List UInt8
  A : Option Addr
  k : Nat
  c : Nat
  rs : List Rdq
  b : List UInt8
def Rdq.cells (x : Rdq) : List Value := S x.n :: (dpad x.d).map B8
theorem Rdq.cells_len (x : Rdq) : x.cells.length = 33 := by simp [Rdq.cells, dpad_len]
def Enq.cells (e : Enq) : List Value := S e.n :: ((dpad e.s).map B8 ++ .slice e.A e.k e.c :: (dpad e.b).map B8)
theorem Enq.cells_len (e : Enq) : e.cells.length = 66 := by simp [Enq.cells, dpad_len]
def Enq.pl (e : Enq) : EnP := ⟨e.n, e.s, e.rs, e.b⟩
structure Enq.at_ (w : World) (F : Nat → Prop) (e : Enq) : Prop where
  rr : Rd w F 33 e.A e.k (e.rs.flatMap Rdq.cells)
  rl : e.rs.length = e.k
  rb : e.k ≤ 9223372036854775807
  sn : e.n.length ≤ 9223372036854775807
  sr : ∀ x ∈ e.rs, x.n.length ≤ 9223372036854775807
/-- A list of entries as it lies. -/
structure LiAt (w : World) (F : Nat → Prop) (A : Option Addr) (n : Nat) (L : List Enq) : Prop where
  lr : Rd w F 66 A n (L.flatMap Enq.cells)
  ll : L.length = n
  lb : n ≤ 9223372036854775807
  la : ∀ e ∈ L, e.at_ w F
section
variable {w w' : World} {F G : Nat → Prop} {B : Nat} {e : Enq} {A : Option Addr} {n : Nat} {L : List Enq}
theorem Enq.at_.below (h : e.at_ w (fun k => B ≤ k)) (hk : Below B w w') : e.at_ w' (fun k => B ≤ k) := { h with rr := h.rr.below hk }
theorem Enq.at_.weak (h : e.at_ w F) (hs : ∀ k, k < w.heap.size → G k → F k) : e.at_ w G := { h with rr := h.rr.weak hs }
theorem LiAt.below (h : LiAt w (fun k => B ≤ k) A n L) (hk : Below B w w') : LiAt w' (fun k => B ≤ k) A n L := { h with lr := h.lr.below hk, la := fun e he => (h.la e he).below hk }
theorem LiAt.weak (h : LiAt w F A n L) (hs : ∀ k, k < w.heap.size → G k → F k) : LiAt w G A n L := { h with lr := h.lr.weak hs, la := fun e he => (h.la e he).weak hs }
theorem LiAt.on (h : LiAt w (fun k => w.heap.size ≤ k) A n L) (hk : Below w.heap.size w w') : LiAt w' (fun k => w'.heap.size ≤ k) A n L := (h.below hk).weak fun _ _ h2 => Nat.le_trans hk.size h2
end
def Z32 : List UInt8 := List.replicate 32 0
theorem ZC_is : ZC = darr Z32 := by rfl
theorem dig_info : (Try.prog.info? 35).map (·.size) = some 32 := by kernel_rfl
theorem darr_one (l : List UInt8) : (darr l).all (·.oneCell') = true := by simp [darr, Value.oneCell']
theorem darr_size (l : List UInt8) : (darr l).size = l.length := by simp [darr]
theorem results_cell_slot {P : Program} {fn : Func} {p q : Tmp} {tp : TypeId} (h : fn.results = #[.cell p tp, .tmp q]) (tmps : Array Value) (w : World) (a : Addr) (v u : Value)
    (hp : tmps.getD p undef = .pointer (some a)) (hl : (loadVar tp a).run P w = .ok v w) (hq : tmps.getD q undef = u) : (results fn tmps).run P w = .ok (.tuple #[v, u]) w := by
  have hp' : tmps[p]?.getD undef = .pointer (some a) := by simpa using hp
  have hq' : tmps[q]?.getD undef = u := by simpa using hq
  simp [results, h, hp', hq', asAddr, hl]
/-- Two new digests of noughts. -/
theorem two_new (w : World) (t : TypeId) (cs ds : Array Value) : Blk ((w.alloc (.cells cs t)).alloc (.cells ds t)) w.heap.size t cs ∧ Blk ((w.alloc (.cells cs t)).alloc (.cells ds t)) (w.heap.size + 1) t ds ∧ Below w.heap.size w ((w.alloc (.cells cs t)).alloc (.cells ds t)) := by
  refine ⟨(Blk.new _ _ _).alloc _, ?_, ((Below.refl _ _).alloc (Nat.le_refl _) _).alloc (by simp) _⟩
  have := Blk.new (w.alloc (.cells cs t)) t ds
  rwa [show (w.alloc (.cells cs t)).heap.size = w.heap.size + 1 by simp] at this
theorem ba_toList (l : List UInt8) : (ByteArray.mk l.toArray).toList = l := Lib.toList_data _
attribute [go_sem] ba_toList

/-- An entry of noughts, a read of noughts, as the walk writes them. -/
def ZE : Array Value := #[.string ⟨#[]⟩, .int .u8 0, .int .u8 0, .int .u8 0, .int .u8 0, .int .u8 0, .int .u8 0, .int .u8 0, .int .u8 0, .int .u8 0, .int .u8 0, .int .u8 0, .int .u8 0, .int .u8 0, .int .u8 0, .int .u8 0, .int .u8 0, .int .u8 0, .int .u8 0, .int .u8 0, .int .u8 0, .int .u8 0, .int .u8 0, .int .u8 0, .int .u8 0, .int .u8 0, .int .u8 0, .int .u8 0, .int .u8 0, .int .u8 0, .int .u8 0, .int .u8 0, .int .u8 0, .slice none 0 0, .int .u8 0, .int .u8 0, .int .u8 0, .int .u8 0, .int .u8 0, .int .u8 0, .int .u8 0, .int .u8 0, .int .u8 0, .int .u8 0, .int .u8 0, .int .u8 0, .int .u8 0, .int .u8 0, .int .u8 0, .int .u8 0, .int .u8 0, .int .u8 0, .int .u8 0, .int .u8 0, .int .u8 0, .int .u8 0, .int .u8 0, .int .u8 0, .int .u8 0, .int .u8 0, .int .u8 0, .int .u8 0, .int .u8 0, .int .u8 0, .int .u8 0, .int .u8 0]
def ZR : Array Value := #[.string ⟨#[]⟩, .int .u8 0, .int .u8 0, .int .u8 0, .int .u8 0, .int .u8 0, .int .u8 0, .int .u8 0, .int .u8 0, .int .u8 0, .int .u8 0, .int .u8 0, .int .u8 0, .int .u8 0, .int .u8 0, .int .u8 0, .int .u8 0, .int .u8 0, .int .u8 0, .int .u8 0, .int .u8 0, .int .u8 0, .int .u8 0, .int .u8 0, .int .u8 0, .int .u8 0, .int .u8 0, .int .u8 0, .int .u8 0, .int .u8 0, .int .u8 0, .int .u8 0, .int .u8 0]
theorem ZE_size : ZE.size = 66 := rfl
theorem ZR_size : ZR.size = 33 := rfl
theorem en_info : (Try.prog.info? 39).map (·.size) = some 66 := by kernel_rfl
theorem rd_info : (Try.prog.info? 77).map (·.size) = some 33 := by kernel_rfl
theorem zero_en (w : World) : (zeroValue 39).run Try.prog w = .ok (.agg ZE) w := by kernel_rfl
theorem zero_rd (w : World) : (zeroValue 77).run Try.prog w = .ok (.agg ZR) w := by kernel_rfl
/-- A value laid whole into a new block. -/
theorem box_any (w : World) (t : TypeId) (Z cs : Array Value) (hs : cs.size = Z.size) : Blk ((w.alloc (.cells Z t)).setCells w.heap.size 0 cs.toList) w.heap.size t cs ∧ Below w.heap.size w ((w.alloc (.cells Z t)).setCells w.heap.size 0 cs.toList) := by
  refine ⟨?_, bcells (Nat.le_refl _) _ _ ((Below.refl _ _).alloc (Nat.le_refl _) _)⟩
  have := (Blk.new w t Z).cells_all cs.toList (by rw [Array.length_toList, hs])
  rwa [Array.toArray_toList] at this
theorem B8_one (l : List UInt8) : ∀ v ∈ l.map B8, v.oneCell' = true := by
  intro v hv
  obtain ⟨b, _, rfl⟩ := List.mem_map.1 hv
  rfl
/-- What an entry's cells are. -/
structure EnV (e : Enq) (v : Array Value) : Prop where
  is : v = e.cells.toArray
  size : v.size = 66
  one : v.all (·.oneCell') = true
  c0 : v[0]? = some (S e.n)
  cr : v[33]? = some (.slice e.A e.k e.c)
theorem EnV.mk_ (e : Enq) : EnV e e.cells.toArray where
  is := rfl
  size := by simp [Enq.cells_len]
  one := all_oneCell_toArray (fun v hv => by
    simp only [Enq.cells, List.mem_cons, List.mem_append] at hv
    rcases hv with rfl | hv | rfl | hv
    · rfl
    · exact B8_one _ v hv
    · rfl
    · exact B8_one _ v hv)
  c0 := rfl
  cr := by simp [Enq.cells, dpad_len]
structure RdV (x : Rdq) (v : Array Value) : Prop where
  is : v = x.cells.toArray
  size : v.size = 33
  one : v.all (·.oneCell') = true
  c0 : v[0]? = some (S x.n)
theorem RdV.mk_ (x : Rdq) : RdV x x.cells.toArray where
  is := rfl
  size := by simp [Rdq.cells_len]
  one := all_oneCell_toArray (fun v hv => by
    simp only [Rdq.cells, List.mem_cons] at hv
    rcases hv with rfl | hv
    · rfl
    · exact B8_one _ v hv)
  c0 := rfl
/-- The digests' bytes in an entry's block, in a read's. -/
theorem EnV.src {e : Enq} {v : Array Value} (h : EnV e v) {w : World} {g : Nat} {t : TypeId} (hb : Blk w g t v) (j : Nat) (hj : j < 32) : w.cell? ⟨g, 1 + j, none⟩ = some (B8 ((dpad e.s)[j]'(by rw [dpad_len]; exact hj))) := by
  rw [hb.cell, h.is]
  have hl := dpad_len e.s
  have : 1 + j = j + 1 := by omega
  simp [Enq.cells, this, List.getElem?_append, hl, hj]
theorem EnV.blob {e : Enq} {v : Array Value} (h : EnV e v) {w : World} {g : Nat} {t : TypeId} (hb : Blk w g t v) (j : Nat) (hj : j < 32) : w.cell? ⟨g, 34 + j, none⟩ = some (B8 ((dpad e.b)[j]'(by rw [dpad_len]; exact hj))) := by
  rw [hb.cell, h.is]
  have hl := dpad_len e.s
  have hl2 := dpad_len e.b
  obtain ⟨m, hm⟩ : ∃ m, 34 + j = m + 1 + 32 + 1 ∧ m = j := ⟨j, by omega, rfl⟩
  rw [hm.1]
  simp only [Enq.cells, List.getElem?_toArray, List.getElem?_cons_succ]
  rw [List.getElem?_append_right (by simp [hl])]
  simp [hl, hm.2, hl2, hj]
theorem RdV.face {x : Rdq} {v : Array Value} (h : RdV x v) {w : World} {g : Nat} {t : TypeId} (hb : Blk w g t v) (j : Nat) (hj : j < 32) : w.cell? ⟨g, 1 + j, none⟩ = some (B8 ((dpad x.d)[j]'(by rw [dpad_len]; exact hj))) := by
  rw [hb.cell, h.is]
  have hl := dpad_len x.d
  have : 1 + j = j + 1 := by omega
  simp [Rdq.cells, this, hl, hj]
theorem new_en (n : List UInt8) : ZE.setIfInBounds 0 (S n) = (Enq.cells ⟨n, [], none, 0, 0, [], []⟩).toArray := by rfl
theorem new_rd (n : List UInt8) : ZR.setIfInBounds 0 (S n) = (Rdq.cells ⟨n, []⟩).toArray := by rfl
theorem rd_info3 : (Try.prog.info? 77).map (fun i => (i.zero, i.size, i.bytes)) = some (some (.agg ZR), 33, 48) := by kernel_rfl
theorem en_info3 : (Try.prog.info? 39).map (fun i => (i.zero, i.size, i.bytes)) = some (some (.agg ZE), 66, 104) := by kernel_rfl
theorem fold_list {V : Type} : ∀ (l : List V) (k : Nat) (Z : Array V), k + l.length ≤ Z.size → List.foldl (fun cs x => cs.setIfInBounds x.snd x.fst) Z (l.zipIdx k) = (Z.toList.take k ++ l ++ Z.toList.drop (k + l.length)).toArray
  | [], k, Z, h => by simp
  | v :: l, k, Z, h => by
    simp only [List.length_cons] at h
    rw [List.zipIdx_cons, List.foldl_cons, fold_list l (k + 1) _ (by simp; omega)]
    apply congrArg List.toArray
    have hk : k < Z.toList.length := by simp; omega
    simp only [Array.toList_setIfInBounds, List.length_cons]
    rw [List.take_succ_eq_append_getElem (by simpa using hk), List.getElem_set_self, List.take_set_of_le (Nat.le_refl _), List.drop_set_of_lt (by omega), show k + 1 + l.length = k + (l.length + 1) by omega]
    simp
theorem fold_arr {V : Type} (Z v : Array V) (n : Nat) (hn : v.size = n) (h : Z.size = n) : Array.foldl (fun cs x => cs.setIfInBounds x.snd x.fst) Z v.zipIdx 0 n = v := by
  subst hn
  have h1 := fold_list v.toList 0 Z (by simp; omega)
  have h2 : Array.foldl (fun cs x => cs.setIfInBounds x.snd x.fst) Z v.zipIdx 0 v.size = Array.foldl (fun cs x => cs.setIfInBounds x.snd x.fst) Z v.zipIdx 0 v.zipIdx.size := by rw [Array.size_zipIdx]
  rw [h2, ← Array.foldl_toList, Array.toList_zipIdx, h1]
  rw [List.drop_of_length_le (by simp; omega)]
  simp
theorem fill_one (n : Nat) (Z v : Array Value) (hZ : Z.size = n) (hv : v.size = n) : Instr.fill (fun i => some (i * n, n)) Z [(0, .agg v)] = some v := by
  have h := fold_arr Z v n hv hZ
  subst hv
  simp only [Instr.fill, Value.cells, Nat.zero_mul, Nat.zero_add, hZ, ne_eq, not_true_eq_false, decide_false, gt_iff_lt, Nat.lt_irrefl, Bool.or_self, Bool.false_eq_true, if_false]
  congr 1
  have h2 : Array.foldl (fun cs x => cs.setIfInBounds x.snd x.fst) Z v.zipIdx 0 v.size = Array.foldl (fun cs x => cs.setIfInBounds x.snd x.fst) Z v.zipIdx 0 v.zipIdx.size := by rw [Array.size_zipIdx]
  rw [h2] at h
  exact h
/-- '[]T{x}', x a value of several cells. -/
theorem wpList_part {P : Program} {ops : Array Oper} {rest : List Oper} {o : Oper} {a : Act} {w : World} {Q : Exit → Act → World → Prop} (hg : o.guard = none) (t e : TypeId) (x : Operand) (ho : o.op = .buildSlice t 1 #[(0, x)])
    (n : Nat) (v : Array Value) (hx : a.eval x = .agg v) (hv : v.size = n) (hn : 0 < n) (hs : n ≤ 2 ^ 24) (hu : P.underlying t = some (.slice e)) (hi : (P.info? e).map (fun i => (i.zero.isSome, i.size)) = some (true, n))
    (h : wpList P ops Q rest (a.put o.dst (.slice (some ⟨w.heap.size, 0, none⟩) 1 1)) (w.alloc (.cells v e))) : wpList P ops Q (o :: rest) a w := by
  cases hie : P.info? e with
  | none => simp [hie] at hi
  | some ie =>
    simp only [hie, Option.map_some, Option.some.injEq, Prod.mk.injEq] at hi
    obtain ⟨z, hz⟩ := Option.isSome_iff_exists.1 hi.1
    refine wpList_buildSlice hg t e 1 #[(0, x)] ho v ie z hu hie hz (by rw [hi.2]; omega) (by rw [hi.2]; omega) ?_ h
    rw [hi.2, Nat.one_mul]
    have := fill_one n ((Array.range n).map (z.cells[· % z.cells.size]!)) v (by simp) hv
    simpa [hx] using this
theorem en_info2 : (Try.prog.info? 39).map (fun i => (i.zero.isSome, i.size)) = some (true, 66) := by kernel_rfl
theorem rd_info2 : (Try.prog.info? 77).map (fun i => (i.zero.isSome, i.size)) = some (true, 33) := by kernel_rfl
theorem all_one {v : Array Value} (h : v.all (·.oneCell') = true) : ∀ u ∈ v.toList, u.oneCell' = true := fun u hu => (Array.all_eq_true_iff_forall_mem.1 h) u (by simpa using hu)
section
variable {w : World} {g : Nat} {t : TypeId}
theorem Blk.there_at {cs : Array Value} (h : Blk w g t cs) {o n : Nat} (hn : o + n ≤ cs.size) : w.there g o n := fun j hj => by
  rw [h.cell (o + j), h.frozen]
  have : o + j < cs.size := by omega
  simp [this]
/-- A row of cells is laid over a part of a block. -/
theorem Blk.over {cs ds : List Value} {o : Nat} {vs : List Value} (h : Blk w g t cs.toArray) (hl : ds.length = cs.length) (ho : o + vs.length ≤ cs.length) (hd : ∀ i, ds[i]? = if o ≤ i ∧ i < o + vs.length then vs[i - o]? else cs[i]?) : Blk (w.setCells g o vs) g t ds.toArray := by
  obtain ⟨es, h1, h2, h3⟩ := Blk.cells_ vs o h (by simpa using ho)
  have : es = ds.toArray := by
    apply Array.ext_getElem?
    intro i
    rw [h3 i]
    simp only [List.getElem?_toArray]
    rw [hd i]
  rw [← this]
  exact h1
theorem cons_over {x : Value} {a b c : List Value} (ha : b.length = a.length) (i : Nat) : (x :: (b ++ c))[i]? = if 1 ≤ i ∧ i < 1 + b.length then b[i - 1]? else (x :: (a ++ c))[i]? := by
  rcases i with _ | i
  · simp
  · by_cases h : i < b.length
    · rw [if_pos (by omega), List.getElem?_cons_succ, List.getElem?_append_left h]
      rfl
    · rw [if_neg (by omega), List.getElem?_cons_succ, List.getElem?_cons_succ, List.getElem?_append_right (by omega), List.getElem?_append_right (by omega), ha]
theorem tail_over {p a b : List Value} (ha : b.length = a.length) (i : Nat) : (p ++ b)[i]? = if p.length ≤ i ∧ i < p.length + b.length then b[i - p.length]? else (p ++ a)[i]? := by
  by_cases h : i < p.length
  · rw [if_neg (by omega), List.getElem?_append_left h, List.getElem?_append_left h]
  · rw [List.getElem?_append_right (by omega)]
    by_cases h2 : i < p.length + b.length
    · rw [if_pos (by omega)]
    · rw [if_neg (by omega), List.getElem?_append_right (by omega), List.getElem?_eq_none (by omega), List.getElem?_eq_none (by omega)]
end
end Go.Proofs.Ythehimjdjgmnjaa
