/- A strings.Builder that the call has made itself: written on, up to far, and read; tabs; no statement of the seat is proved here. -/
import Derived.Test.YtleccalfcnkklaaDoorTree
import Derived.Deep.DeepAppendWide
namespace Go.Proofs.YtleccalfcnkklaaDoor
open Go.RowKit
set_option linter.unusedVariables false

section
variable {P : Program} (w : World)
/-- 'append(buf, s...)' onto a row of the call's own, as long as Go's growth allows. -/
theorem run_app_wide (base : Nat) (t u ty e : TypeId) (i : TypeInfo) (ht : P.underlying t = some (.slice e)) (hu : P.underlying u = some .string) (hi : P.info? e = some i) (hz : i.zero = some (.int .u8 0)) (hsize : i.size = 1) (hby : i.bytes = 1)
    (v : Value) (n : Nat) (xs : List Value) (hown : w.ownsRow base e 1 v n xs) (s : ByteArray) (hbytes : n + s.size ≤ 225000000000000) (hbase : base ≤ w.heap.size) :
    ∃ v' w', (Builtin.append_ #[t, u] ty #[v, .string s]).run P w = .ok v' w' ∧ w'.ownsRow base e 1 v' (n + s.size) (xs ++ Lib.strCells s) ∧ w.grownBy w' v.ownBlock := by
  by_cases hsm : n + s.size ≤ 140737488355328
  · obtain ⟨v', w', h1, h2, h3, _⟩ := Lib.run_append_own_string (P := P) w base t u ty e i ht hu hi hz hsize hby v n xs hown s (by unfold maxLen; omega) hsm hbase
    exact ⟨v', w', h1, h2, h3⟩
  have hxl : xs.length = n := by simpa using hown.1
  have hlen : (xs ++ Lib.strCells s).length = (n + s.size) * 1 := by rw [List.length_append, hxl, Lib.strCells_length, Nat.mul_one]
  have fresh : ∀ (old : Nat), (w.drew.alloc (.cells (xs.toArray ++ (Lib.strCells s).toArray ++ Builtin.zeroCells (Value.int .u8 0).cells (grownCap w (n + s.size) old e - (n + s.size))) e)).ownsRow base e 1
        (.slice (some ⟨w.heap.size, 0, none⟩) (n + s.size) (grownCap w (n + s.size) old e)) (n + s.size) (xs ++ Lib.strCells s) := by
    intro old
    have hge := grownCap_ge w (n + s.size) old e
    have hcm : grownCap w (n + s.size) old e ≤ maxLen := grownCap_le_maxLen w (n + s.size) old e (by unfold maxLen; omega)
    refine ⟨hlen, .inr ⟨w.heap.size, _, _, rfl, hbase, heap_alloc_new w.drew _, hge, hcm, ?_, ?_⟩⟩
    · have hz1 : (Value.int IntKind.u8 0).cells.size = 1 := rfl
      simp only [Array.size_append, List.size_toArray, size_zeroCells, hz1, hxl, Lib.strCells_length]
      omega
    · rw [Array.toList_append, Array.toList_append, ← hlen]
      exact List.take_left
  have old : ∀ (o : Obj) (row : Option Nat), w.grownBy (w.drew.alloc o) row := fun o row => ⟨rfl, rfl, rfl, by simp, fun k hk _ => Below.heap_alloc w.drew o k hk⟩
  rcases hown.2 with ⟨rfl, rfl⟩ | ⟨g, cap, cur, rfl, hbg, hg, hnc, hcm, hcs, htake⟩
  · obtain rfl : xs = [] := List.eq_nil_of_length_eq_zero hxl
    have hr := run_append_nil_string (P := P) w t u ty e i (.int .u8 0) ht hu hi hz s (by omega) (by omega) (by rw [hby]; omega)
    have hf := fresh 0
    simp only [Nat.zero_add] at hf ⊢
    exact ⟨_, _, hr, by
      have e1 : (s.data.map fun b => Value.int .u8 b.toNat) = (Lib.strCells s).toArray := by
        apply Array.ext'
        simp [Lib.strCells]
      rw [e1]
      simpa using hf, old _ _⟩
  · have hcs' : cur.size = cap := by simpa using hcs
    by_cases hroom : n + s.size ≤ cap
    · have hr := Lib.run_append_room_string (P := P) w t u ty e i ht hu hi hsize g n cap cur hg s hroom (by omega)
      have ht2 : cur.toList.take n = xs := by simpa using htake
      refine ⟨_, _, hr, ⟨hlen, .inr ⟨g, cap, _, rfl, hbg, setRow_heap w g cur _ e _ hg, hroom, hcm, ?_, ?_⟩⟩, ⟨rfl, rfl, rfl, by simp, fun k _ hk => setRow_other w g k _ (fun e => hk (by simp [Value.ownBlock, e]))⟩⟩
      · simp only [List.size_toArray, List.length_append, List.length_take, List.length_drop, Array.length_toList, Lib.strCells_length]
        omega
      · rw [ht2, ← hlen]
        exact List.take_left
    · have hr := Lib.run_append_grow_string (P := P) w t u ty e i (.int .u8 0) ht hu hi hz ⟨g, 0, none⟩ n cap xs (by rw [hsize]; simpa using hxl) (hown.cells (g := g) rfl) s (by omega) (by omega) (by rw [hby]; exact Go.growslice_fits_wide (by omega) (by omega))
      exact ⟨_, _, hr, fresh cap, old _ _⟩
end
theorem app_wide {P : Program} {w : World} {ops : Array Oper} {rest : List Oper} {o : Oper} {a : Act} {Q : Exit → Act → World → Prop} (hgd : o.guard = none) (s x : Operand) (t u : TypeId)
    (ho : o.op = .call { callee := .builtin .append, args := #[s, x], argTypes := #[t, u] })
    (base : Nat) (e : TypeId) (ht : P.underlying t = some (.slice e)) (hu : P.underlying u = some .string) (hinfo : (P.info? e).map (fun i => (i.zero, i.size, i.bytes)) = some (some (.int .u8 0), 1, 1))
    (v : Value) (n : Nat) (xs : List Value) (hs : a.eval s = v) (hown : w.ownsRow base e 1 v n xs) (l : List UInt8) (hx : a.eval x = S l) (hbytes : n + l.length ≤ 225000000000000) (hbase : base ≤ w.heap.size)
    (h : ∀ a' c' w', w'.ownsRow base e 1 (.slice a' (n + l.length) c') (n + l.length) (xs ++ l.map B8) → w.grownBy w' v.ownBlock → wpList P ops Q rest (a.put o.dst (.slice a' (n + l.length) c')) w') :
    wpList P ops Q (o :: rest) a w := by
  refine wpList_plain hgd fun K hK => ?_
  obtain ⟨i, hi, hz, hz1, hz2⟩ := info_parts hinfo
  obtain ⟨v', w', hr, h2, h3⟩ := run_app_wide (P := P) w base t u o.type e i ht hu hi hz hz1 hz2 v n xs hown ⟨l.toArray⟩ hbytes hbase
  have hsz : (ByteArray.mk l.toArray).size = l.length := rfl
  rw [hsz] at h2
  obtain ⟨a', c', rfl⟩ := own_slice h2
  unfold Oper.wp execOp
  simp only [ho, resolve, invoke, builtin, Sem.run_bind, Sem.run_pure, Result.andThen_ok, List.map_toArray, List.map_cons, List.map_nil, hs, hx, hr]
  exact hK _ _ (h a' c' w' h2 h3)

/-- A builder in block b, of the call's own from B on, that holds the bytes l. -/
abbrev Bdr (B b : Nat) (l : List UInt8) (w : World) : Prop := Lib.IsBuilder 79 5 B b (l.map B8) w
theorem Bdr.below {B b : Nat} {l : List UInt8} {w w' : World} (h : Bdr B b l w) (hb : Below w.heap.size w w') : Bdr B b l w' := by
  have one : ∀ p, Lib.BuilderAt 79 5 B b p (l.map B8) w → Lib.BuilderAt 79 5 B b p (l.map B8) w' := by
    rintro p ⟨hB, v, hbk, hown, hne⟩
    have hlt : b < w.heap.size := by
      rcases Nat.lt_or_ge b w.heap.size with h2 | h2
      · exact h2
      · rw [Array.getElem?_eq_none h2] at hbk; cases hbk
    refine ⟨hB, v, (hb.block b hlt).trans hbk, ?_, hne⟩
    exact own_keep (F := fun _ => False) hown (Keep.of_below hb fun k hk hB => by omega) fun _ _ hf => hf
  rcases h with h | h
  · exact .inl (one _ h)
  · exact .inr (one _ h)
theorem Bdr.new (w : World) : Bdr w.heap.size w.heap.size [] (w.alloc (.cells #[.pointer none, .slice none 0 0] 79)) := Lib.fresh_isBuilder _ _ w
theorem copy_any {B b : Nat} {l : List UInt8} {w : World} (h : Bdr B b l w) : Calls Tryd.prog 59 #[.pointer (some ⟨b, 0, none⟩)] w fun e w' => e = .returned (.tuple #[]) ∧ Lib.BuilderAt 79 5 B b (.pointer (some ⟨b, 0, none⟩)) (l.map B8) w' ∧ Below B w w' :=
  Any.Builder_copyCheck { Tryd.lays156 with } Tryd.Builder_Extra_156.toX72 B b _ w h
theorem u8_info : (Tryd.prog.info? 5).map (fun i => (i.zero, i.size, i.bytes)) = some (some (.int .u8 0), 1, 1) := by kernel_rfl
set_option maxRecDepth 100000 in
set_option maxHeartbeats 4000000 in
theorem wstr_any {B b : Nat} {l : List UInt8} (s : List UInt8) {w : World} (h : Bdr B b l w) (hl : l.length + s.length ≤ 225000000000000) (hB : B ≤ w.heap.size) :
    Calls Tryd.prog 50 #[.pointer (some ⟨b, 0, none⟩), S s] w fun e w' => (∃ z, e = .returned z) ∧ Bdr B b (l ++ s) w' ∧ Below B w w' := by
  have HC := hide (copy_any h)
  clear h
  go_enter Tryd.func50, Tryd.ntmps50
  go_wp2_with (go_at_call 59; refine HC.out.mono ?_)
  rintro e w1 ⟨rfl, h1, hb1⟩
  obtain ⟨hBb, v, hbk, hown, hne⟩ := h1
  have hB1 := Nat.le_trans hB hb1.size
  have c0 : w1.cell? ⟨b, 0, none⟩ = some (.pointer (some ⟨b, 0, none⟩)) := by rw [Lib.cell_of_heap hbk]; rfl
  have c1 : w1.cell? ⟨b, 1, none⟩ = some v := by rw [Lib.cell_of_heap hbk]; rfl
  have hlt : b < w1.heap.size := by
    rcases Nat.lt_or_ge b w1.heap.size with h' | h'
    · exact h'
    · simp [Array.getElem?_eq_none h'] at hbk
  have HBK := hide hbk
  have HOW := hide hown
  have HNE := hide hne
  have HB1 := hide hb1
  clear hbk hown hne hb1 HC
  go_wp2_with (at_builtin; refine app_wide rfl (.tmp 12) (.tmp 13) 77 9 rfl B 5 Tryd.underlying77 Tryd.underlying9 u8_info _ _ _ rfl HOW.out s rfl (by simpa using hl) hB1 ?_)
  intro a' c' w2 hown' hgrow
  have hb2 : w2.heap[b]? = some (.cells #[.pointer (some ⟨b, 0, none⟩), v] 79 (0, 0)) := by
    rw [hgrow.block b hlt (fun e => HNE.out e.symm)]
    exact HBK.out
  have d0 : w2.cell? ⟨b, 0, none⟩ = some (.pointer (some ⟨b, 0, none⟩)) := by rw [Lib.cell_of_heap hb2]; rfl
  have d1 : w2.cell? ⟨b, 1, none⟩ = some v := by rw [Lib.cell_of_heap hb2]; rfl
  have f1 : w2.frozen? ⟨b, 1, none⟩ = false := Lib.frozen_of_heap hb2 1
  have HB2 := hide hb2
  have HO2 := hide hown'
  have HG2 := hide hgrow
  clear hb2 hown' hgrow c0 c1
  go_wp2_with fail
  go_ret2
  refine ⟨⟨_, rfl⟩, .inr ?_, ?_⟩
  · refine Lib.BuilderAt.put hBb HB2.out (bs' := (l ++ s).map B8) ?_ (by decide)
    have := HO2.out
    rw [List.length_map, List.length_append, List.map_append]
    exact this
  · exact (HB1.out.grown HG2.out hB1 (fun k hk => (HOW.out.lt k hk).1)).setCell (p := ⟨b, 1, none⟩) hBb _
/-- What it holds, as text. -/
theorem bstr_any {B b : Nat} {l : List UInt8} {w : World} (h : Bdr B b l w) (hB : B ≤ w.heap.size) : Calls Tryd.prog 52 #[.pointer (some ⟨b, 0, none⟩)] w fun e w' => e = .returned (S l) ∧ Below B w w' :=
  Tryd.Builder_String_any B b l w h hB
def tabs (d : Nat) : List UInt8 := List.replicate d 9
theorem tabs_succ (d : Nat) : tabs d ++ [9] = tabs (d + 1) := (List.replicate_succ' (n := d) (a := (9 : UInt8))).symm
theorem rep_any (d : Nat) (hd : d ≤ 1000000) (w : World) : Calls Tryd.prog 45 #[S [9], .int .i64 (d : Int)] w (Gives w (S (tabs d))) := by
  refine (Tryd.strings_Repeat ⟨#[9]⟩ d w (by omega) (by show 1 * d ≤ _; omega)).mono ?_
  rintro e w' ⟨rfl, hb⟩
  refine ⟨?_, hb⟩
  have : ∀ d, Lib.repeatL [9] d = tabs d := by
    intro d
    induction d with
    | zero => rfl
    | succ d ih => rw [Lib.repeatL, ih]; rfl
  have e : (ByteArray.mk #[9]).data.toList = [9] := rfl
  rw [e, this]
end Go.Proofs.YtleccalfcnkklaaDoor
