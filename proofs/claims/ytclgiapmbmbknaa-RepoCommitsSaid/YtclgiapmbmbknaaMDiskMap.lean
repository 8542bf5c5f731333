/- Texts by their names: a map of the call's own, as a function; a change done to it; no statement of the seat is proved here. -/
import Derived.Test.YtclgiapmbmbknaaMBase
import Derived.Test.YtclgiapmbmbknaaProg
import Derived.Maps.OwnSet
import Derived.Maps.OwnOps
import Derived.Test.YtclgiapmbmbknaaChecked
import Derived.StillTailTactics
import Derived.Test.YtclgiapmbmbknaaMRecs
import Derived.WalkKit
import Derived.Shelf.SlMaps.Clone
namespace Go.Proofs.Ytclgiapmbmbknaa
open Go.RowKit Go.Maps

theorem klaw : Keyed Try.prog 9 := string_keyed Try.underlying9
def short (s : List UInt8) : Prop := s.length ≤ 9223372036854775807

/-- An element reads as itself. -/
def heldR (v : Value) : Option (DataW Value × List MemPlace) := some (.held v, [])
theorem heldR_inv {v V : Value} {ps : List MemPlace} (h : heldR v = some (.held V, ps)) : v = V := by
  simp [heldR] at h
  exact h.1
theorem key_S {l : List UInt8} (h : short l) : keyOf Try.prog 9 (S l) = some (.string l) := by
  have := Go.WideMaps.keyOf_string_mk Try.underlying9 (s := ⟨l.toArray⟩) (by show l.toArray.size ≤ maxLen; simp only [List.size_toArray]; unfold maxLen; unfold short at h; omega)
  simpa using this
theorem keyLit_string (l : List UInt8) : WideAt.IsKeyLit (.string l) := by simp [WideAt.IsKeyLit]
theorem owns_of_block {w w' : World} {m N : Nat} {D : DataW Value} (h : w.ownsMap Try.prog 9 heldR m N D) (he : w'.heap[m]? = w.heap[m]?) : w'.ownsMap Try.prog 9 heldR m N D := by
  obtain ⟨es, clock, hb, r⟩ := h
  exact ⟨es, clock, he.trans hb, r⟩
theorem zero_str (w : World) : (zeroValue 9).run Try.prog w = .ok (S []) w := by kernel_rfl

theorem lookup_held2 {P : Program} (w : World) {ops : Array Oper} {rest : List Oper} {o : Oper} {a : Act} {Q : Exit → Act → World → Prop} (hg : o.guard = none) (m x : Operand) (t : TypeId) (hop : o.op = Op.lookup t m x true)
    (k e : TypeId) (K : Keyed P k) (ht : P.underlying t = some (.map k e)) {z : Value} (hz : (zeroValue e).run P w = .ok z w) (b n : Nat) (D : DataW Value)
    (hm : a.eval m = .map (some b)) (hown : w.ownsMap P k heldR b n D) (key : Value) (kl : Lit) (hx : a.eval x = key) (hkey : keyOf P k key = some kl) (V : Value) (B : Bool) (hV : D.atKey kl (.held z) = .held V) (hB : Maps.has D kl = B)
    (hK : wpList P ops Q rest (a.put o.dst (.tuple #[V, .bool B])) w) :
    wpList P ops Q (o :: rest) a w := by
  refine wpList_lookup_own_ok w hg m x t hop k e K ht heldR hz (.held z) [] rfl b n D hm hown key kl hx hkey fun v ps hv => ?_
  rw [hV] at hv
  rw [heldR_inv hv, hB]
  exact hK

theorem lookup_held1 {P : Program} (w : World) {ops : Array Oper} {rest : List Oper} {o : Oper} {a : Act} {Q : Exit → Act → World → Prop} (hg : o.guard = none) (m x : Operand) (t : TypeId) (hop : o.op = Op.lookup t m x false)
    (k e : TypeId) (K : Keyed P k) (ht : P.underlying t = some (.map k e)) {z : Value} (hz : (zeroValue e).run P w = .ok z w) (b n : Nat) (D : DataW Value)
    (hm : a.eval m = .map (some b)) (hown : w.ownsMap P k heldR b n D) (key : Value) (kl : Lit) (hx : a.eval x = key) (hkey : keyOf P k key = some kl) (V : Value) (hV : D.atKey kl (.held z) = .held V)
    (hK : wpList P ops Q rest (a.put o.dst V) w) :
    wpList P ops Q (o :: rest) a w := by
  refine wpList_plain hg fun K' hK' => ?_
  obtain ⟨v, ps, hrun, hv⟩ := hown.lookup K ht hz (zd := .held z) (zp := []) rfl hkey
  rw [hV] at hv
  obtain rfl := heldR_inv hv
  unfold Oper.wp
  simp [execOp, hop, hm, hx, hrun, Result.andThen]
  exact hK' _ _ hK

/-- What the names have. -/
abbrev Fl := List UInt8 → Option (List UInt8)
def Fl.set (F : Fl) (k v : List UInt8) : Fl := fun x => if x = k then some v else F x
def Fl.del (F : Fl) (k : List UInt8) : Fl := fun x => if x = k then none else F x
/-- A map reads so. -/
def Reads (D : DataW Value) (F : Fl) : Prop := Maps.IsMap D ∧ ∀ k, Maps.has D (.string k) = (F k).isSome ∧ ∀ z, D.atKey (.string k) (.held z) = .held (((F k).map S).getD z)
/-- The map of block b: N entries at most were ever laid. -/
def TxtIs (w : World) (b N : Nat) (F : Fl) : Prop := ∃ D : DataW Value, w.ownsMap Try.prog 9 heldR b N D ∧ Reads D F
theorem Reads.none : Reads (.map []) (fun _ => none) := ⟨Maps.isMap_empty, fun k => ⟨by simp [Maps.has], fun z => by simp [DataW.atKey]⟩⟩
theorem Reads.set {D : DataW Value} {F : Fl} (h : Reads D F) (k v : List UInt8) : Reads (D.put (.string k) (.held (S v))) (F.set k v) := by
  refine ⟨h.1.put _ _, fun x => ?_⟩
  by_cases e : x = k
  · subst e
    simp only [Fl.set, if_pos]
    exact ⟨Maps.has_put_same h.1 (keyLit_string _) _, fun z => Maps.atKey_put_same h.1 (keyLit_string _) _ _⟩
  · simp only [Fl.set, if_neg e]
    have hne : Lit.string x ≠ Lit.string k := fun h => e (by injection h)
    exact ⟨(Maps.has_put_other hne _).trans (h.2 x).1, fun z => (Maps.atKey_put_other hne _ _).trans ((h.2 x).2 z)⟩
theorem Reads.del {D : DataW Value} {F : Fl} (h : Reads D F) (k : List UInt8) : Reads (D.del (.string k)) (F.del k) := by
  refine ⟨h.1.del _, fun x => ?_⟩
  by_cases e : x = k
  · subst e
    simp only [Fl.del, if_pos]
    exact ⟨Maps.has_del_same, fun z => Maps.atKey_del_same _⟩
  · simp only [Fl.del, if_neg e]
    have hne : Lit.string x ≠ Lit.string k := fun h => e (by injection h)
    exact ⟨(Maps.has_del_other hne).trans (h.2 x).1, fun z => (Maps.atKey_del_other hne _).trans ((h.2 x).2 z)⟩
theorem TxtIs.of_block {w w' : World} {b N : Nat} {F : Fl} (h : TxtIs w b N F) (he : w'.heap[b]? = w.heap[b]?) : TxtIs w' b N F := by
  obtain ⟨D, h1, h2⟩ := h
  exact ⟨D, owns_of_block h1 he, h2⟩
theorem TxtIs.lt {w : World} {b N : Nat} {F : Fl} (h : TxtIs w b N F) : b < w.heap.size := by obtain ⟨D, h1, _⟩ := h; exact h1.lt
theorem TxtIs.mono {w : World} {b N N' : Nat} {F : Fl} (h : TxtIs w b N F) (hn : N ≤ N') : TxtIs w b N' F := by obtain ⟨D, h1, h2⟩ := h; exact ⟨D, h1.mono hn, h2⟩
theorem TxtIs.made (w : World) : TxtIs (w.alloc (.map #[] 0)) w.heap.size 0 (fun _ => none) := ⟨.map [], World.ownsMap_made _ _ _ _, Reads.none⟩

/-- A change: 0 write, 1 rename, 2 remove. -/
structure Ch where
  k : Nat
  n : List UInt8
  t : List UInt8
abbrev Ch.cells (c : Ch) : List Value := [.int .i64 c.k, S c.n, S c.t]
abbrev Ch.val (c : Ch) : Value := .agg #[.int .i64 c.k, S c.n, S c.t]
def Ch.ok (c : Ch) : Prop := short c.n ∧ short c.t
/-- A change done. -/
def chDo (F : Fl) (c : Ch) : Fl :=
  if c.k = 0 then F.set c.n c.t else if c.k = 1 then (match F c.n with | some o => (F.del c.n).set c.t o | none => F) else if c.k = 2 then F.del c.n else F
end Go.Proofs.Ytclgiapmbmbknaa
/- A change done to files: the contract of change.do; no statement of the seat is proved here. -/
namespace Go.Proofs.Ytclgiapmbmbknaa
open Go.RowKit Go.Maps

set_option maxRecDepth 100000 in
set_option maxHeartbeats 2000000 in
theorem do_any (c : Ch) (hc : c.ok) (hk : c.k ≤ 2) (b N : Nat) (F : Fl) (w : World) (h : TxtIs w b N F) (hN : N ≤ 1000000) :
    Calls Try.prog 39 #[c.val, .map (some b)] w
      (fun e w' => e = .returned (.tuple #[]) ∧ TxtIs w' b (N + 1) (chDo F c) ∧ Keep (fun k => k = b) w w') := by
  obtain ⟨k, n, t⟩ := c
  obtain ⟨hn, ht⟩ := hc
  obtain ⟨D, hD, hR⟩ := h
  have hkn := key_S hn
  have hkt := key_S ht
  have hB := (hR.2 n).1
  have hV := (hR.2 n).2 (S [])
  have HR := hide hR
  have hkp : Keep (fun k => k = b) w (w.alloc (.cells #[.int .i64 k, S n, S t] 80)) := (Keep.refl _ w).alloc _
  have hDa : (w.alloc (.cells #[.int .i64 k, S n, S t] 80)).ownsMap Try.prog 9 heldR b N D := hD.alloc _
  have HK := hide hkp
  have hbl : b < w.heap.size := hD.lt
  have kb := Blk.new w 80 #[.int .i64 k, S n, S t]
  clear hD hR hn ht hkp
  cases hF : F n with
  | none =>
    rw [hF] at hB hV
    simp only [Option.isSome_none, Option.map_none, Option.getD_none] at hB hV
    rcases k with _ | _ | _ | k
    · go_enter Try.func39, Try.ntmps39
      go_wp2_with (first | (at_lookup; refine lookup_held2 _ rfl _ _ 63 rfl 9 9 klaw Try.underlying63 (zero_str _) b _ D rfl hDa _ _ rfl hkn (S []) false hV hB ?_) | (at_mapUpdate; refine wpList_mapUpdate_own _ rfl _ _ _ 63 rfl 9 9 klaw Try.underlying63 _ b N D rfl hDa (by unfold maxLen; omega) _ _ _ rfl rfl hkn _ [] (show heldR (S t) = some (.held (S t), []) from rfl) ?_; intro w2 hown2 hgrow2))
      refine bodyPost_end (v := .tuple #[]) ?_ rfl ?_
      · simp [results, Try.results39, go_sem]
      exact ⟨rfl, ⟨_, hown2, HR.out.set n t⟩, HK.out.grown hgrow2 (fun k hk _ => by injection hk with hk; exact hk.symm)⟩
    · have he : chDo F ⟨1, n, t⟩ = F := by simp [chDo, hF]
      have HE := hide he
      clear he
      go_enter Try.func39, Try.ntmps39
      go_wp2_with (at_lookup; refine lookup_held2 _ rfl _ _ 63 rfl 9 9 klaw Try.underlying63 (zero_str _) b _ D rfl hDa _ _ rfl hkn (S []) false hV hB ?_)
      refine bodyPost_end (v := .tuple #[]) ?_ rfl ?_
      · simp [results, Try.results39, go_sem]
      exact ⟨rfl, by rw [HE.out]; exact ⟨D, hDa.mono (by omega), HR.out⟩, HK.out⟩
    · go_enter Try.func39, Try.ntmps39
      go_wp2_with (first | (at_lookup; refine lookup_held2 _ rfl _ _ 63 rfl 9 9 klaw Try.underlying63 (zero_str _) b _ D rfl hDa _ _ rfl hkn (S []) false hV hB ?_) | (at_delete; refine wpList_delete_own _ rfl _ _ 63 9 rfl 9 klaw Try.underlying63 _ b N D rfl hDa _ _ rfl hkn ?_; intro w2 hown2 hturn2))
      refine bodyPost_end (v := .tuple #[]) ?_ rfl ?_
      · simp [results, Try.results39, go_sem]
      exact ⟨rfl, ⟨_, hown2.mono (by omega), HR.out.del n⟩, HK.out.grown hturn2.grown (fun k hk _ => by injection hk with hk; exact hk.symm)⟩
    · simp at hk
  | some o =>
    rw [hF] at hB hV
    simp only [Option.isSome_some, Option.map_some, Option.getD_some] at hB hV
    rcases k with _ | _ | _ | k
    · go_enter Try.func39, Try.ntmps39
      go_wp2_with (first | (at_lookup; refine lookup_held2 _ rfl _ _ 63 rfl 9 9 klaw Try.underlying63 (zero_str _) b _ D rfl hDa _ _ rfl hkn (S o) true hV hB ?_) | (at_mapUpdate; refine wpList_mapUpdate_own _ rfl _ _ _ 63 rfl 9 9 klaw Try.underlying63 _ b N D rfl hDa (by unfold maxLen; omega) _ _ _ rfl rfl hkn _ [] (show heldR (S t) = some (.held (S t), []) from rfl) ?_; intro w2 hown2 hgrow2))
      refine bodyPost_end (v := .tuple #[]) ?_ rfl ?_
      · simp [results, Try.results39, go_sem]
      exact ⟨rfl, ⟨_, hown2, HR.out.set n t⟩, HK.out.grown hgrow2 (fun k hk _ => by injection hk with hk; exact hk.symm)⟩
    · have he : chDo F ⟨1, n, t⟩ = (F.del n).set t o := by simp [chDo, hF]
      have HE := hide he
      clear he
      go_enter Try.func39, Try.ntmps39
      go_wp2_with (first | (at_lookup; refine lookup_held2 _ rfl _ _ 63 rfl 9 9 klaw Try.underlying63 (zero_str _) b _ D rfl hDa _ _ rfl hkn (S o) true hV hB ?_) | (at_delete; refine wpList_delete_own _ rfl _ _ 63 9 rfl 9 klaw Try.underlying63 _ b N D rfl hDa _ _ rfl hkn ?_; intro w2 hown2 hturn2; have hk2 := HK.out.grown hturn2.grown (fun k hk _ => by injection hk with hk; exact hk.symm); have hb2 := kb.grown hturn2.grown (by simp; omega); have r0 : w2.cell? ⟨w.heap.size, 0, none⟩ = some (.int .i64 1) := hb2.cell 0; have r1 : w2.cell? ⟨w.heap.size, 1, none⟩ = some (S n) := hb2.cell 1; have r2 : w2.cell? ⟨w.heap.size, 2, none⟩ = some (S t) := hb2.cell 2; have HK2 := hide hk2; clear hk2 hturn2 hb2) | (at_mapUpdate; refine wpList_mapUpdate_own _ rfl _ _ _ 63 rfl 9 9 klaw Try.underlying63 _ b N (D.del (.string n)) rfl hown2 (by unfold maxLen; omega) _ _ _ rfl rfl hkt _ [] (show heldR (S o) = some (.held (S o), []) from rfl) ?_; intro w3 hown3 hgrow3))
      refine bodyPost_end (v := .tuple #[]) ?_ rfl ?_
      · simp [results, Try.results39, go_sem]
      exact ⟨rfl, by rw [HE.out]; exact ⟨_, hown3, (HR.out.del n).set t o⟩, HK2.out.grown hgrow3 (fun k hk _ => by injection hk with hk; exact hk.symm)⟩
    · go_enter Try.func39, Try.ntmps39
      go_wp2_with (first | (at_lookup; refine lookup_held2 _ rfl _ _ 63 rfl 9 9 klaw Try.underlying63 (zero_str _) b _ D rfl hDa _ _ rfl hkn (S o) true hV hB ?_) | (at_delete; refine wpList_delete_own _ rfl _ _ 63 9 rfl 9 klaw Try.underlying63 _ b N D rfl hDa _ _ rfl hkn ?_; intro w2 hown2 hturn2))
      refine bodyPost_end (v := .tuple #[]) ?_ rfl ?_
      · simp [results, Try.results39, go_sem]
      exact ⟨rfl, ⟨_, hown2.mono (by omega), HR.out.del n⟩, HK.out.grown hturn2.grown (fun k hk _ => by injection hk with hk; exact hk.symm)⟩
    · simp at hk
end Go.Proofs.Ytclgiapmbmbknaa
/- What files there are: the contract of Disk.files; no statement of the seat is proved here. -/
namespace Go.Proofs.Ytclgiapmbmbknaa
open Go.RowKit Go.Maps Go.Shelf
def Try.cloneL_ren : Go.Shelf.Ren := ⟨fun | 5 => 38 | 7 => 55 | n => n, fun | 23 => 63 | 25 => 9 | 3 => 9 | 4 => 4 | 20 => 20 | n => n, fun n => n⟩
theorem Try.cloneL : SlLaysW.n5 Try.prog Try.cloneL_ren := {
  mixed := by kernel_rfl
  f5 := ⟨Try.f38.name, by decide, Try.func38.trans (congrArg some (by kernel_rfl))⟩
  f7 := Try.func55.trans (congrArg some (by kernel_rfl))
  t4 := Try.underlying4
  a4 := Try.isAgg4
  z4 := Try.sizeOf4
  v4 := Try.zeroValue4
  t20 := Try.underlying20
  a20 := Try.isAgg20
  z20 := Try.sizeOf20
  v20 := Try.zeroValue20
  t23 := Try.underlying63
  a23 := Try.isAgg63
  z23 := Try.sizeOf63
  v23 := Try.zeroValue63 }

theorem clone_any (b N : Nat) (F : Fl) (w : World) (h : TxtIs w b N F) :
    Calls Try.prog 38 #[.map (some b)] w (fun e w' => e = .returned (.map (some w.heap.size)) ∧ TxtIs w' w.heap.size N F ∧ Below w.heap.size w w') := by
  obtain ⟨D, hD, hR⟩ := h
  refine (AnyW.maps_Clone_owns Try.cloneL 9 heldR b N D w hD).mono ?_
  rintro e w' ⟨rfl, h1, _, h2⟩
  exact ⟨rfl, ⟨D, h1, hR⟩, h2⟩

theorem takeS {α : Type} {l : List α} {k : Nat} (hk : k < l.length) : l.take (k + 1) = l.take k ++ [l[k]] := by
  rw [List.take_add_one, List.getElem?_eq_getElem hk]; rfl

set_option maxRecDepth 100000 in
set_option maxHeartbeats 2000000 in
theorem files_any (g b N n c : Nat) (cs : List Ch) (A : Option Addr) (room fall : Int) (dn : Bool) (F : Fl) (w : World)
    (hg : Blk w g 66 #[.map (some b), .slice A n c, .int .i64 room, .int .i64 fall, .bool dn]) (h : TxtIs w b N F)
    (hs : Rd w (fun k => w.heap.size ≤ k) 3 A n (cs.flatMap Ch.cells)) (hl : cs.length = n) (hn : n ≤ 100000) (hN : N ≤ 100000) (hok : ∀ c ∈ cs, c.ok ∧ c.k ≤ 2) :
    Calls Try.prog 33 #[.pointer (some ⟨g, 0, none⟩)] w
      (fun e w' => e = .returned (.map (some w.heap.size)) ∧ TxtIs w' w.heap.size (N + n) (cs.foldl chDo F) ∧ Below w.heap.size w w') := by
  have c0 : w.cell? ⟨g, 0, none⟩ = some (.map (some b)) := hg.cell 0
  have HC := hide (clone_any b N F w h)
  go_enter Try.func33, Try.ntmps33
  go_wp2_with fail
  refine HC.out.mono ?_
  rintro e w1 ⟨rfl, ht, hb⟩
  have hg1 := hg.below hb hg.lt
  have c1 : w1.cell? ⟨g, 1, none⟩ = some (.slice A n c) := hg1.cell 1
  have HT := hide ht
  clear HC c0 ht
  go_wp2_with fail
  go_loopw [16] (fun i wr => ∃ k : Nat, k ≤ n ∧ i = .int .i64 k ∧ TxtIs wr w.heap.size (N + k) ((cs.take k).foldl chDo F) ∧ Below w.heap.size w wr) (fun i _ => n - (intOf i).toNat)
  case atStart => exact ⟨0, Nat.zero_le _, rfl, HT.out, hb⟩
  case round =>
    obtain ⟨k, hk, rfl, htr, hBr⟩ := hrel
    have HTR := hide htr
    clear htr
    by_cases hlt : k < n
    · obtain ⟨x, o, rfl, _, _, hcell⟩ := Rd.rec_ (size := 3) (fun _ => rfl) (hs.below hBr) hl k hlt
      have hlk : k < cs.length := by omega
      have hck := hok _ (List.getElem_mem hlk)
      have HF : Hid ((cs.take (k + 1)).foldl chDo F = chDo ((cs.take k).foldl chDo F) cs[k]) := hide (by rw [takeS hlk, List.foldl_append]; rfl)
      obtain ⟨d, hd⟩ : ∃ d, d = cs[k] := ⟨_, rfl⟩
      rw [← hd] at hcell hck HF
      clear hd
      obtain ⟨dk, dm, dt⟩ := d
      have q0 : wr.cell? ⟨x, o + k * 3, none⟩ = some (.int .i64 dk) := hcell 0 _ rfl
      have q1 : wr.cell? ⟨x, o + k * 3 + 1, none⟩ = some (S dm) := hcell 1 _ rfl
      have q2 : wr.cell? ⟨x, o + k * 3 + 2, none⟩ = some (S dt) := hcell 2 _ rfl
      have hdo := do_any ⟨dk, dm, dt⟩ hck.1 hck.2 w.heap.size (N + k) _ (wr.alloc (.cells #[.int .i64 dk, S dm, S dt] 80)) (HTR.out.of_block (Below.heap_alloc _ _ _ HTR.out.lt)) (by omega)
      have HDO := hide hdo
      clear hcell hdo
      go_wp2_with fail
      refine HDO.out.mono ?_
      rintro e w5 ⟨rfl, ht5, hk5⟩
      have hB5 := (hBr.alloc hBr.size (.cells #[.int .i64 dk, S dm, S dt] 80)).trans (hk5.below (B := w.heap.size) (by have := hBr.size; simp; omega) (fun k hk => by omega))
      have HT5 := hide ht5
      clear ht5 hk5 HDO
      go_wp2_with fail
      go_roundw
      case rel => exact ⟨k + 1, by omega, by go_num, by rw [HF.out]; exact HT5.out, hB5⟩
      case measure => simp [intOf]; omega
    · have HE : Hid (cs.take k = cs) := hide (List.take_of_length_le (by omega))
      have HN : Hid (k = n) := hide (by omega)
      go_wp2_with fail
      go_ret
      refine ⟨rfl, ?_, hBr⟩
      have := HTR.out
      rwa [HE.out, HN.out] at this
end Go.Proofs.Ytclgiapmbmbknaa
/- A disk made new; a disk's turn while no fall is set; no statement of the seat is proved here. -/
namespace Go.Proofs.Ytclgiapmbmbknaa
open Go.RowKit Go.Maps

set_option maxRecDepth 100000 in
set_option maxHeartbeats 2000000 in
theorem turn_up (g b n c : Nat) (A : Option Addr) (room : Int) (w : World)
    (hg : Blk w g 66 #[.map (some b), .slice A n c, .int .i64 room, .int .i64 (-1), .bool false]) :
    Calls Try.prog 31 #[.pointer (some ⟨g, 0, none⟩)] w (fun e w' => e = .returned (.int .i64 0) ∧ w' = w) := by
  have c3 : w.cell? ⟨g, 3, none⟩ = some (.int .i64 (-1)) := hg.cell 3
  have c4 : w.cell? ⟨g, 4, none⟩ = some (.bool false) := hg.cell 4
  go_enter Try.func31, Try.ntmps31
  go_wp2_with fail
  go_ret
  exact ⟨rfl, rfl⟩

set_option maxRecDepth 100000 in
set_option maxHeartbeats 2000000 in
theorem dnew_any (room : Nat) (hr : room ≤ 4194304) (w : World) :
    Calls Try.prog 7 #[.int .i64 room] w (fun e w' => e = .returned (.pointer (some ⟨w.heap.size + 1, 0, none⟩)) ∧
      w' = (w.alloc (.map #[] 0)).alloc (.cells #[.map (some w.heap.size), .slice none 0 0, .int .i64 room, .int .i64 (-1), .bool false] 66)) := by
  have hmm := @run_makeMap Try.prog
  have h1 : max (room : Int) 0 = room := by omega
  have h2 : min (room : Int) 4194304 = room := by omega
  go_enter Try.func7, Try.ntmps7
  go_wp2_with fail
  go_ret
  exact ⟨rfl, rfl⟩
end Go.Proofs.Ytclgiapmbmbknaa
/- A file's text read: the contracts of Disk.Down and Disk.Read while there is power; no statement of the seat is proved here. -/
namespace Go.Proofs.Ytclgiapmbmbknaa
open Go.RowKit Go.Maps

set_option maxRecDepth 100000 in
theorem down_no (g b n c : Nat) (A : Option Addr) (room fall : Int) (w : World)
    (hg : Blk w g 66 #[.map (some b), .slice A n c, .int .i64 room, .int .i64 fall, .bool false]) :
    Calls Try.prog 20 #[.pointer (some ⟨g, 0, none⟩)] w (fun e w' => e = .returned (.bool false) ∧ w' = w) := by
  have c4 : w.cell? ⟨g, 4, none⟩ = some (.bool false) := hg.cell 4
  go_enter Try.func20, Try.ntmps20
  go_wp2_with fail
  go_ret
  exact ⟨rfl, rfl⟩

set_option maxRecDepth 100000 in
set_option maxHeartbeats 2000000 in
theorem read_any (g b N n c : Nat) (cs : List Ch) (A : Option Addr) (room fall : Int) (F : Fl) (k : List UInt8) (hk : short k) (w : World)
    (hg : Blk w g 66 #[.map (some b), .slice A n c, .int .i64 room, .int .i64 fall, .bool false]) (h : TxtIs w b N F)
    (hs : Rd w (fun k => w.heap.size ≤ k) 3 A n (cs.flatMap Ch.cells)) (hl : cs.length = n) (hn : n ≤ 100000) (hN : N ≤ 100000) (hok : ∀ c ∈ cs, c.ok ∧ c.k ≤ 2) :
    Calls Try.prog 34 #[.pointer (some ⟨g, 0, none⟩), S k] w
      (fun e w' => e = .returned (.tuple #[S (((cs.foldl chDo F) k).getD []), .int .i64 (if ((cs.foldl chDo F) k).isSome then 0 else 5)]) ∧ Below w.heap.size w w') := by
  have HD := hide (down_no g b n c A room fall w hg)
  have HL := hide (files_any g b N n c cs A room fall false F w hg h hs hl hn hN hok)
  have hkn := key_S hk
  clear hg h hs hl hn hN hok hk
  obtain ⟨R, hR⟩ : ∃ R, R = cs.foldl chDo F := ⟨_, rfl⟩
  rw [← hR] at HL
  rw [← hR]
  clear hR
  obtain ⟨E, hE⟩ : ∃ E : Int, E = if (R k).isSome then 0 else 5 := ⟨_, rfl⟩
  rw [← hE]
  have HE := hide hE
  clear hE
  go_enter Try.func34, Try.ntmps34
  go_wp2_with fail
  refine HD.out.mono ?_
  rintro e w1 ⟨rfl, rfl⟩
  go_wp2_with fail
  refine HL.out.mono ?_
  rintro e w2 ⟨rfl, ⟨D, hD, hRd⟩, hb⟩
  have hB := (hRd.2 k).1
  have hV := (hRd.2 k).2 (S [])
  clear hRd HL HD
  cases hF : R k with
  | none =>
    rw [hF] at hB hV
    simp only [Option.isSome_none, Option.map_none, Option.getD_none] at hB hV
    obtain rfl : E = 5 := by have := HE.out; rw [hF] at this; simpa using this
    go_wp2_with (at_lookup; refine lookup_held2 _ rfl _ _ 63 rfl 9 9 klaw Try.underlying63 (zero_str _) _ _ D rfl hD _ _ rfl hkn (S []) false hV hB ?_)
    go_ret2
    exact ⟨by rw [hF]; rfl, hb⟩
  | some o =>
    rw [hF] at hB hV
    simp only [Option.isSome_some, Option.map_some, Option.getD_some] at hB hV
    obtain rfl : E = 0 := by have := HE.out; rw [hF] at this; simpa using this
    go_wp2_with (at_lookup; refine lookup_held2 _ rfl _ _ 63 rfl 9 9 klaw Try.underlying63 (zero_str _) _ _ D rfl hD _ _ rfl hkn (S o) true hV hB ?_)
    go_ret2
    exact ⟨by rw [hF]; rfl, hb⟩
end Go.Proofs.Ytclgiapmbmbknaa
/- All made safe: the contract of Disk.Sync while no fall is set; no statement of the seat is proved here. -/
namespace Go.Proofs.Ytclgiapmbmbknaa
open Go.RowKit Go.Maps

set_option maxRecDepth 100000 in
set_option maxHeartbeats 2000000 in
theorem sync_up (g b N n c : Nat) (cs : List Ch) (A : Option Addr) (room : Int) (F : Fl) (w : World)
    (hg : Blk w g 66 #[.map (some b), .slice A n c, .int .i64 room, .int .i64 (-1), .bool false]) (h : TxtIs w b N F)
    (hs : Rd w (fun k => w.heap.size ≤ k) 3 A n (cs.flatMap Ch.cells)) (hl : cs.length = n) (hn : n ≤ 100000) (hN : N ≤ 100000) (hok : ∀ c ∈ cs, c.ok ∧ c.k ≤ 2) :
    Calls Try.prog 27 #[.pointer (some ⟨g, 0, none⟩)] w
      (fun e w' => e = .returned (.int .i64 0) ∧ Blk w' g 66 #[.map (some w.heap.size), .slice none 0 0, .int .i64 room, .int .i64 (-1), .bool false] ∧
        TxtIs w' w.heap.size (N + n) (cs.foldl chDo F) ∧ Keep (fun k => k = g) w w') := by
  have HD := hide (turn_up g b n c A room w hg)
  have HL := hide (files_any g b N n c cs A room (-1) false F w hg h hs hl hn hN hok)
  have hgl := hg.lt
  clear h hs hl hn hN hok
  go_enter Try.func27, Try.ntmps27
  go_wp2_with fail
  refine HD.out.mono ?_
  rintro e w1 ⟨rfl, rfl⟩
  go_wp2_with fail
  refine HL.out.mono ?_
  rintro e w2 ⟨rfl, ht, hb⟩
  have hk2 := hg.below hb hgl
  have f0 := hk2.frozen 0
  have f1 := hk2.frozen 1
  have p0 : w2.cell? ⟨g, 0, none⟩ = some (.map (some b)) := hk2.cell 0
  have p1 : w2.cell? ⟨g, 1, none⟩ = some (.slice A n c) := hk2.cell 1
  have hk3 := (hk2.set_ 0 (.map (some w1.heap.size))).set_ 1 (.slice none 0 0)
  have ht3 := (ht.of_block (Below.heap_setCell w2 ⟨g, 0, none⟩ (.map (some w1.heap.size)) _ (by simp; omega))).of_block (Below.heap_setCell (w2.setCell ⟨g, 0, none⟩ (.map (some w1.heap.size))) ⟨g, 1, none⟩ (.slice none 0 0) _ (by simp; omega))
  have hk := ((Keep.of_below (F := fun k => k = g) hb (fun k h1 h2 => by omega)).setCell (p := ⟨g, 0, none⟩) (fun _ => rfl) (.map (some w1.heap.size))).setCell (p := ⟨g, 1, none⟩) (fun _ => rfl) (.slice none 0 0)
  have HK := hide hk3
  have HT := hide ht3
  have HKK := hide hk
  clear hk3 ht3 hk HL HD ht hb hg hk2
  go_wp2_with fail
  go_ret
  exact ⟨rfl, HK.out, HT.out, HKK.out⟩
end Go.Proofs.Ytclgiapmbmbknaa
/- The disk behind a loss of power: the contract of Disk.Crash; no statement of the seat is proved here. -/
namespace Go.Proofs.Ytclgiapmbmbknaa
open Go.RowKit Go.Maps

/-- What of the changes was kept. -/
def kept (ks : List Bool) (cs : List Ch) : List Ch := (cs.zipIdx.filter fun x => ks.getD x.2 false).map Prod.fst
theorem kept_succ (ks : List Bool) (cs : List Ch) {k : Nat} (hk : k < cs.length) : kept ks (cs.take (k + 1)) = kept ks (cs.take k) ++ (if ks.getD k false then [cs[k]] else []) := by
  unfold kept
  rw [takeS hk, List.zipIdx_append, List.filter_append, List.map_append]
  congr 1
  simp only [List.length_take, Nat.min_eq_left (Nat.le_of_lt hk), List.zipIdx_singleton, List.getD_eq_getElem?_getD]
  cases h : ks[k]?.getD false <;> simp [h]

set_option maxRecDepth 100000 in
set_option maxHeartbeats 4000000 in
theorem crash_any (g b N n c kn kc room : Nat) (cs : List Ch) (A KA : Option Addr) (ks : List Bool) (fall : Int) (dn : Bool) (F : Fl) (w : World)
    (hg : Blk w g 66 #[.map (some b), .slice A n c, .int .i64 room, .int .i64 fall, .bool dn]) (h : TxtIs w b N F) (hroom : room ≤ 4194304)
    (hs : Rd w (fun k => w.heap.size ≤ k) 3 A n (cs.flatMap Ch.cells)) (hl : cs.length = n) (hn : n ≤ 100000) (hN : N ≤ 100000) (hok : ∀ c ∈ cs, c.ok ∧ c.k ≤ 2)
    (hk : Rd w (fun k => w.heap.size ≤ k) 1 KA kn (ks.map .bool)) (hkl : ks.length = kn) :
    Calls Try.prog 17 #[.pointer (some ⟨g, 0, none⟩), .slice KA kn kc] w
      (fun e w' => ∃ g' b', e = .returned (.pointer (some ⟨g', 0, none⟩)) ∧ Blk w' g' 66 #[.map (some b'), .slice none 0 0, .int .i64 room, .int .i64 (-1), .bool false] ∧
        TxtIs w' b' (N + n) ((kept ks cs).foldl chDo F) ∧ Below w.heap.size w w' ∧ w.heap.size ≤ g' ∧ w.heap.size ≤ b') := by
  have c2 : w.cell? ⟨g, 2, none⟩ = some (.int .i64 room) := hg.cell 2
  have HNW := hide (dnew_any room hroom w)
  go_enter Try.func17, Try.ntmps17
  go_wp2_with fail
  refine HNW.out.mono ?_
  rintro e w1 ⟨rfl, hw1⟩
  have hb1 : Below w.heap.size w w1 := by rw [hw1]; exact ((Below.refl _ _).alloc (Nat.le_refl _) _).alloc (by simp) _
  have hsz1 : w1.heap.size = w.heap.size + 2 := by rw [hw1]; simp
  have hg1 := hg.below hb1 hg.lt
  have hk1 : Blk w1 (w.heap.size + 1) 66 #[.map (some w.heap.size), .slice none 0 0, .int .i64 room, .int .i64 (-1), .bool false] := by
    have := Blk.new (w.alloc (.map #[] 0)) 66 #[.map (some w.heap.size), .slice none 0 0, .int .i64 room, .int .i64 (-1), .bool false]
    rw [World.size_alloc] at this
    rw [hw1]
    exact this
  have hcl := clone_any b N F w1 (h.of_block (hb1.block b h.lt))
  have c0 : w1.cell? ⟨g, 0, none⟩ = some (.map (some b)) := hg1.cell 0
  have HCL := hide hcl
  clear hw1 HNW c2 hcl
  go_wp2_with fail
  refine HCL.out.mono ?_
  rintro e w2 ⟨rfl, ht2, hb2⟩
  have hk2 := hk1.below hb2 hk1.lt
  have f0 := hk2.frozen 0
  have p0 : w2.cell? ⟨w.heap.size + 1, 0, none⟩ = some (.map (some w.heap.size)) := hk2.cell 0
  have c1 : w2.cell? ⟨g, 1, none⟩ = some (.slice A n c) := (hg1.below hb2 hg1.lt).cell 1
  have hne : g ≠ w.heap.size + 1 := by have := hg.lt; omega
  go_wp2_with fail
  rw [hsz1] at ht2
  have hk3 := hk2.set_ 0 (.map (some (w.heap.size + 2)))
  have ht3 : TxtIs (w2.setCell ⟨w.heap.size + 1, 0, none⟩ (.map (some (w.heap.size + 2)))) (w.heap.size + 2) N F := ht2.of_block (Below.heap_setCell _ _ _ _ (by simp))
  have hb3 := (hb1.trans (hb2.mono (by omega))).setCell (p := ⟨w.heap.size + 1, 0, none⟩) (by simp) (.map (some (w.heap.size + 2)))
  obtain ⟨w3, hw3⟩ : ∃ w3, w3 = w2.setCell ⟨w.heap.size + 1, 0, none⟩ (.map (some (w.heap.size + 2))) := ⟨_, rfl⟩
  rw [← hw3] at hk3 ht3 hb3
  rw [← hw3]
  clear hw3 f0 p0 c1 hk2 ht2 hb2 HCL c0
  go_loopw [29] (fun i wr => ∃ k : Nat, k ≤ n ∧ i = .int .i64 k ∧ Blk wr (w.heap.size + 1) 66 #[.map (some (w.heap.size + 2)), .slice none 0 0, .int .i64 room, .int .i64 (-1), .bool false] ∧ TxtIs wr (w.heap.size + 2) (N + k) ((kept ks (cs.take k)).foldl chDo F) ∧ Below w.heap.size w wr) (fun i _ => n - (intOf i).toNat)
  case atStart => exact ⟨0, Nat.zero_le _, rfl, hk3, ht3, hb3⟩
  case round =>
    obtain ⟨k, hkn, rfl, hkr, htr, hBr⟩ := hrel
    have HTR := hide htr
    clear htr
    by_cases hlt : k < n
    · obtain ⟨x, o, rfl, _, _, hcell⟩ := Rd.rec_ (size := 3) (fun _ => rfl) (hs.below hBr) hl k hlt
      have hlk : k < cs.length := by omega
      have hck := hok _ (List.getElem_mem hlk)
      have HKS : Hid (kept ks (cs.take (k + 1)) = kept ks (cs.take k) ++ (if ks.getD k false then [cs[k]] else [])) := hide (kept_succ ks cs hlk)
      obtain ⟨d, hd⟩ : ∃ d, d = cs[k] := ⟨_, rfl⟩
      rw [← hd] at hcell hck HKS
      clear hd
      obtain ⟨dk, dm, dt⟩ := d
      have q0 : wr.cell? ⟨x, o + k * 3, none⟩ = some (.int .i64 dk) := hcell 0 _ rfl
      have q1 : wr.cell? ⟨x, o + k * 3 + 1, none⟩ = some (S dm) := hcell 1 _ rfl
      have q2 : wr.cell? ⟨x, o + k * 3 + 2, none⟩ = some (S dt) := hcell 2 _ rfl
      clear hcell
      by_cases hlk2 : k < kn
      · obtain ⟨x2, o2, u, rfl, hu, hcu⟩ := (hk.below hBr).at_ k hlk2
        have hlk3 : k < ks.length := by omega
        obtain rfl : Value.bool ks[k] = u := by simpa [hlk3] using hu
        have hgd : ks.getD k false = ks[k] := by simp [hlk3]
        obtain ⟨B, hB⟩ : ∃ B, B = ks[k] := ⟨_, rfl⟩
        rw [hgd, ← hB] at HKS
        rw [← hB] at hcu
        have hcv : wr.cell? ⟨x2, o2 + k, none⟩ = some (.bool B) := by simpa using hcu
        have q5 : (wr.alloc (.cells #[.int .i64 dk, S dm, S dt] 80)).cell? ⟨x2, o2 + k, none⟩ = some (.bool B) := (World.cell?_alloc_lt wr _ _ (World.block_lt_of_cell? _ _ hcv)).trans hcv
        clear hu hgd hB hcu hcv
        cases B
        case false =>
          have hL := HKS.out
          simp at hL
          have HL := hide hL
          clear hL
          go_wp2_with fail
          go_roundw
          case rel => exact ⟨k + 1, by omega, by go_num, hkr.alloc _, by rw [HL.out]; exact (HTR.out.of_block (Below.heap_alloc _ _ _ HTR.out.lt)).mono (by omega), hBr.alloc hBr.size _⟩
          case measure => simp [intOf]; omega
        case true =>
          have hL := HKS.out
          simp at hL
          have HL : Hid ((kept ks (cs.take (k + 1))).foldl chDo F = chDo ((kept ks (cs.take k)).foldl chDo F) ⟨dk, dm, dt⟩) := hide (by rw [hL, List.foldl_append]; rfl)
          clear hL
          go_wp2_with fail
          have p0 : (wr.alloc (.cells #[.int .i64 dk, S dm, S dt] 80)).cell? ⟨w.heap.size + 1, 0, none⟩ = some (.map (some (w.heap.size + 2))) := (hkr.alloc _).cell 0
          have hkd := (hkr.alloc (.cells #[.int .i64 dk, S dm, S dt] 80)).drew
          have hBd := (hBr.alloc hBr.size (.cells #[.int .i64 dk, S dm, S dt] 80)).drew
          have HDO := hide (do_any ⟨dk, dm, dt⟩ hck.1 hck.2 (w.heap.size + 2) (N + k) _ (wr.alloc (.cells #[.int .i64 dk, S dm, S dt] 80)).drew (HTR.out.of_block (Below.heap_alloc _ _ _ HTR.out.lt)) (by omega))
          have kn5 := Blk.new wr 80 #[.int .i64 dk, S dm, S dt]
          have r0 : (wr.alloc (.cells #[.int .i64 dk, S dm, S dt] 80)).cell? ⟨wr.heap.size, 0, none⟩ = some (.int .i64 dk) := kn5.cell 0
          have r1 : (wr.alloc (.cells #[.int .i64 dk, S dm, S dt] 80)).cell? ⟨wr.heap.size, 1, none⟩ = some (S dm) := kn5.cell 1
          have r2 : (wr.alloc (.cells #[.int .i64 dk, S dm, S dt] 80)).cell? ⟨wr.heap.size, 2, none⟩ = some (S dt) := kn5.cell 2
          obtain ⟨wB, hwB⟩ : ∃ wB, wB = wr.alloc (.cells #[.int .i64 dk, S dm, S dt] 80) := ⟨_, rfl⟩
          rw [← hwB] at p0 r0 r1 r2 hkd hBd HDO
          rw [← hwB]
          clear hwB kn5 q0 q1 q2 q5
          go_still_tail 5, (by kernel_rfl)
          go_wp2_with fail
          refine HDO.out.mono ?_
          rintro e w5 ⟨rfl, ht5, hk5⟩
          have hk6 := hkd.keep hk5 (by omega)
          have hB6 := hBd.trans (hk5.below (B := w.heap.size) hBd.size (fun k hk => by omega))
          have HT5 := hide ht5
          clear p0 hkd hBd HDO ht5 hk5
          go_wp2_with fail
          go_roundw
          case rel => exact ⟨k + 1, by omega, by go_num, hk6, by rw [HL.out]; exact HT5.out, hB6⟩
          case measure => simp [intOf]; omega
      · have hL := HKS.out
        rw [show ks.getD k false = false by simp [List.getD_eq_getElem?_getD, List.getElem?_eq_none (show ks.length ≤ k by omega)]] at hL
        simp at hL
        have HL := hide hL
        clear hL
        go_wp2_with fail
        go_roundw
        case rel => exact ⟨k + 1, by omega, by go_num, hkr.alloc _, by rw [HL.out]; exact (HTR.out.of_block (Below.heap_alloc _ _ _ HTR.out.lt)).mono (by omega), hBr.alloc hBr.size _⟩
        case measure => simp [intOf]; omega
    · have HE : Hid (cs.take k = cs) := hide (List.take_of_length_le (by omega))
      have HN : Hid (k = n) := hide (by omega)
      go_wp2_with fail
      go_ret
      refine ⟨_, _, rfl, hkr, ?_, hBr, by omega, by omega⟩
      have := HTR.out
      rwa [HE.out, HN.out] at this
end Go.Proofs.Ytclgiapmbmbknaa
