/- The table of faces: what it holds, how it is made, how a face is looked up; no statement of the seat is proved here. -/
import Derived.Test.YthehimjdjgmnjaaFacesFewD
import Derived.Maps.OwnSet
import Derived.Maps.OwnOps
import Derived.StillTailTactics
namespace Go.Proofs.Ythehimjdjgmnjaa
open Go.RowKit Go.Maps

theorem klaw : Keyed Try.prog 9 := string_keyed Try.underlying9

/-- An element reads as itself. -/
def heldR (v : Value) : Option (DataW Value × List MemPlace) := some (.held v, [])
theorem heldR_inv {v V : Value} {ps : List MemPlace} (h : heldR v = some (.held V, ps)) : v = V := by
  simp [heldR] at h
  exact h.1

theorem key_S {l : List UInt8} (h : short l) : keyOf Try.prog 9 (S l) = some (.string l) := by
  have := Go.WideMaps.keyOf_string_mk Try.underlying9 (s := ⟨l.toArray⟩) (by show l.toArray.size ≤ maxLen; simp only [List.size_toArray]; unfold maxLen; unfold short at h; omega)
  simpa using this

theorem keyLit_string (l : List UInt8) : WideAt.IsKeyLit (.string l) := by simp [WideAt.IsKeyLit]

/-- The last face of a name. -/
def get (T : List Fc) (k : List UInt8) : Option Fc := T.reverse.find? (fun f => f.n == k)
theorem get_snoc (T : List Fc) (f : Fc) (k : List UInt8) : get (T ++ [f]) k = if f.n = k then some f else get T k := by
  unfold get
  rw [List.reverse_append, List.reverse_singleton, List.singleton_append, List.find?_cons]
  by_cases h : f.n = k
  · simp [h]
  · rw [if_neg h, show (f.n == k) = false by simpa using h]
theorem get_mem {T : List Fc} {k : List UInt8} {f : Fc} (h : get T k = some f) : f ∈ T ∧ f.n = k := by
  unfold get at h
  have h1 := List.mem_of_find?_eq_some h
  have h2 := List.find?_some h
  exact ⟨by simpa using h1, by simpa using h2⟩

def zeroFc : Fc := ⟨[], [], none, 0, 0, [], none, 0, 0, []⟩

/-- A map that holds, at each name, the last face of that name. -/
def MapIs (w : World) (m N : Nat) (T : List Fc) : Prop :=
  ∃ D : DataW Value, w.ownsMap Try.prog 9 heldR m N D ∧ ∀ k, Maps.has D (.string k) = (get T k).isSome ∧ ∀ z, D.atKey (.string k) (.held z) = .held (((get T k).map Fc.val).getD z)

theorem owns_of_block {w w' : World} {m N : Nat} {D : DataW Value} (h : w.ownsMap Try.prog 9 heldR m N D) (he : w'.heap[m]? = w.heap[m]?) : w'.ownsMap Try.prog 9 heldR m N D := by
  obtain ⟨es, clock, hb, r⟩ := h
  exact ⟨es, clock, he.trans hb, r⟩
theorem MapIs.of_block {w w' : World} {m N : Nat} {T : List Fc} (h : MapIs w m N T) (he : w'.heap[m]? = w.heap[m]?) : MapIs w' m N T := by
  obtain ⟨D, h1, h2⟩ := h
  exact ⟨D, owns_of_block h1 he, h2⟩
theorem MapIs.lt {w : World} {m N : Nat} {T : List Fc} (h : MapIs w m N T) : m < w.heap.size := by
  obtain ⟨D, h1, h2⟩ := h
  exact h1.lt
theorem MapIs.made (w : World) : MapIs (w.alloc (.map #[] 0)) w.heap.size 0 [] := by
  refine ⟨.map [], World.ownsMap_made _ _ _ _, fun k => ⟨?_, fun z => ?_⟩⟩
  · simp [get, Maps.has]
  · simp [get, DataW.atKey]

theorem put_is {D : DataW Value} {T : List Fc} {f : Fc} (hD : Maps.IsMap D) (h : ∀ k, Maps.has D (.string k) = (get T k).isSome ∧ ∀ z, D.atKey (.string k) (.held z) = .held (((get T k).map Fc.val).getD z)) :
    ∀ k, Maps.has (D.put (.string f.n) (.held f.val)) (.string k) = (get (T ++ [f]) k).isSome ∧ ∀ z, (D.put (.string f.n) (.held f.val)).atKey (.string k) (.held z) = .held (((get (T ++ [f]) k).map Fc.val).getD z) := by
  intro k
  rw [get_snoc]
  by_cases e : f.n = k
  · subst e
    rw [if_pos rfl]
    exact ⟨Maps.has_put_same hD (keyLit_string _) _, fun z => Maps.atKey_put_same hD (keyLit_string _) _ _⟩
  · rw [if_neg e]
    have hne : Lit.string k ≠ Lit.string f.n := fun h => e (by injection h with h; exact h.symm)
    exact ⟨(Maps.has_put_other hne _).trans (h k).1, fun z => (Maps.atKey_put_other hne _ _).trans ((h k).2 z)⟩

/-- The table at block g: its faces' map m, its seen names' map s (n of them at most). -/
structure Tab (w : World) (g m s : Nat) (T : List Fc) (n : Nat) : Prop where
  blk : Blk w g 64 #[.map (some m), .map (some s)]
  faces : MapIs w m T.length T
  seen : ∃ D : DataW Value, w.ownsMap Try.prog 9 heldR s n D
  ne : m ≠ s

section
variable {w w' : World} {g m s n : Nat} {T : List Fc}
theorem blk_map_ne {t : TypeId} {cs : Array Value} {N : Nat} {D : DataW Value} (h : Blk w g t cs) (h' : w.ownsMap Try.prog 9 heldR m N D) : g ≠ m := by
  rintro rfl
  obtain ⟨es, clock, hb, _⟩ := h'
  unfold Blk at h
  rw [h] at hb
  cases hb
theorem Tab.gs (h : Tab w g m s T n) : g ≠ s := by
  obtain ⟨D, hD⟩ := h.seen
  exact blk_map_ne h.blk hD
theorem Tab.slt (h : Tab w g m s T n) : s < w.heap.size := by
  obtain ⟨D, hD⟩ := h.seen
  exact hD.lt
theorem Tab.keep {F : Nat → Prop} (h : Tab w g m s T n) (hk : Keep F w w') (h1 : ¬ F g) (h2 : ¬ F m) (h3 : ¬ F s) : Tab w' g m s T n := by
  obtain ⟨D, hD⟩ := h.seen
  exact ⟨h.blk.keep hk h1, h.faces.of_block (hk.block m h.faces.lt h2), ⟨D, owns_of_block hD (hk.block s hD.lt h3)⟩, h.ne⟩
theorem Tab.below (h : Tab w g m s T n) (hk : Below w.heap.size w w') : Tab w' g m s T n :=
  h.keep (Keep.of_below (F := fun _ => False) hk (fun k h1 h2 => by omega)) (fun h => h) (fun h => h) (fun h => h)
theorem Tab.alloc (h : Tab w g m s T n) (o : Obj) : Tab (w.alloc o) g m s T n := h.below ((Below.refl _ _).alloc (Nat.le_refl _) _)
theorem Tab.mono (h : Tab w g m s T n) {n' : Nat} (hn : n ≤ n') : Tab w g m s T n' := by
  obtain ⟨D, hD⟩ := h.seen
  exact ⟨h.blk, h.faces, ⟨D, hD.mono hn⟩, h.ne⟩
end

theorem set_tab {w w2 : World} {g m s n : Nat} {T : List Fc} (hlt : g < w.heap.size ∧ m < w.heap.size ∧ s < w.heap.size) (h : Tab w2 g m s T n ∧ Keep (fun b => b = s) w w2) {p : Addr} (hp : w.heap.size ≤ p.block) (u : Value) :
    Tab (w2.setCell p u) g m s T n ∧ Keep (fun b => b = s) w (w2.setCell p u) :=
  ⟨h.1.keep ((Keep.refl (fun k => k = p.block) w2).setCell (fun _ => rfl) u) (by omega) (by omega) (by omega), h.2.setCell (fun h => by omega) u⟩

/-- 'v, ok := m[k]' where the table's own map is asked. -/
theorem lookup_face {P : Program} (w : World) {ops : Array Oper} {rest : List Oper} {o : Oper} {a : Act} {Q : Exit → Act → World → Prop} (hg : o.guard = none) (m x : Operand) (t : TypeId) (hop : o.op = Op.lookup t m x true)
    (k e : TypeId) (K : Keyed P k) (ht : P.underlying t = some (.map k e)) {z : Value} (hz : (zeroValue e).run P w = .ok z w) (b n : Nat) (D : DataW Value)
    (hm : a.eval m = .map (some b)) (hown : w.ownsMap P k heldR b n D) (key : Value) (kl : Lit) (hx : a.eval x = key) (hkey : keyOf P k key = some kl) (V : Value) (B : Bool) (hV : D.atKey kl (.held z) = .held V) (hB : Maps.has D kl = B)
    (hK : wpList P ops Q rest (a.put o.dst (.tuple #[V, .bool B])) w) :
    wpList P ops Q (o :: rest) a w := by
  refine wpList_lookup_own_ok w hg m x t hop k e K ht heldR hz (.held z) [] rfl b n D hm hown key kl hx hkey fun v ps hv => ?_
  rw [hV] at hv
  rw [heldR_inv hv, hB]
  exact hK

theorem zero_face (w : World) : (zeroValue 47).run Try.prog w = .ok zeroFc.val w := by kernel_rfl

/-- What a name is looked up as. -/
def faceF (T : List Fc) (k : List UInt8) : Fc := (get T k).getD zeroFc
theorem faceF_val (T : List Fc) (k : List UInt8) : ((get T k).map Fc.val).getD zeroFc.val = (faceF T k).val := by
  unfold faceF
  cases get T k <;> rfl

set_option maxRecDepth 100000 in
set_option maxHeartbeats 1000000 in
theorem face_any (g m s n : Nat) (T : List Fc) (k : List UInt8) (w : World) (h : Tab w g m s T n) (hn : n ≤ 1000000) (hk : short k) :
    Calls Try.prog 30 #[.pointer (some ⟨g, 0, none⟩), S k] w
      (fun e w' => e = .returned (.tuple #[(faceF T k).val, .bool (get T k).isSome]) ∧ Tab w' g m s T (n + 1) ∧ Keep (fun b => b = s) w w') := by
  obtain ⟨V, hV⟩ : ∃ V, V = faceF T k := ⟨_, rfl⟩
  obtain ⟨B, hB⟩ : ∃ B, B = (get T k).isSome := ⟨_, rfl⟩
  rw [← hV, ← hB]
  have HV := hide hV
  have HB := hide hB
  clear hV hB
  have hkey := key_S hk
  have hblk := h.blk.alloc (.cells #[.string { data := #[] }, .string { data := #[] }, .slice none 0 0, .slice none 0 0] 47)
  have c1 : (w.alloc (.cells #[.string { data := #[] }, .string { data := #[] }, .slice none 0 0, .slice none 0 0] 47)).cell? ⟨g, 1, none⟩ = some (.map (some s)) := hblk.cell 1
  obtain ⟨E, hE⟩ := h.seen
  go_enter Try.func30, Try.ntmps30
  go_wp2_with (at_mapUpdate; refine wpList_mapUpdate_own _ rfl _ _ _ 62 rfl 9 4 klaw Try.underlying62 _ s n _ rfl (hE.alloc _) (by unfold maxLen; omega) _ _ _ rfl rfl hkey _ [] (show heldR (.bool true) = some (.held (.bool true), []) from rfl) ?_)
  intro w2 hown2 hgrow2
  have hK2 : Keep (fun b => b = s) w w2 := ((Keep.refl _ w).alloc _).grown hgrow2 (fun k hk _ => by injection hk with hk; exact hk.symm)
  have hf := h.faces.of_block (hK2.block m h.faces.lt h.ne)
  have hb2 := h.blk.keep hK2 h.gs
  have c0 : w2.cell? ⟨g, 0, none⟩ = some (.map (some m)) := hb2.cell 0
  have hT2 : Tab w2 g m s T (n + 1) := ⟨hb2, hf, ⟨_, hown2⟩, h.ne⟩
  have hr2 : Blk w2 w.heap.size 47 #[.string { data := #[] }, .string { data := #[] }, .slice none 0 0, .slice none 0 0] :=
    (Blk.new w 47 _).grown hgrow2 (fun e => by injection e with e; have := h.slt; omega)
  obtain ⟨D, hD, hat⟩ := hf
  have HD := hide hD
  have HAt := hide (hat k)
  clear hD hat hown2 hgrow2 hE E c1 hblk hb2
  have hr3 := hr2.alloc (.cells #[S V.n, S V.su, .slice V.fA V.fl V.fc, .slice V.mA V.ml V.mc] 47)
  have f0 : ∀ i, (w2.alloc (.cells #[S V.n, S V.su, .slice V.fA V.fl V.fc, .slice V.mA V.ml V.mc] 47)).frozen? ⟨w.heap.size, i, none⟩ = false := hr3.frozen
  have r0 : (w2.alloc (.cells #[S V.n, S V.su, .slice V.fA V.fl V.fc, .slice V.mA V.ml V.mc] 47)).cell? ⟨w.heap.size, 0, none⟩ = some (.string { data := #[] }) := hr3.cell 0
  have r1 : (w2.alloc (.cells #[S V.n, S V.su, .slice V.fA V.fl V.fc, .slice V.mA V.ml V.mc] 47)).cell? ⟨w.heap.size, 1, none⟩ = some (.string { data := #[] }) := hr3.cell 1
  have r2 : (w2.alloc (.cells #[S V.n, S V.su, .slice V.fA V.fl V.fc, .slice V.mA V.ml V.mc] 47)).cell? ⟨w.heap.size, 2, none⟩ = some (.slice none 0 0) := hr3.cell 2
  have r3 : (w2.alloc (.cells #[S V.n, S V.su, .slice V.fA V.fl V.fc, .slice V.mA V.ml V.mc] 47)).cell? ⟨w.heap.size, 3, none⟩ = some (.slice none 0 0) := hr3.cell 3
  have f4 := hide (show Tab (w2.alloc (.cells #[S V.n, S V.su, .slice V.fA V.fl V.fc, .slice V.mA V.ml V.mc] 47)) g m s T (n + 1) ∧ Keep (fun b => b = s) w (w2.alloc (.cells #[S V.n, S V.su, .slice V.fA V.fl V.fc, .slice V.mA V.ml V.mc] 47)) from ⟨hT2.alloc _, hK2.alloc _⟩)
  have hwlt : g < w.heap.size ∧ m < w.heap.size ∧ s < w.heap.size := ⟨h.blk.lt, h.faces.lt, h.slt⟩
  clear hT2 hK2 hr2 hr3
  go_wp2_with (at_lookup; refine lookup_face _ rfl _ _ 61 rfl 9 47 klaw Try.underlying61 (zero_face _) m _ D rfl HD.out _ _ rfl hkey V.val B ((HAt.out.2 _).trans (by rw [faceF_val, HV.out])) (HAt.out.1.trans HB.out.symm) ?_)
  refine bodyPost_ret (v := .tuple #[V.val, .bool B]) ?_ rfl ?_
  · simp [results, Try.results30, go_sem, r0, r1, r2, r3]
  · exact ⟨rfl, set_tab hwlt (set_tab hwlt (set_tab hwlt (set_tab hwlt f4.out (Nat.le_refl _) _) (Nat.le_refl _) _) (Nat.le_refl _) _) (Nat.le_refl _) _⟩
end Go.Proofs.Ythehimjdjgmnjaa
