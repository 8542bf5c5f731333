/- The table of faces: what it holds, how it is made, how a face is looked up; no statement of the seat is proved here. -/
import Derived.Test.YtmbegaobnpoefaaDoorMOpLaidC
import Derived.Maps.OwnSet
import Derived.Maps.OwnOps
import Derived.StillTailTactics
import Derived.Test.YtmbegaobnpoefaaDoorMFaceDataC
import Derived.Deep.AppendLies
import Derived.Test.YtmbegaobnpoefaaDoorMClsM2
namespace Go.Proofs.YtmbegaobnpoefaaDoor
open Go.RowKit Go.Maps
theorem Rd.of_blk {w : World} {g : Nat} {t : TypeId} {cs : Array Value} {F : Nat → Prop} {size n : Nat} (h : Blk w g t cs) (hF : ¬ F g) (hl : cs.size = n * size) : Rd w F size (some ⟨g, 0, none⟩) n cs.toList := by
 refine ⟨by simpa using hl, fun _ => ⟨g, 0, rfl, hF, h.lt, fun j u hu => ?_⟩⟩
 have := h.cell (0 + j)
 rw [this]
 simpa using hu
theorem klaw : Keyed Tryd.prog 9 := string_keyed Tryd.underlying9
def heldR (v : Value) : Option (DataW Value × List MemPlace) := some (.held v, [])
theorem heldR_inv {v V : Value} {ps : List MemPlace} (h : heldR v = some (.held V, ps)) : v = V := by
 simp [heldR] at h
 exact h.1
theorem key_S {l : List UInt8} (h : short l) : keyOf Tryd.prog 9 (S l) = some (.string l) := by
 have := Go.WideMaps.keyOf_string_mk Tryd.underlying9 (s := ⟨l.toArray⟩) (by show l.toArray.size ≤ maxLen; simp only [List.size_toArray]; unfold maxLen; unfold short at h; omega)
 simpa using this
theorem keyLit_string (l : List UInt8) : WideAt.IsKeyLit (.string l) := by simp [WideAt.IsKeyLit]
def get (T : List Fc) (k : List UInt8) : Option Fc := T.reverse.find? (fun f => f.n == k)
theorem get_snoc (T : List Fc) (f : Fc) (k : List UInt8) : get (T ++ [f]) k = if f.n = k then some f else get T k := by
 unfold get
 rw [List.reverse_append, List.reverse_singleton, List.singleton_append, List.find?_cons]
 by_cases h : f.n = k
 ·simp [h]
 ·rw [if_neg h, show (f.n == k) = false by simpa using h]
theorem get_mem {T : List Fc} {k : List UInt8} {f : Fc} (h : get T k = some f) : f ∈ T ∧ f.n = k := by
 unfold get at h
 have h1 := List.mem_of_find?_eq_some h
 have h2 := List.find?_some h
 exact ⟨by simpa using h1, by simpa using h2⟩
def zeroFc : Fc := ⟨[], [], none, 0, 0, [], none, 0, 0, []⟩
def MapIs (w : World) (m N : Nat) (T : List Fc) : Prop :=
 ∃ D : DataW Value, w.ownsMap Tryd.prog 9 heldR m N D ∧ ∀ k, Maps.has D (.string k) = (get T k).isSome ∧ ∀ z, D.atKey (.string k) (.held z) = .held (((get T k).map Fc.val).getD z)
theorem owns_of_block {w w' : World} {m N : Nat} {D : DataW Value} (h : w.ownsMap Tryd.prog 9 heldR m N D) (he : w'.heap[m]? = w.heap[m]?) : w'.ownsMap Tryd.prog 9 heldR m N D := by
 obtain ⟨es, clock, hb, r⟩ := h
 exact ⟨es, clock, he.trans hb, r⟩
theorem MapIs.of_block {w w' : World} {m N : Nat} {T : List Fc} (h : MapIs w m N T) (he : w'.heap[m]? = w.heap[m]?) : MapIs w' m N T := by
 obtain ⟨D, h1, h2⟩ := h
 exact ⟨D, owns_of_block h1 he, h2⟩
theorem MapIs.lt {w : World} {m N : Nat} {T : List Fc} (h : MapIs w m N T) : m < w.heap.size := by
 obtain ⟨D, h1, h2⟩ := h
 exact h1.lt
theorem MapIs.made (w : World) : MapIs (w.alloc (.map #[] 0)) w.heap.size 0 [] := by
 refine ⟨.map [], World.ownsMap_made _ _ _ _, fun k => ⟨?_, fun z => ?_⟩⟩
 ·simp [get, Maps.has]
 ·simp [get, DataW.atKey]
theorem put_is {D : DataW Value} {T : List Fc} {f : Fc} (hD : Maps.IsMap D) (h : ∀ k, Maps.has D (.string k) = (get T k).isSome ∧ ∀ z, D.atKey (.string k) (.held z) = .held (((get T k).map Fc.val).getD z)) :
  ∀ k, Maps.has (D.put (.string f.n) (.held f.val)) (.string k) = (get (T ++ [f]) k).isSome ∧ ∀ z, (D.put (.string f.n) (.held f.val)).atKey (.string k) (.held z) = .held (((get (T ++ [f]) k).map Fc.val).getD z) := by
 intro k
 rw [get_snoc]
 by_cases e : f.n = k
 ·subst e
  rw [if_pos rfl]
  exact ⟨Maps.has_put_same hD (keyLit_string _) _, fun z => Maps.atKey_put_same hD (keyLit_string _) _ _⟩
 ·rw [if_neg e]
  have hne : Lit.string k ≠ Lit.string f.n := fun h => e (by injection h with h; exact h.symm)
  exact ⟨(Maps.has_put_other hne _).trans (h k).1, fun z => (Maps.atKey_put_other hne _ _).trans ((h k).2 z)⟩
structure Tab (w : World) (g m s : Nat) (T : List Fc) (n : Nat) : Prop where
 blk : Blk w g 102 #[.map (some m), .map (some s)]
 faces : MapIs w m T.length T
 seen : ∃ D : DataW Value, w.ownsMap Tryd.prog 9 heldR s n D
 ne : m ≠ s
section
variable {w w' : World} {g m s n : Nat} {T : List Fc}
theorem blk_map_ne {t : TypeId} {cs : Array Value} {N : Nat} {D : DataW Value} (h : Blk w g t cs) (h' : w.ownsMap Tryd.prog 9 heldR m N D) : g ≠ m := by
 rintro rfl
 obtain ⟨es, clock, hb, _⟩ := h'
 unfold Blk at h
 rw [h] at hb
 cases hb
theorem Tab.gs (h : Tab w g m s T n) : g ≠ s := by
 obtain ⟨D, hD⟩ := h.seen
 exact blk_map_ne h.blk hD
theorem Tab.slt (h : Tab w g m s T n) : s < w.heap.size := by
 obtain ⟨D, hD⟩ := h.seen
 exact hD.lt
theorem Tab.keep {F : Nat → Prop} (h : Tab w g m s T n) (hk : Keep F w w') (h1 : ¬ F g) (h2 : ¬ F m) (h3 : ¬ F s) : Tab w' g m s T n := by
 obtain ⟨D, hD⟩ := h.seen
 exact ⟨h.blk.keep hk h1, h.faces.of_block (hk.block m h.faces.lt h2), ⟨D, owns_of_block hD (hk.block s hD.lt h3)⟩, h.ne⟩
theorem Tab.below (h : Tab w g m s T n) (hk : Below w.heap.size w w') : Tab w' g m s T n :=
 h.keep (Keep.of_below (F := fun _ => False) hk (fun k h1 h2 => by omega)) (fun h => h) (fun h => h) (fun h => h)
theorem Tab.alloc (h : Tab w g m s T n) (o : Obj) : Tab (w.alloc o) g m s T n := h.below ((Below.refl _ _).alloc (Nat.le_refl _) _)
theorem Tab.mono (h : Tab w g m s T n) {n' : Nat} (hn : n ≤ n') : Tab w g m s T n' := by
 obtain ⟨D, hD⟩ := h.seen
 exact ⟨h.blk, h.faces, ⟨D, hD.mono hn⟩, h.ne⟩
end
theorem set_tab {w w2 : World} {g m s n : Nat} {T : List Fc} (hlt : g < w.heap.size ∧ m < w.heap.size ∧ s < w.heap.size) (h : Tab w2 g m s T n ∧ Keep (fun b => b = s) w w2) {p : Addr} (hp : w.heap.size ≤ p.block) (u : Value) :
  Tab (w2.setCell p u) g m s T n ∧ Keep (fun b => b = s) w (w2.setCell p u) :=
 ⟨h.1.keep ((Keep.refl (fun k => k = p.block) w2).setCell (fun _ => rfl) u) (by omega) (by omega) (by omega), h.2.setCell (fun h => by omega) u⟩
theorem lookup_face {P : Program} (w : World) {ops : Array Oper} {rest : List Oper} {o : Oper} {a : Act} {Q : Exit → Act → World → Prop} (hg : o.guard = none) (m x : Operand) (t : TypeId) (hop : o.op = Op.lookup t m x true)
  (k e : TypeId) (K : Keyed P k) (ht : P.underlying t = some (.map k e)) {z : Value} (hz : (zeroValue e).run P w = .ok z w) (b n : Nat) (D : DataW Value)
  (hm : a.eval m = .map (some b)) (hown : w.ownsMap P k heldR b n D) (key : Value) (kl : Lit) (hx : a.eval x = key) (hkey : keyOf P k key = some kl) (V : Value) (B : Bool) (hV : D.atKey kl (.held z) = .held V) (hB : Maps.has D kl = B)
  (hK : wpList P ops Q rest (a.put o.dst (.tuple #[V, .bool B])) w) :
  wpList P ops Q (o :: rest) a w := by
 refine wpList_lookup_own_ok w hg m x t hop k e K ht heldR hz (.held z) [] rfl b n D hm hown key kl hx hkey fun v ps hv => ?_
 rw [hV] at hv
 rw [heldR_inv hv, hB]
 exact hK
theorem zero_face (w : World) : (zeroValue 43).run Tryd.prog w = .ok zeroFc.val w := by kernel_rfl
def faceF (T : List Fc) (k : List UInt8) : Fc := (get T k).getD zeroFc
theorem faceF_val (T : List Fc) (k : List UInt8) : ((get T k).map Fc.val).getD zeroFc.val = (faceF T k).val := by
 unfold faceF
 cases get T k <;> rfl
set_option maxRecDepth 100000 in
set_option maxHeartbeats 1000000 in
theorem face_any (g m s n : Nat) (T : List Fc) (k : List UInt8) (w : World) (h : Tab w g m s T n) (hn : n ≤ 10000000000000000) (hk : short k) :
  Calls Tryd.prog 24 #[.pointer (some ⟨g, 0, none⟩), S k] w
   (fun e w' => e = .returned (.tuple #[(faceF T k).val, .bool (get T k).isSome]) ∧ Tab w' g m s T (n + 1) ∧ Keep (fun b => b = s) w w') := by
 obtain ⟨V, hV⟩ : ∃ V, V = faceF T k := ⟨_, rfl⟩
 obtain ⟨B, hB⟩ : ∃ B, B = (get T k).isSome := ⟨_, rfl⟩
 rw [← hV, ← hB]
 have HV := hide hV
 have HB := hide hB
 clear hV hB
 have hkey := key_S hk
 have hblk := h.blk.alloc (.cells #[.string { data := #[] }, .string { data := #[] }, .slice none 0 0, .slice none 0 0] 43)
 have c1 : (w.alloc (.cells #[.string { data := #[] }, .string { data := #[] }, .slice none 0 0, .slice none 0 0] 43)).cell? ⟨g, 1, none⟩ = some (.map (some s)) := hblk.cell 1
 obtain ⟨E, hE⟩ := h.seen
 go_enter Tryd.func24, Tryd.ntmps24
 go_wp2_with (at_mapUpdate; refine wpList_mapUpdate_own _ rfl _ _ _ 100 rfl 9 4 klaw Tryd.underlying100 _ s n _ rfl (hE.alloc _) (by unfold maxLen; omega) _ _ _ rfl rfl hkey _ [] (show heldR (.bool true) = some (.held (.bool true), []) from rfl) ?_)
 intro w2 hown2 hgrow2
 have hK2 : Keep (fun b => b = s) w w2 := ((Keep.refl _ w).alloc _).grown hgrow2 (fun k hk _ => by injection hk with hk; exact hk.symm)
 have hf := h.faces.of_block (hK2.block m h.faces.lt h.ne)
 have hb2 := h.blk.keep hK2 h.gs
 have c0 : w2.cell? ⟨g, 0, none⟩ = some (.map (some m)) := hb2.cell 0
 have hT2 : Tab w2 g m s T (n + 1) := ⟨hb2, hf, ⟨_, hown2⟩, h.ne⟩
 have hr2 : Blk w2 w.heap.size 43 #[.string { data := #[] }, .string { data := #[] }, .slice none 0 0, .slice none 0 0] :=
  (Blk.new w 43 _).grown hgrow2 (fun e => by injection e with e; have := h.slt; omega)
 obtain ⟨D, hD, hat⟩ := hf
 have HD := hide hD
 have HAt := hide (hat k)
 clear hD hat hown2 hgrow2 hE E c1 hblk hb2
 have hr3 := hr2.alloc (.cells #[S V.n, S V.su, .slice V.fA V.fl V.fc, .slice V.mA V.ml V.mc] 43)
 have f0 : ∀ i, (w2.alloc (.cells #[S V.n, S V.su, .slice V.fA V.fl V.fc, .slice V.mA V.ml V.mc] 43)).frozen? ⟨w.heap.size, i, none⟩ = false := hr3.frozen
 have r0 : (w2.alloc (.cells #[S V.n, S V.su, .slice V.fA V.fl V.fc, .slice V.mA V.ml V.mc] 43)).cell? ⟨w.heap.size, 0, none⟩ = some (.string { data := #[] }) := hr3.cell 0
 have r1 : (w2.alloc (.cells #[S V.n, S V.su, .slice V.fA V.fl V.fc, .slice V.mA V.ml V.mc] 43)).cell? ⟨w.heap.size, 1, none⟩ = some (.string { data := #[] }) := hr3.cell 1
 have r2 : (w2.alloc (.cells #[S V.n, S V.su, .slice V.fA V.fl V.fc, .slice V.mA V.ml V.mc] 43)).cell? ⟨w.heap.size, 2, none⟩ = some (.slice none 0 0) := hr3.cell 2
 have r3 : (w2.alloc (.cells #[S V.n, S V.su, .slice V.fA V.fl V.fc, .slice V.mA V.ml V.mc] 43)).cell? ⟨w.heap.size, 3, none⟩ = some (.slice none 0 0) := hr3.cell 3
 have f4 := hide (show Tab (w2.alloc (.cells #[S V.n, S V.su, .slice V.fA V.fl V.fc, .slice V.mA V.ml V.mc] 43)) g m s T (n + 1) ∧ Keep (fun b => b = s) w (w2.alloc (.cells #[S V.n, S V.su, .slice V.fA V.fl V.fc, .slice V.mA V.ml V.mc] 43)) from ⟨hT2.alloc _, hK2.alloc _⟩)
 have hwlt : g < w.heap.size ∧ m < w.heap.size ∧ s < w.heap.size := ⟨h.blk.lt, h.faces.lt, h.slt⟩
 clear hT2 hK2 hr2 hr3
 go_wp2_with (at_lookup; refine lookup_face _ rfl _ _ 99 rfl 9 43 klaw Tryd.underlying99 (zero_face _) m _ D rfl HD.out _ _ rfl hkey V.val B ((HAt.out.2 _).trans (by rw [faceF_val, HV.out])) (HAt.out.1.trans HB.out.symm) ?_)
 refine bodyPost_ret (v := .tuple #[V.val, .bool B]) ?_ rfl ?_
 ·simp [results, Tryd.results24, go_sem, r0, r1, r2, r3]
 ·exact ⟨rfl, set_tab hwlt (set_tab hwlt (set_tab hwlt (set_tab hwlt f4.out (Nat.le_refl _) _) (Nat.le_refl _) _) (Nat.le_refl _) _) (Nat.le_refl _) _⟩
end Go.Proofs.YtmbegaobnpoefaaDoor
namespace Go.Proofs.YtmbegaobnpoefaaDoor
open Go.RowKit
theorem app_none {P : Program} {w : World} {base : Nat} {t ty e : TypeId} {i : TypeInfo} {size : Nat} (ht : P.underlying t = some (.slice e)) (hi : P.info? e = some i) {v : Value} {n : Nat} {xs : List Value} (h : w.ownsRow base e size v n xs) (c : Nat) :
  (Builtin.append_ #[t, t] ty #[v, .slice none 0 c]).run P w = .ok v w := by
 rcases h.2 with ⟨rfl, _⟩ | ⟨g, cap, cur, rfl, _, _, hle, _⟩
 ·simp [Builtin.append_, run_underlying ht, sizeOf, typeInfo, hi, Builtin.lenOf, Builtin.firstCells]
 ·simp [Builtin.append_, run_underlying ht, sizeOf, typeInfo, hi, Builtin.lenOf, Builtin.firstCells, hle, storeCells]
theorem app_rd {P : Program} {w : World} {ops : Array Oper} {rest : List Oper} {o : Oper} {a : Act} {Q : Exit → Act → World → Prop} (hgd : o.guard = none) (s x : Operand) (t : TypeId)
  (ho : o.op = .call { callee := .builtin .append, args := #[s, x], argTypes := #[t, t] })
  (base : Nat) (e : TypeId) (z : Value) (size bytes : Nat) (ht : P.underlying t = some (.slice e)) (hinfo : (P.info? e).map (fun i => (i.zero, i.size, i.bytes)) = some (some z, size, bytes)) (hzs : z.cells.size = size) (hsz : 0 < size)
  (v : Value) (n : Nat) (xs : List Value) (hs : a.eval s = v) (hown : w.ownsRow base e size v n xs) {F : Nat → Prop} (A : Option Addr) (m c : Nat) (news : List Value) (hx : a.eval x = .slice A m c) (hr : Rd w F size A m news)
  (h1 : ∀ u ∈ news, u.oneCell' = true) (h63 : n + m ≤ maxLen) (hbytes : (n + m) * bytes ≤ 140737488355328) (hbase : base ≤ w.heap.size)
  (h : ∀ A' c' w', w'.ownsRow base e size (.slice A' (n + m) c') (n + m) (xs ++ news) → w.grownBy w' v.ownBlock → ((Value.slice A' (n + m) c').ownBlock = v.ownBlock ∨ (Value.slice A' (n + m) c').ownBlock = some w.heap.size) → wpList P ops Q rest (a.put o.dst (.slice A' (n + m) c')) w') : wpList P ops Q (o :: rest) a w := by
 obtain ⟨i, hi, hz, hz1, hz2⟩ := info_parts hinfo
 have key : ∃ v' w', (Builtin.append_ #[t, t] o.type #[v, .slice A m c]).run P w = .ok v' w' ∧ w'.ownsRow base e size v' (n + m) (xs ++ news) ∧ w.grownBy w' v.ownBlock ∧ (v'.ownBlock = v.ownBlock ∨ v'.ownBlock = some w.heap.size) := by
  by_cases h0 : m = 0
  ·subst h0
   obtain rfl : news = [] := List.eq_nil_of_length_eq_zero (by have := hr.1; simpa using this)
   cases A with
   | none => exact ⟨v, w, app_none ht hi hown c, by simpa using hown, World.grownBy.refl w _, .inl rfl⟩
   | some ad =>
    obtain ⟨v', w', hrun, h2, h3, _, h5⟩ := run_append_own_at (P := P) w base t o.type e i z size bytes ht hi hz hz1 hz2 hzs hsz v n xs hown ad 0 c [] (by simp) (by simp) h1 h63 hbytes hbase
    exact ⟨v', w', hrun, h2, h3, h5⟩
  ·obtain ⟨b, off, rfl, _, _, hc⟩ := hr.2 (by omega)
   obtain ⟨v', w', hrun, h2, h3, _, h5⟩ := run_append_own_at (P := P) w base t o.type e i z size bytes ht hi hz hz1 hz2 hzs hsz v n xs hown ⟨b, off, none⟩ m c news hr.1 (fun j u hu => by
    have := hc j u hu
    unfold Addr.add
    split
    ·rename_i hj; subst hj; exact this
    ·exact this) h1 h63 hbytes hbase
   exact ⟨v', w', hrun, h2, h3, h5⟩
 obtain ⟨v', w', hrun, h2, h3, h4⟩ := key
 obtain ⟨A', c', rfl⟩ := own_slice h2
 refine wpList_plain hgd fun K hK => ?_
 unfold Oper.wp execOp
 simp only [ho, resolve, invoke, builtin, Sem.run_bind, Sem.run_pure, Result.andThen_ok, List.map_toArray, List.map_cons, List.map_nil, hs, hx, hrun]
 exact hK _ _ (h A' c' w' h2 h3 h4)
end Go.Proofs.YtmbegaobnpoefaaDoor
namespace Go.Proofs.YtmbegaobnpoefaaDoor
open Go.RowKit Go.Maps
set_option linter.unusedVariables false
set_option linter.unusedSimpArgs false
theorem Rd.at1 {w : World} {F : Nat → Prop} {A : Option Addr} {n : Nat} {α : Type} {f : α → Value} {l : List α} (h : Rd w F 1 A n (l.map f)) (hl : l.length = n) (k : Nat) (hk : k < n) : ∃ b o, A = some ⟨b, o, none⟩ ∧ ¬ F b ∧ b < w.heap.size ∧ w.cell? ⟨b, o + k, none⟩ = some (f (l[k]'(by omega))) := by
 obtain ⟨b, o, e, hf, hlt, hc⟩ := h.2 (by omega)
 exact ⟨b, o, e, hf, hlt, hc k _ (by rw [List.getElem?_map, List.getElem?_eq_getElem (by omega)]; rfl)⟩
def fget (Fs : List Fl) (k : List UInt8) : Option Fl := Fs.reverse.find? (fun f => f.f.n == k)
theorem fget_snoc (T : List Fl) (f : Fl) (k : List UInt8) : fget (T ++ [f]) k = if f.f.n = k then some f else fget T k := by
 unfold fget
 rw [List.reverse_append, List.reverse_singleton, List.singleton_append, List.find?_cons]
 by_cases h : f.f.n = k
 ·simp [h]
 ·rw [if_neg h, show (f.f.n == k) = false by simpa using h]
theorem fget_mem {T : List Fl} {k : List UInt8} {f : Fl} (h : fget T k = some f) : f ∈ T ∧ f.f.n = k := by
 unfold fget at h
 have h1 := List.mem_of_find?_eq_some h
 have h2 := List.find?_some h
 exact ⟨by simpa using h1, by simpa using h2⟩
theorem fget_none {T : List Fl} {k : List UInt8} (h : (fget T k).isSome = false) : ∀ f ∈ T, f.f.n ≠ k := by
 intro f hf e
 have h2 : fget T k = none := by cases hg : fget T k with
  | none => rfl
  | some x => rw [hg] at h; cases h
 unfold fget at h2
 rw [List.find?_eq_none] at h2
 have := h2 f (by simpa using hf)
 simp [e] at this
def FUniq (T : List Fl) : Prop := ∀ f ∈ T, fget T f.f.n = some f
theorem FUniq.nil : FUniq [] := fun f h => by cases h
theorem FUniq.snoc {T : List Fl} {f : Fl} (h : FUniq T) (hf : (fget T f.f.n).isSome = false) : FUniq (T ++ [f]) := by
 intro x hx
 rw [fget_snoc]
 rcases List.mem_append.1 hx with h1 | h1
 ·rw [if_neg (fun e => fget_none hf x h1 e.symm)]
  exact h x h1
 ·rw [List.mem_singleton] at h1
  subst h1
  rw [if_pos rfl]
def zeroFl : Fl := ⟨zeroFc, none, 0, 0, [], none, 0, 0, [], none, 0, 0, [], none, 0, 0, [], none, 0, 0, [], none, 0, 0, []⟩
theorem zero_file (w : World) : (zeroValue 52).run Tryd.prog w = .ok zeroFl.val w := by kernel_rfl
def fileF (T : List Fl) (k : List UInt8) : Fl := (fget T k).getD zeroFl
theorem fileF_val (T : List Fl) (k : List UInt8) : ((fget T k).map Fl.val).getD zeroFl.val = (fileF T k).val := by
 unfold fileF
 cases fget T k <;> rfl
def FMapIs (w : World) (m N : Nat) (T : List Fl) : Prop :=
 ∃ D : DataW Value, w.ownsMap Tryd.prog 9 heldR m N D ∧ ∀ k, Maps.has D (.string k) = (fget T k).isSome ∧ ∀ z, D.atKey (.string k) (.held z) = .held (((fget T k).map Fl.val).getD z)
theorem FMapIs.of_block {w w' : World} {m N : Nat} {T : List Fl} (h : FMapIs w m N T) (he : w'.heap[m]? = w.heap[m]?) : FMapIs w' m N T := by
 obtain ⟨D, h1, h2⟩ := h
 exact ⟨D, owns_of_block h1 he, h2⟩
theorem FMapIs.lt {w : World} {m N : Nat} {T : List Fl} (h : FMapIs w m N T) : m < w.heap.size := by
 obtain ⟨D, h1, h2⟩ := h
 exact h1.lt
theorem FMapIs.made (w : World) : FMapIs (w.alloc (.map #[] 0)) w.heap.size 0 [] := by
 refine ⟨.map [], World.ownsMap_made _ _ _ _, fun k => ⟨?_, fun z => ?_⟩⟩
 ·simp [fget, Maps.has]
 ·simp [fget, DataW.atKey]
theorem fput_is {D : DataW Value} {T : List Fl} {f : Fl} (hD : Maps.IsMap D) (h : ∀ k, Maps.has D (.string k) = (fget T k).isSome ∧ ∀ z, D.atKey (.string k) (.held z) = .held (((fget T k).map Fl.val).getD z)) :
  ∀ k, Maps.has (D.put (.string f.f.n) (.held f.val)) (.string k) = (fget (T ++ [f]) k).isSome ∧ ∀ z, (D.put (.string f.f.n) (.held f.val)).atKey (.string k) (.held z) = .held (((fget (T ++ [f]) k).map Fl.val).getD z) := by
 intro k
 rw [fget_snoc]
 by_cases e : f.f.n = k
 ·subst e
  rw [if_pos rfl]
  exact ⟨Maps.has_put_same hD (keyLit_string _) _, fun z => Maps.atKey_put_same hD (keyLit_string _) _ _⟩
 ·rw [if_neg e]
  have hne : Lit.string k ≠ Lit.string f.f.n := fun h => e (by injection h with h; exact h.symm)
  exact ⟨(Maps.has_put_other hne _).trans (h k).1, fun z => (Maps.atKey_put_other hne _ _).trans ((h k).2 z)⟩
theorem FMapIs.keep {F : Nat → Prop} {w w' : World} {m N : Nat} {T : List Fl} (h : FMapIs w m N T) (hk : Keep F w w') (hF : ¬ F m) : FMapIs w' m N T := h.of_block (hk.block m h.lt hF)
theorem FMapIs.below {w w' : World} {m N : Nat} {T : List Fl} (h : FMapIs w m N T) (hk : Below w.heap.size w w') : FMapIs w' m N T := h.of_block (hk.block m h.lt)
theorem FMapIs.blk_ne {w : World} {m N g : Nat} {t : TypeId} {cs : Array Value} {T : List Fl} (h : FMapIs w m N T) (hb : Blk w g t cs) : g ≠ m := by
 obtain ⟨D, hD, _⟩ := h
 exact blk_map_ne hb hD
set_option maxRecDepth 100000 in
set_option maxHeartbeats 2000000 in
theorem file_any (gi mf N : Nat) (Fs : List Fl) (k : List UInt8) (G Nm : Value) (w : World) (hb : Blk w gi 39 #[G, .map (some mf), Nm]) (hm : FMapIs w mf N Fs) (hk : short k) :
  Calls Tryd.prog 19 #[.pointer (some ⟨gi, 0, none⟩), S k] w (Gives w (.tuple #[(fileF Fs k).val, .bool (fget Fs k).isSome])) := by
 obtain ⟨V, hV⟩ : ∃ V, V = fileF Fs k := ⟨_, rfl⟩
 obtain ⟨B, hB⟩ : ∃ B, B = (fget Fs k).isSome := ⟨_, rfl⟩
 rw [← hV, ← hB]
 have HV := hide hV
 have HB := hide hB
 clear hV hB
 have hkey := key_S hk
 obtain ⟨w1, hw1⟩ : ∃ x, x = w.alloc (.cells #[.string { data := #[] }, .string { data := #[] }, .slice none 0 0, .slice none 0 0, .slice none 0 0, .slice none 0 0, .slice none 0 0, .slice none 0 0, .slice none 0 0, .slice none 0 0] 52) := ⟨_, rfl⟩
 have hb1 : Below w.heap.size w w1 := by rw [hw1]; exact (Below.refl _ _).alloc (Nat.le_refl _) _
 have HB1 := hide hb1
 have hr1 : Blk w1 w.heap.size 52 #[.string { data := #[] }, .string { data := #[] }, .slice none 0 0, .slice none 0 0, .slice none 0 0, .slice none 0 0, .slice none 0 0, .slice none 0 0, .slice none 0 0, .slice none 0 0] := by rw [hw1]; exact Blk.new _ _ _
 have c1 : w1.cell? ⟨gi, 1, none⟩ = some (.map (some mf)) := (hb.below hb1 hb.lt).cell 1
 obtain ⟨D, hD, hat⟩ := hm.below hb1
 have HD := hide hD
 have HAt := hide (hat k)
 clear hD hat hb hm
 have HR1 := hide hr1
 clear hb1 hr1
 go_enter Tryd.func19, Tryd.ntmps19
 go_upto_region 1 with fail
 rw [← hw1]
 clear hw1
 go_upto_region 4 with (at_lookup; refine lookup_face _ rfl _ _ 36 rfl 9 52 klaw Tryd.underlying36 (zero_file _) mf _ D rfl HD.out _ _ rfl hkey V.val B ((HAt.out.2 _).trans (by rw [fileF_val, HV.out])) (HAt.out.1.trans HB.out.symm) ?_)
 obtain ⟨w2, hw2⟩ : ∃ x, x = w1.alloc (.cells #[S V.f.n, S V.f.su, .slice V.f.fA V.f.fl V.f.fc, .slice V.f.mA V.f.ml V.f.mc, .slice V.nA V.nl V.nc, .slice V.cA V.cl V.cc, .slice V.tA V.tl V.tc, .slice V.dA V.dl V.dc, .slice V.mA V.ml V.mc, .slice V.bA V.bl V.bc] 52) := ⟨_, rfl⟩
 obtain ⟨r6, hr6⟩ : ∃ x, x = w1.heap.size := ⟨_, rfl⟩
 have hr2 : Blk w2 w.heap.size 52 #[S [], S [], .slice none 0 0, .slice none 0 0, .slice none 0 0, .slice none 0 0, .slice none 0 0, .slice none 0 0, .slice none 0 0, .slice none 0 0] := by rw [hw2]; exact HR1.out.alloc _
 have hv2 : Blk w2 r6 52 #[S V.f.n, S V.f.su, .slice V.f.fA V.f.fl V.f.fc, .slice V.f.mA V.f.ml V.f.mc, .slice V.nA V.nl V.nc, .slice V.cA V.cl V.cc, .slice V.tA V.tl V.tc, .slice V.dA V.dl V.dc, .slice V.mA V.ml V.mc, .slice V.bA V.bl V.bc] := by rw [hw2, hr6]; exact Blk.new _ _ _
 have hlt : w.heap.size < r6 := by rw [hr6]; exact HR1.out.lt
 have HB2 : Hid (Below w.heap.size w w2) := hide (by rw [hw2]; exact HB1.out.alloc (by omega) _)
 rw [show (w1.alloc (.cells #[.string { data := V.f.n.toArray }, .string { data := V.f.su.toArray }, .slice V.f.fA V.f.fl V.f.fc, .slice V.f.mA V.f.ml V.f.mc, .slice V.nA V.nl V.nc, .slice V.cA V.cl V.cc, .slice V.tA V.tl V.tc, .slice V.dA V.dl V.dc, .slice V.mA V.ml V.mc, .slice V.bA V.bl V.bc] 52)) = w2 from hw2.symm]
 rw [← hr6]
 have d0 : w2.cell? ⟨w.heap.size, 0, none⟩ = some (S []) := hr2.cell 0
 have e0 : w2.cell? ⟨r6, 0, none⟩ = some (S V.f.n) := hv2.cell 0
 have d1 : w2.cell? ⟨w.heap.size, 1, none⟩ = some (S []) := hr2.cell 1
 have e1 : w2.cell? ⟨r6, 1, none⟩ = some (S V.f.su) := hv2.cell 1
 have d2 : w2.cell? ⟨w.heap.size, 2, none⟩ = some (.slice none 0 0) := hr2.cell 2
 have e2 : w2.cell? ⟨r6, 2, none⟩ = some (.slice V.f.fA V.f.fl V.f.fc) := hv2.cell 2
 have d3 : w2.cell? ⟨w.heap.size, 3, none⟩ = some (.slice none 0 0) := hr2.cell 3
 have e3 : w2.cell? ⟨r6, 3, none⟩ = some (.slice V.f.mA V.f.ml V.f.mc) := hv2.cell 3
 have d4 : w2.cell? ⟨w.heap.size, 4, none⟩ = some (.slice none 0 0) := hr2.cell 4
 have e4 : w2.cell? ⟨r6, 4, none⟩ = some (.slice V.nA V.nl V.nc) := hv2.cell 4
 have d5 : w2.cell? ⟨w.heap.size, 5, none⟩ = some (.slice none 0 0) := hr2.cell 5
 have e5 : w2.cell? ⟨r6, 5, none⟩ = some (.slice V.cA V.cl V.cc) := hv2.cell 5
 have d6 : w2.cell? ⟨w.heap.size, 6, none⟩ = some (.slice none 0 0) := hr2.cell 6
 have e6 : w2.cell? ⟨r6, 6, none⟩ = some (.slice V.tA V.tl V.tc) := hv2.cell 6
 have d7 : w2.cell? ⟨w.heap.size, 7, none⟩ = some (.slice none 0 0) := hr2.cell 7
 have e7 : w2.cell? ⟨r6, 7, none⟩ = some (.slice V.dA V.dl V.dc) := hv2.cell 7
 have d8 : w2.cell? ⟨w.heap.size, 8, none⟩ = some (.slice none 0 0) := hr2.cell 8
 have e8 : w2.cell? ⟨r6, 8, none⟩ = some (.slice V.mA V.ml V.mc) := hv2.cell 8
 have d9 : w2.cell? ⟨w.heap.size, 9, none⟩ = some (.slice none 0 0) := hr2.cell 9
 have e9 : w2.cell? ⟨r6, 9, none⟩ = some (.slice V.bA V.bl V.bc) := hv2.cell 9
 have f0 := hr2.frozen
 clear hw2 hr6 hr2 hv2 HD HAt HV HB HR1 c1 hkey
 go_wp2_with fail
 refine bodyPost_ret (v := .tuple #[V.val, .bool B]) ?_ rfl ?_
 ·simp [results, Tryd.results19, go_sem, d0, d1, d2, d3, d4, d5, d6, d7, d8, d9]
 ·refine ⟨rfl, ?_⟩
  iterate 10 (refine set_below' ?_ (Nat.le_refl _) _)
  exact HB2.out
theorem str_info : (Tryd.prog.info? 9).map (fun i => (i.zero, i.size, i.bytes)) = some (some (.string { data := #[] }), 1, 16) := by kernel_rfl
set_option maxRecDepth 100000 in
set_option maxHeartbeats 2000000 in
theorem names_any (gi n c : Nat) (A : Option Addr) (l : List (List UInt8)) (G M : Value) (w : World) (hb : Blk w gi 39 #[G, M, .slice A n c]) (hr : Rd w (fun k => w.heap.size ≤ k) 1 A n (l.map S)) (hn : n ≤ 1000) :
  Calls Tryd.prog 18 #[.pointer (some ⟨gi, 0, none⟩)] w (fun e w' => ∃ A' c', e = .returned (.slice A' n c') ∧ w'.ownsRow w.heap.size 9 1 (.slice A' n c') n (l.map S) ∧ Below w.heap.size w w') := by
 have c2 : w.cell? ⟨gi, 2, none⟩ = some (.slice A n c) := hb.cell 2
 have HR := hide hr
 clear hr hb
 go_enter Tryd.func18, Tryd.ntmps18
 go_wp2_with (at_builtin; refine app_rd rfl _ _ 37 rfl w.heap.size 9 (.string { data := #[] }) 1 16 Tryd.underlying37 str_info rfl (by decide) (.slice none 0 0) 0 [] rfl (World.ownsRow_nil _ _ _ _) A n c (l.map S) rfl HR.out (by intro u hu; simp at hu; obtain ⟨x, _, rfl⟩ := hu; rfl) (by unfold maxLen; omega) (by omega) (Nat.le_refl _) ?_; intro A' c' w' hown hgrow _)
 rw [Nat.zero_add] at hown
 have HO := hide hown
 have hbl : Below w.heap.size w w' := ((Keep.refl (fun _ => False) w).grown hgrow (fun k hk _ => by cases hk)).below (Nat.le_refl _) (fun k hk => absurd hk id)
 have HB := hide hbl
 clear hown hgrow hbl
 go_wp2_with fail
 go_ret
 exact ⟨A', c', by simp, by simpa using HO.out, HB.out⟩
end Go.Proofs.YtmbegaobnpoefaaDoor
