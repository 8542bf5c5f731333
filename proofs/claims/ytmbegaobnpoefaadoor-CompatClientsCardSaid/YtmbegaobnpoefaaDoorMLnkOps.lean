/- The linker's state while it puts files together; no statement of the seat is proved here. (Written by gen/vlnk2.py.) -/
import Derived.Test.YtmbegaobnpoefaaDoorMHierTabH
import Derived.Test.YtmbegaobnpoefaaDoorMFaceDataC
import Derived.Test.YtmbegaobnpoefaaDoorMCliClone
namespace Go.Proofs.YtmbegaobnpoefaaDoor
open Go.RowKit Go.Maps
set_option linter.unusedVariables false
section
variable {P : Program} {o : Oper} {a : Act} {w : World} {K : Act → World → Prop} {Q : Exit → Act → World → Prop}
theorem wp_app (s x : Operand) (t : TypeId)
  (ho : o.op = .call { callee := .builtin .append, args := #[s, x], argTypes := #[t, t] })
  (base : Nat) (e : TypeId) (z : Value) (size bytes : Nat) (ht : P.underlying t = some (.slice e)) (hinfo : (P.info? e).map (fun i => (i.zero, i.size, i.bytes)) = some (some z, size, bytes)) (hzs : z.cells.size = size) (hsz : 0 < size)
  (v : Value) (n : Nat) (xs : List Value) (hs : a.eval s = v) (hown : w.ownsRow base e size v n xs) {F : Nat → Prop} (A : Option Addr) (m c : Nat) (news : List Value) (hx : a.eval x = .slice A m c) (hr : Rd w F size A m news)
  (h1 : ∀ u ∈ news, u.oneCell' = true) (h63 : n + m ≤ maxLen) (hbytes : (n + m) * bytes ≤ 140737488355328) (hbase : base ≤ w.heap.size)
  (h : ∀ A' c' w', w'.ownsRow base e size (.slice A' (n + m) c') (n + m) (xs ++ news) → w.grownBy w' v.ownBlock → ((Value.slice A' (n + m) c').ownBlock = v.ownBlock ∨ (Value.slice A' (n + m) c').ownBlock = some w.heap.size) → K (a.put o.dst (.slice A' (n + m) c')) w') : Oper.wp P o a w K Q := by
 obtain ⟨i, hi, hz, hz1, hz2⟩ := info_parts hinfo
 have key : ∃ v' w', (Builtin.append_ #[t, t] o.type #[v, .slice A m c]).run P w = .ok v' w' ∧ w'.ownsRow base e size v' (n + m) (xs ++ news) ∧ w.grownBy w' v.ownBlock ∧ (v'.ownBlock = v.ownBlock ∨ v'.ownBlock = some w.heap.size) := by
  by_cases h0 : m = 0
  ·subst h0
   obtain rfl : news = [] := List.eq_nil_of_length_eq_zero (by have := hr.1; simpa using this)
   cases A with
   | none => exact ⟨v, w, app_none ht hi hown c, by simpa using hown, World.grownBy.refl w _, .inl rfl⟩
   | some ad =>
    obtain ⟨v', w', hrun, h2, h3, _, h5⟩ := run_append_own_at (P := P) w base t o.type e i z size bytes ht hi hz hz1 hz2 hzs hsz v n xs hown ad 0 c [] (by simp) (by simp) h1 h63 hbytes hbase
    exact ⟨v', w', hrun, h2, h3, h5⟩
  ·obtain ⟨b, off, rfl, _, _, hc⟩ := hr.2 (by omega)
   obtain ⟨v', w', hrun, h2, h3, _, h5⟩ := run_append_own_at (P := P) w base t o.type e i z size bytes ht hi hz hz1 hz2 hzs hsz v n xs hown ⟨b, off, none⟩ m c news hr.1 (fun j u hu => by
    have := hc j u hu
    unfold Addr.add
    split
    ·rename_i hj; subst hj; exact this
    ·exact this) h1 h63 hbytes hbase
   exact ⟨v', w', hrun, h2, h3, h5⟩
 obtain ⟨v', w', hrun, h2, h3, h4⟩ := key
 obtain ⟨A', c', rfl⟩ := own_slice h2
 unfold Oper.wp execOp
 simp only [ho, resolve, invoke, builtin, Sem.run_bind, Sem.run_pure, Result.andThen_ok, List.map_toArray, List.map_cons, List.map_nil, hs, hx, hrun]
 exact h A' c' w' h2 h3 h4
end
theorem FMapIs.look {w : World} {m N : Nat} {T : List Fl} (h : FMapIs w m N T) {k : List UInt8} (hk : short k) : (Instr.lookup 36 (.map (some m)) (S k) true).run Tryd.prog w = .ok (.tuple #[(fileF T k).val, .bool (fget T k).isSome]) w := by
 obtain ⟨D, hD, hat⟩ := h
 obtain ⟨v, ps, hrun, hv⟩ := hD.look_ok klaw Tryd.underlying36 (zero_file w) (zd := .held zeroFl.val) (zp := []) rfl (key_S hk)
 rw [(hat k).2, fileF_val] at hv
 have h2 := heldR_inv hv
 rw [hrun, (hat k).1, h2]
theorem own_map_ne {w : World} {B n : Nat} {e : TypeId} {size : Nat} {v : Value} {xs : List Value} (h : w.ownsRow B e size v n xs) {m N : Nat} {D : DataW Value} (h' : w.ownsMap Tryd.prog 9 heldR m N D) : v.ownBlock ≠ some m := by
 rcases h.2 with ⟨rfl, _⟩ | ⟨g, cap, cur, rfl, _, hh, _⟩
 ·intro e; cases e
 ·intro e
  injection e with e
  subst e
  obtain ⟨es, clock, hb, _⟩ := h'
  rw [hh] at hb
  cases hb
theorem own_rdF {w : World} {base n size : Nat} {e : TypeId} {A : Option Addr} {c : Nat} {xs : List Value} {F : Nat → Prop} (h : w.ownsRow base e size (.slice A n c) n xs) (hF : ∀ k, (Value.slice A n c).ownBlock = some k → ¬ F k) : Rd w F size A n xs := by
 refine ⟨h.1, fun hn => ?_⟩
 obtain ⟨g, hg⟩ := own_some h hn
 subst hg
 obtain ⟨b, o, e1, _, hlt, hc⟩ := (Rd.of_own2 (F := fun _ => False) h (fun _ _ h => h)).2 hn
 injection e1 with e1
 injection e1 with e1 e2
 subst e1 e2
 exact ⟨g, 0, rfl, hF g rfl, hlt, hc⟩
structure Lk (w0 w : World) (gi mf : Nat) (Fs : List Fl) (ns : List (List UInt8)) (nA : Option Addr) (nc : Nat) (T : List Fc) (fA : Option Addr) (fc : Nat) : Prop where
 bk : Blk w gi 39 #[.pointer none, .map (some mf), .slice nA ns.length nc]
 fm : FMapIs w mf Fs.length Fs
 nr : w.ownsRow w0.heap.size 9 1 (.slice nA ns.length nc) ns.length (ns.map S)
 fr : w.ownsRow w0.heap.size 43 4 (.slice fA T.length fc) T.length (T.flatMap Fc.cells)
 be : Below w0.heap.size w0 w
 gm : w0.heap.size ≤ gi ∧ w0.heap.size ≤ mf
section
variable {w0 w w' : World} {gi mf nc fc : Nat} {Fs : List Fl} {ns : List (List UInt8)} {T : List Fc} {nA fA : Option Addr}
theorem Lk.below (h : Lk w0 w gi mf Fs ns nA nc T fA fc) (hb : Below w.heap.size w w') : Lk w0 w' gi mf Fs ns nA nc T fA fc :=
 ⟨h.bk.below hb h.bk.lt, h.fm.below hb, own_keep h.nr (keep_any (F := fun _ => False) hb) (fun _ _ h => h), own_keep h.fr (keep_any (F := fun _ => False) hb) (fun _ _ h => h), h.be.trans (hb.mono h.be.size), h.gm⟩
theorem Lk.drew (h : Lk w0 w gi mf Fs ns nA nc T fA fc) : Lk w0 w.drew gi mf Fs ns nA nc T fA fc := h.below (bdrewN (Below.refl _ _) 1)
theorem Lk.put (h : Lk w0 w gi mf Fs ns nA nc T fA fc) {f : Fl} {N : Nat} (hm : FMapIs w' mf N (Fs ++ [f])) (hN : N = (Fs ++ [f]).length) (hg : w.grownBy w' (some mf)) : Lk w0 w' gi mf (Fs ++ [f]) ns nA nc T fA fc := by
 subst hN
 have hk : Keep (fun k => k = mf) w w' := (Keep.refl _ w).grown hg (fun k hk _ => by injection hk with hk; exact hk.symm)
 obtain ⟨D, hD, _⟩ := h.fm
 exact ⟨h.bk.keep hk (blk_map_ne h.bk hD), hm, own_keep h.nr hk (fun k hk e => own_map_ne h.nr hD (by rw [hk, e])), own_keep h.fr hk (fun k hk e => own_map_ne h.fr hD (by rw [hk, e])), h.be.trans (hk.below (B := w0.heap.size) h.be.size (fun k e => by have := h.gm; omega)), h.gm⟩
theorem Lk.name (h : Lk w0 w gi mf Fs ns nA nc T fA fc) {nm : List UInt8} {nA' : Option Addr} {nc' : Nat} (ho : w'.ownsRow w0.heap.size 9 1 (.slice nA' (ns.length + 1) nc') (ns.length + 1) (ns.map S ++ [S nm])) (hg : w.grownBy w' (Value.slice nA ns.length nc).ownBlock) :
  Lk w0 (w'.setCell ⟨gi, 2, none⟩ (.slice nA' (ns.length + 1) nc')) gi mf Fs (ns ++ [nm]) nA' nc' T fA fc := by
 have hk : Keep (fun k => (Value.slice nA ns.length nc).ownBlock = some k) w w' := (Keep.refl _ w).grown hg (fun k hk _ => hk)
 have hks : Keep (fun k => k = gi) w' (w'.setCell ⟨gi, 2, none⟩ (.slice nA' (ns.length + 1) nc')) := (Keep.refl (fun k => k = gi) w').setCell (p := ⟨gi, 2, none⟩) (fun _ => rfl) _
 obtain ⟨D, hD, hat⟩ := h.fm
 have h1 : Blk w' gi 39 #[.pointer none, .map (some mf), .slice nA ns.length nc] := h.bk.keep hk (own_blk_ne h.nr h.bk (by decide))
 have hfm : FMapIs w' mf Fs.length Fs := h.fm.keep hk (fun e => own_map_ne h.nr hD e)
 have hfr := own_keep h.fr hk (fun k hk hk2 => own_own_ne h.nr h.fr (by decide) k hk2 hk)
 refine ⟨?_, hfm.keep hks (fun e => ?_), ?_, own_keep hfr hks (fun k hk e => own_blk_ne hfr h1 (by decide) (by rw [hk, e])), (h.be.trans (hk.below (B := w0.heap.size) h.be.size (fun k e => (own_base h.nr e).1))).trans (hks.below (B := w0.heap.size) (Nat.le_trans h.be.size hk.size) (fun k e => by have := h.gm; omega)), h.gm⟩
 ·have := h1.set_ 2 (.slice nA' (ns.length + 1) nc')
  simpa using this
 ·obtain ⟨D2, hD2, _⟩ := hfm
  exact blk_map_ne h1 hD2 e.symm
 ·have := own_keep ho hks (fun k hk e => own_blk_ne ho h1 (by decide) (by rw [hk, e]))
  simpa using this
theorem Lk.face (h : Lk w0 w gi mf Fs ns nA nc T fA fc) {f : Fc} {fA' : Option Addr} {fc' : Nat} (ho : w'.ownsRow w0.heap.size 43 4 (.slice fA' (T.length + 1) fc') (T.length + 1) (T.flatMap Fc.cells ++ f.cells)) (hg : w.grownBy w' (Value.slice fA T.length fc).ownBlock) :
  Lk w0 w' gi mf Fs ns nA nc (T ++ [f]) fA' fc' := by
 have hk : Keep (fun k => (Value.slice fA T.length fc).ownBlock = some k) w w' := (Keep.refl _ w).grown hg (fun k hk _ => hk)
 obtain ⟨D, hD, hat⟩ := h.fm
 exact ⟨h.bk.keep hk (own_blk_ne h.fr h.bk (by decide)), h.fm.keep hk (fun e => own_map_ne h.fr hD e), own_keep h.nr hk (fun k hk hk2 => own_own_ne h.fr h.nr (by decide) k hk2 hk), by simpa using ho, h.be.trans (hk.below (B := w0.heap.size) h.be.size (fun k e => (own_base h.fr e).1)), h.gm⟩
end
end Go.Proofs.YtmbegaobnpoefaaDoor
