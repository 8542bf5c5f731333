/- Verification's small functions: a state, copied; taking off the stack, laying on it; no statement of the seat is proved here. -/
import Derived.Test.YtmbegaobnpoefaaDoorMCliJoin
import Derived.Test.YtmbegaobnpoefaaDoorMHierTwiceH
import Derived.Test.YtmbegaobnpoefaaDoorMClsM2
import Derived.BigRegion
import Derived.Deep.AppendLies
import Derived.Deep.RegionLaw
import Derived.Lib.SliceRun
namespace Go.Proofs.YtmbegaobnpoefaaDoor
open Go.RowKit Go.Maps
set_option linter.unusedVariables false
set_option linter.unusedSimpArgs false
theorem below_grown {B : Nat} {a w w' : World} (h : Below B a w) (hB : B ≤ w.heap.size) {row : Option Nat} (hg : w.grownBy w' row) (hr : ∀ k, row = some k → B ≤ k) : Below B a w' :=
 h.trans (Keep.below ((Keep.refl (fun k => row = some k) w).grown hg (fun _ hk _ => hk)) hB hr)
set_option maxRecDepth 100000 in
set_option maxHeartbeats 2000000 in
theorem tclone_any (A : Option Addr) (n c : Nat) (ts : List Ty) (w : World) (h : Rd w (fun k => w.heap.size ≤ k) 2 A n (ts.flatMap Ty.cells)) (hl : ts.length = n) (hn : n ≤ 100000) :
  Calls Tryd.prog 57 #[.slice A n c] w (fun e w' => ∃ A' c', e = .returned (.slice A' n c') ∧ w'.ownsRow w.heap.size 24 2 (.slice A' n c') n (ts.flatMap Ty.cells) ∧ Below w.heap.size w w') := by
 have q66 : ∀ (w : World) (a : Option Addr) (n c n' c' : Nat), (binOp .eql 45 (.slice a n c) (.slice none n' c')).run Tryd.prog w = .ok (.bool a.isNone) w := fun w a n c n' c' => Lib.run_eql_slice_nil w _ _ a n c n' c' Tryd.underlying45
 cases A with
 | none =>
  have h0 : n = 0 := by
   rcases Nat.eq_zero_or_pos n with h1 | h1
   ·exact h1
   ·obtain ⟨_, _, e, _⟩ := h.2 h1
    cases e
  subst h0
  obtain rfl : ts = [] := List.eq_nil_of_length_eq_zero hl
  clear h hl
  go_enter Tryd.func57, Tryd.ntmps57
  go_wp2_with fail
  go_ret
  exact ⟨none, 0, rfl, World.ownsRow_nil _ _ _ _, Below.refl _ _⟩
 | some ad =>
  have hrd1 := h.alloc (.cells #[] 24)
  have hown : (w.alloc (.cells #[] 24)).ownsRow w.heap.size 24 2 (.slice (some ⟨w.heap.size, 0, none⟩) 0 0) 0 [] := World.ownsRow_made (base := w.heap.size) (e := 24) (size := 2) w #[] 0 (Nat.le_refl _) (by unfold maxLen; omega) rfl
  have h1c : ∀ u ∈ ts.flatMap Ty.cells, u.oneCell' = true := ty_one ts
  have hb0 := (Below.refl w.heap.size w).alloc (Nat.le_refl _) (.cells #[] 24)
  have HB0 := hide hb0
  have HC := hide h1c
  clear h h1c hb0 hl
  go_enter Tryd.func57, Tryd.ntmps57
  go_wp2_with (at_builtin; refine app_rd rfl (.tmp 5) (.tmp 6) 45 rfl w.heap.size 24 _ 2 24 Tryd.underlying45 ty_info rfl (by decide) (.slice (some ⟨w.heap.size, 0, none⟩) 0 0) 0 [] rfl hown (some ad) n c (ts.flatMap Ty.cells) rfl hrd1 HC.out (by unfold maxLen; omega) (by omega) (by simp) ?_; intro A5 c5 w5 hown5 hgrow5 hat5)
  have hb5 := below_grown HB0.out (by simp) hgrow5 (fun j hj => by have : w.heap.size = j := (by simpa [Value.ownBlock] using hj); omega)
  rw [Nat.zero_add, List.nil_append] at hown5
  go_ret
  exact ⟨A5, c5, rfl, hown5, hb5⟩
structure Ws (w : World) (B p : Nat) (la : Option Addr) (lc : Nat) (sa : Option Addr) (sc : Nat) (lo st : List Ty) : Prop where
 blk : Blk w p 113 #[.slice la lo.length lc, .slice sa st.length sc]
 hp : B ≤ p
 lown : w.ownsRow B 24 2 (.slice la lo.length lc) lo.length (lo.flatMap Ty.cells)
 sown : w.ownsRow B 24 2 (.slice sa st.length sc) st.length (st.flatMap Ty.cells)
 ne : ∀ k, (Value.slice la lo.length lc).ownBlock = some k → (Value.slice sa st.length sc).ownBlock ≠ some k
abbrev kCells (gi : Nat) (f : Fl) (b : Bd) (m : Sg) (a d : Value) : Array Value := #[.pointer (some ⟨gi, 0, none⟩), S f.f.n, S f.f.su, .slice f.f.fA f.f.fl f.f.fc, .slice f.f.mA f.f.ml f.f.mc, .slice f.nA f.nl f.nc, .slice f.cA f.cl f.cc, .slice f.tA f.tl f.tc, .slice f.dA f.dl f.dc, .slice f.mA f.ml f.mc, .slice f.bA f.bl f.bc, .int .i64 b.lo, .int .i64 b.sk, .slice b.A b.k b.c, S m.n, .bool m.st, .slice m.A m.k m.c, S m.r.n, .bool m.r.a, a, d]
theorem shrink_own {w : World} {base : Nat} {e : TypeId} {size n k c : Nat} {a : Option Addr} {xs : List Value} (h : w.ownsRow base e size (.slice a n c) n xs) (hk : k ≤ n) : w.ownsRow base e size (.slice a k c) k (xs.take (k * size)) := by
 have hl := h.1
 have hm : k * size ≤ n * size := Nat.mul_le_mul_right _ hk
 refine ⟨by rw [List.length_take]; omega, ?_⟩
 rcases h.2 with ⟨e1, e2⟩ | ⟨g, cap, cur, hv, hb, hh, hnc, hcm, hcs, ht⟩
 ·injection e1 with e1 e3 e4
  subst e1 e4
  obtain rfl : k = 0 := by omega
  exact .inl ⟨rfl, by simp⟩
 ·injection hv with e1 e3 e4
  subst e1 e4
  exact .inr ⟨g, c, cur, rfl, hb, hh, by omega, hcm, hcs, by rw [← ht, List.take_take, Nat.min_eq_left hm]⟩
theorem take_cells (l : List Ty) (k : Nat) : (l.flatMap Ty.cells).take (k * 2) = (l.take k).flatMap Ty.cells := by
 induction l generalizing k with
 | nil => simp
 | cons t l ih =>
  cases k with
  | zero => simp
  | succ k =>
   rw [show (k + 1) * 2 = k * 2 + 2 by omega]
   simp only [List.flatMap_cons, Ty.cells, List.cons_append, List.nil_append, List.take_succ_cons]
   rw [← ih k]
theorem Ws.keep {w w' : World} {B p lc sc : Nat} {la sa : Option Addr} {lo st : List Ty} {F : Nat → Prop} (h : Ws w B p la lc sa sc lo st) (hk : Keep F w w') (h1 : ∀ k, B ≤ k → k < w.heap.size → ¬ F k) : Ws w' B p la lc sa sc lo st :=
 ⟨h.blk.keep hk (h1 p h.hp h.blk.lt), h.hp, own_keep h.lown hk (fun k hk => by obtain ⟨a, b⟩ := own_base h.lown hk; exact h1 k a b), own_keep h.sown hk (fun k hk => by obtain ⟨a, b⟩ := own_base h.sown hk; exact h1 k a b), h.ne⟩
theorem Ws.below {w w' : World} {B p lc sc : Nat} {la sa : Option Addr} {lo st : List Ty} (h : Ws w B p la lc sa sc lo st) (hb : Below w.heap.size w w') : Ws w' B p la lc sa sc lo st :=
 h.keep (Keep.of_below (F := fun _ => False) hb (fun k h1 h2 => by omega)) (fun _ _ _ h => h)
theorem Ws.drew {w : World} {B p lc sc : Nat} {la sa : Option Addr} {lo st : List Ty} (h : Ws w B p la lc sa sc lo st) : Ws w.drew B p la lc sa sc lo st := ⟨h.blk, h.hp, h.lown, h.sown, h.ne⟩
theorem Ws.drewN {w : World} {B p lc sc : Nat} {la sa : Option Addr} {lo st : List Ty} (h : Ws w B p la lc sa sc lo st) (n : Nat) : Ws (w.drewN n) B p la lc sa sc lo st := ⟨h.blk, h.hp, h.lown, h.sown, h.ne⟩
theorem push_kp {w w1 w4 : World} {x : Obj} {cs : Array Value} {r : Option Nat} (h1 : w1 = w.alloc x) (hg : ((w1.alloc (.cells cs 24)).drew).grownBy w4 r) : Keep (fun k => r = some k) w w4 ∧ w.heap.size + 2 ≤ w4.heap.size := by
 subst h1
 have h2 : Keep (fun k => r = some k) w (((w.alloc x).alloc (.cells cs 24)).drew) := (((Keep.refl _ w).alloc _).alloc _).drew
 have h3 := h2.grown hg (fun k hk _ => hk)
 exact ⟨h3, by have := hg.size; simp at this; omega⟩
theorem push_ws {w w1 w4 : World} {B p lc sc g' cap' : Nat} {la sa : Option Addr} {lo st : List Ty} {tn : List UInt8} {ta : Bool} {x : Obj} (h : Ws w B p la lc sa sc lo st) (h1 : w1 = w.alloc x)
  (hown : w4.ownsRow B 24 2 (.slice (some ⟨g', 0, none⟩) (st.length + 1) cap') (st.length + 1) (st.flatMap Ty.cells ++ [S tn, .bool ta])) (hg : ((w1.alloc (.cells #[S tn, .bool ta] 24)).drew).grownBy w4 (Value.slice sa st.length sc).ownBlock)
  (hG : (Value.slice sa st.length sc).ownBlock = some g' ∨ g' = w.heap.size + 2) (hB : B ≤ w.heap.size) :
  ∀ w5, w5 = w4.setCell ⟨p, 1, none⟩ (.slice (some ⟨g', 0, none⟩) (st.length + 1) cap') → Ws w5 B p la lc (some ⟨g', 0, none⟩) cap' lo (st ++ [⟨tn, ta⟩]) ∧ Keep (fun k => k = p ∨ (Value.slice sa st.length sc).ownBlock = some k) w w5 := by
 rintro w5 rfl
 have hk := (push_kp h1 hg).1
 have hpn := own_blk_ne h.sown h.blk (by decide)
 have hln : ∀ k, (Value.slice la lo.length lc).ownBlock = some k → ¬ (Value.slice sa st.length sc).ownBlock = some k := fun k hk hs => h.ne k hk hs
 have hl4 := own_keep h.lown hk hln
 have hb4 : Blk w4 p 113 #[.slice la lo.length lc, .slice sa st.length sc] := h.blk.keep hk (fun e => hpn e)
 have hlp : (Value.slice la lo.length lc).ownBlock ≠ some p := own_blk_ne h.lown h.blk (by decide)
 have hgp : g' ≠ p := by
  rintro rfl
  rcases hG with e | e
  ·exact hpn e
  ·have := h.blk.lt; omega
 have hs : Keep (fun k => k = p) w4 (w4.setCell ⟨p, 1, none⟩ (.slice (some ⟨g', 0, none⟩) (st.length + 1) cap')) := (Keep.refl (fun k => k = p) w4).setCell (p := ⟨p, 1, none⟩) (fun _ => rfl) _
 refine ⟨⟨?_, h.hp, own_keep hl4 hs (fun k hk e => hlp (e ▸ hk)), ?_, ?_⟩, ?_⟩
 ·have := hb4.set_ 1 (.slice (some ⟨g', 0, none⟩) (st.length + 1) cap')
  simpa using this
 ·have := own_keep hown hs (fun k hk e => by
   have e2 : g' = k := by simpa [Value.ownBlock] using hk
   exact hgp (e2.trans e))
  simpa using this
 ·intro k hk e
  have e2 : g' = k := by simpa [Value.ownBlock] using e
  rcases hG with e3 | e3
  ·exact h.ne k hk (e2 ▸ e3)
  ·have := (own_base h.lown hk).2
   omega
 ·exact (hk.mono (fun _ _ h => .inr h)).setCell (fun _ => .inl rfl) _
set_option maxRecDepth 100000 in
set_option maxHeartbeats 2000000 in
theorem push_any (q p B gi lc sc : Nat) (la sa : Option Addr) (lo st : List Ty) (t : Ty) (f : Fl) (b : Bd) (m : Sg) (va vd : Value) (w : World) (h : Ws w B p la lc sa sc lo st) (hq : Blk w q 79 (kCells gi f b m va vd)) (hn : st.length ≤ 100000) (hB : B ≤ w.heap.size) :
  Calls Tryd.prog 59 #[.pointer (some ⟨q, 0, none⟩), .pointer (some ⟨p, 0, none⟩), t.val] w
   (fun e w' => ∃ sa' sc', e = .returned (.bool (decide (((st.length + 1 : Nat) : Int) ≤ b.sk))) ∧ Ws w' B p la lc sa' sc' lo (st ++ [t]) ∧ Keep (fun k => k = p ∨ (Value.slice sa st.length sc).ownBlock = some k) w w') := by
 obtain ⟨i0, hi0, hz0, hz1, hz2⟩ := info_parts ty_info
 obtain ⟨tn, ta⟩ := t
 obtain ⟨w1, hw1⟩ : ∃ w1, w1 = w.alloc (.cells #[S tn, .bool ta] 24) := ⟨_, rfl⟩
 have hb1 : Blk w1 w.heap.size 24 #[S tn, .bool ta] := by rw [hw1]; exact Blk.new _ _ _
 have hbb : Below w.heap.size w w1 := by rw [hw1]; exact (Below.refl _ w).alloc (Nat.le_refl _) _
 have hs1 : w1.heap.size = w.heap.size + 1 := by rw [hw1]; simp
 have h1 := h.below hbb
 have hq1 := hq.below hbb hq.lt
 have hqp : q ≠ p := hq.ne_ h.blk (by decide)
 have hpl : p < w.heap.size := h.blk.lt
 have hql : q < w.heap.size := hq.lt
 have hpn : (Value.slice sa st.length sc).ownBlock ≠ some p := own_blk_ne h.sown h.blk (by decide)
 have hqn : (Value.slice sa st.length sc).ownBlock ≠ some q := own_blk_ne h.sown hq (by decide)
 have c0 : w1.cell? ⟨w.heap.size, 0, none⟩ = some (S tn) := hb1.cell 0
 have c1 : w1.cell? ⟨w.heap.size, 1, none⟩ = some (.bool ta) := hb1.cell 1
 have c2 : w1.cell? ⟨p, 1, none⟩ = some (.slice sa st.length sc) := h1.blk.cell 1
 have hoD : ((w1.alloc (.cells #[S tn, .bool ta] 24)).drew).ownsRow B 24 2 (.slice sa st.length sc) st.length (st.flatMap Ty.cells) := h1.sown.alloc _
 have hnD : ∀ j u, [S tn, .bool ta][j]? = some u → ((w1.alloc (.cells #[S tn, .bool ta] 24)).drew).cell? ((⟨w.heap.size + 1, 0, none⟩ : Addr).add j) = some u := by
  rw [← hs1]
  intro j u hu
  have := (Blk.new w1 24 #[S tn, .bool ta]).drew.cell j
  rw [show ((⟨w1.heap.size, 0, none⟩ : Addr).add j) = ⟨w1.heap.size, j, none⟩ by simp [Addr.add_lit]]
  rw [this]
  simpa using hu
 have h1c : ∀ u ∈ [S tn, .bool ta], u.oneCell' = true := by
  intro u hu
  simp only [List.mem_cons, List.not_mem_nil, or_false] at hu
  rcases hu with rfl | rfl <;> rfl
 have hcD : ((w1.alloc (.cells #[S tn, .bool ta] 24)).drew).cell? ⟨p, 1, none⟩ = some (.slice sa st.length sc) := (h1.blk.alloc _).cell 1
 have hfD : ((w1.alloc (.cells #[S tn, .bool ta] 24)).drew).frozen? ⟨p, 1, none⟩ = false := (h1.blk.alloc _).frozen 1
 have hne4 : ∀ w4 : World, ((w1.alloc (.cells #[S tn, .bool ta] 24)).drew).grownBy w4 (Value.slice sa st.length sc).ownBlock → w4.cell? ⟨p, 1, none⟩ = some (.slice sa st.length sc) ∧ w4.frozen? ⟨p, 1, none⟩ = false := fun w4 hg =>
  ⟨(hg.cell_far ⟨p, 1, none⟩ (by simp; omega) (fun e => hpn e.symm)).trans hcD, (World.frozen?_of_block (w := (w1.alloc (.cells #[S tn, .bool ta] 24)).drew) (hg.block p (by simp; omega) (fun e => hpn e.symm))).trans hfD⟩
 have HH := hide h
 have HQ := hide hq
 have H1 := hide h1
 have HW1 := hide hw1
 have HBB := hide hbb
 clear h hq h1 hbb hb1 hq1
 go_enter Tryd.func59, Tryd.ntmps59
 go_wp2_with fail
 rw [← hw1]
 clear hw1
 go_region_law (refine step_append_lies _ rfl (.tmp 11) (.tmp 13) 45 rfl B 24 i0 (.agg #[.string { data := #[] }, .bool false]) 2 24 Tryd.underlying45 hi0 hz0 hz1 hz2 rfl (by decide) _ _ _ rfl hoD ⟨w.heap.size + 1, 0, none⟩ 1 1 [S tn, .bool ta] rfl rfl hnD h1c (by decide) (by unfold maxLen; omega) (by omega) (by simp; omega) (w.heap.size + 2) (by simp; omega) ?_; intro g' cap' w4 hown4 hgrow4 hat4 _; obtain ⟨hcell4, hfro4⟩ := hne4 w4 hgrow4)
 all_goals
  have hS1 : (Value.slice sa st.length sc).ownBlock = (Value.slice sa st.length sc).ownBlock := rfl
  have HWS := hide (push_ws HH.out HW1.out hown4 hgrow4 hat4 hB)
  have HQ4 := hide (HQ.out.keep (push_kp HW1.out hgrow4).1 hqn)
  clear hown4 hgrow4 hcell4 hfro4 hoD hnD hcD hfD hne4
  simp [go_sem, Act.put]
  go_wp2_with fail
  refine name_world ?_
  intro w5 hw5
  have HP5 := hide (HWS.out w5 hw5)
  have HQ5 : Hid (Blk w5 q 79 (kCells gi f b m va vd)) := hide (by rw [hw5]; exact HQ4.out.far hqp _)
  clear hw5 HWS HQ4
  have p0 : w5.cell? ⟨p, 1, none⟩ = some (.slice (some ⟨g', 0, none⟩) (st.length + 1) cap') := by have := HP5.out.1.blk.cell 1; simpa using this
  have p1 : w5.cell? ⟨q, 12, none⟩ = some (.int .i64 b.sk) := HQ5.out.cell 12
  go_quiet (fail)
  go_wp2_with fail
  go_ret
  exact ⟨some ⟨g', 0, none⟩, cap', by simp, HP5.out.1.drewN _, HP5.out.2.drewN _⟩
theorem ob_any (a : Option Addr) (n m c d : Nat) : (Value.slice a n c).ownBlock = (Value.slice a m d).ownBlock := by cases a <;> rfl
theorem own_rd2 {w : World} {B n c : Nat} {a : Option Addr} {l : List Ty} (h : w.ownsRow B 24 2 (.slice a n c) n (l.flatMap Ty.cells)) : Rd w (fun b => b < B) 2 a n (l.flatMap Ty.cells) := Rd.of_own2 h (fun k hk h => by omega)
theorem Ws.pop {w w2 : World} {B p lc sc : Nat} {la sa : Option Addr} {lo r : List Ty} {t : Ty} (h : Ws w B p la lc sa sc lo (r ++ [t])) (h2 : Keep (fun _ => False) w w2) :
  Ws (w2.setCell ⟨p, 1, none⟩ (.slice sa r.length sc)) B p la lc sa sc lo r ∧ Keep (fun k => k = p) w (w2.setCell ⟨p, 1, none⟩ (.slice sa r.length sc)) := by
 have h' : Ws w2 B p la lc sa sc lo (r ++ [t]) := h.keep h2 (fun _ _ _ h => h)
 have hs : Keep (fun k => k = p) w2 (w2.setCell ⟨p, 1, none⟩ (.slice sa r.length sc)) := (Keep.refl (fun k => k = p) w2).setCell (p := ⟨p, 1, none⟩) (fun _ => rfl) _
 have hlp : (Value.slice la lo.length lc).ownBlock ≠ some p := own_blk_ne h'.lown h'.blk (by decide)
 have hsp : (Value.slice sa (r ++ [t]).length sc).ownBlock ≠ some p := own_blk_ne h'.sown h'.blk (by decide)
 have hsh := shrink_own h'.sown (k := r.length) (by simp)
 rw [take_cells, List.take_left' rfl] at hsh
 refine ⟨⟨?_, h.hp, own_keep h'.lown hs (fun k hk e => hlp (e ▸ hk)), own_keep hsh hs (fun k hk e => hsp ((ob_any _ _ _ _ _).trans (e ▸ hk))), fun k hk e => h.ne k hk ((ob_any _ _ _ _ _).trans e)⟩, ?_⟩
 ·have := h'.blk.set_ 1 (.slice sa r.length sc)
  simpa using this
 ·exact (h2.mono (G := fun k => k = p) (fun _ _ h => h.elim)).setCell (p := ⟨p, 1, none⟩) (fun _ => rfl) _
theorem own_cap {w : World} {base : Nat} {e : TypeId} {size n c : Nat} {a : Option Addr} {xs : List Value} (h : w.ownsRow base e size (.slice a n c) n xs) : n ≤ c := by
 rcases h.2 with ⟨e1, e2⟩ | ⟨g, cap, cur, hv, hb, hh, hnc, hcm, hcs, ht⟩
 ·omega
 ·injection hv with e1 e3 e4
  omega
theorem Ws.far2 {w : World} {B p lc sc : Nat} {la sa : Option Addr} {lo st : List Ty} (h : Ws w B p la lc sa sc lo st) (r i j : Nat) (x y : Value) (hr : r ≠ p ∧ (Value.slice la lo.length lc).ownBlock ≠ some r ∧ (Value.slice sa st.length sc).ownBlock ≠ some r) : Ws ((w.setCell ⟨r, i, none⟩ x).setCell ⟨r, j, none⟩ y) B p la lc sa sc lo st := by
 have hk : Keep (fun k => k = r) w ((w.setCell ⟨r, i, none⟩ x).setCell ⟨r, j, none⟩ y) := ((Keep.refl (fun k => k = r) w).setCell (p := ⟨r, i, none⟩) (fun _ => rfl) x).setCell (p := ⟨r, j, none⟩) (fun _ => rfl) y
 exact ⟨h.blk.keep hk (fun e => hr.1 e.symm), h.hp, own_keep h.lown hk (fun k hk e => hr.2.1 (by rw [hk, e])), own_keep h.sown hk (fun k hk e => hr.2.2 (by rw [hk, e])), h.ne⟩
theorem Keep.far2 {w w2 : World} {F : Nat → Prop} (h : Keep F w w2) {r : Nat} (hr : w.heap.size ≤ r) (i j : Nat) (x y : Value) : Keep F w ((w2.setCell ⟨r, i, none⟩ x).setCell ⟨r, j, none⟩ y) :=
 (h.setCell (p := ⟨r, i, none⟩) (fun hl => absurd hl (by simp; omega)) x).setCell (p := ⟨r, j, none⟩) (fun hl => absurd hl (by simp; omega)) y
set_option maxRecDepth 100000 in
set_option maxHeartbeats 2000000 in
theorem take_some (p B lc sc : Nat) (la sa : Option Addr) (lo r : List Ty) (tn : List UInt8) (ta : Bool) (w : World) (h : Ws w B p la lc sa sc lo (r ++ [⟨tn, ta⟩])) (hn : r.length ≤ 100000) :
  Calls Tryd.prog 61 #[.pointer (some ⟨p, 0, none⟩)] w
   (fun e w' => e = .returned (.tuple #[.agg #[S tn, .bool ta], .bool true]) ∧ Ws w' B p la lc sa sc lo r ∧ Keep (fun k => k = p) w w') := by
 obtain ⟨w1, hw1⟩ : ∃ w1, w1 = w.alloc (.cells #[.string { data := #[] }, .bool false] 24) := ⟨_, rfl⟩
 have hb1 : Blk w1 w.heap.size 24 #[.string { data := #[] }, .bool false] := by rw [hw1]; exact Blk.new _ _ _
 have hk1 : Keep (fun _ => False) w w1 := by rw [hw1]; exact (Keep.refl _ w).alloc _
 have h1 := h.keep hk1 (fun _ _ _ h => h)
 have hlen : (r ++ [(⟨tn, ta⟩ : Ty)]).length = r.length + 1 := by simp
 obtain ⟨bb, o, rfl, hnF, hlt, hcs⟩ := Rd.rec_ (f := Ty.cells) (fun _ => rfl) (own_rd2 h1.sown) rfl r.length (by simp)
 rw [List.getElem_append_right (Nat.le_refl _)] at hcs
 have c0 : w1.cell? ⟨p, 1, none⟩ = some (.slice (some ⟨bb, o, none⟩) (r.length + 1) sc) := by have := h1.blk.cell 1; simpa using this
 have c1 : w1.cell? ⟨bb, o + r.length * 2, none⟩ = some (S tn) := by have := hcs 0 (S tn) (by simp); simpa using this
 have c2 : w1.cell? ⟨bb, o + r.length * 2 + 1, none⟩ = some (.bool ta) := by have := hcs 1 (.bool ta) (by simp); simpa using this
 have hbp : bb ≠ p := by
  have := own_blk_ne h1.sown h1.blk (by decide)
  simpa [Value.ownBlock] using this
 have hpl : p < w.heap.size := h.blk.lt
 have f0 := hb1.frozen
 have r0 : w1.cell? ⟨w.heap.size, 0, none⟩ = some (.string { data := #[] }) := hb1.cell 0
 have r1 : w1.cell? ⟨w.heap.size, 1, none⟩ = some (.bool false) := hb1.cell 1
 have g0 := h1.blk.frozen
 have HH := hide h
 have HK1 := hide hk1
 have HB1 := hide hb1
 have hsc : r.length + 1 ≤ sc := by have := own_cap h.sown; simpa using this
 clear h h1 hk1 hb1 hcs hlen
 go_enter Tryd.func61, Tryd.ntmps61
 go_upto_region 1 with fail
 rw [← hw1]
 clear hw1
 go_upto_region 4 with fail
 go_upto_region 5 with fail
 obtain ⟨w2, hw2⟩ : ∃ x, x = w1.alloc (.cells #[S tn, .bool ta] 24) := ⟨_, rfl⟩
 have hk2 : Keep (fun _ => False) w w2 := by rw [hw2]; exact HK1.out.alloc _
 have hb5 : Blk w2 w1.heap.size 24 #[S tn, .bool ta] := by rw [hw2]; exact Blk.new _ _ _
 have HB2 : Hid (Blk w2 w.heap.size 24 #[.string { data := #[] }, .bool false]) := hide (by rw [hw2]; exact HB1.out.alloc _)
 have c0' : w2.cell? ⟨p, 1, none⟩ = some (.slice (some ⟨bb, o, none⟩) (r.length + 1) sc) := by rw [hw2]; have := (HH.out.keep HK1.out (fun _ _ _ h => h)).blk.alloc (.cells #[S tn, .bool ta] 24) |>.cell 1; simpa using this
 have g0' : w2.frozen? ⟨p, 1, none⟩ = false := by rw [hw2]; exact ((HH.out.keep HK1.out (fun _ _ _ h => h)).blk.alloc _).frozen 1
 have hpw : w1.heap.size ≠ p := by have := HK1.out.size; omega
 have hpw' : w.heap.size ≠ p := by omega
 have hww : w.heap.size < w1.heap.size := HB1.out.lt
 rw [show (w1.alloc (.cells #[.string { data := tn.toArray }, .bool ta] 24)) = w2 from hw2.symm]
 clear hw2 c0 c1 c2 f0 r0 r1 g0
 go_upto_region 6 with fail
 have HP := hide (HH.out.pop hk2)
 have hb5' : Blk (w2.setCell ⟨p, 1, none⟩ (.slice (some ⟨bb, o, none⟩) r.length sc)) w1.heap.size 24 #[S tn, .bool ta] := hb5.far hpw _
 have HB3 := hide (HB2.out.far (p := ⟨p, 1, none⟩) hpw' (.slice (some ⟨bb, o, none⟩) r.length sc))
 obtain ⟨w3, hw3⟩ : ∃ x, x = w2.setCell ⟨p, 1, none⟩ (.slice (some ⟨bb, o, none⟩) r.length sc) := ⟨_, rfl⟩
 rw [← hw3] at HP HB3 hb5'
 rw [← hw3]
 have d0 : w3.cell? ⟨w1.heap.size, 0, none⟩ = some (S tn) := hb5'.cell 0
 have d1 : w3.cell? ⟨w1.heap.size, 1, none⟩ = some (.bool ta) := hb5'.cell 1
 have r0 : w3.cell? ⟨w.heap.size, 0, none⟩ = some (.string { data := #[] }) := HB3.out.cell 0
 have r1 : w3.cell? ⟨w.heap.size, 1, none⟩ = some (.bool false) := HB3.out.cell 1
 have f0 := HB3.out.frozen
 clear hw3 hk2 hb5 hb5' c0' g0'
 go_wp2_with fail
 refine bodyPost_ret (v := .tuple #[.agg #[S tn, .bool ta], .bool true]) ?_ rfl ?_
 ·simp [results, Tryd.results61, go_sem, r0, r1]
 ·exact ⟨rfl, HP.out.1.far2 _ _ _ _ _ ⟨by omega, fun e => by have := (own_base HH.out.lown e).2; omega, fun e => by have := (own_base HH.out.sown ((ob_any _ _ _ _ _).trans e)).2; omega⟩, HP.out.2.far2 (Nat.le_refl _) _ _ _ _⟩
end Go.Proofs.YtmbegaobnpoefaaDoor
namespace Go.Proofs.YtmbegaobnpoefaaDoor
open Go.RowKit Go.Maps
set_option linter.unusedVariables false
set_option linter.unusedSimpArgs false
structure Vt (w : World) (gi g m s : Nat) (T : List Fc) (n : Nat) : Prop where
 img : Img w gi g
 tab : Tab w g m s T n
 few : T.length ≤ 8
 sh : ∀ f ∈ T, short f.su
section
variable {w w' : World} {gi g m s n n' B p lc sc : Nat} {T : List Fc} {la sa : Option Addr} {lo st : List Ty}
theorem Vt.keep (h : Vt w gi g m s T n) (ht : Tab w' g m s T n') (hk : Keep (fun b => b = s) w w') : Vt w' gi g m s T n' := ⟨h.img.keep h.tab hk, ht, h.few, h.sh⟩
theorem Vt.below (h : Vt w gi g m s T n) (hk : Below w.heap.size w w') : Vt w' gi g m s T n := ⟨h.img.below hk, h.tab.below hk, h.few, h.sh⟩
theorem Vt.far {F : Nat → Prop} (h : Vt w gi g m s T n) (hk : Keep F w w') (hF : ∀ k, F k → B ≤ k) (h1 : gi < B ∧ g < B ∧ m < B ∧ s < B) : Vt w' gi g m s T n := by
 refine ⟨?_, h.tab.keep hk (fun e => by have := hF _ e; omega) (fun e => by have := hF _ e; omega) (fun e => by have := hF _ e; omega), h.few, h.sh⟩
 obtain ⟨F', N, hb⟩ := h.img
 exact ⟨F', N, hb.keep hk (fun e => by have := hF _ e; omega)⟩
theorem Vt.drewN (h : Vt w gi g m s T n) (k : Nat) : Vt (w.drewN k) gi g m s T n := by
 obtain ⟨F, N, hb⟩ := h.img
 exact ⟨⟨F, N, hb⟩, ⟨h.tab.blk, h.tab.faces, h.tab.seen, h.tab.ne⟩, h.few, h.sh⟩
theorem Vt.drew (h : Vt w gi g m s T n) : Vt w.drew gi g m s T n := h.drewN 1
theorem Vt.mono (h : Vt w gi g m s T n) (hn : n ≤ n') : Vt w gi g m s T n' := ⟨h.img, h.tab.mono hn, h.few, h.sh⟩
theorem Vt.cells (h : Vt w gi g m s T n) : w.cell? ⟨gi, 0, none⟩ = some (.pointer (some ⟨g, 0, none⟩)) := h.img.cell
end
abbrev Kp (s B : Nat) (w w' : World) : Prop := Keep (fun k => k = s ∨ B ≤ k) w w'
theorem popR_short {T : List Fc} : ∀ (ws st r : List Ty), popR T ws st = some r → ∀ t ∈ r, t ∈ st
 | [], st, r, h => by injection h with h; subst h; exact fun _ h => h
 | u :: ws, st, r, h => by
  unfold popR at h
  split at h
  ·cases h
  ·split at h
   ·intro t ht
    exact List.dropLast_subset _ (popR_short ws _ r h t ht)
   ·cases h
theorem popR_hit {T : List Fc} {ws r : List Ty} {u t : Ty} : popR T (u :: ws) (r ++ [t]) = if fitsT T t u = true then popR T ws r else none := by
 simp [popR]
theorem popR_nil {T : List Fc} {ws : List Ty} {u : Ty} : popR T (u :: ws) [] = none := rfl
theorem rev_take {l : List Ty} {k : Nat} (hk : k < l.length) : (l.take (k + 1)).reverse = l[k] :: (l.take k).reverse := by
 rw [List.take_add_one, List.getElem?_eq_getElem hk]; simp
set_option maxRecDepth 100000 in
set_option maxHeartbeats 4000000 in
theorem pop_any (q p B gi g m s n lc sc nW cW : Nat) (T : List Fc) (la sa AW : Option Addr) (lo st want : List Ty) (f : Fl) (b : Bd) (sg : Sg) (va vd : Value) (w : World) (h : Ws w B p la lc sa sc lo st) (hq : Blk w q 79 (kCells gi f b sg va vd)) (hv : Vt w gi g m s T n)
  (hr : Rd w (fun k => k = s ∨ k = p) 2 AW nW (want.flatMap Ty.cells)) (hl : want.length = nW) (hst : st.length ≤ 100000) (hW : nW ≤ 1000) (hn : n ≤ 7000000000000000) (hsh : ∀ t ∈ st, short t.n) (hlt : gi < B ∧ g < B ∧ m < B ∧ s < B ∧ q < B) :
  Calls Tryd.prog 62 #[.pointer (some ⟨q, 0, none⟩), .pointer (some ⟨p, 0, none⟩), .slice AW nW cW] w
   (fun e w' => e = .returned (.bool (popM T st want).isSome) ∧ Vt w' gi g m s T (n + 20 * nW) ∧ Keep (fun k => k = s ∨ k = p) w w' ∧ ∀ r, popM T st want = some r → Ws w' B p la lc sa sc lo r) := by
 obtain ⟨R, hR⟩ : ∃ R, R = popM T st want := ⟨_, rfl⟩
 rw [← hR]
 have HPM : Hid (∀ _ : Unit, popR T want.reverse st = R) := hide (fun _ => hR.symm)
 have HH := hide h
 have HQ := hide hq
 have HV := hide hv
 have HSH := hide hsh
 have hpB := h.hp
 have hqs : q ≠ s := by obtain ⟨D, hD⟩ := hv.tab.seen; exact blk_map_ne hq hD
 have hqp : q ≠ p := hq.ne_ h.blk (by decide)
 clear hR h hq hv hsh
 go_enter Tryd.func62, Tryd.ntmps62
 go_wp2_with fail
 go_loopw [7] (fun v7 wr => ∃ (k : Nat) (x : List Ty), k ≤ nW ∧ v7 = .int .i64 ((k : Int) - 1) ∧ Hid (∀ _ : Unit, popR T (want.take k).reverse x = R) ∧ x.length ≤ 100000 ∧ Hid (∀ t ∈ x, short t.n) ∧ Hid (Ws wr B p la lc sa sc lo x) ∧ Hid (Vt wr gi g m s T (n + 20 * (nW - k))) ∧ Hid (Keep (fun k => k = s ∨ k = p) w wr)) (fun v7 _ => (intOf v7 + 1).toNat)
 case atStart => exact ⟨nW, st, Nat.le_refl _, by go_num, hide (fun _ => by rw [List.take_of_length_le (by omega)]; exact HPM.out ()), hst, HSH, HH, hide (by rw [Nat.sub_self]; exact HV.out), hide (Keep.refl _ _)⟩
 case round =>
  obtain ⟨k, x, hk, rfl, HP, hx, HX, HS, HT, HK⟩ := hrel
  cases k with
  | zero =>
   have e : R = some x := (HP.out ()).symm
   go_wp2_with fail
   go_ret
   refine ⟨by rw [e]; rfl, HT.out, HK.out, ?_⟩
   rintro r hr
   rw [e] at hr
   injection hr with hr
   subst hr
   exact HS.out
  | succ k =>
   have hkl : k < want.length := by omega
   obtain ⟨bw, ow, rfl, hwF, hwl, hwc⟩ := Rd.rec_ (f := Ty.cells) (fun _ => rfl) (hr.keep HK.out) hl k (by omega)
   generalize hu : want[k]'hkl = u at hwc
   have hrt := rev_take hkl
   rw [hu] at hrt
   obtain ⟨un, ua⟩ := u
   have HP2 : Hid (∀ _ : Unit, popR T (⟨un, ua⟩ :: (want.take k).reverse) x = R) := hide (fun _ => by rw [← hrt]; exact HP.out ())
   have q4 : wr.cell? ⟨bw, ow + k * 2, none⟩ = some (S un) := hwc 0 _ rfl
   have q5 : wr.cell? ⟨bw, ow + k * 2 + 1, none⟩ = some (.bool ua) := hwc 1 _ rfl
   clear hwc HP hu hrt
   have hkp : p < wr.heap.size := HS.out.blk.lt
   rcases x.eq_nil_or_concat with rfl | ⟨r, t, rfl⟩
   ·have e : R = none := (HP2.out ()).symm.trans popR_nil
    have c0 : wr.cell? ⟨p, 1, none⟩ = some (.slice sa 0 sc) := HS.out.blk.cell 1
    go_upto_region 5 with fail
    go_quiet (fail)
    go_wp2_with fail
    go_ret
    exact ⟨by rw [e]; rfl, (HT.out.drewN _).mono (by omega), HK.out.drewN _, fun r hr => by rw [e] at hr; cases hr⟩
   ·obtain ⟨tn, ta⟩ := t
    have HW1 : Hid (Ws wr B p la lc sa sc lo (r ++ [⟨tn, ta⟩])) := hide (by simpa using HS.out)
    have HT2 := hide HT.out.tab
    have hts : short tn := HX.out ⟨tn, ta⟩ (by simp)
    have HF := hide (fits_any g m s _ T tn ta un ua wr.drew HT.out.tab.drew (by omega) HT.out.few HT.out.sh hts)
    obtain ⟨G, hG⟩ : ∃ G, G = fitsT T ⟨tn, ta⟩ ⟨un, ua⟩ := ⟨_, rfl⟩
    rw [← hG] at HF
    have HP3 : Hid (∀ _ : Unit, (if G = true then popR T (want.take k).reverse r else none) = R) := hide (fun _ => by rw [hG, ← popR_hit]; simpa using HP2.out ())
    have hsc : r.length + 1 ≤ sc := by have := own_cap HW1.out.sown; simpa using this
    obtain ⟨bb, o, rfl, hnF, hlt2, hcs⟩ := Rd.rec_ (f := Ty.cells) (fun _ => rfl) (own_rd2 HW1.out.sown) rfl r.length (by simp)
    rw [List.getElem_append_right (Nat.le_refl _)] at hcs
    have c0 : wr.cell? ⟨p, 1, none⟩ = some (.slice (some ⟨bb, o, none⟩) (r.length + 1) sc) := by have := HW1.out.blk.cell 1; simpa using this
    have c1 : wr.cell? ⟨bb, o + r.length * 2, none⟩ = some (S tn) := by have := hcs 0 (S tn) (by simp); simpa using this
    have c2 : wr.cell? ⟨bb, o + r.length * 2 + 1, none⟩ = some (.bool ta) := by have := hcs 1 (.bool ta) (by simp); simpa using this
    have i0 := HT.out.cells
    have i1 : wr.cell? ⟨q, 0, none⟩ = some (.pointer (some ⟨gi, 0, none⟩)) := (HQ.out.keep HK.out (by show ¬ (q = s ∨ q = p); omega)).cell 0
    have g0 := HW1.out.blk.frozen
    have hx' : r.length ≤ 100000 := by simp at hx; omega
    clear hcs hG HP2 HS
    go_upto_region 5 with fail
    obtain ⟨wR, hwR⟩ : ∃ x, x = wr := ⟨_, rfl⟩
    rw [← hwR] at c0 c1 c2 q4 q5 i0 i1 HF HT HW1 HT2 HK g0 hkp ⊢
    clear hwR hwl hlt2
    obtain ⟨N, hN⟩ : ∃ N, N = r.length + 1 := ⟨_, rfl⟩
    have hN1 : r.length < N := by omega
    have hk1 : k < nW := by omega
    rw [← hN] at c0
    clear hN
    go_still_tail 21, (by kernel_rfl)
    go_wp2_with fail
    refine HF.out.mono ?_
    rintro e w6 ⟨rfl, ht6, hk6⟩
    have HT6 := hide (HT.out.drew.keep ht6 hk6)
    have HK6 := hide ((HK.out.drew).trans' hk6 (fun _ _ h => .inl h))
    have HW6 := hide (HW1.out.drew.keep hk6 (fun k hk1 _ e => by omega))
    cases G
    case false =>
     have e : R = none := (HP3.out ()).symm
     go_wp2_with fail
     go_ret
     exact ⟨by rw [e]; rfl, HT6.out.mono (by omega), HK6.out, fun r hr => by rw [e] at hr; cases hr⟩
    case true =>
     have c0' : w6.cell? ⟨p, 1, none⟩ = some (.slice (some ⟨bb, o, none⟩) (r.length + 1) sc) := by have := HW6.out.blk.cell 1; simpa using this
     have g0' := HW6.out.blk.frozen 1
     have HPP := hide (HW6.out.pop (Keep.refl _ _))
     clear c0 c1 c2 q4 q5 i0 i1 HF HT HW1 HT2 HK g0 HW6 ht6 hk6
     go_wp2_with fail
     go_roundw
     case rel =>
      refine ⟨k, r, by omega, by go_num, hide (fun _ => by simpa using HP3.out ()), hx', hide (fun t ht => HX.out t (by simp [ht])), hide HPP.out.1, hide (((HT6.out.far (B := B) (hk := HPP.out.2) (fun k e => by omega) ⟨hlt.1, hlt.2.1, hlt.2.2.1, hlt.2.2.2.1⟩)).mono (by omega)), hide (HK6.out.trans' HPP.out.2 (fun _ _ h => .inr h))⟩
     case measure => simp [intOf]
end Go.Proofs.YtmbegaobnpoefaaDoor
namespace Go.Proofs.YtmbegaobnpoefaaDoor
open Go.RowKit Go.Maps
set_option linter.unusedVariables false
set_option linter.unusedSimpArgs false
set_option maxRecDepth 100000 in
set_option maxHeartbeats 2000000 in
theorem take_none (p B lc sc : Nat) (la sa : Option Addr) (lo : List Ty) (w : World) (h : Ws w B p la lc sa sc lo []) :
  Calls Tryd.prog 61 #[.pointer (some ⟨p, 0, none⟩)] w
   (fun e w' => e = .returned (.tuple #[.agg #[S [], .bool false], .bool false]) ∧ Below w.heap.size w w') := by
 obtain ⟨w1, hw1⟩ : ∃ w1, w1 = w.alloc (.cells #[.string { data := #[] }, .bool false] 24) := ⟨_, rfl⟩
 have hb1 : Blk w1 w.heap.size 24 #[.string { data := #[] }, .bool false] := by rw [hw1]; exact Blk.new _ _ _
 have hk1 : Below w.heap.size w w1 := by rw [hw1]; exact (Below.refl _ w).alloc (Nat.le_refl _) _
 have h1 := h.below hk1
 have c0 : w1.cell? ⟨p, 1, none⟩ = some (.slice sa 0 sc) := h1.blk.cell 1
 have r0 : w1.cell? ⟨w.heap.size, 0, none⟩ = some (.string { data := #[] }) := hb1.cell 0
 have r1 : w1.cell? ⟨w.heap.size, 1, none⟩ = some (.bool false) := hb1.cell 1
 have f0 := hb1.frozen
 have HK := hide hk1
 clear h h1 hk1 hb1
 go_enter Tryd.func61, Tryd.ntmps61
 go_upto_region 1 with fail
 rw [← hw1]
 clear hw1
 go_wp2_with fail
 refine bodyPost_ret (v := .tuple #[.agg #[S [], .bool false], .bool false]) ?_ rfl ?_
 ·simp [results, Tryd.results61, go_sem, r0, r1]
 ·exact ⟨rfl, (HK.out.setCell (by simp) _).setCell (by simp) _⟩
def WsE (w : World) (B p : Nat) (v : Vs) : Prop := ∃ la lc sa sc, Ws w B p la lc sa sc v.lo v.st
structure Sx (w : World) (B q gi g m s n : Nat) (T : List Fc) (f : Fl) (b : Bd) (sg : Sg) (va vd : Value) : Prop where
 vt : Vt w gi g m s T n
 kq : Blk w q 79 (kCells gi f b sg va vd)
 fl : f.at_ w (fun k => k = s ∨ B ≤ k)
 bd : b.at_ w (fun k => k = s ∨ B ≤ k)
 sg : sg.at_ w (fun k => k = s ∨ B ≤ k)
 lt : gi < B ∧ g < B ∧ m < B ∧ s < B ∧ q < B
 hB : B ≤ w.heap.size
section
variable {w w' : World} {B q p gi g m s n n' : Nat} {T : List Fc} {f : Fl} {b : Bd} {sg : Sg} {va vd : Value} {v : Vs}
theorem Sg.at_.keep {F : Nat → Prop} {sg : Sg} (h : sg.at_ w F) (hk : Keep F w w') : sg.at_ w' F := ⟨h.1.keep hk, h.2⟩
theorem Fc.at_.keep {F : Nat → Prop} {f : Fc} (h : f.at_ w F) (hk : Keep F w w') : f.at_ w' F := ⟨⟨h.1.1.keep hk, h.1.2⟩, ⟨h.2.1.1.keep hk, h.2.1.2.1, h.2.1.2.2.1, fun m hm => (h.2.1.2.2.2 m hm).keep hk⟩, h.2.2⟩
theorem Fl.pat.keep {F : Nat → Prop} {f : Fl} (h : f.pat w F) (hk : Keep F w w') : f.pat w' F :=
 { h with nr := h.nr.keep hk, cr := h.cr.keep hk, tr := h.tr.keep hk, dr := h.dr.keep hk, mr := h.mr.keep hk, mW := fun x hx => ⟨(h.mW x hx).1.keep hk, (h.mW x hx).2⟩ }
theorem Bd.at_.keep {F : Nat → Prop} {b : Bd} (h : b.at_ w F) (hk : Keep F w w') : b.at_ w' F := ⟨h.1.keep hk, h.2⟩
theorem Fl.at_.keep {F : Nat → Prop} {f : Fl} (h : f.at_ w F) (hk : Keep F w w') : f.at_ w' F :=
 { h with fa := h.fa.keep hk, po := h.po.keep hk, br := h.br.keep hk, bW := fun x hx => (h.bW x hx).keep hk }
theorem Sx.qs (h : Sx w B q gi g m s n T f b sg va vd) : q ≠ s := by obtain ⟨D, hD⟩ := h.vt.tab.seen; exact blk_map_ne h.kq hD
theorem Sx.kp (h : Sx w B q gi g m s n T f b sg va vd) (hv : Vt w' gi g m s T n') (hk : Kp s B w w') : Sx w' B q gi g m s n' T f b sg va vd :=
 ⟨hv, h.kq.keep hk (by show ¬ (q = s ∨ B ≤ q); have := h.qs; have := h.lt; omega), h.fl.keep hk, h.bd.keep hk, h.sg.keep hk, h.lt, Nat.le_trans h.hB hk.size⟩
theorem Sx.below (h : Sx w B q gi g m s n T f b sg va vd) (hb : Below w.heap.size w w') : Sx w' B q gi g m s n T f b sg va vd :=
 h.kp (h.vt.below hb) (Keep.of_below hb (fun k h1 h2 => by omega))
theorem Sx.high (h : Sx w B q gi g m s n T f b sg va vd) (hk : Keep (fun k => B ≤ k) w w') : Sx w' B q gi g m s n T f b sg va vd :=
 h.kp (h.vt.far (B := B) hk (fun k e => e) ⟨h.lt.1, h.lt.2.1, h.lt.2.2.1, h.lt.2.2.2.1⟩) (hk.mono (fun _ _ h => .inr h))
theorem Sx.mono (h : Sx w B q gi g m s n T f b sg va vd) (hn : n ≤ n') : Sx w B q gi g m s n' T f b sg va vd := { h with vt := h.vt.mono hn }
theorem Sx.drewN (h : Sx w B q gi g m s n T f b sg va vd) (k : Nat) : Sx (w.drewN k) B q gi g m s n T f b sg va vd :=
 h.kp (h.vt.drewN k) ((Keep.refl _ w).drewN k)
theorem Sx.drew (h : Sx w B q gi g m s n T f b sg va vd) : Sx w.drew B q gi g m s n T f b sg va vd := h.drewN 1
theorem WsE.drewN (h : WsE w B p v) (k : Nat) : WsE (w.drewN k) B p v := by obtain ⟨a, b, c, d, h⟩ := h; exact ⟨a, b, c, d, h.drewN k⟩
theorem WsE.drew (h : WsE w B p v) : WsE w.drew B p v := h.drewN 1
end
def VsS (v : Vs) : Prop := (∀ t ∈ v.lo, short t.n) ∧ (∀ t ∈ v.st, short t.n) ∧ v.lo.length ≤ 1000 ∧ v.st.length ≤ 2000
def Fr3 (s B N k : Nat) : Prop := k = s ∨ (B ≤ k ∧ k < N)
def WsN (w : World) (B N p : Nat) (v : Vs) : Prop := ∃ la lc sa sc, Ws w B p la lc sa sc v.lo v.st ∧ p < N ∧ (∀ k, (Value.slice la v.lo.length lc).ownBlock = some k → k < N) ∧ (∀ k, (Value.slice sa v.st.length sc).ownBlock = some k → k < N)
theorem WsE.n {w : World} {B p : Nat} {v : Vs} (h : WsE w B p v) : WsN w B w.heap.size p v := by
 obtain ⟨a, b, c, d, h⟩ := h
 exact ⟨a, b, c, d, h, h.blk.lt, fun k hk => (own_base h.lown hk).2, fun k hk => (own_base h.sown hk).2⟩
theorem WsN.e {w : World} {B N p : Nat} {v : Vs} (h : WsN w B N p v) : WsE w B p v := by obtain ⟨a, b, c, d, h, _⟩ := h; exact ⟨a, b, c, d, h⟩
theorem WsN.hp {w : World} {B N p : Nat} {v : Vs} (h : WsN w B N p v) : B ≤ p ∧ p < N := by obtain ⟨a, b, c, d, h, h1, _⟩ := h; exact ⟨h.hp, h1⟩
theorem WsN.below {w w' : World} {B N p : Nat} {v : Vs} (h : WsN w B N p v) (hb : Below w.heap.size w w') : WsN w' B N p v := by obtain ⟨a, b, c, d, h, h1⟩ := h; exact ⟨a, b, c, d, h.below hb, h1⟩
theorem WsN.drew {w : World} {B N p : Nat} {v : Vs} (h : WsN w B N p v) : WsN w.drew B N p v := by obtain ⟨a, b, c, d, h, h1⟩ := h; exact ⟨a, b, c, d, h.drew, h1⟩
theorem keep_fr {w w' : World} {s B N : Nat} (h : Below w.heap.size w w') : Keep (Fr3 s B N) w w' := Keep.of_below h (fun k h1 h2 => by omega)
theorem kp_fr {w w' : World} {s B N : Nat} (h : Keep (Fr3 s B N) w w') : Kp s B w w' := h.mono (fun k _ e => by unfold Fr3 at e; omega)
def StpEnd (w : World) (B q p gi g m s n : Nat) (T : List Fc) (f : Fl) (b : Bd) (sg : Sg) (va vd : Value) (k : Nat) (r : Option Vs) (e : Ending) (w' : World) : Prop :=
 e = .returned (.bool r.isSome) ∧ Sx w' B q gi g m s (n + k) T f b sg va vd ∧ Keep (Fr3 s B w.heap.size) w w' ∧ ∀ x, r = some x → WsE w' B p x
def PopEnd (w : World) (B N q p gi g m s n : Nat) (T : List Fc) (f : Fl) (b : Bd) (sg : Sg) (va vd : Value) (k : Nat) (r : Option Vs) (e : Ending) (w' : World) : Prop :=
 e = .returned (.bool r.isSome) ∧ Sx w' B q gi g m s (n + k) T f b sg va vd ∧ Keep (Fr3 s B N) w w' ∧ ∀ x, r = some x → WsN w' B N p x
def PushEnd (w : World) (B N q p gi g m s n : Nat) (T : List Fc) (f : Fl) (b : Bd) (sg : Sg) (va vd : Value) (r : Option Vs) (e : Ending) (w' : World) : Prop :=
 e = .returned (.bool r.isSome) ∧ Sx w' B q gi g m s n T f b sg va vd ∧ Keep (Fr3 s B N) w w' ∧ ∀ x, r = some x → WsE w' B p x
section
variable {w : World} {B N q p gi g m s n : Nat} {T : List Fc} {f : Fl} {b : Bd} {sg : Sg} {va vd : Value} {v : Vs}
theorem push_k (h : Sx w B q gi g m s n T f b sg va vd) (hv : WsN w B N p v) (hS : v.st.length ≤ 100000) (t : Ty) :
  Calls Tryd.prog 59 #[.pointer (some ⟨q, 0, none⟩), .pointer (some ⟨p, 0, none⟩), t.val] w (PushEnd w B N q p gi g m s n T f b sg va vd (puM b.sk t v)) := by
 obtain ⟨la, lc, sa, sc, hw, hp, hl, hs⟩ := hv
 refine (push_any q p B gi lc sc la sa v.lo v.st t f b sg va vd w hw h.kq hS h.hB).mono ?_
 rintro e w' ⟨sa', sc', rfl, hw', hk⟩
 have hk' : Keep (fun k => B ≤ k ∧ k < N) w w' := hk.mono (fun k hk e => by
  rcases e with e | e
  ·have := hw.hp; omega
  ·exact ⟨(own_base hw.sown e).1, hs k e⟩)
 refine ⟨?_, h.high (hk'.mono (fun _ _ h => h.1)), hk'.mono (fun _ _ h => .inr h), ?_⟩
 ·unfold puM pushM
  split
  ·rename_i h1; rw [decide_eq_true h1]; rfl
  ·rename_i h1; rw [decide_eq_false h1]; rfl
 ·intro x hx
  unfold puM pushM at hx
  split at hx
  ·simp at hx
   subst hx
   exact ⟨_, _, _, _, hw'⟩
  ·simp at hx
theorem take_k (h : Sx w B q gi g m s n T f b sg va vd) (hv : WsN w B N p v) (hS : v.st.length ≤ 100000) :
  Calls Tryd.prog 61 #[.pointer (some ⟨p, 0, none⟩)] w
   (fun e w' => e = .returned (.tuple #[(v.st.getLast?.getD kZ).val, .bool v.st.getLast?.isSome]) ∧ Sx w' B q gi g m s n T f b sg va vd ∧ Keep (Fr3 s B N) w w' ∧ WsN w' B N p (dr v)) := by
 obtain ⟨la, lc, sa, sc, hw, hp, hl, hs⟩ := hv
 obtain ⟨lo, st⟩ := v
 rcases st.eq_nil_or_concat with rfl | ⟨r, t, rfl⟩
 ·refine (take_none p B lc sc la sa lo w hw).mono ?_
  rintro e w' ⟨rfl, hb⟩
  exact ⟨rfl, h.below hb, keep_fr hb, ⟨_, _, _, _, hw.below hb, hp, hl, hs⟩⟩
 ·obtain ⟨tn, ta⟩ := t
  simp only [List.concat_eq_append] at hw hs ⊢
  refine (take_some p B lc sc la sa lo r tn ta w (by simpa using hw) (by simp at hS; omega)).mono ?_
  rintro e w' ⟨rfl, hw', hk⟩
  have hk' : Keep (fun k => B ≤ k ∧ k < N) w w' := hk.mono (fun k _ e => by have := hw.hp; omega)
  exact ⟨by simp, h.high (hk'.mono (fun _ _ h => h.1)), hk'.mono (fun _ _ h => .inr h), ⟨la, lc, sa, sc, by simpa [dr] using hw', hp, hl, fun k hk => hs k ((ob_any _ _ _ _ _).trans hk)⟩⟩
theorem pop_k (h : Sx w B q gi g m s n T f b sg va vd) (hv : WsN w B N p v) (hS : VsS v) {AW : Option Addr} {nW cW : Nat} (want : List Ty) (hr : Rd w (Fr3 s B N) 2 AW nW (want.flatMap Ty.cells)) (hl : want.length = nW) (hW : nW ≤ 1000) (hn : n ≤ 7000000000000000) :
  Calls Tryd.prog 62 #[.pointer (some ⟨q, 0, none⟩), .pointer (some ⟨p, 0, none⟩), .slice AW nW cW] w (PopEnd w B N q p gi g m s n T f b sg va vd (20 * nW) (poM T want v)) := by
 obtain ⟨la, lc, sa, sc, hw, hp, hlN, hsN⟩ := hv
 refine (pop_any q p B gi g m s n lc sc nW cW T la sa AW v.lo v.st want f b sg va vd w hw h.kq h.vt (hr.weak (fun k _ e => by have := hw.hp; unfold Fr3; omega)) hl (by have := hS.2.2.2; omega) hW hn hS.2.1 h.lt).mono ?_
 rintro e w' ⟨rfl, hv', hk, hr'⟩
 have hk' : Keep (Fr3 s B N) w w' := hk.mono (fun k _ e => by have := hw.hp; unfold Fr3; omega)
 refine ⟨?_, h.kp hv' (kp_fr hk'), hk', ?_⟩
 ·unfold poM
  cases popM T v.st want <;> rfl
 ·intro x hx
  unfold poM at hx
  rw [Option.map_eq_some_iff] at hx
  obtain ⟨r, hr2, rfl⟩ := hx
  exact ⟨la, lc, sa, sc, hr' r hr2, hp, hlN, fun k hk => hsN k ((ob_any _ _ _ _ _).trans hk)⟩
end
end Go.Proofs.YtmbegaobnpoefaaDoor
