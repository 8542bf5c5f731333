/- A state, copied: walked; no statement of the seat is proved here. (Written by gen/vclone.py.) -/
import Derived.Test.YtmbegaobnpoefaaDoorMTk
import Derived.Test.YtmbegaobnpoefaaDoorMCliStep
import Derived.BigRegion
import Derived.Deep.RegionHeld3
import Derived.Deep.AppendLies
import Derived.Deep.RegionLaw
import Derived.Test.YtmbegaobnpoefaaDoorMCliStepD
namespace Go.Proofs.YtmbegaobnpoefaaDoor
open Go.RowKit Go.Maps
set_option linter.unusedVariables false
set_option linter.unusedSimpArgs false
theorem keep_any {F : Nat → Prop} {w w' : World} (h : Below w.heap.size w w') : Keep F w w' := Keep.of_below h (fun k h1 h2 => by omega)
theorem base_down {w : World} {B B' n c : Nat} {e : TypeId} {size : Nat} {a : Option Addr} {xs : List Value} (h : w.ownsRow B e size (.slice a n c) n xs) (hB : B' ≤ B) : w.ownsRow B' e size (.slice a n c) n xs := by
 refine ⟨h.1, ?_⟩
 rcases h.2 with h2 | ⟨g, cap, cur, hv, hb, r⟩
 ·exact .inl h2
 ·exact .inr ⟨g, cap, cur, hv, Nat.le_trans hB hb, r⟩
set_option maxRecDepth 100000 in
set_option maxHeartbeats 4000000 in
theorem clone_any (la sa : Option Addr) (lc sc : Nat) (lo st : List Ty) (w : World) (h1 : Rd w (fun k => w.heap.size ≤ k) 2 la lo.length (lo.flatMap Ty.cells)) (h2 : Rd w (fun k => w.heap.size ≤ k) 2 sa st.length (st.flatMap Ty.cells)) (hn1 : lo.length ≤ 100000) (hn2 : st.length ≤ 100000) :
  Calls Tryd.prog 41 #[.agg #[.slice la lo.length lc, .slice sa st.length sc]] w (fun e w' => ∃ la' lc' sa' sc', e = .returned (.agg #[.slice la' lo.length lc', .slice sa' st.length sc']) ∧
   w'.ownsRow w.heap.size 24 2 (.slice la' lo.length lc') lo.length (lo.flatMap Ty.cells) ∧ w'.ownsRow w.heap.size 24 2 (.slice sa' st.length sc') st.length (st.flatMap Ty.cells) ∧
   (∀ k, (Value.slice la' lo.length lc').ownBlock = some k → (Value.slice sa' st.length sc').ownBlock ≠ some k) ∧ Below w.heap.size w w') := by
 obtain ⟨w1, hw1⟩ : ∃ x, x = (w.alloc (.cells #[.slice la lo.length lc, .slice sa st.length sc] 113)).alloc (.cells #[.slice none 0 0, .slice none 0 0] 113) := ⟨_, rfl⟩
 have HA : Hid (Blk w1 w.heap.size 113 #[.slice la lo.length lc, .slice sa st.length sc]) := hide (by rw [hw1]; exact (Blk.new _ _ _).alloc _)
 have HRB : Hid (Blk w1 (w.heap.size + 1) 113 #[.slice none 0 0, .slice none 0 0]) := hide (by
  rw [hw1]
  have := Blk.new (w.alloc (.cells #[.slice la lo.length lc, .slice sa st.length sc] 113)) 113 #[.slice none 0 0, .slice none 0 0]
  rwa [World.size_alloc] at this)
 have hbb : Below w.heap.size w w1 := by rw [hw1]; exact ((Below.refl _ w).alloc (Nat.le_refl _) _).alloc (by simp) _
 have HB := hide hbb
 have H1 := hide h1
 have H2 := hide h2
 clear h1 h2
 go_enter Tryd.func41, Tryd.ntmps41
 go_upto_region 1 with fail
 rw [← hw1]
 clear hw1
 obtain ⟨r1, hr1⟩ : ∃ x, x = w.heap.size := ⟨_, rfl⟩
 obtain ⟨r2, hr2⟩ : ∃ x, x = w.heap.size + 1 := ⟨_, rfl⟩
 rw [← hr1] at HA
 rw [← hr2] at HRB
 rw [← hr2, ← hr1]
 have hr12 : w.heap.size ≤ r1 ∧ r1 < r2 := by omega
 clear hr1 hr2
 have HS : Hid (∀ w', Keep (fun k => k = r2) w1 w' → w'.cell? ⟨r1, 0, none⟩ = some (.slice la lo.length lc) ∧ w'.cell? ⟨r1, 1, none⟩ = some (.slice sa st.length sc)) := hide (fun w' hk => by
  have t0 := HA.out.keep hk (by show ¬ r1 = r2; omega)
  exact ⟨t0.cell 0, t0.cell 1⟩)
 have HR : Hid (Keep (fun k => k = r2) w1 w1.drew) := hide (Keep.refl _ _).drew
 have HB2 : Hid (Below w.heap.size w w1.drew) := hide HB.out.drew
 replace HRB := hide HRB.out.drew
 refine wp_region_noPanic ?_
 refine tkB HS HR.out (fun hHeld => ?_)
 obtain ⟨w2, hw2⟩ : ∃ x, x = w1.drew := ⟨_, rfl⟩
 rw [← hw2] at hHeld HR HB2 HRB ⊢
 clear hw2 HB
 refine tkL 0 ?_ ?_ ?_
 rotate_left
 ·(rintro wS ⟨e0, e1⟩; go_simp; try with_reducible rfl)
 try simp only [sP]
 refine tkL 1 ?_ ?_ ?_
 rotate_left
 ·(rintro wS ⟨e0, e1⟩; go_simp; try with_reducible rfl)
 try simp only [sP]
 refine tkL 3 ?_ ?_ ?_
 rotate_left
 ·(rintro wS ⟨e0, e1⟩; go_simp; try with_reducible rfl)
 try simp only [sP]
 refine tkL 4 ?_ ?_ ?_
 rotate_left
 ·(rintro wS ⟨e0, e1⟩; go_simp; try with_reducible rfl)
 try simp only [sP]
 refine tkC 2 (fun K hK => ?_)
 try rw [if_pos (by rfl)]
 go_simp
 go_at_call 57
 refine (tclone_any _ _ _ lo _ ((H1.out.below HB2.out).weak (fun k hk1 hk2 => Nat.le_trans HB2.out.size hk2)) rfl hn1).mono ?_
 rintro e w3 ⟨A3, c3, rfl, ho3, hb3⟩
 have HO1 := hide ho3
 have HD1 : Hid (w.heap.size ≤ w2.heap.size) := hide HB2.out.size; have HLT : Hid (∀ k, (Value.slice A3 lo.length c3).ownBlock = some k → k < w3.heap.size) := hide (fun k hk => (own_base HO1.out hk).2)
 replace HR := hide (HR.out.tr (keep_any (F := fun k => k = r2) hb3))
 replace HRB := hide (HRB.out.below hb3 HRB.out.lt)
 have HS3 : Hid (w2.heap.size ≤ w3.heap.size) := hide hb3.size
 replace HB2 := hide (HB2.out.trans (hb3.mono HB2.out.size))
 clear ho3 hb3
 try go_wp2_with fail
 refine hK.out _ _ (HS.out _ HR.out) (fun hHeld => ?_)
 clear hK K
 try simp only [sP]
 refine tkC 5 (fun K hK => ?_)
 try rw [if_pos (by rfl)]
 go_simp
 go_at_call 57
 refine (tclone_any _ _ _ st _ ((H2.out.below HB2.out).weak (fun k hk1 hk2 => Nat.le_trans HB2.out.size hk2)) rfl hn2).mono ?_
 rintro e w4 ⟨A4, c4, rfl, ho4, hb4⟩
 replace HO1 := hide (own_keep HO1.out (keep_any (F := fun _ => False) hb4) (fun _ _ h => h))
 have HO2 := hide ho4
 have HD2 : Hid (w.heap.size ≤ w3.heap.size) := hide HB2.out.size; have HNE : Hid (∀ k, (Value.slice A3 lo.length c3).ownBlock = some k → (Value.slice A4 st.length c4).ownBlock ≠ some k) := hide (fun k hk hk2 => by have a1 := HLT.out k hk; have a2 := (own_base HO2.out hk2).1; omega)
 replace HR := hide (HR.out.tr (keep_any (F := fun k => k = r2) hb4))
 replace HRB := hide (HRB.out.below hb4 HRB.out.lt)
 have HS4 : Hid (w3.heap.size ≤ w4.heap.size) := hide hb4.size
 replace HB2 := hide (HB2.out.trans (hb4.mono HB2.out.size))
 clear ho4 hb4
 try go_wp2_with fail
 refine hK.out _ _ (HS.out _ HR.out) (fun hHeld => ?_)
 clear hK K
 try simp only [sP]
 refine tkL 6 ?_ ?_ ?_
 rotate_left
 ·(rintro wS ⟨e0, e1⟩; go_simp; try with_reducible rfl)
 try simp only [sP]
 refine tkC 7 (fun K hK => ?_)
 try rw [if_pos (by rfl)]
 have f9 := HRB.out.frozen
 have c90 := HRB.out.cell 0
 have c91 := HRB.out.cell 1
 go_simp
 try go_wp2_with fail
 have hU2 := (HRB.out.set_ 0 (.slice A3 lo.length c3)).set_ 1 (.slice A4 st.length c4)
 have hks : Keep (fun k => k = r2) w4 ((w4.setCell ⟨r2, 0, none⟩ (.slice A3 lo.length c3)).setCell ⟨r2, 1, none⟩ (.slice A4 st.length c4)) := ((Keep.refl (fun k => k = r2) w4).setCell (p := ⟨r2, 0, none⟩) (fun _ => rfl) _).setCell (p := ⟨r2, 1, none⟩) (fun _ => rfl) _
 obtain ⟨w5, hw5⟩ : ∃ x, x = (w4.setCell ⟨r2, 0, none⟩ (.slice A3 lo.length c3)).setCell ⟨r2, 1, none⟩ (.slice A4 st.length c4) := ⟨_, rfl⟩
 rw [← hw5] at hU2 hks
 rw [← hw5]
 clear hw5 f9 c90 c91
 have hnb1 := own_blk_ne HO1.out HRB.out (by decide)
 have hnb2 := own_blk_ne HO2.out HRB.out (by decide)
 replace HO1 := hide (own_keep HO1.out hks (fun k hk e => hnb1 (e ▸ hk)))
 replace HO2 := hide (own_keep HO2.out hks (fun k hk e => hnb2 (e ▸ hk)))
 replace HB2 := hide (HB2.out.trans (hks.below (B := w.heap.size) HB2.out.size (fun k e => by omega)))
 have HU9 : Hid (Blk w5 r2 113 #[.slice A3 lo.length c3, .slice A4 st.length c4]) := hide (by simpa using hU2)
 replace HR := hide (HR.out.tr hks)
 clear hks hU2 HRB hnb1 hnb2
 refine hK.out _ _ (HS.out _ HR.out) (fun hHeld => ?_)
 clear hK K
 try simp only [sP]
 refine wpAnyH_done (by kernel_rfl) ?_ _
 refine NoPanic.normal ?_
 have r0 : w5.cell? ⟨r2, 0, none⟩ = some (.slice A3 lo.length c3) := HU9.out.cell 0
 have r1' : w5.cell? ⟨r2, 1, none⟩ = some (.slice A4 st.length c4) := HU9.out.cell 1
 go_wp2_with fail
 refine bodyPost_ret (v := .agg #[.slice A3 lo.length c3, .slice A4 st.length c4]) ?_ rfl ?_
 ·simp [results, Tryd.results41, go_sem, r0, r1']
 ·exact ⟨A3, c3, A4, c4, rfl, base_down HO1.out HD1.out, base_down HO2.out HD2.out, HNE.out, HB2.out⟩
end Go.Proofs.YtmbegaobnpoefaaDoor
namespace Go.Proofs.YtmbegaobnpoefaaDoor
open Go.RowKit Go.Maps
set_option linter.unusedVariables false
set_option linter.unusedSimpArgs false
theorem own_own_ne {w : World} {B B' s s' n n' : Nat} {e e' : TypeId} {v v' : Value} {xs xs' : List Value} (h : w.ownsRow B e s v n xs) (h' : w.ownsRow B' e' s' v' n' xs') (hne : e ≠ e') : ∀ k, v.ownBlock = some k → v'.ownBlock ≠ some k := by
 intro k hk hk'
 rcases h.2 with ⟨rfl, _⟩ | ⟨g, cap, cur, rfl, _, hh, _⟩
 ·cases hk
 ·rcases h'.2 with ⟨rfl, _⟩ | ⟨g', cap', cur', rfl, _, hh', _⟩
  ·cases hk'
  ·simp only [Value.ownBlock, Option.some.injEq] at hk hk'
   subst hk
   subst hk'
   rw [hh] at hh'
   injection hh' with h1
   injection h1 with _ h2
   exact hne h2
structure Vp where
 p : Nat
 la : Option Addr
 lc : Nat
 sa : Option Addr
 sc : Nat
 v : Vs
def Vp.ptr : Option Vp → Value
 | none => .pointer none
 | some x => .pointer (some ⟨x.p, 0, none⟩)
abbrev Vp.lV (x : Vp) : Value := .slice x.la x.v.lo.length x.lc
abbrev Vp.sV (x : Vp) : Value := .slice x.sa x.v.st.length x.sc
def Vp.fp (x : Vp) (k : Nat) : Prop := k = x.p ∨ x.lV.ownBlock = some k ∨ x.sV.ownBlock = some k
def Vp.ws (w : World) (B : Nat) (x : Vp) : Prop := Ws w B x.p x.la x.lc x.sa x.sc x.v.lo x.v.st
theorem Vp.ws.fp {w : World} {B k : Nat} {x : Vp} (h : x.ws w B) (hk : x.fp k) : B ≤ k ∧ k < w.heap.size := by
 rcases hk with rfl | h1 | h1
 ·exact ⟨h.hp, h.blk.lt⟩
 ·exact own_base h.lown h1
 ·exact own_base h.sown h1
theorem Vp.ws.keep {w w' : World} {B : Nat} {x : Vp} {F : Nat → Prop} (h : x.ws w B) (hk : Keep F w w') (hF : ∀ k, x.fp k → ¬ F k) : x.ws w' B :=
 ⟨h.blk.keep hk (hF _ (.inl rfl)), h.hp, own_keep h.lown hk (fun k hk => hF k (.inr (.inl hk))), own_keep h.sown hk (fun k hk => hF k (.inr (.inr hk))), h.ne⟩
structure Vk (w : World) (B qa : Nat) (Z : Nat → Prop) (A : List (Option Vp)) (tA : Option Addr) (tc : Nat) (td : List Nat) : Prop where
 atb : Blk w qa 115 (A.map Vp.ptr).toArray
 todo : w.ownsRow B 3 1 (.slice tA td.length tc) td.length (td.map fun i : Nat => Value.int .i64 (i : Int))
 ws : ∀ (i : Nat) (x : Vp), A[i]? = some (some x) → x.ws w B
 dj : ∀ (i j : Nat) (x y : Vp), i ≠ j → A[i]? = some (some x) → A[j]? = some (some y) → ∀ k, x.fp k → ¬ y.fp k
 zq : Z qa ∧ B ≤ qa
 zt : ∀ k, (Value.slice tA td.length tc).ownBlock = some k → Z k
 zs : ∀ (i : Nat) (x : Vp), A[i]? = some (some x) → ∀ k, x.fp k → Z k
section
variable {w w' : World} {B qa tc : Nat} {Z Z' F : Nat → Prop} {A : List (Option Vp)} {tA : Option Addr} {td : List Nat}
theorem Vk.keep (h : Vk w B qa Z A tA tc td) (hk : Keep F w w') (hF : ∀ k, Z k → k < w.heap.size → ¬ F k) : Vk w' B qa Z A tA tc td :=
 ⟨h.atb.keep hk (hF _ h.zq.1 h.atb.lt), own_keep h.todo hk (fun k hk => hF k (h.zt k hk) (own_base h.todo hk).2), fun i x hx => (h.ws i x hx).keep hk (fun k hf => hF k (h.zs i x hx k hf) ((h.ws i x hx).fp hf).2), h.dj, h.zq, h.zt, h.zs⟩
theorem Vk.below (h : Vk w B qa Z A tA tc td) (hb : Below w.heap.size w w') : Vk w' B qa Z A tA tc td := h.keep (keep_any (F := fun _ => False) hb) (fun _ _ _ h => h)
theorem Vk.weak (h : Vk w B qa Z A tA tc td) (hZ : ∀ k, Z k → k < w.heap.size → Z' k) : Vk w B qa Z' A tA tc td :=
 ⟨h.atb, h.todo, h.ws, h.dj, ⟨hZ _ h.zq.1 h.atb.lt, h.zq.2⟩, fun k hk => hZ k (h.zt k hk) (own_base h.todo hk).2, fun i x hx k hf => hZ k (h.zs i x hx k hf) ((h.ws i x hx).fp hf).2⟩
theorem Vk.ptr_at (h : Vk w B qa Z A tA tc td) (i : Nat) : w.cell? ⟨qa, i, none⟩ = (A[i]?).map Vp.ptr := by
 rw [h.atb.cell i]
 simp
theorem Vk.todo_ne (h : Vk w B qa Z A tA tc td) {i : Nat} {x : Vp} (hx : A[i]? = some (some x)) {k : Nat} (hk : (Value.slice tA td.length tc).ownBlock = some k) : ¬ x.fp k := by
 intro hf
 have hw := h.ws i x hx
 rcases hf with rfl | h1 | h1
 ·exact own_blk_ne h.todo hw.blk (by decide) hk
 ·exact own_own_ne h.todo hw.lown (by decide) k hk h1
 ·exact own_own_ne h.todo hw.sown (by decide) k hk h1
theorem Vk.at_ne (h : Vk w B qa Z A tA tc td) {i : Nat} {x : Vp} (hx : A[i]? = some (some x)) : ¬ x.fp qa := by
 intro hf
 have hw := h.ws i x hx
 rcases hf with e | h1 | h1
 ·exact h.atb.ne_ hw.blk (by decide) e
 ·exact own_blk_ne hw.lown h.atb (by decide) h1
 ·exact own_blk_ne hw.sown h.atb (by decide) h1
theorem Vk.todo_at (h : Vk w B qa Z A tA tc td) : (Value.slice tA td.length tc).ownBlock ≠ some qa := own_blk_ne h.todo h.atb (by decide)
theorem Vk.put (h : Vk w B qa Z A tA tc td) {j : Nat} (hj : j < A.length) {x : Vp} (hx : x.ws w B) (hZ : ∀ k, x.fp k → Z k) (hd : ∀ (i : Nat) (y : Vp), A[i]? = some (some y) → ∀ k, x.fp k → ¬ y.fp k) (hq : ¬ x.fp qa) :
  Vk (w.setCell ⟨qa, j, none⟩ (Vp.ptr (some x))) B qa Z (A.set j (some x)) tA tc td := by
 have hk : Keep (fun k => k = qa) w (w.setCell ⟨qa, j, none⟩ (Vp.ptr (some x))) := (Keep.refl (fun k => k = qa) w).setCell (p := ⟨qa, j, none⟩) (fun _ => rfl) _
 have get : ∀ (i : Nat) (y : Vp), (A.set j (some x))[i]? = some (some y) → (i = j ∧ y = x) ∨ (i ≠ j ∧ A[i]? = some (some y)) := by
  intro i y hy
  by_cases e : j = i
  ·subst e
   rw [List.getElem?_set_self hj] at hy
   injection hy with hy
   injection hy with hy
   exact .inl ⟨rfl, hy.symm⟩
  ·rw [List.getElem?_set_ne e] at hy
   exact .inr ⟨fun e' => e e'.symm, hy⟩
 refine ⟨?_, own_keep h.todo hk (fun k hk e => h.todo_at (by rw [hk, e])), ?_, ?_, h.zq, h.zt, ?_⟩
 ·have := h.atb.set_ j (Vp.ptr (some x))
  rw [List.map_set]
  simpa using this
 ·intro i y hy
  rcases get i y hy with ⟨_, rfl⟩ | ⟨_, hy⟩
  ·exact hx.keep hk (fun k hf e => hq (e ▸ hf))
  ·exact (h.ws i y hy).keep hk (fun k hf e => h.at_ne hy (e ▸ hf))
 ·intro i i' y z hne hy hz k hf
  rcases get i y hy with ⟨e1, e2⟩ | ⟨hi, hy2⟩
  ·rcases get i' z hz with ⟨e3, e4⟩ | ⟨_, hz2⟩
   ·exact absurd (e1.trans e3.symm) hne
   ·rw [e2] at hf; exact hd i' z hz2 k hf
  ·rcases get i' z hz with ⟨e3, e4⟩ | ⟨_, hz2⟩
   ·rw [e4]; exact fun h2 => hd i y hy2 k h2 hf
   ·exact h.dj i i' y z hne hy2 hz2 k hf
 ·intro i y hy k hf
  rcases get i y hy with ⟨_, rfl⟩ | ⟨_, hy⟩
  ·exact hZ k hf
  ·exact h.zs i y hy k hf
theorem Vk.turn (h : Vk w B qa Z A tA tc td) {j : Nat} {x y : Vp} (hx : A[j]? = some (some x)) (hp : Vp.ptr (some y) = Vp.ptr (some x)) (hf : ∀ k, y.fp k → x.fp k) (hk : Keep (fun k => x.fp k) w w') (hy : y.ws w' B) : Vk w' B qa Z (A.set j (some y)) tA tc td := by
 have hj : j < A.length := (List.getElem?_eq_some_iff.1 hx).1
 have get : ∀ (i : Nat) (z : Vp), (A.set j (some y))[i]? = some (some z) → (i = j ∧ z = y) ∨ (i ≠ j ∧ A[i]? = some (some z)) := by
  intro i z hz
  by_cases e : j = i
  ·subst e
   rw [List.getElem?_set_self hj] at hz
   injection hz with hz
   injection hz with hz
   exact .inl ⟨rfl, hz.symm⟩
  ·rw [List.getElem?_set_ne e] at hz
   exact .inr ⟨fun e' => e e'.symm, hz⟩
 refine ⟨?_, own_keep h.todo hk (fun k hk => h.todo_ne hx hk), ?_, ?_, h.zq, h.zt, ?_⟩
 ·have := h.atb.keep hk (h.at_ne hx)
  have e : (A.map Vp.ptr).set j (Vp.ptr (some x)) = A.map Vp.ptr := by
   apply List.ext_getElem?
   intro i
   by_cases e : j = i
   ·subst e
    rw [List.getElem?_set_self (by simpa using hj), List.getElem?_map, hx]; rfl
   ·rw [List.getElem?_set_ne e]
  rw [List.map_set, hp, e]
  exact this
 ·intro i z hz
  rcases get i z hz with ⟨_, rfl⟩ | ⟨hi, hz⟩
  ·exact hy
  ·exact (h.ws i z hz).keep hk (fun k h1 h2 => h.dj i j z x hi hz hx k h1 h2)
 ·intro i i' a b hne ha hb k h1
  rcases get i a ha with ⟨e1, e2⟩ | ⟨hi, ha2⟩
  ·rcases get i' b hb with ⟨e3, e4⟩ | ⟨hi', hb2⟩
   ·exact absurd (e1.trans e3.symm) hne
   ·rw [e2] at h1; rw [e1] at hne; exact h.dj j i' x b hne hx hb2 k (hf k h1)
  ·rcases get i' b hb with ⟨e3, e4⟩ | ⟨hi', hb2⟩
   ·rw [e4]; rw [e3] at hne; exact fun h2 => h.dj i j a x hne ha2 hx k h1 (hf k h2)
   ·exact h.dj i i' a b hne ha2 hb2 k h1
 ·intro i z hz k h1
  rcases get i z hz with ⟨_, rfl⟩ | ⟨_, hz⟩
  ·exact h.zs j x hx k (hf k h1)
  ·exact h.zs i z hz k h1
end
structure Sy (w : World) (B q gi g m s n : Nat) (T : List Fc) (f : Fl) (b : Bd) (sg : Sg) (va vd : Value) : Prop where
 sx : Sx w B q gi g m s n T f b sg va vd
 fl : f.at_ w (fun k => k = s ∨ k = q ∨ B ≤ k)
 bd : b.at_ w (fun k => k = s ∨ k = q ∨ B ≤ k)
 sg : sg.at_ w (fun k => k = s ∨ k = q ∨ B ≤ k)
section
variable {w w' : World} {B q gi g m s n n' : Nat} {T : List Fc} {f : Fl} {b : Bd} {sg : Sg} {va vd : Value}
theorem Sy.kp (h : Sy w B q gi g m s n T f b sg va vd) (hv : Vt w' gi g m s T n') (hk : Kp s B w w') : Sy w' B q gi g m s n' T f b sg va vd := by
 have hk2 : Keep (fun k => k = s ∨ k = q ∨ B ≤ k) w w' := hk.mono (fun k _ e => by omega)
 exact ⟨h.sx.kp hv hk, h.fl.keep hk2, h.bd.keep hk2, h.sg.keep hk2⟩
theorem Sy.below (h : Sy w B q gi g m s n T f b sg va vd) (hb : Below w.heap.size w w') : Sy w' B q gi g m s n T f b sg va vd := h.kp (h.sx.vt.below hb) (keep_any hb)
theorem Sy.high (h : Sy w B q gi g m s n T f b sg va vd) (hk : Keep (fun k => B ≤ k) w w') : Sy w' B q gi g m s n T f b sg va vd :=
 h.kp (h.sx.vt.far (B := B) hk (fun k e => e) ⟨h.sx.lt.1, h.sx.lt.2.1, h.sx.lt.2.2.1, h.sx.lt.2.2.2.1⟩) (hk.mono (fun _ _ h => .inr h))
theorem Sy.mono (h : Sy w B q gi g m s n T f b sg va vd) (hn : n ≤ n') : Sy w B q gi g m s n' T f b sg va vd := { h with sx := h.sx.mono hn }
theorem Sy.drew (h : Sy w B q gi g m s n T f b sg va vd) : Sy w.drew B q gi g m s n T f b sg va vd := h.kp h.sx.vt.drew ((Keep.refl _ w).drewN 1)
theorem Sy.drewN (h : Sy w B q gi g m s n T f b sg va vd) (k : Nat) : Sy (w.drewN k) B q gi g m s n T f b sg va vd := h.kp (h.sx.vt.drewN k) ((Keep.refl _ w).drewN k)
theorem Sy.todo (h : Sy w B q gi g m s n T f b sg va vd) (vd' : Value) : Sy (w.setCell ⟨q, 20, none⟩ vd') B q gi g m s n T f b sg va vd' := by
 have hk : Keep (fun k => k = q) w (w.setCell ⟨q, 20, none⟩ vd') := (Keep.refl (fun k => k = q) w).setCell (p := ⟨q, 20, none⟩) (fun _ => rfl) _
 have hk2 : Keep (fun k => k = s ∨ k = q ∨ B ≤ k) w (w.setCell ⟨q, 20, none⟩ vd') := hk.mono (fun k _ e => by omega)
 have hqs := h.sx.qs
 obtain ⟨F, N, hi⟩ := h.sx.vt.img
 have hgi : gi ≠ q := hi.ne_ h.sx.kq (by decide)
 have hg : g ≠ q := h.sx.vt.tab.blk.ne_ h.sx.kq (by decide)
 have hm : m ≠ q := by
  obtain ⟨D, hD, _⟩ := h.sx.vt.tab.faces
  exact fun e => blk_map_ne h.sx.kq hD e.symm
 refine ⟨⟨⟨⟨F, N, hi.keep hk hgi⟩, h.sx.vt.tab.keep hk hg hm (fun e => hqs e.symm), h.sx.vt.few, h.sx.vt.sh⟩, ?_, (h.fl.keep hk2).weak (fun k e => by omega), (h.bd.keep hk2).weak (fun k e => by omega), (h.sg.keep hk2).weak (fun k e => by omega), h.sx.lt, Nat.le_trans h.sx.hB hk.size⟩, h.fl.keep hk2, h.bd.keep hk2, h.sg.keep hk2⟩
 have := h.sx.kq.set_ 20 vd'
 simpa using this
theorem Sy.at_ (h : Sy w B q gi g m s n T f b sg va vd) (va' : Value) : Sy (w.setCell ⟨q, 19, none⟩ va') B q gi g m s n T f b sg va' vd := by
 have hk : Keep (fun k => k = q) w (w.setCell ⟨q, 19, none⟩ va') := (Keep.refl (fun k => k = q) w).setCell (p := ⟨q, 19, none⟩) (fun _ => rfl) _
 have hk2 : Keep (fun k => k = s ∨ k = q ∨ B ≤ k) w (w.setCell ⟨q, 19, none⟩ va') := hk.mono (fun k _ e => by omega)
 have hqs := h.sx.qs
 obtain ⟨F, N, hi⟩ := h.sx.vt.img
 have hgi : gi ≠ q := hi.ne_ h.sx.kq (by decide)
 have hg : g ≠ q := h.sx.vt.tab.blk.ne_ h.sx.kq (by decide)
 have hm : m ≠ q := by
  obtain ⟨D, hD, _⟩ := h.sx.vt.tab.faces
  exact fun e => blk_map_ne h.sx.kq hD e.symm
 refine ⟨⟨⟨⟨F, N, hi.keep hk hgi⟩, h.sx.vt.tab.keep hk hg hm (fun e => hqs e.symm), h.sx.vt.few, h.sx.vt.sh⟩, ?_, (h.fl.keep hk2).weak (fun k e => by omega), (h.bd.keep hk2).weak (fun k e => by omega), (h.sg.keep hk2).weak (fun k e => by omega), h.sx.lt, Nat.le_trans h.sx.hB hk.size⟩, h.fl.keep hk2, h.bd.keep hk2, h.sg.keep hk2⟩
 have := h.sx.kq.set_ 19 va'
 simpa using this
end
end Go.Proofs.YtmbegaobnpoefaaDoor
namespace Go.Proofs.YtmbegaobnpoefaaDoor
open Go.RowKit Go.Maps
set_option linter.unusedVariables false
set_option linter.unusedSimpArgs false
def FlowEnd (w : World) (B q qa gi g m s n N : Nat) (T : List Fc) (f : Fl) (b : Bd) (sg : Sg) (Z : Nat → Prop) (r : Option Vm) (e : Ending) (w' : World) : Prop :=
 e = .returned (.bool r.isSome) ∧ Vt w' gi g m s T (n + 1000000) ∧ w'.cell? ⟨q, 13, none⟩ = some (.slice b.A b.k b.c) ∧ Keep (fun k => k = s ∨ k = q ∨ Z k) w w' ∧
  ∀ K, r = some K → ∃ A' tA' tc', K.at_ = A'.map (Option.map Vp.v) ∧ Vk w' B qa (fun k => Z k ∨ w.heap.size ≤ k) A' tA' tc' K.todo ∧ Sy w' B q gi g m s (n + 1000000) T f b sg (.slice (some ⟨qa, 0, none⟩) N N) (.slice tA' K.todo.length tc')
theorem int_info : (Tryd.prog.info? 3).map (fun i => (i.zero, i.size, i.bytes)) = some (some (.int .i64 0), 1, 8) := by kernel_rfl
theorem Vk.app {w w5 : World} {B qa tc j g' cap' : Nat} {Z : Nat → Prop} {A : List (Option Vp)} {tA : Option Addr} {td : List Nat} (h : Vk w B qa Z A tA tc td)
  (hown : w5.ownsRow B 3 1 (.slice (some ⟨g', 0, none⟩) (td.length + 1) cap') (td.length + 1) ((td.map fun i : Nat => Value.int .i64 (i : Int)) ++ [.int .i64 (j : Int)])) (hk : Keep (fun k => (Value.slice tA td.length tc).ownBlock = some k) w w5)
  (hG : (Value.slice tA td.length tc).ownBlock = some g' ∨ w.heap.size ≤ g') : Vk w5 B qa (fun k => Z k ∨ w.heap.size ≤ k) A (some ⟨g', 0, none⟩) cap' (td ++ [j]) :=
 ⟨h.atb.keep hk (fun e => h.todo_at e), by simpa using hown, fun i x hx => (h.ws i x hx).keep hk (fun k hf e => h.todo_ne hx e hf), h.dj, ⟨.inl h.zq.1, h.zq.2⟩, fun k hk => by
  have e : g' = k := by simpa [Value.ownBlock] using hk
  rcases hG with h1 | h1
  ·exact .inl (h.zt k (e ▸ h1))
  ·exact .inr (e ▸ h1), fun i x hx k hf => .inl (h.zs i x hx k hf)⟩
theorem flow_put {w3 w5 : World} {B q qa gi g m s n N N0 tc j g' cap' : Nat} {T : List Fc} {f : Fl} {b : Bd} {sg : Sg} {Z : Nat → Prop} {A : List (Option Vp)} {tA : Option Addr} {td : List Nat} {x : Vp} (hx : x.ws w3 B ∧ ∀ k, x.fp k → N0 ≤ k)
  (h : Sy w3 B q gi g m s n T f b sg (.slice (some ⟨qa, 0, none⟩) N N) (.slice tA td.length tc)) (hk : Vk w3 B qa Z A tA tc td)
  (hown : w5.ownsRow B 3 1 (.slice (some ⟨g', 0, none⟩) (td.length + 1) cap') (td.length + 1) ((td.map fun i : Nat => Value.int .i64 (i : Int)) ++ [.int .i64 (j : Int)])) (hkp : Keep (fun k => (Value.slice tA td.length tc).ownBlock = some k) w3 w5)
  (hG : (Value.slice tA td.length tc).ownBlock = some g' ∨ w3.heap.size ≤ g') (hN0 : N0 ≤ w3.heap.size) (hno : A[j]? = some none) (hZ : ∀ k, Z k → B ≤ k) (hqB : q < B) (hsB : s < B) {W : Nat} (hW : W ≤ N0) (hqN : q < N0) (hxd : ∀ (i : Nat) (y : Vp), A[i]? = some (some y) → ∀ k, x.fp k → ¬ y.fp k) :
  ∀ w6, w6 = (w5.setCell ⟨qa, j, none⟩ (.pointer (some ⟨x.p, 0, none⟩))).setCell ⟨q, 20, none⟩ (.slice (some ⟨g', 0, none⟩) (td.length + 1) cap') →
   Vk w6 B qa (fun k => Z k ∨ N0 ≤ k) (A.set j (some x)) (some ⟨g', 0, none⟩) cap' (td ++ [j]) ∧ Sy w6 B q gi g m s n T f b sg (.slice (some ⟨qa, 0, none⟩) N N) (.slice (some ⟨g', 0, none⟩) (td.length + 1) cap') ∧ Keep (fun k => (k = s ∨ k = q ∨ Z k) ∨ N0 ≤ k) w3 w6 := by
 rintro w6 rfl
 have hqq : qa ≠ q := hk.atb.ne_ h.sx.kq (by decide)
 have hqn : (Value.slice tA td.length tc).ownBlock ≠ some q := own_blk_ne hk.todo h.sx.kq (by decide)
 have hjl : j < A.length := (List.getElem?_eq_some_iff.1 hno).1
 have h5 := (hk.app hown hkp hG).weak (Z' := fun k => Z k ∨ N0 ≤ k) (fun k e _ => e.imp id (fun e => by omega))
 have hxn : ∀ k, x.fp k → N0 ≤ k := hx.2
 have htn : ∀ k, x.fp k → ¬ (Value.slice tA td.length tc).ownBlock = some k := by
  intro k hf e
  rcases hf with e1 | e1 | e1
  ·rw [e1] at e; exact own_blk_ne hk.todo hx.1.blk (by decide) e
  ·exact own_own_ne hk.todo hx.1.lown (by decide) k e e1
  ·exact own_own_ne hk.todo hx.1.sown (by decide) k e e1
 have hx5 : x.ws w5 B := hx.1.keep hkp htn
 have hd : ∀ (i : Nat) (y : Vp), A[i]? = some (some y) → ∀ k, x.fp k → ¬ y.fp k := by
  intro i y hy k hf hfy
  exact hxd i y hy k hf hfy
 have hqx : ¬ x.fp qa := by
  intro hf
  rcases hf with e1 | e1 | e1
  ·exact hk.atb.ne_ hx.1.blk (by decide) e1
  ·exact own_blk_ne hx.1.lown hk.atb (by decide) e1
  ·exact own_blk_ne hx.1.sown hk.atb (by decide) e1
 have h6 := h5.put hjl hx5 (fun k hf => .inr (hxn k hf)) hd hqx
 have hs : Keep (fun k => k = q) (w5.setCell ⟨qa, j, none⟩ (.pointer (some ⟨x.p, 0, none⟩))) ((w5.setCell ⟨qa, j, none⟩ (.pointer (some ⟨x.p, 0, none⟩))).setCell ⟨q, 20, none⟩ (.slice (some ⟨g', 0, none⟩) (td.length + 1) cap')) := (Keep.refl (fun k => k = q) _).setCell (p := ⟨q, 20, none⟩) (fun _ => rfl) _
 have hka : Keep (fun k => k = qa) w5 (w5.setCell ⟨qa, j, none⟩ (.pointer (some ⟨x.p, 0, none⟩))) := (Keep.refl (fun k => k = qa) w5).setCell (p := ⟨qa, j, none⟩) (fun _ => rfl) _
 have htB : ∀ k, (Value.slice tA td.length tc).ownBlock = some k → B ≤ k := fun k hk2 => (own_base hk.todo hk2).1
 have hy5 : Sy w5 B q gi g m s n T f b sg (.slice (some ⟨qa, 0, none⟩) N N) (.slice tA td.length tc) := h.high (hkp.mono (fun k _ e => htB k e))
 have hy6 := (hy5.high (hka.mono (fun k _ e => by have := hk.zq.2; omega))).todo (.slice (some ⟨g', 0, none⟩) (td.length + 1) cap')
 refine ⟨h6.keep hs (fun k hz _ e => ?_), hy6, ?_⟩
 ·subst e
  rcases hz with hz | hz
  ·have := hZ k hz; omega
  ·omega
 ·have e1 : Keep (fun k => (k = s ∨ k = q ∨ Z k) ∨ N0 ≤ k) w3 w5 := hkp.mono (fun k _ e => .inl (.inr (.inr (hk.zt k e))))
  exact (e1.trans' hka (fun k _ e => .inl (.inr (.inr (e ▸ hk.zq.1))))).trans' hs (fun k _ e => .inl (.inr (.inl e)))
set_option maxRecDepth 100000 in
set_option maxHeartbeats 8000000 in
theorem flow_full (w : World) (B q qa gi g m s n N j : Nat) (T : List Fc) (f : Fl) (b : Bd) (sg : Sg) (tA : Option Addr) (tc : Nat) (td : List Nat) (A : List (Option Vp)) (Z : Nat → Prop) (v : Vs) (la sa : Option Addr) (lc sc : Nat)
  (h : Sy w B q gi g m s n T f b sg (.slice (some ⟨qa, 0, none⟩) N N) (.slice tA td.length tc)) (hk : Vk w B qa Z A tA tc td) (hA : A.length = N) (hN : b.k = N) (hZ : ∀ k, Z k → B ≤ k ∧ k < w.heap.size) (hN2 : N ≤ 100000) (htd : td.length ≤ 1000000000)
  (h1 : Rd w (fun k => k = s ∨ k = q ∨ Z k) 2 la v.lo.length (v.lo.flatMap Ty.cells)) (h2 : Rd w (fun k => k = s ∨ k = q ∨ Z k) 2 sa v.st.length (v.st.flatMap Ty.cells)) (hS : VsS v) (hn : n ≤ 6000000000000000) (hj : N ≤ j) (hj2 : j ≤ 1000000) :
  Calls Tryd.prog 40 #[.pointer (some ⟨q, 0, none⟩), .int .i64 (j : Int), .agg #[.slice la v.lo.length lc, .slice sa v.st.length sc]] w (FlowEnd w B q qa gi g m s n N T f b sg Z (flowM T ⟨A.map (Option.map Vp.v), td⟩ j v)) := by
 have hZ1 : ∀ k, Z k → B ≤ k := fun k h => (hZ k h).1
 obtain ⟨hgi, hg_, hm_, hsB, hqB⟩ := h.sx.lt
 have hBw := h.sx.hB
 have hqs := h.sx.qs
 have hqa := hk.zq
 obtain ⟨w1, hw1⟩ : ∃ x, x = w.alloc (.cells #[.slice la v.lo.length lc, .slice sa v.st.length sc] 113) := ⟨_, rfl⟩
 have hbb : Below w.heap.size w w1 := by rw [hw1]; exact (Below.refl _ w).alloc (Nat.le_refl _) _
 have H5 : Hid (Blk w1 w.heap.size 113 #[.slice la v.lo.length lc, .slice sa v.st.length sc]) := hide (by rw [hw1]; exact Blk.new _ _ _)
 have HY := hide (h.below hbb)
 have HVk := hide (hk.below hbb)
 have HF : Hid (Keep (fun k => k = s ∨ k = q ∨ Z k) w w1) := hide (keep_any hbb)
 have HV := hide (h.sx.vt.below hbb)
 have H1 := hide (h1.keep HF.out)
 have H2 := hide (h2.keep HF.out)
 have q13 : w1.cell? ⟨q, 13, none⟩ = some (.slice b.A b.k b.c) := HY.out.sx.kq.cell 13
 have q19 : w1.cell? ⟨q, 19, none⟩ = some (.slice (some ⟨qa, 0, none⟩) N N) := HY.out.sx.kq.cell 19
 have q20 : w1.cell? ⟨q, 20, none⟩ = some (.slice tA td.length tc) := HY.out.sx.kq.cell 20
 rw [hN] at q13
 have hs1 : w1.heap.size = w.heap.size + 1 := by rw [hw1]; simp
 have HM : Hid (∀ _ : Unit, flowM T ⟨A.map (Option.map Vp.v), td⟩ j v = none) := hide (fun _ => by unfold flowM; rw [if_pos (by simp; omega)])
 have hj3 : (N : Int) ≤ (j : Int) := by omega
 clear h hk h1 h2 hbb
 go_enter Tryd.func40, Tryd.ntmps40
 go_upto_region 1 with fail
 rw [← hw1]
 clear hw1
 go_wp2_with fail
 go_ret
 exact ⟨by rw [HM.out ()] <;> rfl, HV.out.mono (by omega), HY.out.sx.kq.cell 13, HF.out, fun K hK => by rw [HM.out ()] at hK; cases hK⟩
set_option maxRecDepth 100000 in
set_option maxHeartbeats 8000000 in
theorem flow_new (w : World) (B q qa gi g m s n N j : Nat) (T : List Fc) (f : Fl) (b : Bd) (sg : Sg) (tA : Option Addr) (tc : Nat) (td : List Nat) (A : List (Option Vp)) (Z : Nat → Prop) (v : Vs) (la sa : Option Addr) (lc sc : Nat)
  (h : Sy w B q gi g m s n T f b sg (.slice (some ⟨qa, 0, none⟩) N N) (.slice tA td.length tc)) (hk : Vk w B qa Z A tA tc td) (hA : A.length = N) (hN : b.k = N) (hZ : ∀ k, Z k → B ≤ k ∧ k < w.heap.size) (hN2 : N ≤ 100000) (htd : td.length ≤ 1000000000)
  (h1 : Rd w (fun k => k = s ∨ k = q ∨ Z k) 2 la v.lo.length (v.lo.flatMap Ty.cells)) (h2 : Rd w (fun k => k = s ∨ k = q ∨ Z k) 2 sa v.st.length (v.st.flatMap Ty.cells)) (hS : VsS v) (hn : n ≤ 6000000000000000) (hj : j < N) (hno : A[j]? = some none) :
  Calls Tryd.prog 40 #[.pointer (some ⟨q, 0, none⟩), .int .i64 (j : Int), .agg #[.slice la v.lo.length lc, .slice sa v.st.length sc]] w (FlowEnd w B q qa gi g m s n N T f b sg Z (flowM T ⟨A.map (Option.map Vp.v), td⟩ j v)) := by
 have hZ1 : ∀ k, Z k → B ≤ k := fun k h => (hZ k h).1
 obtain ⟨hgi, hg_, hm_, hsB, hqB⟩ := h.sx.lt
 have hBw := h.sx.hB
 have hqs := h.sx.qs
 have hqa := hk.zq
 obtain ⟨w1, hw1⟩ : ∃ x, x = w.alloc (.cells #[.slice la v.lo.length lc, .slice sa v.st.length sc] 113) := ⟨_, rfl⟩
 have hbb : Below w.heap.size w w1 := by rw [hw1]; exact (Below.refl _ w).alloc (Nat.le_refl _) _
 have H5 : Hid (Blk w1 w.heap.size 113 #[.slice la v.lo.length lc, .slice sa v.st.length sc]) := hide (by rw [hw1]; exact Blk.new _ _ _)
 have HY := hide (h.below hbb)
 have HVk := hide (hk.below hbb)
 have HF : Hid (Keep (fun k => k = s ∨ k = q ∨ Z k) w w1) := hide (keep_any hbb)
 have HV := hide (h.sx.vt.below hbb)
 have H1 := hide (h1.keep HF.out)
 have H2 := hide (h2.keep HF.out)
 have q13 : w1.cell? ⟨q, 13, none⟩ = some (.slice b.A b.k b.c) := HY.out.sx.kq.cell 13
 have q19 : w1.cell? ⟨q, 19, none⟩ = some (.slice (some ⟨qa, 0, none⟩) N N) := HY.out.sx.kq.cell 19
 have q20 : w1.cell? ⟨q, 20, none⟩ = some (.slice tA td.length tc) := HY.out.sx.kq.cell 20
 rw [hN] at q13
 have hs1 : w1.heap.size = w.heap.size + 1 := by rw [hw1]; simp
 have HM : Hid (∀ _ : Unit, flowM T ⟨A.map (Option.map Vp.v), td⟩ j v = some ⟨(A.map (Option.map Vp.v)).set j (some v), td ++ [j]⟩) := hide (fun _ => by unfold flowM; rw [if_neg (by simp; omega), List.getD_eq_getElem?_getD, List.getElem?_map, hno]; rfl)
 have HNo := hide hno
 have HZ := hide hZ1
 have k0 : w1.cell? ⟨qa, j, none⟩ = some (.pointer none) := by rw [HVk.out.ptr_at j, hno]; rfl
 have c0 : w1.cell? ⟨w.heap.size, 0, none⟩ = some (.slice la v.lo.length lc) := H5.out.cell 0
 have c1 : w1.cell? ⟨w.heap.size, 1, none⟩ = some (.slice sa v.st.length sc) := H5.out.cell 1
 obtain ⟨i0, hi0, hz0, hz1, hz2⟩ := info_parts int_info
 have hS1 := hS.2.2.1
 have hS2 := hS.2.2.2
 have HCL := hide (clone_any la sa lc sc v.lo v.st w1 (Rd.old (H1.out.weak (G := fun _ => False) (fun k _ h => h.elim))) (Rd.old (H2.out.weak (G := fun _ => False) (fun k _ h => h.elim))) (by omega) (by omega))
 have hw1s : w.heap.size ≤ w1.heap.size := hbb.size
 clear h hk h1 h2 hbb hno hZ hZ1
 go_enter Tryd.func40, Tryd.ntmps40
 go_upto_region 1 with fail
 rw [← hw1]
 clear hw1
 go_upto_region 6 with (go_at_call 41; refine HCL.out.mono ?_; rintro e w2 ⟨la', lc', sa', sc', rfl, ho1, ho2, hne, hb2⟩; have HO1 := hide ho1; have HO2 := hide ho2; have HNE := hide hne; have HB2 := hide hb2; clear ho1 ho2 hne hb2)
 obtain ⟨r8, hr8⟩ : ∃ x, x = w2.heap.size := ⟨_, rfl⟩
 obtain ⟨w3, hw3⟩ : ∃ x, x = w2.alloc (.cells #[.slice la' v.lo.length lc', .slice sa' v.st.length sc'] 113) := ⟨_, rfl⟩
 have hb3 : Below w2.heap.size w2 w3 := by rw [hw3]; exact (Below.refl _ _).alloc (Nat.le_refl _) _
 have hB13 : Below w1.heap.size w1 w3 := HB2.out.trans (hb3.mono HB2.out.size)
 have hr8w : w1.heap.size ≤ r8 := by rw [hr8]; exact HB2.out.size
 have hs3 : w3.heap.size = r8 + 1 := by rw [hw3, hr8]; simp
 have HX : Hid (Vp.ws w3 B ⟨r8, la', lc', sa', sc', v⟩ ∧ ∀ k, Vp.fp ⟨r8, la', lc', sa', sc', v⟩ k → w1.heap.size ≤ k) := hide ⟨⟨by rw [hw3, hr8]; exact Blk.new _ _ _, by show B ≤ r8; omega, base_down (own_keep HO1.out (keep_any (F := fun _ => False) hb3) (fun _ _ h => h)) (by omega), base_down (own_keep HO2.out (keep_any (F := fun _ => False) hb3) (fun _ _ h => h)) (by omega), HNE.out⟩, fun k hf => by
  rcases hf with e | e | e
  ·have e2 : k = r8 := e; omega
  ·exact (own_base HO1.out e).1
  ·exact (own_base HO2.out e).1⟩
 have HXD : Hid (∀ (i : Nat) (y : Vp), A[i]? = some (some y) → ∀ k, Vp.fp ⟨r8, la', lc', sa', sc', v⟩ k → ¬ y.fp k) := hide (fun i y hy k hf hfy => by have := HX.out.2 k hf; have := ((HVk.out.ws i y hy).fp hfy).2; omega)
 have HY3 := hide (HY.out.below hB13)
 have HVk3 := hide (HVk.out.below hB13)
 have HF3 := hide (HF.out.tr (keep_any (F := fun k => k = s ∨ k = q ∨ Z k) hB13))
 rw [← hw3, ← hr8]
 clear HY HVk HF HO1 HO2 HNE HB2 hb3 hB13 hw3 hr8 q13 q19 q20 k0 c0 c1 H1 H2 H5 HV
 have q19 : w3.cell? ⟨q, 19, none⟩ = some (.slice (some ⟨qa, 0, none⟩) N N) := HY3.out.sx.kq.cell 19
 have q20 : w3.cell? ⟨q, 20, none⟩ = some (.slice tA td.length tc) := HY3.out.sx.kq.cell 20
 have q19' : ((w3.alloc (.cells #[.int .i64 (j : Int)] 3)).drew).cell? ⟨q, 19, none⟩ = some (.slice (some ⟨qa, 0, none⟩) N N) := (HY3.out.sx.kq.alloc _).cell 19
 have q20' : ((w3.alloc (.cells #[.int .i64 (j : Int)] 3)).drew).cell? ⟨q, 20, none⟩ = some (.slice tA td.length tc) := (HY3.out.sx.kq.alloc _).cell 20
 have hqn : (Value.slice tA td.length tc).ownBlock ≠ some q := own_blk_ne HVk3.out.todo HY3.out.sx.kq (by decide)
 have hqq : qa ≠ q := HVk3.out.atb.ne_ HY3.out.sx.kq (by decide)
 have hqn2 := HVk3.out.todo_at
 have hoD : ((w3.alloc (.cells #[.int .i64 (j : Int)] 3)).drew).ownsRow B 3 1 (.slice tA td.length tc) td.length (td.map fun i : Nat => Value.int .i64 (i : Int)) := HVk3.out.todo.alloc _
 have hnD : ∀ k u, [Value.int .i64 (j : Int)][k]? = some u → ((w3.alloc (.cells #[.int .i64 (j : Int)] 3)).drew).cell? ((⟨r8 + 1, 0, none⟩ : Addr).add k) = some u := by rw [← hs3]; exact cell_one_new w3 _ _
 have h1c : ∀ u ∈ [Value.int .i64 (j : Int)], u.oneCell' = true := by intro u hu; rw [List.mem_singleton] at hu; subst hu; rfl
 have HAP : Hid (∀ w5 : World, ((w3.alloc (.cells #[.int .i64 (j : Int)] 3)).drew).grownBy w5 (Value.slice tA td.length tc).ownBlock → Keep (fun k => (Value.slice tA td.length tc).ownBlock = some k) w3 w5) := hide (fun w5 hg => (((Keep.refl _ w3).alloc _).drew).grown hg (fun k hk _ => hk))
 have hj5 : ∀ w5 : World, ((w3.alloc (.cells #[.int .i64 (j : Int)] 3)).drew).grownBy w5 (Value.slice tA td.length tc).ownBlock → w5.cell? ⟨q, 19, none⟩ = some (.slice (some ⟨qa, 0, none⟩) N N) ∧ w5.cell? ⟨qa, j, none⟩ = some (.pointer none) ∧ w5.frozen? ⟨qa, j, none⟩ = false ∧ (w5.setCell ⟨qa, j, none⟩ (.pointer (some ⟨r8, 0, none⟩))).cell? ⟨q, 20, none⟩ = some (.slice tA td.length tc) ∧ (w5.setCell ⟨qa, j, none⟩ (.pointer (some ⟨r8, 0, none⟩))).frozen? ⟨q, 20, none⟩ = false := fun w5 hg => by
  have hk := HAP.out w5 hg
  have e1 := HVk3.out.atb.keep hk (fun e => hqn2 e)
  have e2 := (HY3.out.sx.kq.keep hk (fun e => hqn e)).far (p := ⟨qa, j, none⟩) (fun e => hqq e.symm) (.pointer (some ⟨r8, 0, none⟩))
  refine ⟨(HY3.out.sx.kq.keep hk (fun e => hqn e)).cell 19, ?_, e1.frozen j, e2.cell 20, e2.frozen 20⟩
  have := e1.cell j
  rw [this]
  simp [HNo.out, Vp.ptr]
 go_region_law (refine step_append_lies _ rfl (.tmp 46) (.tmp 48) 77 rfl B 3 i0 (.int .i64 0) 1 8 Tryd.underlying77 hi0 hz0 hz1 hz2 rfl (by decide) _ _ _ rfl hoD ⟨r8 + 1, 0, none⟩ 1 1 [.int .i64 (j : Int)] rfl rfl hnD h1c (by decide) (by unfold maxLen; omega) (by omega) (by simp; omega) (r8 + 2) (by simp; omega) ?_; intro g' cap' w5 hown5 hgrow5 hat5 _; obtain ⟨k0, k1, k2, k3, k4⟩ := hj5 w5 hgrow5)
 all_goals
  have HFIN := hide (flow_put HX.out HY3.out HVk3.out hown5 (HAP.out w5 hgrow5) (by rcases hat5 with e | e; exact .inl e; exact .inr (by omega)) (by omega) HNo.out HZ.out hqB hsB hw1s (by omega) HXD.out)
  clear hown5 hgrow5 k0 k1 k2 k3 k4 hoD hnD q19 q20 q19' q20' hj5 HAP
  simp [go_sem, Act.put]
  go_wp2_with fail
  go_ret
  obtain ⟨hz1, hz2, hz3⟩ := HFIN.out _ rfl
  exact ⟨by rw [HM.out ()] <;> rfl, hz2.sx.vt.mono (by omega), hz2.sx.kq.cell 13, HF3.out.trans' hz3 (fun k hk e => e.elim id (fun e => absurd e (by omega))), fun K hK => by
   rw [HM.out ()] at hK
   injection hK with hK
   subst hK
   exact ⟨A.set j (some ⟨r8, la', lc', sa', sc', v⟩), some ⟨g', 0, none⟩, cap', by rw [List.map_set]; rfl, hz1.weak (fun k e _ => e.imp id (fun e => by omega)), by have h9 := hz2.mono (show n ≤ n + 1000000 by omega); simpa using h9⟩⟩
end Go.Proofs.YtmbegaobnpoefaaDoor
namespace Go.Proofs.YtmbegaobnpoefaaDoor
open Go.RowKit Go.Maps
set_option linter.unusedVariables false
set_option linter.unusedSimpArgs false
theorem mrg_take (T : List Fc) : ∀ (o s : List Ty) (i : Nat) (hi : i < s.length) (ho : i < o.length), mrg T o (s.take (i + 1)) = (mrg T o (s.take i)).set i (joinM T o[i] s[i]).1
 | a :: l, b :: r, 0, _, _ => by cases l <;> simp [mrg]
 | a :: l, b :: r, i + 1, hi, ho => by
  have := mrg_take T l r i (by simpa using hi) (by simpa using ho)
  simp only [List.take_succ_cons, mrg, List.set_cons_succ, List.getElem_cons_succ]
  rw [this]
theorem mrg_at (T : List Fc) : ∀ (o s : List Ty) (i : Nat) (ho : i < o.length), (mrg T o (s.take i))[i]'(by rw [mrg_len]; exact ho) = o[i]
 | a :: l, s, 0, _ => by cases s <;> simp [mrg]
 | a :: l, [], i + 1, ho => by simp [mrg]
 | a :: l, b :: r, i + 1, ho => by
  have := mrg_at T l r i (by simpa using ho)
  simpa [mrg] using this
theorem okJ_take (T : List Fc) : ∀ (o s : List Ty) (i : Nat) (hi : i < s.length) (ho : i < o.length), okJ T o (s.take (i + 1)) = (okJ T o (s.take i) && (joinM T o[i] s[i]).2)
 | a :: l, b :: r, 0, _, _ => by cases l <;> simp [okJ]
 | a :: l, b :: r, i + 1, hi, ho => by
  have := okJ_take T l r i (by simpa using hi) (by simpa using ho)
  simp only [List.take_succ_cons, okJ, List.getElem_cons_succ]
  rw [this, Bool.and_assoc]
theorem okJ_all (T : List Fc) : ∀ (o s : List Ty) (i : Nat), okJ T o s = true → okJ T o (s.take i) = true
 | [], s, i, _ => by cases s <;> cases i <;> rfl
 | a :: l, [], i, _ => by cases i <;> rfl
 | a :: l, b :: r, 0, _ => rfl
 | a :: l, b :: r, i + 1, h => by
  simp only [okJ, Bool.and_eq_true] at h
  simp only [List.take_succ_cons, okJ, Bool.and_eq_true]
  exact ⟨h.1, okJ_all T l r i h.2⟩
theorem mrg_set_ne {l m : List Ty} {i : Nat} {o t : Ty} (hm : m[i]? = some o) (hl : l[i]? = some o) : decide (m.set i t ≠ l) = (decide (m ≠ l) || decide (t ≠ o)) := by
 by_cases e : m = l
 ·subst e
  by_cases e2 : t = o
  ·subst e2
   have : m.set i t = m := by
    apply List.ext_getElem?
    intro k
    by_cases e : i = k
    ·subst e; rw [List.getElem?_set_self (List.getElem?_eq_some_iff.1 hm).1, hm]
    ·rw [List.getElem?_set_ne e]
   simp [this]
  ·have : m.set i t ≠ m := by
    intro h
    have h2 := congrArg (fun x => x[i]?) h
    simp only [List.getElem?_set_self (List.getElem?_eq_some_iff.1 hm).1, hm] at h2
    injection h2 with h2
    exact e2 h2
   simp [this, e2]
 ·have : m.set i t ≠ l := by
   intro h
   apply e
   apply List.ext_getElem?
   intro k
   by_cases ek : i = k
   ·subst ek; rw [hm, hl]
   ·rw [← h, List.getElem?_set_ne ek]
  simp [this, e]
theorem join_short {T : List Fc} (hs : ∀ f ∈ T, short f.su) {a b : Ty} (ha : short a.n) (hb : short b.n) : short (joinM T a b).1.n := by
 unfold joinM
 split
 ·exact ha
 ·split
  ·exact hb
  ·split
   ·exact ha
   ·split
    ·rename_i h
     exact up_short T hs 20 [] a.n (by simp) ha _ (common_mem h.2.2).1
    ·show ([] : List UInt8).length ≤ _
     simp
theorem Rd.lt_ {w : World} {F : Nat → Prop} {size n : Nat} {A : Option Addr} {l : List Value} (h : Rd w F size A n l) : Rd w (fun k => F k ∨ w.heap.size ≤ k) size A n l :=
 ⟨h.1, fun hn => by
  obtain ⟨b, o, e, hF, hl, hc⟩ := h.2 hn
  exact ⟨b, o, e, fun h => h.elim hF (fun h => by omega), hl, hc⟩⟩
structure Lp (w wr : World) (B q qa gi g m s n N r5 : Nat) (T : List Fc) (f : Fl) (b : Bd) (sg : Sg) (tA : Option Addr) (tc : Nat) (td : List Nat) (A : List (Option Vp)) (Z : Nat → Prop) (v : Vs) (la sa : Option Addr) (lc sc : Nat) (j : Nat) (x : Vp) (y : Vs) : Prop where
 sy : Sy wr B q gi g m s n T f b sg (.slice (some ⟨qa, 0, none⟩) N N) (.slice tA td.length tc)
 vk : Vk wr B qa Z (A.set j (some { x with v := y })) tA tc td
 kp : Keep (fun k => k = s ∨ k = q ∨ Z k) w wr
 b5 : Blk wr r5 113 #[.slice la v.lo.length lc, .slice sa v.st.length sc]
 h1 : Rd wr (fun k => k = s ∨ k = q ∨ Z k ∨ w.heap.size ≤ k) 2 la v.lo.length (v.lo.flatMap Ty.cells)
 h2 : Rd wr (fun k => k = s ∨ k = q ∨ Z k ∨ w.heap.size ≤ k) 2 sa v.st.length (v.st.flatMap Ty.cells)
section
variable {w wr w' : World} {B q qa gi g m s n n' N r5 tc lc sc j : Nat} {T : List Fc} {f : Fl} {b : Bd} {sg : Sg} {tA la sa : Option Addr} {td : List Nat} {A : List (Option Vp)} {Z : Nat → Prop} {v y : Vs} {x : Vp}
theorem Lp.below (h : Lp w wr B q qa gi g m s n N r5 T f b sg tA tc td A Z v la sa lc sc j x y) (hb : Below wr.heap.size wr w') : Lp w w' B q qa gi g m s n N r5 T f b sg tA tc td A Z v la sa lc sc j x y :=
 ⟨h.sy.below hb, h.vk.below hb, h.kp.trans' (keep_any (F := fun _ => False) hb) (fun _ _ h => h.elim), h.b5.below hb h.b5.lt, h.h1.keep (keep_any hb), h.h2.keep (keep_any hb)⟩
theorem Lp.drewN (h : Lp w wr B q qa gi g m s n N r5 T f b sg tA tc td A Z v la sa lc sc j x y) (k : Nat) : Lp w (wr.drewN k) B q qa gi g m s n N r5 T f b sg tA tc td A Z v la sa lc sc j x y := h.below ((bdrewN (Below.refl _ _) k))
theorem Lp.drew (h : Lp w wr B q qa gi g m s n N r5 T f b sg tA tc td A Z v la sa lc sc j x y) : Lp w wr.drew B q qa gi g m s n N r5 T f b sg tA tc td A Z v la sa lc sc j x y := h.drewN 1
theorem Lp.seen (h : Lp w wr B q qa gi g m s n N r5 T f b sg tA tc td A Z v la sa lc sc j x y) (ht : Tab w' g m s T n') (hk : Keep (fun k => k = s) wr w') (hZ : ∀ k, Z k → B ≤ k) (h5 : r5 ≠ s) : Lp w w' B q qa gi g m s n' N r5 T f b sg tA tc td A Z v la sa lc sc j x y :=
 ⟨h.sy.kp (h.sy.sx.vt.keep ht hk) (hk.mono (fun _ _ e => .inl e)), h.vk.keep hk (fun k hz _ e => by have := hZ k hz; have := h.sy.sx.lt; omega), h.kp.trans' hk (fun _ _ e => .inl e), h.b5.keep hk h5, h.h1.keep (hk.mono (fun _ _ e => .inl e)), h.h2.keep (hk.mono (fun _ _ e => .inl e))⟩
theorem Lp.mono (h : Lp w wr B q qa gi g m s n N r5 T f b sg tA tc td A Z v la sa lc sc j x y) (hn : n ≤ n') : Lp w wr B q qa gi g m s n' N r5 T f b sg tA tc td A Z v la sa lc sc j x y := { h with sy := h.sy.mono hn }
theorem Lp.x_at (h : Lp w wr B q qa gi g m s n N r5 T f b sg tA tc td A Z v la sa lc sc j x y) (hj : j < A.length) : Ws wr B x.p x.la x.lc x.sa x.sc y.lo y.st := h.vk.ws j { x with v := y } (by rw [List.getElem?_set_self hj])
theorem Lp.st (h : Lp w wr B q qa gi g m s n N r5 T f b sg tA tc td A Z v la sa lc sc j x y) (hj : j < A.length) {i bb o : Nat} (hi : i < y.st.length) (hsa : x.sa = some ⟨bb, o, none⟩) (t : Ty) (h5 : r5 ≠ bb) (hZ : ∀ k, Z k → B ≤ k) :
  Lp w ((wr.setCell ⟨bb, o + i * 2, none⟩ (S t.n)).setCell ⟨bb, o + i * 2 + 1, none⟩ (.bool t.a)) B q qa gi g m s n N r5 T f b sg tA tc td A Z v la sa lc sc j x ⟨y.lo, y.st.set i t⟩ ∧ ∀ k, wr.frozen? ⟨bb, k, none⟩ = false := by
 have hw := h.x_at hj
 have hxj : (A.set j (some { x with v := y }))[j]? = some (some { x with v := y }) := by rw [List.getElem?_set_self hj]
 have hso := hw.sown
 rw [hsa] at hso
 obtain ⟨ho, h1, h2⟩ := own_set hso hi t
 have hk : Keep (fun k => k = bb) wr ((wr.setCell ⟨bb, o + i * 2, none⟩ (S t.n)).setCell ⟨bb, o + i * 2 + 1, none⟩ (.bool t.a)) := ((Keep.refl (fun k => k = bb) wr).setCell (p := ⟨bb, o + i * 2, none⟩) (fun _ => rfl) _).setCell (p := ⟨bb, o + i * 2 + 1, none⟩) (fun _ => rfl) _
 have hbb : (Value.slice x.sa y.st.length x.sc).ownBlock = some bb := by rw [hsa]; rfl
 have hfb : Vp.fp { x with v := y } bb := .inr (.inr hbb)
 have hzb := h.vk.zs j _ hxj bb hfb
 have hBb := hZ bb hzb
 have hbp : x.p ≠ bb := by
  have := own_blk_ne hw.sown hw.blk (by decide)
  exact fun e => this (by rw [hbb, e])
 have hws : Vp.ws ((wr.setCell ⟨bb, o + i * 2, none⟩ (S t.n)).setCell ⟨bb, o + i * 2 + 1, none⟩ (.bool t.a)) B { x with v := ⟨y.lo, y.st.set i t⟩ } := by
  refine ⟨?_, hw.hp, own_keep hw.lown hk (fun k hk2 e => hw.ne k hk2 (by rw [hbb, e])), ?_, ?_⟩
  ·have := hw.blk.keep hk hbp
   simpa [List.length_set] using this
  ·simp only [List.length_set, hsa]; exact h1
  ·simp only [List.length_set]; exact hw.ne
 have hv := h.vk.turn hxj (y := { x with v := ⟨y.lo, y.st.set i t⟩ }) rfl (fun k hf => by simpa [Vp.fp, Vp.lV, Vp.sV, List.length_set] using hf) (hk.mono (fun k _ e => by rw [e]; exact hfb)) hws
 rw [List.set_set] at hv
 exact ⟨⟨h.sy.high (hk.mono (fun k _ e => by omega)), hv, h.kp.trans' hk (fun k _ e => .inr (.inr (e ▸ hzb))), h.b5.keep hk h5, h.h1.keep (hk.mono (fun k _ e => .inr (.inr (.inl (e ▸ hzb))))), h.h2.keep (hk.mono (fun k _ e => .inr (.inr (.inl (e ▸ hzb)))))⟩, h2⟩
theorem Lp.lo (h : Lp w wr B q qa gi g m s n N r5 T f b sg tA tc td A Z v la sa lc sc j x y) (hj : j < A.length) {i bb o : Nat} (hi : i < y.lo.length) (hla : x.la = some ⟨bb, o, none⟩) (t : Ty) (h5 : r5 ≠ bb) (hZ : ∀ k, Z k → B ≤ k) :
  Lp w ((wr.setCell ⟨bb, o + i * 2, none⟩ (S t.n)).setCell ⟨bb, o + i * 2 + 1, none⟩ (.bool t.a)) B q qa gi g m s n N r5 T f b sg tA tc td A Z v la sa lc sc j x ⟨y.lo.set i t, y.st⟩ ∧ ∀ k, wr.frozen? ⟨bb, k, none⟩ = false := by
 have hw := h.x_at hj
 have hxj : (A.set j (some { x with v := y }))[j]? = some (some { x with v := y }) := by rw [List.getElem?_set_self hj]
 have hso := hw.lown
 rw [hla] at hso
 obtain ⟨ho, h1, h2⟩ := own_set hso hi t
 have hk : Keep (fun k => k = bb) wr ((wr.setCell ⟨bb, o + i * 2, none⟩ (S t.n)).setCell ⟨bb, o + i * 2 + 1, none⟩ (.bool t.a)) := ((Keep.refl (fun k => k = bb) wr).setCell (p := ⟨bb, o + i * 2, none⟩) (fun _ => rfl) _).setCell (p := ⟨bb, o + i * 2 + 1, none⟩) (fun _ => rfl) _
 have hbb : (Value.slice x.la y.lo.length x.lc).ownBlock = some bb := by rw [hla]; rfl
 have hfb : Vp.fp { x with v := y } bb := .inr (.inl hbb)
 have hzb := h.vk.zs j _ hxj bb hfb
 have hBb := hZ bb hzb
 have hbp : x.p ≠ bb := by
  have := own_blk_ne hw.lown hw.blk (by decide)
  exact fun e => this (by rw [hbb, e])
 have hws : Vp.ws ((wr.setCell ⟨bb, o + i * 2, none⟩ (S t.n)).setCell ⟨bb, o + i * 2 + 1, none⟩ (.bool t.a)) B { x with v := ⟨y.lo.set i t, y.st⟩ } := by
  refine ⟨?_, hw.hp, ?_, own_keep hw.sown hk (fun k hk2 e => hw.ne bb hbb (by rw [hk2, e])), ?_⟩
  ·have := hw.blk.keep hk hbp
   simpa [List.length_set] using this
  ·simp only [List.length_set, hla]; exact h1
  ·simp only [List.length_set]; exact hw.ne
 have hv := h.vk.turn hxj (y := { x with v := ⟨y.lo.set i t, y.st⟩ }) rfl (fun k hf => by simpa [Vp.fp, Vp.lV, Vp.sV, List.length_set] using hf) (hk.mono (fun k _ e => by rw [e]; exact hfb)) hws
 rw [List.set_set] at hv
 exact ⟨⟨h.sy.high (hk.mono (fun k _ e => by omega)), hv, h.kp.trans' hk (fun k _ e => .inr (.inr (e ▸ hzb))), h.b5.keep hk h5, h.h1.keep (hk.mono (fun k _ e => .inr (.inr (.inl (e ▸ hzb))))), h.h2.keep (hk.mono (fun k _ e => .inr (.inr (.inl (e ▸ hzb)))))⟩, h2⟩
end
end Go.Proofs.YtmbegaobnpoefaaDoor
namespace Go.Proofs.YtmbegaobnpoefaaDoor
open Go.RowKit Go.Maps
set_option linter.unusedVariables false
set_option linter.unusedSimpArgs false
theorem own_some {w : World} {B n c : Nat} {e : TypeId} {size : Nat} {a : Option Addr} {xs : List Value} (h : w.ownsRow B e size (.slice a n c) n xs) (hn : 0 < n) : ∃ g, a = some ⟨g, 0, none⟩ := by
 rcases h.2 with ⟨e1, e2⟩ | ⟨g, cap, cur, hv, _⟩
 ·omega
 ·injection hv with e1
  exact ⟨g, e1⟩
theorem Lp.mono' {w wr : World} {B q qa gi g m s n n' N r5 tc lc sc j : Nat} {T : List Fc} {f : Fl} {b : Bd} {sg : Sg} {tA la sa : Option Addr} {td : List Nat} {A : List (Option Vp)} {Z : Nat → Prop} {v y : Vs} {x : Vp} (h : Lp w wr B q qa gi g m s n N r5 T f b sg tA tc td A Z v la sa lc sc j x y) (hn : n ≤ n') : Hid (Lp w wr B q qa gi g m s n' N r5 T f b sg tA tc td A Z v la sa lc sc j x y) := hide (h.mono hn)
theorem Lp.boxed {w wr : World} {B q qa gi g m s n N r5 tc lc sc j : Nat} {T : List Fc} {f : Fl} {b : Bd} {sg : Sg} {tA la sa : Option Addr} {td : List Nat} {A : List (Option Vp)} {Z : Nat → Prop} {v y : Vs} {x : Vp} (h : Lp w wr B q qa gi g m s n N r5 T f b sg tA tc td A Z v la sa lc sc j x y)
  {r W : Nat} {cs : Array Value} (hr : Blk wr r 24 cs) (t : Ty) (hZ : ∀ k, Z k → k < W) (hW : W ≤ r) (h5 : r5 < r ∧ B ≤ r ∧ w.heap.size ≤ r) : Lp w ((wr.setCell ⟨r, 0, none⟩ (S t.n)).setCell ⟨r, 1, none⟩ (.bool t.a)) B q qa gi g m s n N r5 T f b sg tA tc td A Z v la sa lc sc j x y := by
 have hk : Keep (fun k => k = r) wr ((wr.setCell ⟨r, 0, none⟩ (S t.n)).setCell ⟨r, 1, none⟩ (.bool t.a)) := ((Keep.refl (fun k => k = r) wr).setCell (p := ⟨r, 0, none⟩) (fun _ => rfl) _).setCell (p := ⟨r, 1, none⟩) (fun _ => rfl) _
 exact ⟨h.sy.high (hk.mono (fun k _ e => by omega)), h.vk.keep hk (fun k hz _ e => by have := hZ k hz; omega), h.kp.trans' hk (fun k hk e => by omega), h.b5.keep hk (by omega), h.h1.keep (hk.mono (fun k _ e => .inr (.inr (.inr (by omega))))), h.h2.keep (hk.mono (fun k _ e => .inr (.inr (.inr (by omega)))))⟩
theorem mrg0 (T : List Fc) (o : List Ty) : mrg T o [] = o := by cases o <;> rfl
theorem okJ0 (T : List Fc) (o : List Ty) : okJ T o [] = true := by cases o <;> rfl
set_option maxRecDepth 100000 in
set_option maxHeartbeats 8000000 in
theorem flow_old (w : World) (B q qa gi g m s n N j : Nat) (T : List Fc) (f : Fl) (b : Bd) (sg : Sg) (tA : Option Addr) (tc : Nat) (td : List Nat) (A : List (Option Vp)) (Z : Nat → Prop) (v : Vs) (la sa : Option Addr) (lc sc : Nat)
  (h : Sy w B q gi g m s n T f b sg (.slice (some ⟨qa, 0, none⟩) N N) (.slice tA td.length tc)) (hk : Vk w B qa Z A tA tc td) (hA : A.length = N) (hN : b.k = N) (hZ : ∀ k, Z k → B ≤ k ∧ k < w.heap.size) (hN2 : N ≤ 100000) (htd : td.length ≤ 1000000000)
  (h1 : Rd w (fun k => k = s ∨ k = q ∨ Z k) 2 la v.lo.length (v.lo.flatMap Ty.cells)) (h2 : Rd w (fun k => k = s ∨ k = q ∨ Z k) 2 sa v.st.length (v.st.flatMap Ty.cells)) (hS : VsS v) (hn : n ≤ 6000000000000000) (hj : j < N) (x : Vp) (hno : A[j]? = some (some x)) (hXS : VsS x.v) (hXl : x.v.lo.length = v.lo.length) :
  Calls Tryd.prog 40 #[.pointer (some ⟨q, 0, none⟩), .int .i64 (j : Int), .agg #[.slice la v.lo.length lc, .slice sa v.st.length sc]] w (FlowEnd w B q qa gi g m s n N T f b sg Z (flowM T ⟨A.map (Option.map Vp.v), td⟩ j v)) := by
 have hZ1 : ∀ k, Z k → B ≤ k := fun k h => (hZ k h).1
 obtain ⟨hgi, hg_, hm_, hsB, hqB⟩ := h.sx.lt
 have hBw := h.sx.hB
 have hqs := h.sx.qs
 have hqa := hk.zq
 obtain ⟨w1, hw1⟩ : ∃ x, x = w.alloc (.cells #[.slice la v.lo.length lc, .slice sa v.st.length sc] 113) := ⟨_, rfl⟩
 have hbb : Below w.heap.size w w1 := by rw [hw1]; exact (Below.refl _ w).alloc (Nat.le_refl _) _
 have H5 : Hid (Blk w1 w.heap.size 113 #[.slice la v.lo.length lc, .slice sa v.st.length sc]) := hide (by rw [hw1]; exact Blk.new _ _ _)
 have HY := hide (h.below hbb)
 have HVk := hide (hk.below hbb)
 have HF : Hid (Keep (fun k => k = s ∨ k = q ∨ Z k) w w1) := hide (keep_any hbb)
 have HV := hide (h.sx.vt.below hbb)
 have H1 := hide (h1.keep HF.out)
 have H2 := hide (h2.keep HF.out)
 have q13 : w1.cell? ⟨q, 13, none⟩ = some (.slice b.A b.k b.c) := HY.out.sx.kq.cell 13
 have q19 : w1.cell? ⟨q, 19, none⟩ = some (.slice (some ⟨qa, 0, none⟩) N N) := HY.out.sx.kq.cell 19
 have q20 : w1.cell? ⟨q, 20, none⟩ = some (.slice tA td.length tc) := HY.out.sx.kq.cell 20
 rw [hN] at q13
 have hs1 : w1.heap.size = w.heap.size + 1 := by rw [hw1]; simp
 obtain ⟨xp, xla, xlc, xsa, xsc, xv⟩ := x
 replace hXS : VsS xv := hXS
 replace hXl : xv.lo.length = v.lo.length := hXl
 have hjA : j < A.length := by omega
 have hS1 := hS.2.2.1
 have hS2 := hS.2.2.2
 have HFM : Hid (∀ _ : Unit, flowM T ⟨A.map (Option.map Vp.v), td⟩ j v = if xv.st.length ≠ v.st.length then none else if okJ T xv.st v.st = true then some ⟨(A.map (Option.map Vp.v)).set j (some ⟨mrg T xv.lo v.lo, mrg T xv.st v.st⟩), if mrg T xv.st v.st = xv.st ∧ mrg T xv.lo v.lo = xv.lo then td else td ++ [j]⟩ else none) := hide (fun _ => by unfold flowM; rw [if_neg (by simp; omega), List.getD_eq_getElem?_getD, List.getElem?_map, hno]; rfl)
 have H1x : Hid (Rd w1 (fun k => k = s ∨ k = q ∨ Z k ∨ w.heap.size ≤ k) 2 la v.lo.length (v.lo.flatMap Ty.cells)) := hide ((h1.lt_.keep (keep_any hbb)).weak (fun k _ e => e.elim (fun e => .inl (.inl e)) (fun e => e.elim (fun e => .inl (.inr (.inl e))) (fun e => e.elim (fun e => .inl (.inr (.inr e))) .inr))))
 have H2x : Hid (Rd w1 (fun k => k = s ∨ k = q ∨ Z k ∨ w.heap.size ≤ k) 2 sa v.st.length (v.st.flatMap Ty.cells)) := hide ((h2.lt_.keep (keep_any hbb)).weak (fun k _ e => e.elim (fun e => .inl (.inl e)) (fun e => e.elim (fun e => .inl (.inr (.inl e))) (fun e => e.elim (fun e => .inl (.inr (.inr e))) .inr))))
 have hw0 := HVk.out.ws j _ hno
 have k0 : w1.cell? ⟨qa, j, none⟩ = some (.pointer (some ⟨xp, 0, none⟩)) := by rw [HVk.out.ptr_at j, hno]; rfl
 have c1 : w1.cell? ⟨w.heap.size, 1, none⟩ = some (.slice sa v.st.length sc) := H5.out.cell 1
 have c2 : w1.cell? ⟨xp, 1, none⟩ = some (.slice xsa xv.st.length xsc) := hw0.blk.cell 1
 have HL1 : Hid (Lp w w1 B q qa gi g m s (n) N w.heap.size T f b sg tA tc td A Z v la sa lc sc j ⟨xp, xla, xlc, xsa, xsc, xv⟩ xv) := hide ⟨HY.out, by
  have e : A.set j (some ⟨xp, xla, xlc, xsa, xsc, xv⟩) = A := by
   apply List.ext_getElem?
   intro k
   by_cases ek : j = k
   ·subst ek; rw [List.getElem?_set_self hjA, hno]
   ·rw [List.getElem?_set_ne ek]
  show Vk w1 B qa Z (A.set j (some ⟨xp, xla, xlc, xsa, xsc, xv⟩)) tA tc td
  rw [e]; exact HVk.out, HF.out, H5.out, H1x.out, H2x.out⟩
 clear h hk h1 h2 hbb hw0
 go_enter Tryd.func40, Tryd.ntmps40
 go_upto_region 1 with fail
 rw [← hw1]
 clear hw1
 go_upto_region 8 with fail
 rw [show decide (N ≤ j) = false from decide_eq_false (by omega)]
 by_cases hlen : xv.st.length = v.st.length
 case neg =>
  have HM : Hid (∀ _ : Unit, flowM T ⟨A.map (Option.map Vp.v), td⟩ j v = none) := hide (fun _ => by rw [HFM.out ()]; exact if_pos hlen)
  have hlen2 : ¬ (xv.st.length : Int) = (v.st.length : Int) := by omega
  go_quiet (fail)
  go_wp2_with fail
  go_ret
  exact ⟨by rw [HM.out ()] <;> rfl, (HV.out.drewN _).mono (by omega), (HY.out.drewN _).sx.kq.cell 13, HF.out.drewN _, fun K hK => by rw [HM.out ()] at hK; cases hK⟩
 case pos =>
  replace HFM : Hid (∀ _ : Unit, flowM T ⟨A.map (Option.map Vp.v), td⟩ j v = if okJ T xv.st v.st = true then some ⟨(A.map (Option.map Vp.v)).set j (some ⟨mrg T xv.lo v.lo, mrg T xv.st v.st⟩), if mrg T xv.st v.st = xv.st ∧ mrg T xv.lo v.lo = xv.lo then td else td ++ [j]⟩ else none) := hide (fun _ => by rw [HFM.out ()]; exact if_neg (fun h => h hlen))
  rw [hlen] at c2
  go_quiet (fail)
  obtain ⟨w2, hw2⟩ : ∃ x, x = w1.drewN nq := ⟨_, rfl⟩
  rw [← hw2]
  have HL0 : Hid (Lp w w2 B q qa gi g m s (n) N w.heap.size T f b sg tA tc td A Z v la sa lc sc j ⟨xp, xla, xlc, xsa, xsc, xv⟩ xv) := hide (by rw [hw2]; exact HL1.out.drewN _)
  have c1' : w2.cell? ⟨w.heap.size, 1, none⟩ = some (.slice sa v.st.length sc) := HL0.out.b5.cell 1
  clear hw2 HL1 H1x H2x HY HVk HF HV H1 H2 H5 c1 c2 k0 q13 q19 q20
  go_wp2_with fail
  go_loopw [9, 65] (fun v9 vi wr => ∃ (i : Nat) (tb : Bool), i ≤ v.st.length ∧ v9 = .bool tb ∧ vi = .int .i64 (i : Int) ∧ Hid (∀ _ : Unit, tb = decide (mrg T xv.st (v.st.take (i)) ≠ xv.st)) ∧ Hid (Lp w wr B q qa gi g m s (n + 200 * i) N w.heap.size T f b sg tA tc td A Z v la sa lc sc j ⟨xp, xla, xlc, xsa, xsc, xv⟩ ⟨xv.lo, mrg T xv.st (v.st.take i)⟩) ∧ Hid (okJ T xv.st (v.st.take (i)) = true)) (fun _ vi _ => v.st.length - (intOf vi).toNat)
  case atStart => exact ⟨0, false, Nat.zero_le _, rfl, rfl, hide (fun _ => by simp [mrg0]), hide (by simpa [mrg0] using HL0.out), hide (by simp [okJ0])⟩
  case round =>
   obtain ⟨i, tb, hi, rfl, rfl, HTB, HL, HOK⟩ := hrel
   by_cases hlt : i < v.st.length
   case pos =>
    skip
    have hwr := HL.out.kp.size
    obtain ⟨bn, on_, rfl, hbnF, hbnl, hnc⟩ := Rd.rec_ (f := Ty.cells) (fun _ => rfl) HL.out.h2 rfl i hlt
    have hun : v.st[i] ∈ v.st := List.getElem_mem hlt
    have hus := hS.2.1 _ hun
    generalize hU : v.st[i] = U at hnc hus
    obtain ⟨un, ua⟩ := U
    have m0 : wr.cell? ⟨bn, on_ + i * 2, none⟩ = some (S un) := hnc 0 _ rfl
    have m1 : wr.cell? ⟨bn, on_ + i * 2 + 1, none⟩ = some (.bool ua) := hnc 1 _ rfl
    clear hnc
    go_upto_region 14 with fail
    have hly : i < (mrg T xv.st (v.st.take i)).length := by rw [mrg_len]; omega
    have hlo : i < xv.st.length := by omega
    have HW := hide (HL.out.x_at hjA)
    obtain ⟨bo, oo, rfl, hboF, hbol, hoc⟩ := Rd.rec_ (f := Ty.cells) (fun _ => rfl) (own_rd2 HW.out.sown) rfl i hly
    rw [mrg_at T xv.st v.st i hlo] at hoc
    have hos := hXS.2.1 _ (List.getElem_mem hlo)
    generalize hO : xv.st[i] = O at hoc hos
    obtain ⟨on, oa⟩ := O
    have HC0 : Hid (wr.cell? ⟨bo, oo + i * 2, none⟩ = some (S on) ∧ wr.cell? ⟨bo, oo + i * 2 + 1, none⟩ = some (.bool oa)) := hide ⟨hoc 0 _ rfl, hoc 1 _ rfl⟩
    clear hoc m0 m1
    have hb5 : w.heap.size ≠ bo := by have h9 := own_blk_ne HW.out.sown HL.out.b5 (by decide); exact fun e => h9 (by rw [e]; rfl)
    have hbo : B ≤ bo := by omega
    have hbos : bo ≠ s := by omega
    have hxps : xp ≠ s := by have := HW.out.hp; have h9 : B ≤ xp := this; omega
    have hxpl : xp < wr.heap.size := HW.out.blk.lt
    have HXC : Hid (wr.cell? ⟨xp, 1, none⟩ = some (.slice (some ⟨bo, oo, none⟩) xv.st.length xsc)) := hide (by have := HW.out.blk.cell 1; rw [mrg_len] at this; simpa using this)
    obtain ⟨r1, hr1⟩ : ∃ x, x = wr.heap.size := ⟨_, rfl⟩
    obtain ⟨w3, hw3⟩ : ∃ x, x = wr.alloc (.cells #[S un, .bool ua] 24) := ⟨_, rfl⟩
    have hb3 : Below wr.heap.size wr w3 := by rw [hw3]; exact (Below.refl _ _).alloc (Nat.le_refl _) _
    have HT : Hid (Blk w3 r1 24 #[S un, .bool ua]) := hide (by rw [hw3, hr1]; exact Blk.new _ _ _)
    have HL3 := hide (HL.out.below hb3)
    have hr1w : wr.heap.size ≤ r1 := by omega
    have hw3l : wr.heap.size < w3.heap.size := by rw [hw3]; simp
    have HC3 : Hid ((∀ k, w3.cell? ⟨bo, k, none⟩ = wr.cell? ⟨bo, k, none⟩) ∧ ∀ k, w3.cell? ⟨xp, k, none⟩ = wr.cell? ⟨xp, k, none⟩) := hide ⟨fun k => hb3.cell (p := ⟨bo, k, none⟩) hbol, fun k => hb3.cell (p := ⟨xp, k, none⟩) hxpl⟩
    rw [show wr.alloc (.cells #[.string { data := un.toArray }, .bool ua] 24) = w3 from hw3.symm]
    rw [← hr1]
    clear hw3 hr1 hb3
    have hrs : s < r1 := by have := HL.out.sy.sx.lt; have := HL.out.sy.sx.hB; omega
    obtain ⟨⟨⟨jn, ja⟩, jo⟩, hJ⟩ : ∃ r, joinM T ⟨on, oa⟩ ⟨un, ua⟩ = r := ⟨_, rfl⟩
    have HJN : Hid (∀ ww, Lp w ww B q qa gi g m s (n + 200 * i) N w.heap.size T f b sg tA tc td A Z v la (some ⟨bn, on_, none⟩) lc sc j ⟨xp, xla, xlc, (some ⟨bo, oo, none⟩), xsc, xv⟩ ⟨xv.lo, mrg T xv.st (v.st.take i)⟩ → Calls Tryd.prog 56 #[.pointer (some ⟨gi, 0, none⟩), .agg #[S on, .bool oa], .agg #[S un, .bool ua]] ww (fun e w' => e = .returned (.tuple #[.agg #[S jn, .bool ja], .bool jo]) ∧ Tab w' g m s T (n + 200 * i + 200) ∧ Keep (fun b => b = s) ww w')) := hide (fun ww hL => by
     have h9 := join_any gi g m s _ T ⟨on, oa⟩ ⟨un, ua⟩ ww hL.sy.sx.vt.img hL.sy.sx.vt.tab (by omega) hL.sy.sx.vt.few hL.sy.sx.vt.sh hos hus
     rw [hJ] at h9
     exact h9)
    go_cut [12, 13] (fun vr vo wx => ∃ r2 : Nat, vr = .pointer (some ⟨r2, 0, none⟩) ∧ vo = .bool jo ∧ Hid (Lp w wx B q qa gi g m s (n + 200 * i + 200) N w.heap.size T f b sg tA tc td A Z v la (some ⟨bn, on_, none⟩) lc sc j ⟨xp, xla, xlc, (some ⟨bo, oo, none⟩), xsc, xv⟩ ⟨xv.lo, mrg T xv.st (v.st.take i)⟩) ∧ Hid (Blk wx r2 24 #[S jn, .bool ja]) ∧ Hid ((∀ k, wx.cell? ⟨bo, k, none⟩ = wr.cell? ⟨bo, k, none⟩) ∧ ∀ k, wx.cell? ⟨xp, k, none⟩ = wr.cell? ⟨xp, k, none⟩) ∧ w3.heap.size ≤ r2)
    case first =>
     have HS : Hid (∀ w', Keep (fun k => k = s ∨ w3.heap.size ≤ k) w3 w' → w'.cell? ⟨q, 0, none⟩ = some (.pointer (some ⟨gi, 0, none⟩)) ∧ w'.cell? ⟨xp, 1, none⟩ = some (.slice (some ⟨bo, oo, none⟩) xv.st.length xsc) ∧ w'.cell? ⟨bo, oo + i * 2, none⟩ = some (S on) ∧ w'.cell? ⟨bo, oo + i * 2 + 1, none⟩ = some (.bool oa) ∧ w'.cell? ⟨r1, 0, none⟩ = some (S un) ∧ w'.cell? ⟨r1, 1, none⟩ = some (.bool ua)) := hide (fun w' hk => by
      have t0 := HL3.out.sy.sx.kq.keep hk (by show ¬ (q = s ∨ w3.heap.size ≤ q); have := HL3.out.sy.sx.qs; have := HL3.out.sy.sx.kq.lt; omega)
      have t1 := HT.out.keep hk (by show ¬ (r1 = s ∨ w3.heap.size ≤ r1); have := HT.out.lt; omega)
      have t2 : ∀ k, w'.cell? ⟨bo, k, none⟩ = wr.cell? ⟨bo, k, none⟩ := fun k => (hk.cell (p := ⟨bo, k, none⟩) (by show bo < w3.heap.size; omega) (by show ¬ (bo = s ∨ w3.heap.size ≤ bo); omega)).trans (HC3.out.1 k)
      have t3 : ∀ k, w'.cell? ⟨xp, k, none⟩ = wr.cell? ⟨xp, k, none⟩ := fun k => (hk.cell (p := ⟨xp, k, none⟩) (by show xp < w3.heap.size; omega) (by show ¬ (xp = s ∨ w3.heap.size ≤ xp); omega)).trans (HC3.out.2 k)
      exact ⟨t0.cell 0, (t3 _).trans HXC.out, (t2 _).trans HC0.out.1, (t2 _).trans HC0.out.2, t1.cell 0, t1.cell 1⟩)
     have HR : Hid (Keep (fun k => k = s ∨ w3.heap.size ≤ k) w3 w3.drew) := hide (Keep.refl _ _).drew
     have HLc := hide HL3.out.drew
     refine wp_region_noPanic ?_
     refine tkB HS HR.out (fun hHeld => ?_)
     obtain ⟨w4, hw4⟩ : ∃ x, x = w3.drew := ⟨_, rfl⟩
     rw [← hw4] at hHeld HLc HR ⊢
     clear hw4
     refine tkL 0 ?_ ?_ ?_
     rotate_left
     ·(rintro wS ⟨e0, e1, e2, e3, e4, e5⟩; go_simp; try with_reducible rfl)
     try simp only [sP]
     refine tkL 1 ?_ ?_ ?_
     rotate_left
     ·(rintro wS ⟨e0, e1, e2, e3, e4, e5⟩; go_simp; try with_reducible rfl)
     try simp only [sP]
     refine tkL 2 ?_ ?_ ?_
     rotate_left
     ·(rintro wS ⟨e0, e1, e2, e3, e4, e5⟩; go_simp; try with_reducible rfl)
     try simp only [sP]
     refine tkL 3 ?_ ?_ ?_
     rotate_left
     ·(rintro wS ⟨e0, e1, e2, e3, e4, e5⟩; go_simp; try with_reducible rfl)
     try simp only [sP]
     refine tkL 4 ?_ ?_ ?_
     rotate_left
     ·(rintro wS ⟨e0, e1, e2, e3, e4, e5⟩; go_simp; try with_reducible rfl)
     try simp only [sP]
     refine tkL 5 ?_ ?_ ?_
     rotate_left
     ·(rintro wS ⟨e0, e1, e2, e3, e4, e5⟩; go_simp; try with_reducible rfl)
     try simp only [sP]
     refine tkL 6 ?_ ?_ ?_
     rotate_left
     ·(rintro wS ⟨e0, e1, e2, e3, e4, e5⟩; go_simp; try with_reducible rfl)
     try simp only [sP]
     refine tkL 7 ?_ ?_ ?_
     rotate_left
     ·(rintro wS ⟨e0, e1, e2, e3, e4, e5⟩; go_simp; try with_reducible rfl)
     try simp only [sP]
     refine tkL 8 ?_ ?_ ?_
     rotate_left
     ·(rintro wS ⟨e0, e1, e2, e3, e4, e5⟩; go_simp; try with_reducible rfl)
     try simp only [sP]
     refine tkL 9 ?_ ?_ ?_
     rotate_left
     ·(rintro wS ⟨e0, e1, e2, e3, e4, e5⟩; go_simp; try with_reducible rfl)
     try simp only [sP]
     refine tkL 10 ?_ ?_ ?_
     rotate_left
     ·(rintro wS ⟨e0, e1, e2, e3, e4, e5⟩; go_simp; try with_reducible rfl)
     try simp only [sP]
     refine tkL 11 ?_ ?_ ?_
     rotate_left
     ·(rintro wS ⟨e0, e1, e2, e3, e4, e5⟩; go_simp; try with_reducible rfl)
     try simp only [sP]
     refine wpAnyH_ready (rs := [12, 16]) (by kernel_rfl) (by simp) ?_
     refine tkA _ (fun K hK => ?_) ?_
     ·try rw [if_pos (by rfl)]
      go_simp
      go_at_call 56
      refine (HJN.out _ HLc.out).mono ?_
      rintro e w5 ⟨rfl, ht5, hk5⟩
      replace HLc := hide (HLc.out.seen ht5 hk5 hZ1 (by omega))
      replace HR := hide (HR.out.trans' hk5 (fun _ _ h => .inl h))
      clear ht5 hk5
      try go_wp2_with fail
      refine hK.out _ _ (HS.out _ HR.out) (fun hHeld => ?_)
      clear hK K
      try simp only [sP]
      refine tkL 13 ?_ ?_ ?_
      rotate_left
      ·(rintro wS ⟨e0, e1, e2, e3, e4, e5⟩; go_simp; try with_reducible rfl)
      try simp only [sP]
      refine tkL 14 ?_ ?_ ?_
      rotate_left
      ·(rintro wS ⟨e0, e1, e2, e3, e4, e5⟩; go_simp; try with_reducible rfl)
      try simp only [sP]
      refine tkL 15 ?_ ?_ ?_
      rotate_left
      ·(rintro wS ⟨e0, e1, e2, e3, e4, e5⟩; go_simp; try with_reducible rfl)
      try simp only [sP]
      refine tkC 16 (fun K hK => ?_)
      try rw [if_pos (by rfl)]
      go_simp
      try go_wp2_with fail
      refine hK.out _ _ (HS.out _ (HR.out.tr (keep_any (F := fun k => k = s ∨ w3.heap.size ≤ k) ((Below.refl _ _).alloc (Nat.le_refl _) _)))) (fun hHeld => ?_)
      clear hK K
      try simp only [sP]
      obtain ⟨r2, hr2⟩ : ∃ x, x = w5.heap.size := ⟨_, rfl⟩
      obtain ⟨w6, hwn⟩ : ∃ x, x = w5.alloc (.cells #[.string { data := #[] }, .bool false] 24) := ⟨_, rfl⟩
      have hbn : Below w5.heap.size w5 w6 := by rw [hwn]; exact (Below.refl _ _).alloc (Nat.le_refl _) _
      have HU : Hid (Blk w6 r2 24 #[.string { data := #[] }, .bool false]) := hide (by rw [hwn, hr2]; exact Blk.new _ _ _)
      replace HLc := hide (HLc.out.below hbn)
      have hr2w : w3.heap.size ≤ r2 := by rw [hr2]; exact HR.out.size
      replace HR := hide (HR.out.tr (keep_any (F := fun k => k = s ∨ w3.heap.size ≤ k) hbn))
      rw [← hwn] at hHeld ⊢
      rw [← hr2]
      clear hwn hr2 hbn
      refine tkC 17 (fun K hK => ?_)
      try rw [if_pos (by rfl)]
      have f9 := HU.out.frozen
      have c90 := HU.out.cell 0
      have c91 := HU.out.cell 1
      go_simp
      try go_wp2_with fail
      have hU2 := (HU.out.set_ 0 (S jn)).set_ 1 (.bool ja)
      have hks : Keep (fun k => w3.heap.size ≤ k) w6 ((w6.setCell ⟨r2, 0, none⟩ (S jn)).setCell ⟨r2, 1, none⟩ (.bool ja)) := ((Keep.refl (fun k => w3.heap.size ≤ k) w6).setCell (p := ⟨r2, 0, none⟩) (fun _ => hr2w) _).setCell (p := ⟨r2, 1, none⟩) (fun _ => hr2w) _
      have HL7 := hide (HLc.out.boxed HU.out ⟨jn, ja⟩ (W := w.heap.size) (fun k h => (hZ k h).2) (by omega) (by omega))
      obtain ⟨w7, hw7⟩ : ∃ x, x = (w6.setCell ⟨r2, 0, none⟩ (S jn)).setCell ⟨r2, 1, none⟩ (.bool ja) := ⟨_, rfl⟩
      rw [← hw7] at hU2 hks HL7
      rw [show ((w6.setCell ⟨r2, 0, none⟩ (.string { data := jn.toArray })).setCell ⟨r2, 1, none⟩ (.bool ja)) = w7 from hw7.symm]
      clear hw7 f9 c90 c91
      replace HR := hide (HR.out.trans' hks (fun _ _ h => .inr h))
      have HU7 : Hid (Blk w7 r2 24 #[S jn, .bool ja]) := hide (by simpa using hU2)
      clear hks hU2 HU HLc
      refine hK.out _ _ (HS.out _ HR.out) (fun hHeld => ?_)
      clear hK K
      try simp only [sP]
      refine tkL 18 ?_ ?_ ?_
      rotate_left
      ·(rintro wS ⟨e0, e1, e2, e3, e4, e5⟩; go_simp; try with_reducible rfl)
      try simp only [sP]
      refine wpAnyH_done (by kernel_rfl) ?_ _
      refine NoPanic.normal ?_
      go_wp2_with fail
      go_meet
      exact ⟨r2, rfl, rfl, HL7.out.mono' (by omega), HU7, hide ⟨fun k => (HR.out.cell (p := ⟨bo, k, none⟩) (by show bo < w3.heap.size; omega) (by show ¬ (bo = s ∨ w3.heap.size ≤ bo); omega)).trans (HC3.out.1 k), fun k => (HR.out.cell (p := ⟨xp, k, none⟩) (by show xp < w3.heap.size; omega) (by show ¬ (xp = s ∨ w3.heap.size ≤ xp); omega)).trans (HC3.out.2 k)⟩, hr2w⟩
     refine tkA _ (fun K hK => ?_) ?_
     ·try rw [if_pos (by rfl)]
      go_simp
      try go_wp2_with fail
      refine hK.out _ _ (HS.out _ (HR.out.tr (keep_any (F := fun k => k = s ∨ w3.heap.size ≤ k) ((Below.refl _ _).alloc (Nat.le_refl _) _)))) (fun hHeld => ?_)
      clear hK K
      try simp only [sP]
      obtain ⟨r2, hr2⟩ : ∃ x, x = w4.heap.size := ⟨_, rfl⟩
      obtain ⟨w5a, hwn⟩ : ∃ x, x = w4.alloc (.cells #[.string { data := #[] }, .bool false] 24) := ⟨_, rfl⟩
      have hbn : Below w4.heap.size w4 w5a := by rw [hwn]; exact (Below.refl _ _).alloc (Nat.le_refl _) _
      have HU : Hid (Blk w5a r2 24 #[.string { data := #[] }, .bool false]) := hide (by rw [hwn, hr2]; exact Blk.new _ _ _)
      replace HLc := hide (HLc.out.below hbn)
      have hr2w : w3.heap.size ≤ r2 := by rw [hr2]; exact HR.out.size
      replace HR := hide (HR.out.tr (keep_any (F := fun k => k = s ∨ w3.heap.size ≤ k) hbn))
      rw [← hwn] at hHeld ⊢
      rw [← hr2]
      clear hwn hr2 hbn
      refine tkC 12 (fun K hK => ?_)
      try rw [if_pos (by rfl)]
      go_simp
      go_at_call 56
      refine (HJN.out _ HLc.out).mono ?_
      rintro e w6 ⟨rfl, ht5, hk5⟩
      replace HLc := hide (HLc.out.seen ht5 hk5 hZ1 (by omega))
      replace HU := hide (HU.out.keep hk5 (by show ¬ r2 = s; omega))
      replace HR := hide (HR.out.trans' hk5 (fun _ _ h => .inl h))
      clear ht5 hk5
      try go_wp2_with fail
      refine hK.out _ _ (HS.out _ HR.out) (fun hHeld => ?_)
      clear hK K
      try simp only [sP]
      refine tkL 13 ?_ ?_ ?_
      rotate_left
      ·(rintro wS ⟨e0, e1, e2, e3, e4, e5⟩; go_simp; try with_reducible rfl)
      try simp only [sP]
      refine tkL 14 ?_ ?_ ?_
      rotate_left
      ·(rintro wS ⟨e0, e1, e2, e3, e4, e5⟩; go_simp; try with_reducible rfl)
      try simp only [sP]
      refine tkL 15 ?_ ?_ ?_
      rotate_left
      ·(rintro wS ⟨e0, e1, e2, e3, e4, e5⟩; go_simp; try with_reducible rfl)
      try simp only [sP]
      refine tkC 17 (fun K hK => ?_)
      try rw [if_pos (by rfl)]
      have f9 := HU.out.frozen
      have c90 := HU.out.cell 0
      have c91 := HU.out.cell 1
      go_simp
      try go_wp2_with fail
      have hU2 := (HU.out.set_ 0 (S jn)).set_ 1 (.bool ja)
      have hks : Keep (fun k => w3.heap.size ≤ k) w6 ((w6.setCell ⟨r2, 0, none⟩ (S jn)).setCell ⟨r2, 1, none⟩ (.bool ja)) := ((Keep.refl (fun k => w3.heap.size ≤ k) w6).setCell (p := ⟨r2, 0, none⟩) (fun _ => hr2w) _).setCell (p := ⟨r2, 1, none⟩) (fun _ => hr2w) _
      have HL7 := hide (HLc.out.boxed HU.out ⟨jn, ja⟩ (W := w.heap.size) (fun k h => (hZ k h).2) (by omega) (by omega))
      obtain ⟨w7, hw7⟩ : ∃ x, x = (w6.setCell ⟨r2, 0, none⟩ (S jn)).setCell ⟨r2, 1, none⟩ (.bool ja) := ⟨_, rfl⟩
      rw [← hw7] at hU2 hks HL7
      rw [show ((w6.setCell ⟨r2, 0, none⟩ (.string { data := jn.toArray })).setCell ⟨r2, 1, none⟩ (.bool ja)) = w7 from hw7.symm]
      clear hw7 f9 c90 c91
      replace HR := hide (HR.out.trans' hks (fun _ _ h => .inr h))
      have HU7 : Hid (Blk w7 r2 24 #[S jn, .bool ja]) := hide (by simpa using hU2)
      clear hks hU2 HU HLc
      refine hK.out _ _ (HS.out _ HR.out) (fun hHeld => ?_)
      clear hK K
      try simp only [sP]
      refine tkL 18 ?_ ?_ ?_
      rotate_left
      ·(rintro wS ⟨e0, e1, e2, e3, e4, e5⟩; go_simp; try with_reducible rfl)
      try simp only [sP]
      refine wpAnyH_done (by kernel_rfl) ?_ _
      refine NoPanic.normal ?_
      go_wp2_with fail
      go_meet
      exact ⟨r2, rfl, rfl, HL7.out.mono' (by omega), HU7, hide ⟨fun k => (HR.out.cell (p := ⟨bo, k, none⟩) (by show bo < w3.heap.size; omega) (by show ¬ (bo = s ∨ w3.heap.size ≤ bo); omega)).trans (HC3.out.1 k), fun k => (HR.out.cell (p := ⟨xp, k, none⟩) (by show xp < w3.heap.size; omega) (by show ¬ (xp = s ∨ w3.heap.size ≤ xp); omega)).trans (HC3.out.2 k)⟩, hr2w⟩
     exact AllReadyH.nil
    case rest =>
     obtain ⟨r2, rfl, rfl, HL6, HU, HC6, hr2w⟩ := hcut
     obtain ⟨w6, rfl⟩ : ∃ x : World, x = wc := ⟨_, rfl⟩
     clear HL3 HC3 HT HJN
     have e0 : w6.cell? ⟨xp, 1, none⟩ = some (.slice (some ⟨bo, oo, none⟩) xv.st.length xsc) := (HC6.out.2 _).trans HXC.out
     have e1 : w6.cell? ⟨bo, oo + i * 2, none⟩ = some (S on) := (HC6.out.1 _).trans HC0.out.1
     have e2 : w6.cell? ⟨bo, oo + i * 2 + 1, none⟩ = some (.bool oa) := (HC6.out.1 _).trans HC0.out.2
     have e3 : w6.cell? ⟨r2, 0, none⟩ = some (S jn) := HU.out.cell 0
     have e4 : w6.cell? ⟨r2, 1, none⟩ = some (.bool ja) := HU.out.cell 1
     cases jo
     case false =>
      have HM : Hid (∀ _ : Unit, flowM T ⟨A.map (Option.map Vp.v), td⟩ j v = none) := hide (fun _ => by rw [HFM.out ()]; exact if_neg (fun h => by have h1 := okJ_all T xv.st v.st (i + 1) h; rw [okJ_take T xv.st v.st i hlt hlo, hU, hO, hJ] at h1; simp at h1))
      go_wp2_with fail
      go_ret
      exact ⟨by rw [HM.out ()] <;> rfl, HL6.out.sy.sx.vt.mono (by omega), HL6.out.sy.sx.kq.cell 13, HL6.out.kp, fun K hK => by rw [HM.out ()] at hK; cases hK⟩
     case true =>
      go_upto_region 17 with fail
      go_cut [9] (fun v9 wx => v9 = .bool (tb || decide ((⟨jn, ja⟩ : Ty) ≠ ⟨on, oa⟩)) ∧ ∃ nq, wx = w6.drewN nq)
      case first =>
       cases tb
       case true =>
        go_quiet (fail)
        go_wp2_with fail
        go_meet
        exact ⟨by simp, ⟨nq, rfl⟩⟩
       case false =>
        by_cases en : jn = on
        ·subst en
         cases ja <;> cases oa
         ·go_quiet (fail)
          go_wp2_with fail
          go_meet
          exact ⟨by simp, ⟨nq, rfl⟩⟩
         ·go_quiet (fail)
          go_wp2_with fail
          go_meet
          exact ⟨by simp, ⟨nq, rfl⟩⟩
         ·go_quiet (fail)
          go_wp2_with fail
          go_meet
          exact ⟨by simp, ⟨nq, rfl⟩⟩
         ·go_quiet (fail)
          go_wp2_with fail
          go_meet
          exact ⟨by simp, ⟨nq, rfl⟩⟩
        ·have en2 : ¬ on = jn := fun h => en h.symm
         go_quiet (fail)
         go_wp2_with fail
         go_meet
         exact ⟨by simp [en], ⟨nq, rfl⟩⟩
      case rest =>
       obtain ⟨rfl, nq, hw7⟩ := hcut
       obtain ⟨w7, rfl⟩ : ∃ x : World, x = wc := ⟨_, rfl⟩
       have HL7 : Hid (Lp w w7 B q qa gi g m s (n + 200 * i + 200) N w.heap.size T f b sg tA tc td A Z v la (some ⟨bn, on_, none⟩) lc sc j ⟨xp, xla, xlc, (some ⟨bo, oo, none⟩), xsc, xv⟩ ⟨xv.lo, mrg T xv.st (v.st.take i)⟩) := hide (by rw [hw7]; exact HL6.out.drewN _)
       have hc7 : ∀ p, w7.cell? p = w6.cell? p := fun p => by rw [hw7]; rfl
       have e0' := (hc7 _).trans e0
       have e1' := (hc7 _).trans e1
       have e2' := (hc7 _).trans e2
       have e3' := (hc7 _).trans e3
       have e4' := (hc7 _).trans e4
       clear hw7 hc7 e0 e1 e2 e3 e4 HL6 HU HC6
       obtain ⟨HL8, hfz⟩ := HL7.out.st hjA (i := i) (bb := bo) (o := oo) (by rw [mrg_len]; omega) rfl ⟨jn, ja⟩ hb5 hZ1
       have hmt : (mrg T xv.st (v.st.take i)).set i ⟨jn, ja⟩ = mrg T xv.st (v.st.take (i + 1)) := by rw [mrg_take T xv.st v.st i hlt hlo, hU, hO, hJ]
       have HTB2 : Hid (∀ _ : Unit, (tb || decide ((⟨jn, ja⟩ : Ty) ≠ ⟨on, oa⟩)) = decide (mrg T xv.st (v.st.take (i + 1)) ≠ xv.st)) := hide (fun _ => by
        have h9 := mrg_set_ne (t := ⟨jn, ja⟩) (show (mrg T xv.st (v.st.take i))[i]? = some ⟨on, oa⟩ by rw [List.getElem?_eq_getElem hly, mrg_at T xv.st v.st i hlo, hO]) (show xv.st[i]? = some ⟨on, oa⟩ by rw [List.getElem?_eq_getElem hlo, hO])
        rw [hmt] at h9
        rw [HTB.out (), h9]
        )
       rw [hmt] at HL8
       have HL9 := hide HL8
       clear HL8 HL7
       go_upto_region 18 with fail
       go_still_tail 7, (by kernel_rfl)
       go_wp2_with fail
       go_roundw
       case rel => exact ⟨i + 1, _, by omega, rfl, by go_num, hide (fun _ => by rw [← HTB2.out ()]; by_cases h1 : jn = on <;> by_cases h2 : ja = oa <;> simp [h1, h2]), hide ((HL9.out.drew).mono (by omega)), hide (by rw [okJ_take T xv.st v.st i hlt hlo, hU, hO, hJ, HOK.out]; rfl)⟩
       case measure => simp [intOf]; omega
   case neg =>
    obtain rfl : i = v.st.length := by omega
    rw [List.take_of_length_le (Nat.le_refl _)] at HTB HL HOK
    replace HFM : Hid (∀ _ : Unit, flowM T ⟨A.map (Option.map Vp.v), td⟩ j v = some ⟨(A.map (Option.map Vp.v)).set j (some ⟨mrg T xv.lo v.lo, mrg T xv.st v.st⟩), if mrg T xv.st v.st = xv.st ∧ mrg T xv.lo v.lo = xv.lo then td else td ++ [j]⟩) := hide (fun _ => by rw [HFM.out ()]; exact if_pos HOK.out)
    obtain ⟨w2b, rfl⟩ : ∃ x : World, x = wr := ⟨_, rfl⟩
    obtain ⟨tb1, rfl⟩ : ∃ x : Bool, x = tb := ⟨_, rfl⟩
    have HTB1 := HTB
    have HL1 := HL
    clear HTB HL HL0 HOK hlt hi c1'
    have c0' : w2b.cell? ⟨w.heap.size, 0, none⟩ = some (.slice la v.lo.length lc) := HL1.out.b5.cell 0
    go_wp2_with fail
    go_loopw [9, 111] (fun v9 vi wr => ∃ (i : Nat) (tb : Bool), i ≤ v.lo.length ∧ v9 = .bool tb ∧ vi = .int .i64 (i : Int) ∧ Hid (∀ _ : Unit, tb = decide (mrg T xv.st v.st ≠ xv.st ∨ mrg T xv.lo (v.lo.take (i)) ≠ xv.lo)) ∧ Hid (Lp w wr B q qa gi g m s (n + 200 * v.st.length + 200 * i) N w.heap.size T f b sg tA tc td A Z v la sa lc sc j ⟨xp, xla, xlc, xsa, xsc, xv⟩ ⟨mrg T xv.lo (v.lo.take i), mrg T xv.st v.st⟩)) (fun _ vi _ => v.lo.length - (intOf vi).toNat)
    case atStart => exact ⟨0, tb1, Nat.zero_le _, rfl, rfl, hide (fun _ => by rw [HTB1.out ()]; simp [mrg0]), hide (by simpa [mrg0] using HL1.out)⟩
    case round =>
     obtain ⟨i, tb, hi, rfl, rfl, HTB, HL⟩ := hrel
     by_cases hlt : i < v.lo.length
     case pos =>
      have hwr := HL.out.kp.size
      obtain ⟨bn, on_, rfl, hbnF, hbnl, hnc⟩ := Rd.rec_ (f := Ty.cells) (fun _ => rfl) HL.out.h1 rfl i hlt
      have hun : v.lo[i] ∈ v.lo := List.getElem_mem hlt
      have hus := hS.1 _ hun
      generalize hU : v.lo[i] = U at hnc hus
      obtain ⟨un, ua⟩ := U
      have m0 : wr.cell? ⟨bn, on_ + i * 2, none⟩ = some (S un) := hnc 0 _ rfl
      have m1 : wr.cell? ⟨bn, on_ + i * 2 + 1, none⟩ = some (.bool ua) := hnc 1 _ rfl
      clear hnc
      go_upto_region 23 with fail
      have hly : i < (mrg T xv.lo (v.lo.take i)).length := by rw [mrg_len]; omega
      have hlo : i < xv.lo.length := by omega
      have HW := hide (HL.out.x_at hjA)
      obtain ⟨bo, oo, rfl, hboF, hbol, hoc⟩ := Rd.rec_ (f := Ty.cells) (fun _ => rfl) (own_rd2 HW.out.lown) rfl i hly
      rw [mrg_at T xv.lo v.lo i hlo] at hoc
      have hos := hXS.1 _ (List.getElem_mem hlo)
      generalize hO : xv.lo[i] = O at hoc hos
      obtain ⟨on, oa⟩ := O
      have HC0 : Hid (wr.cell? ⟨bo, oo + i * 2, none⟩ = some (S on) ∧ wr.cell? ⟨bo, oo + i * 2 + 1, none⟩ = some (.bool oa)) := hide ⟨hoc 0 _ rfl, hoc 1 _ rfl⟩
      clear hoc m0 m1
      have hb5 : w.heap.size ≠ bo := by have h9 := own_blk_ne HW.out.lown HL.out.b5 (by decide); exact fun e => h9 (by rw [e]; rfl)
      have hbo : B ≤ bo := by omega
      have hbos : bo ≠ s := by omega
      have hxps : xp ≠ s := by have := HW.out.hp; have h9 : B ≤ xp := this; omega
      have hxpl : xp < wr.heap.size := HW.out.blk.lt
      have HXC : Hid (wr.cell? ⟨xp, 0, none⟩ = some (.slice (some ⟨bo, oo, none⟩) xv.lo.length xlc)) := hide (by have := HW.out.blk.cell 0; rw [mrg_len, mrg_len] at this; simpa using this)
      obtain ⟨r1, hr1⟩ : ∃ x, x = wr.heap.size := ⟨_, rfl⟩
      obtain ⟨w3, hw3⟩ : ∃ x, x = wr.alloc (.cells #[S un, .bool ua] 24) := ⟨_, rfl⟩
      have hb3 : Below wr.heap.size wr w3 := by rw [hw3]; exact (Below.refl _ _).alloc (Nat.le_refl _) _
      have HT : Hid (Blk w3 r1 24 #[S un, .bool ua]) := hide (by rw [hw3, hr1]; exact Blk.new _ _ _)
      have HL3 := hide (HL.out.below hb3)
      have hr1w : wr.heap.size ≤ r1 := by omega
      have hw3l : wr.heap.size < w3.heap.size := by rw [hw3]; simp
      have HC3 : Hid ((∀ k, w3.cell? ⟨bo, k, none⟩ = wr.cell? ⟨bo, k, none⟩) ∧ ∀ k, w3.cell? ⟨xp, k, none⟩ = wr.cell? ⟨xp, k, none⟩) := hide ⟨fun k => hb3.cell (p := ⟨bo, k, none⟩) hbol, fun k => hb3.cell (p := ⟨xp, k, none⟩) hxpl⟩
      rw [show wr.alloc (.cells #[.string { data := un.toArray }, .bool ua] 24) = w3 from hw3.symm]
      rw [← hr1]
      clear hw3 hr1 hb3
      have hrs : s < r1 := by have := HL.out.sy.sx.lt; have := HL.out.sy.sx.hB; omega
      obtain ⟨⟨⟨jn, ja⟩, jo⟩, hJ⟩ : ∃ r, joinM T ⟨on, oa⟩ ⟨un, ua⟩ = r := ⟨_, rfl⟩
      have HJN : Hid (∀ ww, Lp w ww B q qa gi g m s (n + 200 * v.st.length + 200 * i) N w.heap.size T f b sg tA tc td A Z v (some ⟨bn, on_, none⟩) sa lc sc j ⟨xp, (some ⟨bo, oo, none⟩), xlc, xsa, xsc, xv⟩ ⟨mrg T xv.lo (v.lo.take i), mrg T xv.st v.st⟩ → Calls Tryd.prog 56 #[.pointer (some ⟨gi, 0, none⟩), .agg #[S on, .bool oa], .agg #[S un, .bool ua]] ww (fun e w' => e = .returned (.tuple #[.agg #[S jn, .bool ja], .bool jo]) ∧ Tab w' g m s T (n + 200 * v.st.length + 200 * i + 200) ∧ Keep (fun b => b = s) ww w')) := hide (fun ww hL => by
       have h9 := join_any gi g m s _ T ⟨on, oa⟩ ⟨un, ua⟩ ww hL.sy.sx.vt.img hL.sy.sx.vt.tab (by omega) hL.sy.sx.vt.few hL.sy.sx.vt.sh hos hus
       rw [hJ] at h9
       exact h9)
      go_cut [16, 17] (fun vr vo wx => ∃ r2 : Nat, vr = .pointer (some ⟨r2, 0, none⟩) ∧ vo = .bool jo ∧ Hid (Lp w wx B q qa gi g m s (n + 200 * v.st.length + 200 * i + 200) N w.heap.size T f b sg tA tc td A Z v (some ⟨bn, on_, none⟩) sa lc sc j ⟨xp, (some ⟨bo, oo, none⟩), xlc, xsa, xsc, xv⟩ ⟨mrg T xv.lo (v.lo.take i), mrg T xv.st v.st⟩) ∧ Hid (Blk wx r2 24 #[S jn, .bool ja]) ∧ Hid ((∀ k, wx.cell? ⟨bo, k, none⟩ = wr.cell? ⟨bo, k, none⟩) ∧ ∀ k, wx.cell? ⟨xp, k, none⟩ = wr.cell? ⟨xp, k, none⟩) ∧ w3.heap.size ≤ r2)
      case first =>
       have HS : Hid (∀ w', Keep (fun k => k = s ∨ w3.heap.size ≤ k) w3 w' → w'.cell? ⟨q, 0, none⟩ = some (.pointer (some ⟨gi, 0, none⟩)) ∧ w'.cell? ⟨xp, 0, none⟩ = some (.slice (some ⟨bo, oo, none⟩) xv.lo.length xlc) ∧ w'.cell? ⟨bo, oo + i * 2, none⟩ = some (S on) ∧ w'.cell? ⟨bo, oo + i * 2 + 1, none⟩ = some (.bool oa) ∧ w'.cell? ⟨r1, 0, none⟩ = some (S un) ∧ w'.cell? ⟨r1, 1, none⟩ = some (.bool ua)) := hide (fun w' hk => by
        have t0 := HL3.out.sy.sx.kq.keep hk (by show ¬ (q = s ∨ w3.heap.size ≤ q); have := HL3.out.sy.sx.qs; have := HL3.out.sy.sx.kq.lt; omega)
        have t1 := HT.out.keep hk (by show ¬ (r1 = s ∨ w3.heap.size ≤ r1); have := HT.out.lt; omega)
        have t2 : ∀ k, w'.cell? ⟨bo, k, none⟩ = wr.cell? ⟨bo, k, none⟩ := fun k => (hk.cell (p := ⟨bo, k, none⟩) (by show bo < w3.heap.size; omega) (by show ¬ (bo = s ∨ w3.heap.size ≤ bo); omega)).trans (HC3.out.1 k)
        have t3 : ∀ k, w'.cell? ⟨xp, k, none⟩ = wr.cell? ⟨xp, k, none⟩ := fun k => (hk.cell (p := ⟨xp, k, none⟩) (by show xp < w3.heap.size; omega) (by show ¬ (xp = s ∨ w3.heap.size ≤ xp); omega)).trans (HC3.out.2 k)
        exact ⟨t0.cell 0, (t3 _).trans HXC.out, (t2 _).trans HC0.out.1, (t2 _).trans HC0.out.2, t1.cell 0, t1.cell 1⟩)
       have HR : Hid (Keep (fun k => k = s ∨ w3.heap.size ≤ k) w3 w3.drew) := hide (Keep.refl _ _).drew
       have HLc := hide HL3.out.drew
       refine wp_region_noPanic ?_
       refine tkB HS HR.out (fun hHeld => ?_)
       obtain ⟨w4, hw4⟩ : ∃ x, x = w3.drew := ⟨_, rfl⟩
       rw [← hw4] at hHeld HLc HR ⊢
       clear hw4
       refine tkL 0 ?_ ?_ ?_
       rotate_left
       ·(rintro wS ⟨e0, e1, e2, e3, e4, e5⟩; go_simp; try with_reducible rfl)
       try simp only [sP]
       refine tkL 1 ?_ ?_ ?_
       rotate_left
       ·(rintro wS ⟨e0, e1, e2, e3, e4, e5⟩; go_simp; try with_reducible rfl)
       try simp only [sP]
       refine tkL 2 ?_ ?_ ?_
       rotate_left
       ·(rintro wS ⟨e0, e1, e2, e3, e4, e5⟩; go_simp; try with_reducible rfl)
       try simp only [sP]
       refine tkL 3 ?_ ?_ ?_
       rotate_left
       ·(rintro wS ⟨e0, e1, e2, e3, e4, e5⟩; go_simp; try with_reducible rfl)
       try simp only [sP]
       refine tkL 4 ?_ ?_ ?_
       rotate_left
       ·(rintro wS ⟨e0, e1, e2, e3, e4, e5⟩; go_simp; try with_reducible rfl)
       try simp only [sP]
       refine tkL 5 ?_ ?_ ?_
       rotate_left
       ·(rintro wS ⟨e0, e1, e2, e3, e4, e5⟩; go_simp; try with_reducible rfl)
       try simp only [sP]
       refine tkL 6 ?_ ?_ ?_
       rotate_left
       ·(rintro wS ⟨e0, e1, e2, e3, e4, e5⟩; go_simp; try with_reducible rfl)
       try simp only [sP]
       refine tkL 7 ?_ ?_ ?_
       rotate_left
       ·(rintro wS ⟨e0, e1, e2, e3, e4, e5⟩; go_simp; try with_reducible rfl)
       try simp only [sP]
       refine tkL 8 ?_ ?_ ?_
       rotate_left
       ·(rintro wS ⟨e0, e1, e2, e3, e4, e5⟩; go_simp; try with_reducible rfl)
       try simp only [sP]
       refine tkL 9 ?_ ?_ ?_
       rotate_left
       ·(rintro wS ⟨e0, e1, e2, e3, e4, e5⟩; go_simp; try with_reducible rfl)
       try simp only [sP]
       refine tkL 10 ?_ ?_ ?_
       rotate_left
       ·(rintro wS ⟨e0, e1, e2, e3, e4, e5⟩; go_simp; try with_reducible rfl)
       try simp only [sP]
       refine tkL 11 ?_ ?_ ?_
       rotate_left
       ·(rintro wS ⟨e0, e1, e2, e3, e4, e5⟩; go_simp; try with_reducible rfl)
       try simp only [sP]
       refine wpAnyH_ready (rs := [12, 16]) (by kernel_rfl) (by simp) ?_
       refine tkA _ (fun K hK => ?_) ?_
       ·try rw [if_pos (by rfl)]
        go_simp
        go_at_call 56
        refine (HJN.out _ HLc.out).mono ?_
        rintro e w5 ⟨rfl, ht5, hk5⟩
        replace HLc := hide (HLc.out.seen ht5 hk5 hZ1 (by omega))
        replace HR := hide (HR.out.trans' hk5 (fun _ _ h => .inl h))
        clear ht5 hk5
        try go_wp2_with fail
        refine hK.out _ _ (HS.out _ HR.out) (fun hHeld => ?_)
        clear hK K
        try simp only [sP]
        refine tkL 13 ?_ ?_ ?_
        rotate_left
        ·(rintro wS ⟨e0, e1, e2, e3, e4, e5⟩; go_simp; try with_reducible rfl)
        try simp only [sP]
        refine tkL 14 ?_ ?_ ?_
        rotate_left
        ·(rintro wS ⟨e0, e1, e2, e3, e4, e5⟩; go_simp; try with_reducible rfl)
        try simp only [sP]
        refine tkL 15 ?_ ?_ ?_
        rotate_left
        ·(rintro wS ⟨e0, e1, e2, e3, e4, e5⟩; go_simp; try with_reducible rfl)
        try simp only [sP]
        refine tkC 16 (fun K hK => ?_)
        try rw [if_pos (by rfl)]
        go_simp
        try go_wp2_with fail
        refine hK.out _ _ (HS.out _ (HR.out.tr (keep_any (F := fun k => k = s ∨ w3.heap.size ≤ k) ((Below.refl _ _).alloc (Nat.le_refl _) _)))) (fun hHeld => ?_)
        clear hK K
        try simp only [sP]
        obtain ⟨r2, hr2⟩ : ∃ x, x = w5.heap.size := ⟨_, rfl⟩
        obtain ⟨w6, hwn⟩ : ∃ x, x = w5.alloc (.cells #[.string { data := #[] }, .bool false] 24) := ⟨_, rfl⟩
        have hbn : Below w5.heap.size w5 w6 := by rw [hwn]; exact (Below.refl _ _).alloc (Nat.le_refl _) _
        have HU : Hid (Blk w6 r2 24 #[.string { data := #[] }, .bool false]) := hide (by rw [hwn, hr2]; exact Blk.new _ _ _)
        replace HLc := hide (HLc.out.below hbn)
        have hr2w : w3.heap.size ≤ r2 := by rw [hr2]; exact HR.out.size
        replace HR := hide (HR.out.tr (keep_any (F := fun k => k = s ∨ w3.heap.size ≤ k) hbn))
        rw [← hwn] at hHeld ⊢
        rw [← hr2]
        clear hwn hr2 hbn
        refine tkC 17 (fun K hK => ?_)
        try rw [if_pos (by rfl)]
        have f9 := HU.out.frozen
        have c90 := HU.out.cell 0
        have c91 := HU.out.cell 1
        go_simp
        try go_wp2_with fail
        have hU2 := (HU.out.set_ 0 (S jn)).set_ 1 (.bool ja)
        have hks : Keep (fun k => w3.heap.size ≤ k) w6 ((w6.setCell ⟨r2, 0, none⟩ (S jn)).setCell ⟨r2, 1, none⟩ (.bool ja)) := ((Keep.refl (fun k => w3.heap.size ≤ k) w6).setCell (p := ⟨r2, 0, none⟩) (fun _ => hr2w) _).setCell (p := ⟨r2, 1, none⟩) (fun _ => hr2w) _
        have HL7 := hide (HLc.out.boxed HU.out ⟨jn, ja⟩ (W := w.heap.size) (fun k h => (hZ k h).2) (by omega) (by omega))
        obtain ⟨w7, hw7⟩ : ∃ x, x = (w6.setCell ⟨r2, 0, none⟩ (S jn)).setCell ⟨r2, 1, none⟩ (.bool ja) := ⟨_, rfl⟩
        rw [← hw7] at hU2 hks HL7
        rw [show ((w6.setCell ⟨r2, 0, none⟩ (.string { data := jn.toArray })).setCell ⟨r2, 1, none⟩ (.bool ja)) = w7 from hw7.symm]
        clear hw7 f9 c90 c91
        replace HR := hide (HR.out.trans' hks (fun _ _ h => .inr h))
        have HU7 : Hid (Blk w7 r2 24 #[S jn, .bool ja]) := hide (by simpa using hU2)
        clear hks hU2 HU HLc
        refine hK.out _ _ (HS.out _ HR.out) (fun hHeld => ?_)
        clear hK K
        try simp only [sP]
        refine tkL 18 ?_ ?_ ?_
        rotate_left
        ·(rintro wS ⟨e0, e1, e2, e3, e4, e5⟩; go_simp; try with_reducible rfl)
        try simp only [sP]
        refine wpAnyH_done (by kernel_rfl) ?_ _
        refine NoPanic.normal ?_
        go_wp2_with fail
        go_meet
        exact ⟨r2, rfl, rfl, HL7.out.mono' (by omega), HU7, hide ⟨fun k => (HR.out.cell (p := ⟨bo, k, none⟩) (by show bo < w3.heap.size; omega) (by show ¬ (bo = s ∨ w3.heap.size ≤ bo); omega)).trans (HC3.out.1 k), fun k => (HR.out.cell (p := ⟨xp, k, none⟩) (by show xp < w3.heap.size; omega) (by show ¬ (xp = s ∨ w3.heap.size ≤ xp); omega)).trans (HC3.out.2 k)⟩, hr2w⟩
       refine tkA _ (fun K hK => ?_) ?_
       ·try rw [if_pos (by rfl)]
        go_simp
        try go_wp2_with fail
        refine hK.out _ _ (HS.out _ (HR.out.tr (keep_any (F := fun k => k = s ∨ w3.heap.size ≤ k) ((Below.refl _ _).alloc (Nat.le_refl _) _)))) (fun hHeld => ?_)
        clear hK K
        try simp only [sP]
        obtain ⟨r2, hr2⟩ : ∃ x, x = w4.heap.size := ⟨_, rfl⟩
        obtain ⟨w5a, hwn⟩ : ∃ x, x = w4.alloc (.cells #[.string { data := #[] }, .bool false] 24) := ⟨_, rfl⟩
        have hbn : Below w4.heap.size w4 w5a := by rw [hwn]; exact (Below.refl _ _).alloc (Nat.le_refl _) _
        have HU : Hid (Blk w5a r2 24 #[.string { data := #[] }, .bool false]) := hide (by rw [hwn, hr2]; exact Blk.new _ _ _)
        replace HLc := hide (HLc.out.below hbn)
        have hr2w : w3.heap.size ≤ r2 := by rw [hr2]; exact HR.out.size
        replace HR := hide (HR.out.tr (keep_any (F := fun k => k = s ∨ w3.heap.size ≤ k) hbn))
        rw [← hwn] at hHeld ⊢
        rw [← hr2]
        clear hwn hr2 hbn
        refine tkC 12 (fun K hK => ?_)
        try rw [if_pos (by rfl)]
        go_simp
        go_at_call 56
        refine (HJN.out _ HLc.out).mono ?_
        rintro e w6 ⟨rfl, ht5, hk5⟩
        replace HLc := hide (HLc.out.seen ht5 hk5 hZ1 (by omega))
        replace HU := hide (HU.out.keep hk5 (by show ¬ r2 = s; omega))
        replace HR := hide (HR.out.trans' hk5 (fun _ _ h => .inl h))
        clear ht5 hk5
        try go_wp2_with fail
        refine hK.out _ _ (HS.out _ HR.out) (fun hHeld => ?_)
        clear hK K
        try simp only [sP]
        refine tkL 13 ?_ ?_ ?_
        rotate_left
        ·(rintro wS ⟨e0, e1, e2, e3, e4, e5⟩; go_simp; try with_reducible rfl)
        try simp only [sP]
        refine tkL 14 ?_ ?_ ?_
        rotate_left
        ·(rintro wS ⟨e0, e1, e2, e3, e4, e5⟩; go_simp; try with_reducible rfl)
        try simp only [sP]
        refine tkL 15 ?_ ?_ ?_
        rotate_left
        ·(rintro wS ⟨e0, e1, e2, e3, e4, e5⟩; go_simp; try with_reducible rfl)
        try simp only [sP]
        refine tkC 17 (fun K hK => ?_)
        try rw [if_pos (by rfl)]
        have f9 := HU.out.frozen
        have c90 := HU.out.cell 0
        have c91 := HU.out.cell 1
        go_simp
        try go_wp2_with fail
        have hU2 := (HU.out.set_ 0 (S jn)).set_ 1 (.bool ja)
        have hks : Keep (fun k => w3.heap.size ≤ k) w6 ((w6.setCell ⟨r2, 0, none⟩ (S jn)).setCell ⟨r2, 1, none⟩ (.bool ja)) := ((Keep.refl (fun k => w3.heap.size ≤ k) w6).setCell (p := ⟨r2, 0, none⟩) (fun _ => hr2w) _).setCell (p := ⟨r2, 1, none⟩) (fun _ => hr2w) _
        have HL7 := hide (HLc.out.boxed HU.out ⟨jn, ja⟩ (W := w.heap.size) (fun k h => (hZ k h).2) (by omega) (by omega))
        obtain ⟨w7, hw7⟩ : ∃ x, x = (w6.setCell ⟨r2, 0, none⟩ (S jn)).setCell ⟨r2, 1, none⟩ (.bool ja) := ⟨_, rfl⟩
        rw [← hw7] at hU2 hks HL7
        rw [show ((w6.setCell ⟨r2, 0, none⟩ (.string { data := jn.toArray })).setCell ⟨r2, 1, none⟩ (.bool ja)) = w7 from hw7.symm]
        clear hw7 f9 c90 c91
        replace HR := hide (HR.out.trans' hks (fun _ _ h => .inr h))
        have HU7 : Hid (Blk w7 r2 24 #[S jn, .bool ja]) := hide (by simpa using hU2)
        clear hks hU2 HU HLc
        refine hK.out _ _ (HS.out _ HR.out) (fun hHeld => ?_)
        clear hK K
        try simp only [sP]
        refine tkL 18 ?_ ?_ ?_
        rotate_left
        ·(rintro wS ⟨e0, e1, e2, e3, e4, e5⟩; go_simp; try with_reducible rfl)
        try simp only [sP]
        refine wpAnyH_done (by kernel_rfl) ?_ _
        refine NoPanic.normal ?_
        go_wp2_with fail
        go_meet
        exact ⟨r2, rfl, rfl, HL7.out.mono' (by omega), HU7, hide ⟨fun k => (HR.out.cell (p := ⟨bo, k, none⟩) (by show bo < w3.heap.size; omega) (by show ¬ (bo = s ∨ w3.heap.size ≤ bo); omega)).trans (HC3.out.1 k), fun k => (HR.out.cell (p := ⟨xp, k, none⟩) (by show xp < w3.heap.size; omega) (by show ¬ (xp = s ∨ w3.heap.size ≤ xp); omega)).trans (HC3.out.2 k)⟩, hr2w⟩
       exact AllReadyH.nil
      case rest =>
       obtain ⟨r2, rfl, rfl, HL6, HU, HC6, hr2w⟩ := hcut
       obtain ⟨w6, rfl⟩ : ∃ x : World, x = wc := ⟨_, rfl⟩
       clear HL3 HC3 HT HJN
       have e0 : w6.cell? ⟨xp, 0, none⟩ = some (.slice (some ⟨bo, oo, none⟩) xv.lo.length xlc) := (HC6.out.2 _).trans HXC.out
       have e1 : w6.cell? ⟨bo, oo + i * 2, none⟩ = some (S on) := (HC6.out.1 _).trans HC0.out.1
       have e2 : w6.cell? ⟨bo, oo + i * 2 + 1, none⟩ = some (.bool oa) := (HC6.out.1 _).trans HC0.out.2
       have e3 : w6.cell? ⟨r2, 0, none⟩ = some (S jn) := HU.out.cell 0
       have e4 : w6.cell? ⟨r2, 1, none⟩ = some (.bool ja) := HU.out.cell 1
       go_upto_region 24 with fail
       go_cut [9] (fun v9 wx => v9 = .bool (tb || decide ((⟨jn, ja⟩ : Ty) ≠ ⟨on, oa⟩)) ∧ ∃ nq, wx = w6.drewN nq)
       case first =>
        cases tb
        case true =>
         go_quiet (fail)
         go_wp2_with fail
         go_meet
         exact ⟨by simp, ⟨nq, rfl⟩⟩
        case false =>
         by_cases en : jn = on
         ·subst en
          cases ja <;> cases oa
          ·go_quiet (fail)
           go_wp2_with fail
           go_meet
           exact ⟨by simp, ⟨nq, rfl⟩⟩
          ·go_quiet (fail)
           go_wp2_with fail
           go_meet
           exact ⟨by simp, ⟨nq, rfl⟩⟩
          ·go_quiet (fail)
           go_wp2_with fail
           go_meet
           exact ⟨by simp, ⟨nq, rfl⟩⟩
          ·go_quiet (fail)
           go_wp2_with fail
           go_meet
           exact ⟨by simp, ⟨nq, rfl⟩⟩
         ·have en2 : ¬ on = jn := fun h => en h.symm
          go_quiet (fail)
          go_wp2_with fail
          go_meet
          exact ⟨by simp [en], ⟨nq, rfl⟩⟩
       case rest =>
        obtain ⟨rfl, nq, hw7⟩ := hcut
        obtain ⟨w7, rfl⟩ : ∃ x : World, x = wc := ⟨_, rfl⟩
        have HL7 : Hid (Lp w w7 B q qa gi g m s (n + 200 * v.st.length + 200 * i + 200) N w.heap.size T f b sg tA tc td A Z v (some ⟨bn, on_, none⟩) sa lc sc j ⟨xp, (some ⟨bo, oo, none⟩), xlc, xsa, xsc, xv⟩ ⟨mrg T xv.lo (v.lo.take i), mrg T xv.st v.st⟩) := hide (by rw [hw7]; exact HL6.out.drewN _)
        have hc7 : ∀ p, w7.cell? p = w6.cell? p := fun p => by rw [hw7]; rfl
        have e0' := (hc7 _).trans e0
        have e1' := (hc7 _).trans e1
        have e2' := (hc7 _).trans e2
        have e3' := (hc7 _).trans e3
        have e4' := (hc7 _).trans e4
        clear hw7 hc7 e0 e1 e2 e3 e4 HL6 HU HC6
        obtain ⟨HL8, hfz⟩ := HL7.out.lo hjA (i := i) (bb := bo) (o := oo) (by rw [mrg_len]; omega) rfl ⟨jn, ja⟩ hb5 hZ1
        have hmt : (mrg T xv.lo (v.lo.take i)).set i ⟨jn, ja⟩ = mrg T xv.lo (v.lo.take (i + 1)) := by rw [mrg_take T xv.lo v.lo i hlt hlo, hU, hO, hJ]
        have HTB2 : Hid (∀ _ : Unit, (tb || decide ((⟨jn, ja⟩ : Ty) ≠ ⟨on, oa⟩)) = decide (mrg T xv.st v.st ≠ xv.st ∨ mrg T xv.lo (v.lo.take (i + 1)) ≠ xv.lo)) := hide (fun _ => by
         have h9 := mrg_set_ne (t := ⟨jn, ja⟩) (show (mrg T xv.lo (v.lo.take i))[i]? = some ⟨on, oa⟩ by rw [List.getElem?_eq_getElem hly, mrg_at T xv.lo v.lo i hlo, hO]) (show xv.lo[i]? = some ⟨on, oa⟩ by rw [List.getElem?_eq_getElem hlo, hO])
         rw [hmt] at h9
         rw [HTB.out (), Bool.decide_or, Bool.decide_or, h9, Bool.or_assoc]
         )
        rw [hmt] at HL8
        have HL9 := hide HL8
        clear HL8 HL7
        go_upto_region 25 with fail
        go_still_tail 7, (by kernel_rfl)
        go_wp2_with fail
        go_roundw
        case rel => exact ⟨i + 1, _, by omega, rfl, by go_num, hide (fun _ => by rw [← HTB2.out ()]; by_cases h1 : jn = on <;> by_cases h2 : ja = oa <;> simp [h1, h2]), hide ((HL9.out.drew).mono (by omega))⟩
        case measure => simp [intOf]; omega
     case neg =>
      obtain rfl : i = v.lo.length := by omega
      rw [List.take_of_length_le (Nat.le_refl _)] at HTB HL
      obtain ⟨w3b, rfl⟩ : ∃ x : World, x = wr := ⟨_, rfl⟩
      clear HTB1 HL1 hlt hi c0'
      have hjs : (A.set j (some ⟨xp, xla, xlc, xsa, xsc, ⟨mrg T xv.lo v.lo, mrg T xv.st v.st⟩⟩)).map (Option.map Vp.v) = (A.map (Option.map Vp.v)).set j (some ⟨mrg T xv.lo v.lo, mrg T xv.st v.st⟩) := by rw [List.map_set]; rfl
      cases tb
      case false =>
       have HM : Hid (∀ _ : Unit, flowM T ⟨A.map (Option.map Vp.v), td⟩ j v = some ⟨(A.map (Option.map Vp.v)).set j (some ⟨mrg T xv.lo v.lo, mrg T xv.st v.st⟩), td⟩) := hide (fun _ => by
        have h9 := HTB.out ()
        simp at h9
        rw [HFM.out (), if_pos ⟨h9.1, h9.2⟩])
       go_wp2_with fail
       go_ret
       exact ⟨by rw [HM.out ()] <;> rfl, HL.out.sy.sx.vt.mono (by omega), HL.out.sy.sx.kq.cell 13, HL.out.kp, fun K hK => by
        rw [HM.out ()] at hK
        injection hK with hK
        subst hK
        exact ⟨_, tA, tc, hjs.symm, HL.out.vk.weak (fun k hz _ => .inl hz), HL.out.sy.mono (by omega)⟩⟩
      case true =>
       have HM : Hid (∀ _ : Unit, flowM T ⟨A.map (Option.map Vp.v), td⟩ j v = some ⟨(A.map (Option.map Vp.v)).set j (some ⟨mrg T xv.lo v.lo, mrg T xv.st v.st⟩), td ++ [j]⟩) := hide (fun _ => by
        have h9 := HTB.out ()
        rw [HFM.out (), if_neg (fun h => by simp [h.1, h.2] at h9)])
       have q20 : w3b.cell? ⟨q, 20, none⟩ = some (.slice tA td.length tc) := HL.out.sy.sx.kq.cell 20
       have hqn : (Value.slice tA td.length tc).ownBlock ≠ some q := own_blk_ne HL.out.vk.todo HL.out.sy.sx.kq (by decide)
       have HOWN := hide HL.out.vk.todo
       have hszb := HL.out.sy.sx.hB
       go_wp2_with (at_builtin; refine app1 rfl (.tmp 157) (.tmp 159) 77 rfl B 3 (.int .i64 0) 8 Tryd.underlying77 int_info rfl _ _ _ rfl HOWN.out (.int .i64 (j : Int)) rfl rfl (by omega) (by omega) (by omega) ?_; intro a5 c5 w5 hown5 hgrow5 hat5; have hk5 : Keep (fun k => (Value.slice tA td.length tc).ownBlock = some k) w3b w5 := (Keep.refl _ w3b).grown hgrow5 (fun k hk _ => hk); have HK5 := hide hk5; have HO5 := hide hown5; have HA5 := hide hat5; have d0 : w5.cell? ⟨q, 20, none⟩ = some (.slice tA td.length tc) := (HL.out.sy.sx.kq.keep hk5 (fun e => hqn e)).cell 20; have d1 : w5.frozen? ⟨q, 20, none⟩ = false := (HL.out.sy.sx.kq.keep hk5 (fun e => hqn e)).frozen 20; clear hown5 hgrow5 hat5 hk5)
       go_ret
       obtain ⟨g5, rfl⟩ := own_some HO5.out (by omega)
       have hG5 : (Value.slice tA td.length tc).ownBlock = some g5 ∨ w3b.heap.size ≤ g5 := by
        rcases HA5.out with e | e
        ·have e2 : (Value.slice (some ⟨g5, 0, none⟩) (td.length + 1) c5).ownBlock = (Value.slice tA td.length tc).ownBlock := e
         exact .inl (e2.symm.trans rfl)
        ·right; have e2 : g5 = w3b.heap.size + 1 := by simpa [Value.ownBlock] using e
         omega
       have hv5 := HL.out.vk.app HO5.out HK5.out hG5
       have hy5 := HL.out.sy.high (HK5.out.mono (fun k _ e => (own_base HL.out.vk.todo e).1))
       have hy6 := hy5.todo (.slice (some ⟨g5, 0, none⟩) (td.length + 1) c5)
       have hks : Keep (fun k => k = q) w5 (w5.setCell ⟨q, 20, none⟩ (.slice (some ⟨g5, 0, none⟩) (td.length + 1) c5)) := (Keep.refl (fun k => k = q) w5).setCell (p := ⟨q, 20, none⟩) (fun _ => rfl) _
       have hszw := HL.out.kp.size
       exact ⟨by rw [HM.out ()] <;> rfl, hy6.sx.vt.mono (by omega), hy6.sx.kq.cell 13, (HL.out.kp.trans' HK5.out (fun k _ e => .inr (.inr (HL.out.vk.zt k e)))).trans' hks (fun k _ e => .inr (.inl e)), fun K hK => by
        rw [HM.out ()] at hK
        injection hK with hK
        subst hK
        refine ⟨_, some ⟨g5, 0, none⟩, c5, hjs.symm, (hv5.keep hks (fun k hz _ e => ?_)).weak (fun k hz _ => hz.imp id (fun h => by omega)), by have h9 := hy6.mono (show n + 200 * v.st.length + 200 * v.lo.length ≤ n + 1000000 by omega); simpa using h9⟩
        subst e
        rcases hz with hz | hz
        ·have := hZ1 k hz; omega
        ·omega⟩
end Go.Proofs.YtmbegaobnpoefaaDoor
