/- A state behind an instruction: walked; no statement of the seat is proved here. (Written by gen/vstep.py.) -/
import Derived.Test.YtmbegaobnpoefaaDoorMTk2
import Derived.Test.YtmbegaobnpoefaaDoorMCliObj
import Derived.BigRegion
import Derived.Deep.RegionHeld3
namespace Go.Proofs.YtmbegaobnpoefaaDoor
open Go.RowKit Go.Maps
set_option linter.unusedVariables false
set_option linter.unusedSimpArgs false
theorem set_cells (l : List Ty) : ∀ (a : Nat) (t : Ty), a < l.length → ((l.flatMap Ty.cells).set (a * 2) (S t.n)).set (a * 2 + 1) (.bool t.a) = (l.set a t).flatMap Ty.cells := by
 induction l with
 | nil => intro a t h; simp at h
 | cons x l ih =>
  intro a t h
  cases a with
  | zero => simp [List.flatMap_cons, Ty.cells]
  | succ a =>
   have := ih a t (by simpa using h)
   rw [show (a + 1) * 2 = a * 2 + 2 by omega, show a * 2 + 2 + 1 = a * 2 + 1 + 2 by omega]
   simp only [List.flatMap_cons, Ty.cells, List.cons_append, List.nil_append, List.set_cons_succ]
   rw [← this]
theorem own_set {w : World} {B n c bb o : Nat} {l : List Ty} (h : w.ownsRow B 24 2 (.slice (some ⟨bb, o, none⟩) n c) n (l.flatMap Ty.cells)) {a : Nat} (ha : a < l.length) (t : Ty) :
  o = 0 ∧ ((w.setCell ⟨bb, o + a * 2, none⟩ (S t.n)).setCell ⟨bb, o + a * 2 + 1, none⟩ (.bool t.a)).ownsRow B 24 2 (.slice (some ⟨bb, o, none⟩) n c) n ((l.set a t).flatMap Ty.cells) ∧ ∀ i, w.frozen? ⟨bb, i, none⟩ = false := by
 have hl := h.1
 rcases h.2 with ⟨e, _⟩ | ⟨g, cap, cur, hv, hb, hh, hnc, hcm, hcs, ht⟩
 ·injection e with e; cases e
 ·injection hv with e1 e3 e4
  injection e1 with e1
  injection e1 with e1 e2
  subst e1 e2 e4
  refine ⟨rfl, ⟨?_, .inr ⟨bb, c, (cur.setIfInBounds (0 + a * 2) (S t.n)).setIfInBounds (0 + a * 2 + 1) (.bool t.a), rfl, hb, ?_, hnc, hcm, by simpa using hcs, ?_⟩⟩, fun i => ?_⟩
  ·rw [← set_cells l a t ha]; simpa using hl
  ·have h1 := (show Blk w bb 24 cur from hh)
   exact (h1.set_ (0 + a * 2) (S t.n)).set_ (0 + a * 2 + 1) (.bool t.a)
  ·rw [← set_cells l a t ha, ← ht]
   simp only [Array.toList_setIfInBounds, Nat.zero_add]
   have hla : l.length = n := by have := flat_len Ty.cells 2 (fun _ => rfl) l; omega
   rw [List.take_set, List.take_set]
  ·exact (show Blk w bb 24 cur from hh).frozen i
theorem lo_set {w : World} {B p lc sc bb o a : Nat} {sa : Option Addr} {lo st : List Ty} (h : Ws w B p (some ⟨bb, o, none⟩) lc sa sc lo st) (ha : a < lo.length) (t : Ty) :
  Ws ((w.setCell ⟨bb, o + a * 2, none⟩ (S t.n)).setCell ⟨bb, o + a * 2 + 1, none⟩ (.bool t.a)) B p (some ⟨bb, o, none⟩) lc sa sc (lo.set a t) st ∧ ∀ i, w.frozen? ⟨bb, i, none⟩ = false := by
 obtain ⟨ho, h1, h2⟩ := own_set h.lown ha t
 have hk : Keep (fun k => k = bb) w ((w.setCell ⟨bb, o + a * 2, none⟩ (S t.n)).setCell ⟨bb, o + a * 2 + 1, none⟩ (.bool t.a)) := ((Keep.refl (fun k => k = bb) w).setCell (p := ⟨bb, o + a * 2, none⟩) (fun _ => rfl) _).setCell (p := ⟨bb, o + a * 2 + 1, none⟩) (fun _ => rfl) _
 have hbp : p ≠ bb := by
  have := own_blk_ne h.lown h.blk (by decide)
  simp [Value.ownBlock] at this
  exact fun e => this e.symm
 refine ⟨⟨?_, h.hp, by rw [List.length_set]; exact h1, own_keep h.sown hk (fun k hk e => h.ne bb rfl (by rw [hk, e])), by rw [List.length_set]; exact h.ne⟩, h2⟩
 have := h.blk.keep hk hbp
 rw [List.length_set]
 exact this
set_option maxRecDepth 100000 in
set_option maxHeartbeats 4000000 in
theorem step4 (w : World) (B q p gi g m s n : Nat) (T : List Fc) (f : Fl) (b : Bd) (sg : Sg) (va vd : Value) (v : Vs) (a : Nat) (h : Sx w B q gi g m s n T f b sg va vd) (hv : WsE w B p v) (hS : VsS v) (hn : n ≤ 6000000000000000) (ha : a < v.lo.length) :
  Calls Tryd.prog 42 #[.pointer (some ⟨q, 0, none⟩), .pointer (some ⟨p, 0, none⟩), .agg #[.int .i64 4, .int .i64 (a : Int)]] w (StpEnd w B q p gi g m s n T f b sg va vd 100000 (stepM T f.ppl b.sk sg.r 4 a v)) := by
 obtain ⟨hBp, hpl⟩ := hv.n.hp
 have hlt := h.lt
 have hBw := h.hB
 obtain ⟨w1, hw1⟩ : ∃ w1, w1 = w.alloc (.cells #[.int .i64 4, .int .i64 (a : Int)] 87) := ⟨_, rfl⟩
 have hb1 : Blk w1 w.heap.size 87 #[.int .i64 4, .int .i64 (a : Int)] := by rw [hw1]; exact Blk.new _ _ _
 have hbb : Below w.heap.size w w1 := by rw [hw1]; exact (Below.refl _ w).alloc (Nat.le_refl _) _
 have HX := hide (h.below hbb)
 have HV := hide (hv.n.below hbb)
 have HF : Hid (Keep (Fr3 s B w.heap.size) w w1) := hide (keep_fr hbb)
 have HI : Hid (Blk w1 w.heap.size 87 #[.int .i64 4, .int .i64 (a : Int)]) := hide hb1
 have i0 : w1.cell? ⟨w.heap.size, 0, none⟩ = some (.int .i64 4) := hb1.cell 0
 have i1 : w1.cell? ⟨w.heap.size, 1, none⟩ = some (.int .i64 (a : Int)) := hb1.cell 1
 have hwl : w.heap.size < w1.heap.size := hb1.lt
 clear h hbb hb1
 go_enter Tryd.func42, Tryd.ntmps42
 go_upto_region 1 with fail
 rw [← hw1]
 clear hw1
 have hS2 : v.st.length ≤ 2000 := hS.2.2.2
 go_upto_region 2 with (first | (go_at_call 12; refine (int_any _).mono ?_; rintro e w2 ⟨rfl, hb2⟩; replace HX := hide (HX.out.below hb2); replace HV := hide (HV.out.below hb2); replace HF := hide (HF.out.tr (keep_fr hb2)); replace HI := hide (HI.out.below hb2 HI.out.lt); clear hb2) | (go_at_call 58; refine (bool_any _).mono ?_; rintro e w3 ⟨rfl, hb3⟩; replace HX := hide (HX.out.below hb3); replace HV := hide (HV.out.below hb3); replace HF := hide (HF.out.tr (keep_fr hb3)); replace HI := hide (HI.out.below hb3 HI.out.lt); clear hb3))
 obtain ⟨w4, hw4⟩ : ∃ x, x = w3.alloc (.cells #[S [105, 110, 116], .bool false] 24) := ⟨_, rfl⟩
 obtain ⟨w5, hw5⟩ : ∃ x, x = w4.alloc (.cells #[S [98, 111, 111, 108], .bool false] 24) := ⟨_, rfl⟩
 obtain ⟨r7, hr7⟩ : ∃ x, x = w3.heap.size := ⟨_, rfl⟩
 have hs4 : w4.heap.size = r7 + 1 := by rw [hw4, hr7]; simp
 obtain ⟨r8, hr8⟩ : ∃ x, x = r7 + 1 := ⟨_, rfl⟩
 have HT : Hid (Blk w5 r7 24 #[S [105, 110, 116], .bool false]) := hide (by rw [hw5, hw4, hr7]; exact (Blk.new _ _ _).alloc _)
 have HU : Hid (Blk w5 r8 24 #[S [98, 111, 111, 108], .bool false]) := hide (by rw [hr8, ← hs4, hw5]; exact Blk.new _ _ _)
 have hl_r7 : w.heap.size ≤ r7 := by rw [hr7]; exact HF.out.size
 have hbel : Below w3.heap.size w3 w5 := by rw [hw5, hw4]; exact ((Below.refl _ _).alloc (Nat.le_refl _) _).alloc (by simp) _
 replace HX := hide (HX.out.below hbel)
 replace HV := hide (HV.out.below hbel)
 replace HF := hide (HF.out.tr (keep_fr hbel))
 replace HI := hide (HI.out.below hbel HI.out.lt)
 rw [← hw4, ← hw5, ← hr7, ← hr8]
 have hlr8 : w.heap.size ≤ r8 := by omega
 clear hw4 hw5 hr7 hs4 hr8 hbel i0 i1
 have i0 : w5.cell? ⟨w.heap.size, 0, none⟩ = some (.int .i64 4) := HI.out.cell 0
 have i1 : w5.cell? ⟨w.heap.size, 1, none⟩ = some (.int .i64 (a : Int)) := HI.out.cell 1
 have p0 : w5.cell? ⟨r7, 0, none⟩ = some (S [105, 110, 116]) := HT.out.cell 0
 have p1 : w5.cell? ⟨r7, 1, none⟩ = some (.bool false) := HT.out.cell 1
 have u0 : w5.cell? ⟨r8, 0, none⟩ = some (S [98, 111, 111, 108]) := HU.out.cell 0
 have u1 : w5.cell? ⟨r8, 1, none⟩ = some (.bool false) := HU.out.cell 1
 have ha2 : a < (dr v).lo.length := ha
 rcases hL : v.st.getLast? with _ | ⟨tn, ta⟩
 ·have HM : Hid (∀ _ : Unit, stepM T f.ppl b.sk sg.r 4 a v = none) := hide (fun _ => by unfold stepM; (iterate 4 rw [if_neg (by decide)]); rw [if_pos (by decide)]; rw [hL])
  have HTK : Hid (TkE B q gi g m s T f b sg va vd w.heap.size p (v) (.tuple #[.agg #[S [], .bool false], .bool false]) (dr (v))) := hide (fun ww n' hx hv => by have := take_k hx hv (by have := hS.2.2.2; first | omega | (simp [dr]; omega)); rw [hL] at this; exact this)
  clear hL
  go_upto_region 13 with (go_at_call 61; refine (HTK.out _ _ HX.out HV.out).mono ?_; rintro e w6 ⟨rfl, hx6, hk6, hv6⟩; replace HX := hide hx6; replace HF := hide (HF.out.tr hk6); replace HI := hide (HI.out.keep hk6 (by unfold Fr3; omega)); replace HV := hide hv6; clear hx6 hk6 hv6)
  obtain ⟨w7, hw7⟩ : ∃ x, x = w6.alloc (.cells #[S [], .bool false] 24) := ⟨_, rfl⟩
  obtain ⟨r9, hr9⟩ : ∃ x, x = w6.heap.size := ⟨_, rfl⟩
  have HD : Hid (Blk w7 r9 24 #[S [], .bool false]) := hide (by rw [hw7, hr9]; exact Blk.new _ _ _)
  have hl_r9 : w.heap.size ≤ r9 := by rw [hr9]; exact HF.out.size
  have hbel : Below w6.heap.size w6 w7 := by rw [hw7]; exact (Below.refl _ _).alloc (Nat.le_refl _) _
  replace HX := hide (HX.out.below hbel)
  replace HV := hide (HV.out.below hbel)
  replace HF := hide (HF.out.tr (keep_fr hbel))
  replace HI := hide (HI.out.below hbel HI.out.lt)
  rw [← hw7]
  rw [← hr9]
  clear hw7 hr9 hbel
  clear HTK p0 p1 u0 u1 i0 i1
  have i0 : w7.cell? ⟨w.heap.size, 0, none⟩ = some (.int .i64 4) := HI.out.cell 0
  have i1 : w7.cell? ⟨w.heap.size, 1, none⟩ = some (.int .i64 (a : Int)) := HI.out.cell 1
  have d0 : w7.cell? ⟨r9, 0, none⟩ = some (S []) := HD.out.cell 0
  have d1 : w7.cell? ⟨r9, 1, none⟩ = some (.bool false) := HD.out.cell 1
  obtain ⟨la, lc, sa, sc, HWs, hpN, hlN, hsN⟩ := HV.out
  have HWS := hide HWs
  obtain ⟨bb, o, rfl, hbF, hbb, hct⟩ := Rd.rec_ (f := Ty.cells) (fun _ => rfl) (own_rd2 HWs.lown) rfl a ha2
  have k0 : w7.cell? ⟨p, 0, none⟩ = some (.slice (some ⟨bb, o, none⟩) v.lo.length lc) := HWs.blk.cell 0
  obtain ⟨HST, hfz⟩ := lo_set HWs ha2 (⟨[], false⟩)
  generalize (dr v).lo[a] = X at hct
  obtain ⟨xn, xa⟩ := X
  have k1 : w7.cell? ⟨bb, o + a * 2, none⟩ = some (S xn) := hct 0 _ rfl
  have k2 : w7.cell? ⟨bb, o + a * 2 + 1, none⟩ = some (.bool xa) := hct 1 _ rfl
  have f1 : ∀ i, w7.frozen? ⟨bb, i, none⟩ = false := hfz
  have hblo : B ≤ bb ∧ bb < w.heap.size := ⟨by omega, hlN _ rfl⟩
  clear hct HWs hfz
  go_still_tail 8, (by kernel_rfl)
  go_wp2_with fail
  go_ret
  have hks : Keep (fun k => k = bb) w7 ((w7.setCell ⟨bb, o + a * 2, none⟩ (S [])).setCell ⟨bb, o + a * 2 + 1, none⟩ (.bool false)) := ((Keep.refl (fun k => k = bb) w7).setCell (p := ⟨bb, o + a * 2, none⟩) (fun _ => rfl) _).setCell (p := ⟨bb, o + a * 2 + 1, none⟩) (fun _ => rfl) _
  exact ⟨by rw [HM.out ()] <;> rfl, ((HX.out.high (hks.mono (fun k _ e => by omega))).mono (by omega)).drew, (HF.out.trans' hks (fun k _ e => .inr (by omega))).drew, fun x hx => by rw [HM.out ()] at hx; cases hx⟩
 ·have HM : Hid (∀ _ : Unit, stepM T f.ppl b.sk sg.r 4 a v = some ⟨v.lo.set a ⟨tn, ta⟩, v.st.dropLast⟩) := hide (fun _ => by unfold stepM; (iterate 4 rw [if_neg (by decide)]); rw [if_pos (by decide)]; rw [hL])
  have HTK : Hid (TkE B q gi g m s T f b sg va vd w.heap.size p (v) (.tuple #[.agg #[S tn, .bool ta], .bool true]) (dr (v))) := hide (fun ww n' hx hv => by have := take_k hx hv (by have := hS.2.2.2; first | omega | (simp [dr]; omega)); rw [hL] at this; exact this)
  clear hL
  go_upto_region 13 with (go_at_call 61; refine (HTK.out _ _ HX.out HV.out).mono ?_; rintro e w6 ⟨rfl, hx6, hk6, hv6⟩; replace HX := hide hx6; replace HF := hide (HF.out.tr hk6); replace HI := hide (HI.out.keep hk6 (by unfold Fr3; omega)); replace HV := hide hv6; clear hx6 hk6 hv6)
  obtain ⟨w7, hw7⟩ : ∃ x, x = w6.alloc (.cells #[S tn, .bool ta] 24) := ⟨_, rfl⟩
  obtain ⟨r9, hr9⟩ : ∃ x, x = w6.heap.size := ⟨_, rfl⟩
  have HD : Hid (Blk w7 r9 24 #[S tn, .bool ta]) := hide (by rw [hw7, hr9]; exact Blk.new _ _ _)
  have hl_r9 : w.heap.size ≤ r9 := by rw [hr9]; exact HF.out.size
  have hbel : Below w6.heap.size w6 w7 := by rw [hw7]; exact (Below.refl _ _).alloc (Nat.le_refl _) _
  replace HX := hide (HX.out.below hbel)
  replace HV := hide (HV.out.below hbel)
  replace HF := hide (HF.out.tr (keep_fr hbel))
  replace HI := hide (HI.out.below hbel HI.out.lt)
  rw [← hw7]
  rw [← hr9]
  clear hw7 hr9 hbel
  clear HTK p0 p1 u0 u1 i0 i1
  have i0 : w7.cell? ⟨w.heap.size, 0, none⟩ = some (.int .i64 4) := HI.out.cell 0
  have i1 : w7.cell? ⟨w.heap.size, 1, none⟩ = some (.int .i64 (a : Int)) := HI.out.cell 1
  have d0 : w7.cell? ⟨r9, 0, none⟩ = some (S tn) := HD.out.cell 0
  have d1 : w7.cell? ⟨r9, 1, none⟩ = some (.bool ta) := HD.out.cell 1
  obtain ⟨la, lc, sa, sc, HWs, hpN, hlN, hsN⟩ := HV.out
  have HWS := hide HWs
  obtain ⟨bb, o, rfl, hbF, hbb, hct⟩ := Rd.rec_ (f := Ty.cells) (fun _ => rfl) (own_rd2 HWs.lown) rfl a ha2
  have k0 : w7.cell? ⟨p, 0, none⟩ = some (.slice (some ⟨bb, o, none⟩) v.lo.length lc) := HWs.blk.cell 0
  obtain ⟨HST, hfz⟩ := lo_set HWs ha2 (⟨tn, ta⟩)
  generalize (dr v).lo[a] = X at hct
  obtain ⟨xn, xa⟩ := X
  have k1 : w7.cell? ⟨bb, o + a * 2, none⟩ = some (S xn) := hct 0 _ rfl
  have k2 : w7.cell? ⟨bb, o + a * 2 + 1, none⟩ = some (.bool xa) := hct 1 _ rfl
  have f1 : ∀ i, w7.frozen? ⟨bb, i, none⟩ = false := hfz
  have hblo : B ≤ bb ∧ bb < w.heap.size := ⟨by omega, hlN _ rfl⟩
  clear hct HWs hfz
  go_still_tail 8, (by kernel_rfl)
  go_wp2_with fail
  go_ret
  have hks : Keep (fun k => k = bb) w7 ((w7.setCell ⟨bb, o + a * 2, none⟩ (S tn)).setCell ⟨bb, o + a * 2 + 1, none⟩ (.bool ta)) := ((Keep.refl (fun k => k = bb) w7).setCell (p := ⟨bb, o + a * 2, none⟩) (fun _ => rfl) _).setCell (p := ⟨bb, o + a * 2 + 1, none⟩) (fun _ => rfl) _
  exact ⟨by rw [HM.out ()] <;> rfl, ((HX.out.high (hks.mono (fun k _ e => by omega))).mono (by omega)).drew, (HF.out.trans' hks (fun k _ e => .inr (by omega))).drew, fun x hx => by rw [HM.out ()] at hx; injection hx with hx; subst hx; exact WsE.drew ⟨_, _, _, _, HST⟩⟩
end Go.Proofs.YtmbegaobnpoefaaDoor
