/- A state behind an instruction that is right: verify's step; no statement of the seat is proved here. (Written by gen/vstepz.py.) -/
import Derived.Test.YtmbegaobnpoefaaDoorMCliStepA
import Derived.Test.YtmbegaobnpoefaaDoorMCliStepB
import Derived.Test.YtmbegaobnpoefaaDoorMCliStepC
import Derived.Test.YtmbegaobnpoefaaDoorMCliStepD
import Derived.Test.YtmbegaobnpoefaaDoorMCliStepE
import Derived.Test.YtmbegaobnpoefaaDoorMCliStepG
import Derived.Test.YtmbegaobnpoefaaDoorMCliStepF
import Derived.Test.YtmbegaobnpoefaaDoorMCliObjT
import Derived.Test.YtmbegaobnpoefaaDoorMCliObj2
import Derived.Test.YtmbegaobnpoefaaDoorMCliObj3
namespace Go.Proofs.YtmbegaobnpoefaaDoor
open Go.RowKit Go.Maps
set_option linter.unusedVariables false
theorem rt_idx {c a v : Int} (h : rtC c a v = true) (hp : (pl c == 0) = false) : 0 ≤ a ∧ a < v := by
 unfold rtC at h
 rw [hp] at h
 simp only [Bool.and_eq_true, decide_eq_true_eq, if_false, Bool.false_eq_true] at h
 exact h.2
theorem rt_pos {c a v : Int} (h : rtC c a v = true) : 0 ≤ a ∧ 1 ≤ c ∧ c ≤ 32 := by
 unfold rtC kn at h
 simp only [Bool.and_eq_true, decide_eq_true_eq] at h
 refine ⟨?_, h.1.1, h.1.2⟩
 have h2 := h.2
 split at h2
 ·simp at h2; omega
 ·simp only [Bool.and_eq_true, decide_eq_true_eq] at h2; exact h2.1
def InsOk (f : Fl) (b : Bd) (x : Int × Int) : Prop := rtC x.1 x.2 (manyV f.ppl b.pl (pl x.1)) = true
set_option maxRecDepth 100000 in
set_option maxHeartbeats 4000000 in
theorem step_any {w : World} {B q p gi g m s n : Nat} {T : List Fc} {f : Fl} {b : Bd} {sg : Sg} {va vd : Value} {v : Vs} (h : Sx w B q gi g m s n T f b sg va vd) (hv : WsE w B p v) (hS : VsS v) (hn : n ≤ 5000000000000000)
  (hlo : (v.lo.length : Int) = b.lo) (hps : ∀ x ∈ f.mts, x.m.k ≤ 200) (c a : Int) (hx : InsOk f b (c, a)) :
  Calls Tryd.prog 42 #[.pointer (some ⟨q, 0, none⟩), .pointer (some ⟨p, 0, none⟩), .agg #[.int .i64 c, .int .i64 a]] w (StpEnd w B q p gi g m s n T f b sg va vd 200000 (stepM T f.ppl b.sk sg.r c a.toNat v)) := by
 replace hx : rtC c a (manyV f.ppl b.pl (pl c)) = true := hx
 obtain ⟨h0, h1, h2⟩ := rt_pos hx
 obtain ⟨k, hk⟩ : ∃ k : Nat, a = (k : Int) := ⟨a.toNat, (Int.toNat_of_nonneg h0).symm⟩
 subst hk
 rw [Int.toNat_natCast]
 have up : ∀ {r e w'}, StpEnd w B q p gi g m s n T f b sg va vd 100000 r e w' → StpEnd w B q p gi g m s n T f b sg va vd 200000 r e w' := fun h => ⟨h.1, h.2.1.mono (by omega), h.2.2⟩
 have hc : c = 1 ∨ c = 2 ∨ c = 3 ∨ c = 4 ∨ c = 5 ∨ c = 6 ∨ c = 7 ∨ c = 8 ∨ c = 9 ∨ c = 10 ∨ c = 11 ∨ c = 12 ∨ c = 13 ∨ c = 14 ∨ c = 15 ∨ c = 16 ∨ c = 17 ∨ c = 18 ∨ c = 19 ∨ c = 20 ∨ c = 21 ∨ c = 22 ∨ c = 23 ∨ c = 24 ∨ c = 25 ∨ c = 26 ∨ c = 27 ∨ c = 28 ∨ c = 29 ∨ c = 30 ∨ c = 31 ∨ c = 32 := by omega
 rcases hc with rfl | rfl | rfl | rfl | rfl | rfl | rfl | rfl | rfl | rfl | rfl | rfl | rfl | rfl | rfl | rfl | rfl | rfl | rfl | rfl | rfl | rfl | rfl | rfl | rfl | rfl | rfl | rfl | rfl | rfl | rfl | rfl
 ·exact (step1 w B q p gi g m s n T f b sg va vd v k h hv hS (by omega)).mono fun _ _ h => up h
 ·exact (step2 w B q p gi g m s n T f b sg va vd v k h hv hS (by omega)).mono fun _ _ h => up h
 ·have ha : k < v.lo.length := by have h3 := (rt_idx hx (by decide)).2; rw [show manyV f.ppl b.pl (pl 3) = b.lo from rfl] at h3; omega
  exact (step3 w B q p gi g m s n T f b sg va vd v k h hv hS (by omega) ha).mono fun _ _ h => up h
 ·have ha : k < v.lo.length := by have h3 := (rt_idx hx (by decide)).2; rw [show manyV f.ppl b.pl (pl 4) = b.lo from rfl] at h3; omega
  exact (step4 w B q p gi g m s n T f b sg va vd v k h hv hS (by omega) ha).mono fun _ _ h => up h
 ·exact (step5 w B q p gi g m s n T f b sg va vd v k h hv hS (by omega)).mono fun _ _ h => up h
 ·exact (step6 w B q p gi g m s n T f b sg va vd v k h hv hS (by omega)).mono fun _ _ h => up h
 ·exact (step7 w B q p gi g m s n T f b sg va vd v k h hv hS (by omega)).mono fun _ _ h => up h
 ·exact (step8 w B q p gi g m s n T f b sg va vd v k h hv hS (by omega)).mono fun _ _ h => up h
 ·exact (step9 w B q p gi g m s n T f b sg va vd v k h hv hS (by omega)).mono fun _ _ h => up h
 ·exact (step10 w B q p gi g m s n T f b sg va vd v k h hv hS (by omega)).mono fun _ _ h => up h
 ·exact (step11 w B q p gi g m s n T f b sg va vd v k h hv hS (by omega)).mono fun _ _ h => up h
 ·exact (step12 w B q p gi g m s n T f b sg va vd v k h hv hS (by omega)).mono fun _ _ h => up h
 ·exact (step13 w B q p gi g m s n T f b sg va vd v k h hv hS (by omega)).mono fun _ _ h => up h
 ·exact (step14 w B q p gi g m s n T f b sg va vd v k h hv hS (by omega)).mono fun _ _ h => up h
 ·exact (step15 w B q p gi g m s n T f b sg va vd v k h hv hS (by omega)).mono fun _ _ h => up h
 ·have ha : k < f.dl := by have h3 := (rt_idx hx (by decide)).2; rw [show manyV f.ppl b.pl (pl 16) = (f.ppl.fds.length : Int) from rfl] at h3; have h4 := h.fl.po.dL; have h5 : f.ppl.fds.length = f.fds.length := (by first | rfl | (show (f.mts.map Mt.pl).length = _; simp)); omega
  exact step16 w B q p gi g m s n T f b sg va vd v k h hv hS hn (fun ww n' hx hv hn => obj16 ww B q p gi g m s n' T f b sg va vd v k hx hv hS hn ha)
 ·have ha : k < f.dl := by have h3 := (rt_idx hx (by decide)).2; rw [show manyV f.ppl b.pl (pl 17) = (f.ppl.fds.length : Int) from rfl] at h3; have h4 := h.fl.po.dL; have h5 : f.ppl.fds.length = f.fds.length := (by first | rfl | (show (f.mts.map Mt.pl).length = _; simp)); omega
  exact step17 w B q p gi g m s n T f b sg va vd v k h hv hS hn (fun ww n' hx hv hn => obj17 ww B q p gi g m s n' T f b sg va vd v k hx hv hS hn ha)
 ·have ha : k < f.cl := by have h3 := (rt_idx hx (by decide)).2; rw [show manyV f.ppl b.pl (pl 18) = (f.ppl.cls.length : Int) from rfl] at h3; have h4 := h.fl.po.cL; have h5 : f.ppl.cls.length = f.cls.length := (by first | rfl | (show (f.mts.map Mt.pl).length = _; simp)); omega
  exact step18 w B q p gi g m s n T f b sg va vd v k h hv hS hn (fun ww n' hx hv hn => obj18 ww B q p gi g m s n' T f b sg va vd v k hx hv hS hn ha)
 ·have ha : k < f.tl := by have h3 := (rt_idx hx (by decide)).2; rw [show manyV f.ppl b.pl (pl 19) = (f.ppl.tys.length : Int) from rfl] at h3; have h4 := h.fl.po.tL; have h5 : f.ppl.tys.length = f.tys.length := (by first | rfl | (show (f.mts.map Mt.pl).length = _; simp)); omega
  exact step19 w B q p gi g m s n T f b sg va vd v k h hv hS hn (fun ww n' hx hv hn => obj19 ww B q p gi g m s n' T f b sg va vd v k hx hv hS hn ha)
 ·have ha : k < f.tl := by have h3 := (rt_idx hx (by decide)).2; rw [show manyV f.ppl b.pl (pl 20) = (f.ppl.tys.length : Int) from rfl] at h3; have h4 := h.fl.po.tL; have h5 : f.ppl.tys.length = f.tys.length := (by first | rfl | (show (f.mts.map Mt.pl).length = _; simp)); omega
  exact step20 w B q p gi g m s n T f b sg va vd v k h hv hS hn (fun ww n' hx hv hn => obj20 ww B q p gi g m s n' T f b sg va vd v k hx hv hS hn (fun w2 n2 hx2 hv2 hn2 => arr20 w2 B q p gi g m s n2 T f b sg va vd v k hx2 hv2 hS hn2 ha))
 ·have ha : k < f.tl := by have h3 := (rt_idx hx (by decide)).2; rw [show manyV f.ppl b.pl (pl 21) = (f.ppl.tys.length : Int) from rfl] at h3; have h4 := h.fl.po.tL; have h5 : f.ppl.tys.length = f.tys.length := (by first | rfl | (show (f.mts.map Mt.pl).length = _; simp)); omega
  exact step21 w B q p gi g m s n T f b sg va vd v k h hv hS hn (fun ww n' hx hv hn => obj21 ww B q p gi g m s n' T f b sg va vd v k hx hv hS hn (fun w2 n2 hx2 hv2 hn2 => arr21 w2 B q p gi g m s n2 T f b sg va vd v k hx2 hv2 hS hn2 ha))
 ·exact step22 w B q p gi g m s n T f b sg va vd v k h hv hS hn (fun ww n' hx hv hn => obj22 ww B q p gi g m s n' T f b sg va vd v k hx hv hS hn (fun w2 n2 hx2 hv2 hn2 => by have h9 := arr22 w2 B q p gi g m s n2 T f b sg va vd v (k : Int) hx2 hv2 hS hn2; rw [Int.toNat_natCast] at h9; exact h9))
 ·have ha : k < f.cl := by have h3 := (rt_idx hx (by decide)).2; rw [show manyV f.ppl b.pl (pl 23) = (f.ppl.cls.length : Int) from rfl] at h3; have h4 := h.fl.po.cL; have h5 : f.ppl.cls.length = f.cls.length := (by first | rfl | (show (f.mts.map Mt.pl).length = _; simp)); omega
  exact step23 w B q p gi g m s n T f b sg va vd v k h hv hS hn (fun ww n' hx hv hn => obj23 ww B q p gi g m s n' T f b sg va vd v k hx hv hS hn ha)
 ·exact step24 w B q p gi g m s n T f b sg va vd v k h hv hS hn (fun ww n' hx hv hn => obj24 ww B q p gi g m s n' T f b sg va vd v k hx hv hS hn)
 ·have ha : k < f.ml := by have h3 := (rt_idx hx (by decide)).2; rw [show manyV f.ppl b.pl (pl 25) = (f.ppl.mts.length : Int) from rfl] at h3; have h4 := h.fl.po.mL; have h5 : f.ppl.mts.length = f.mts.length := (by first | rfl | (show (f.mts.map Mt.pl).length = _; simp)); omega
  exact step25 w B q p gi g m s n T f b sg va vd v k h hv hS hn (fun ww n' hx hv hn => obj25 ww B q p gi g m s n' T f b sg va vd v k hx hv hS hn ha hps)
 ·have ha : k < f.ml := by have h3 := (rt_idx hx (by decide)).2; rw [show manyV f.ppl b.pl (pl 26) = (f.ppl.mts.length : Int) from rfl] at h3; have h4 := h.fl.po.mL; have h5 : f.ppl.mts.length = f.mts.length := (by first | rfl | (show (f.mts.map Mt.pl).length = _; simp)); omega
  exact step26 w B q p gi g m s n T f b sg va vd v k h hv hS hn (fun ww n' hx hv hn => obj26 ww B q p gi g m s n' T f b sg va vd v k hx hv hS hn ha hps)
 ·exact (step27 w B q p gi g m s n T f b sg va vd v k h hv hS (by omega)).mono fun _ _ h => up h
 ·exact (step28 w B q p gi g m s n T f b sg va vd v k h hv hS (by omega)).mono fun _ _ h => up h
 ·exact (step29 w B q p gi g m s n T f b sg va vd v k h hv hS (by omega)).mono fun _ _ h => up h
 ·exact (step30 w B q p gi g m s n T f b sg va vd v k h hv hS (by omega)).mono fun _ _ h => up h
 ·exact (step31 w B q p gi g m s n T f b sg va vd v k h hv hS (by omega)).mono fun _ _ h => up h
 ·exact (step32 w B q p gi g m s n T f b sg va vd v k h hv hS (by omega)).mono fun _ _ h => up h
end Go.Proofs.YtmbegaobnpoefaaDoor
