/- Verification of a method: what stands at the head of its loop; no statement of the seat is proved here. (Written by gen/vrunl.py.) -/
import Derived.Test.YtmbegaobnpoefaaDoorMCliRunP
namespace Go.Proofs.YtmbegaobnpoefaaDoor
open Go.RowKit Go.Maps
set_option linter.unusedVariables false
structure Rm (T : List Fc) (p : PoolP) (sk : Int) (ret : Ty) (code : List (Int × Int)) (nl N : Nat) (r : Bool) (fu : Nat) (K : Vm) : Prop where
 gd : Gd nl sk N K
 sh : ShK K
 run : r = runM T p sk ret code fu K
 mu : mu T nl sk K < fu
section
variable {T : List Fc} {p : PoolP} {sk : Int} {ret : Ty} {code : List (Int × Int)} {nl N fu i : Nat} {r : Bool} {K K' : Vm}
theorem Rm.done (h : Rm T p sk ret code nl N r fu K) (hk : K.todo = []) : r = true := by
 obtain ⟨f, rfl⟩ : ∃ f, fu = f + 1 := ⟨fu - 1, by have := h.mu; omega⟩
 rw [h.run, runM_end hk]
theorem Rm.td_lt (h : Rm T p sk ret code nl N r fu K) : K.todo.length < fu := by
 have h1 := h.mu
 unfold Go.Proofs.YtmbegaobnpoefaaDoor.mu at h1
 omega
theorem Rm.stop (h : Rm T p sk ret code nl N r fu K) (hi : K.todo.getLast? = some i) (hn : nextM T p sk ret code i ⟨K.at_, K.todo.dropLast⟩ = none) : r = false := by
 obtain ⟨f, rfl⟩ : ∃ f, fu = f + 1 := ⟨fu - 1, by have := h.mu; omega⟩
 rw [h.run, runM_turn hi, hn]
theorem Rm.turn (h : Rm T p sk ret code nl N r (fu + 1) K) (hT : Ends T) (hs : ∀ f ∈ T, short f.su) (hp : PoS p) (hi : K.todo.getLast? = some i) (hn : nextM T p sk ret code i ⟨K.at_, K.todo.dropLast⟩ = some K') : Rm T p sk ret code nl N r fu K' := by
 have hne : K.todo ≠ [] := by rintro e; rw [e] at hi; cases hi
 have h1 := next_gd hT h.gd.pop hn
 have h2 := mu_pop (T := T) (nl := nl) (sk := sk) hne
 refine ⟨h1.1, next_sho hs hp (K := ⟨K.at_, K.todo.dropLast⟩) h.sh hn, ?_, ?_⟩
 ·rw [h.run, runM_turn hi, hn]
 ·have := h.mu
  have := h1.2
  omega
theorem Rm.at_ (h : Rm T p sk ret code nl N r fu K) (hi : K.todo.getLast? = some i) : ∃ v, K.at_[i]? = some (some v) ∧ Fit nl sk v ∧ Sho v := by
 obtain ⟨v, hv⟩ := h.gd.td i (List.mem_of_getLast? hi)
 exact ⟨v, hv, h.gd.fit v (List.mem_of_getElem? hv), h.sh v (List.mem_of_getElem? hv)⟩
end
theorem VsS.of {nl : Nat} {sk : Int} {v : Vs} (h : Fit nl sk v) (hs : Sho v) (h1 : nl ≤ 1000) (h2 : sk ≤ 2000) : VsS v := ⟨hs.1, hs.2, by have := h.1; omega, by have := h.2; omega⟩
theorem Vk.last {w : World} {B q qa tc i : Nat} {Z : Nat → Prop} {A : List (Option Vp)} {tA : Option Addr} {td : List Nat} {t : TypeId} {cs : Array Value} (h : Vk w B qa Z A tA tc (td ++ [i])) (hq : Blk w q t cs) (hqB : q < B) (hZ : ∀ k, Z k → B ≤ k) :
  Vk (w.setCell ⟨q, 20, none⟩ (.slice tA td.length tc)) B qa Z A tA tc td := by
 have hs : Keep (fun k => k = q) w (w.setCell ⟨q, 20, none⟩ (.slice tA td.length tc)) := (Keep.refl (fun k => k = q) w).setCell (p := ⟨q, 20, none⟩) (fun _ => rfl) _
 have h1 : Vk w B qa Z A tA tc td := by
  refine ⟨h.atb, ?_, h.ws, h.dj, h.zq, fun k hk => h.zt k ?_, h.zs⟩
  ·have := shrink_own h.todo (k := td.length) (by simp)
   simpa [List.map_append] using this
  ·rw [← hk]; cases tA <;> rfl
 exact h1.keep hs (fun k hz _ e => by have := hZ k hz; omega)
theorem Sy.base {w : World} {B N q gi g m s n : Nat} {T : List Fc} {f : Fl} {b : Bd} {sg : Sg} {va vd : Value} (h : Sy w B q gi g m s n T f b sg va vd) (hB : B ≤ N) (hN : N ≤ w.heap.size) : Sx w N q gi g m s n T f b sg va vd := by
 obtain ⟨h1, h2, h3, h4, h5⟩ := h.sx.lt
 refine ⟨h.sx.vt, h.sx.kq, h.sx.fl.weak (fun k e => ?_), h.sx.bd.weak (fun k e => ?_), h.sx.sg.weak (fun k e => ?_), ⟨by omega, by omega, by omega, by omega, by omega⟩, hN⟩
 all_goals rcases e with e | e; exact .inl e; exact .inr (by omega)
structure Rl (w0 w : World) (B q qa gi g m s M N : Nat) (T : List Fc) (f : Fl) (b : Bd) (sg : Sg) (r : Bool) (n fu : Nat) (A : List (Option Vp)) (tA : Option Addr) (tc : Nat) (td : List Nat) : Prop where
 vk : Vk w B qa (fun k => B ≤ k ∧ k < w.heap.size) A tA tc td
 sy : Sy w B q gi g m s n T f b sg (.slice (some ⟨qa, 0, none⟩) N N) (.slice tA td.length tc)
 len : A.length = N
 rm : Rm T f.ppl b.sk sg.r b.code b.lo.toNat N r fu ⟨A.map (Option.map Vp.v), td⟩
 le : fu ≤ 10000000
 lk : n + 3000000 * fu ≤ M
 kp : Keep (fun k => k = s ∨ k = q ∨ B ≤ k) w0 w
structure Rc (N M : Nat) (T : List Fc) (f : Fl) (b : Bd) : Prop where
 ends : Ends T
 pos : PoS f.ppl
 ins : ∀ x ∈ b.code, InsOk f b x
 lo : 0 ≤ b.lo ∧ b.lo ≤ 1000
 sk : b.sk ≤ 2000
 k : b.k = N
 N : N ≤ 100000
 M : M ≤ 4000000000000000
 ps : ∀ x ∈ f.mts, x.m.k ≤ 200
section
variable {w0 w : World} {B q qa gi g m s M N n fu tc i : Nat} {T : List Fc} {f : Fl} {b : Bd} {sg : Sg} {r : Bool} {A : List (Option Vp)} {tA : Option Addr} {td : List Nat}
theorem Rl.x (h : Rl w0 w B q qa gi g m s M N T f b sg r n fu A tA tc (td ++ [i])) (c : Rc N M T f b) : ∃ x : Vp, A[i]? = some (some x) ∧ VsS x.v ∧ (x.v.lo.length : Int) = b.lo ∧ i < N := by
 obtain ⟨v, hv, h1, h2⟩ := h.rm.at_ (i := i) (by simp)
 rw [List.getElem?_map, Option.map_eq_some_iff] at hv
 obtain ⟨o, ho, hx⟩ := hv
 rw [Option.map_eq_some_iff] at hx
 obtain ⟨x, rfl, rfl⟩ := hx
 have := c.lo
 refine ⟨x, ho, VsS.of h1 h2 (by omega) c.sk, by have := h1.1; omega, ?_⟩
 rw [← h.len]
 exact (List.getElem?_eq_some_iff.1 ho).1
theorem Rc.fits (c : Rc N M T f b) {K : Vm} {A : List (Option Vp)} (e : K.at_ = A.map (Option.map Vp.v)) (h1 : Gd b.lo.toNat b.sk N K) (h2 : ShK K) {v : Vs} (hv : (v.lo.length : Int) = b.lo) : ∀ (j : Nat) (x : Vp), A[j]? = some (some x) → VsS x.v ∧ x.v.lo.length = v.lo.length := by
 intro j x hx
 have hm : some x.v ∈ K.at_ := by
  rw [e]
  exact List.mem_of_getElem? (i := j) (by rw [List.getElem?_map, hx]; rfl)
 have hf := h1.fit x.v hm
 have := c.lo
 exact ⟨VsS.of hf (h2 x.v hm) (by omega) c.sk, by have := hf.1; omega⟩
end
end Go.Proofs.YtmbegaobnpoefaaDoor
