/- Verification of a method: a round of its loop; no statement of the seat is proved here. (Written by gen/vrunn.py.) -/
import Derived.Test.YtmbegaobnpoefaaDoorMCliRunL
namespace Go.Proofs.YtmbegaobnpoefaaDoor
open Go.RowKit Go.Maps
set_option linter.unusedVariables false
theorem le_k {n M fu : Nat} (h : n + 3000000 * (fu + 1) ≤ M) (k : Nat) (hk : k ≤ 3000000) : n + k ≤ M := by omega
theorem le_k2 {n M fu : Nat} (h : n + 3000000 * (fu + 1) ≤ M) (k1 k2 : Nat) (hk : k1 + k2 ≤ 3000000) : n + k1 + k2 ≤ M := by omega
theorem le_k3 {n M fu : Nat} (h : n + 3000000 * (fu + 1) ≤ M) (k1 k2 k3 : Nat) (hk : k1 + k2 + k3 ≤ 3000000) : n + k1 + k2 + k3 ≤ M := by omega
theorem le_n {n : Nat} (k : Nat) (hk : k ≤ 3000000) : n + k ≤ n + 3000000 := by omega
theorem le_n2 {n : Nat} (k1 k2 : Nat) (hk : k1 + k2 ≤ 3000000) : n + k1 + k2 ≤ n + 3000000 := by omega
theorem le_n3 {n : Nat} (k1 k2 k3 : Nat) (hk : k1 + k2 + k3 ≤ 3000000) : n + k1 + k2 + k3 ≤ n + 3000000 := by omega
theorem nextM_none {T : List Fc} {p : PoolP} {sk : Int} {ret : Ty} {code : List (Int × Int)} {i : Nat} {L : List (Option Vs)} {td : List Nat} {v : Vs} {ic ia : Int} (hv : L[i]? = some (some v)) (hx : code[i]? = some (ic, ia)) (h : stepM T p sk ret ic ia.toNat v = none) : nextM T p sk ret code i ⟨L, td⟩ = none := by
 unfold nextM
 simp only [List.getD_eq_getElem?_getD, hv, hx, Option.getD_some, h]
theorem nextM_some {T : List Fc} {p : PoolP} {sk : Int} {ret : Ty} {code : List (Int × Int)} {i : Nat} {L : List (Option Vs)} {td : List Nat} {v v' : Vs} {ic ia : Int} (hv : L[i]? = some (some v)) (hx : code[i]? = some (ic, ia)) (h : stepM T p sk ret ic ia.toNat v = some v') :
  nextM T p sk ret code i ⟨L, td⟩ = match (if ic = 27 ∨ ic = 28 then flowM T ⟨L, td⟩ ia.toNat v' else some ⟨L, td⟩) with
   | none => none
   | some K1 => if ic = 27 ∨ ic = 29 then some K1 else flowM T K1 (i + 1) v' := by
 unfold nextM
 simp only [List.getD_eq_getElem?_getD, hv, hx, Option.getD_some, h]
 rfl
section
variable {w0 w wx : World} {B q qa gi g m s M N n nx fu tc tc' i : Nat} {T : List Fc} {f : Fl} {b : Bd} {sg : Sg} {r : Bool} {A A' : List (Option Vp)} {tA tA' : Option Addr} {td : List Nat} {K' : Vm} {Z : Nat → Prop}
theorem Rl.next (h : Rl w0 w B q qa gi g m s M N T f b sg r n (fu + 1) A tA tc (td ++ [i])) (c : Rc N M T f b) (hn : nextM T f.ppl b.sk sg.r b.code i ⟨A.map (Option.map Vp.v), td⟩ = some K') (hat : K'.at_ = A'.map (Option.map Vp.v))
  (hvk : Vk wx B qa Z A' tA' tc' K'.todo) (hZ : ∀ k, Z k → B ≤ k) (hsy : Sy wx B q gi g m s nx T f b sg (.slice (some ⟨qa, 0, none⟩) N N) (.slice tA' K'.todo.length tc')) (hnx : nx ≤ n + 3000000) (hkp : Keep (fun k => k = s ∨ k = q ∨ B ≤ k) w0 wx) :
  Rl w0 wx B q qa gi g m s M N T f b sg r nx fu A' tA' tc' K'.todo := by
 have h1 := h.rm.turn (i := i) (K' := K') c.ends h.sy.sx.vt.sh c.pos (by simp) (by simpa using hn)
 have h2 := h1.gd.len
 rw [hat, List.length_map] at h2
 have h3 : (⟨A'.map (Option.map Vp.v), K'.todo⟩ : Vm) = K' := by rw [← hat]
 refine ⟨hvk.weak (fun k hz hk => ⟨hZ k hz, hk⟩), hsy, h2, by rw [h3]; exact h1, by have := h.le; omega, by have := h.lk; omega, hkp⟩
theorem Rl.bad (h : Rl w0 w B q qa gi g m s M N T f b sg r n (fu + 1) A tA tc (td ++ [i])) (hn : nextM T f.ppl b.sk sg.r b.code i ⟨A.map (Option.map Vp.v), td⟩ = none) : r = false := h.rm.stop (i := i) (by simp) (by simpa using hn)
theorem Rl.pop (h : Rl w0 w B q qa gi g m s M N T f b sg r n (fu + 1) A tA tc (td ++ [i])) : Gd b.lo.toNat b.sk N ⟨A.map (Option.map Vp.v), td⟩ ∧ ShK ⟨A.map (Option.map Vp.v), td⟩ ∧ mu T b.lo.toNat b.sk ⟨A.map (Option.map Vp.v), td⟩ < fu + 1 := by
 have h1 := h.rm.gd.pop
 have h2 := mu_pop (T := T) (nl := b.lo.toNat) (sk := b.sk) (K := ⟨A.map (Option.map Vp.v), td ++ [i]⟩) (by simp)
 have h3 := h.rm.mu
 have e : (⟨A.map (Option.map Vp.v), (td ++ [i]).dropLast⟩ : Vm) = ⟨A.map (Option.map Vp.v), td⟩ := by simp
 simp only [e] at h1 h2
 exact ⟨h1, h.rm.sh, by omega⟩
end
structure Mm (w0 w : World) (B N5 N6 q qa gi g m s N n : Nat) (T : List Fc) (f : Fl) (b : Bd) (sg : Sg) (Z : Nat → Prop) (A : List (Option Vp)) (tA : Option Addr) (tc : Nat) (td : List Nat) (r6 p7 : Nat) (la sa : Option Addr) (lc sc : Nat) (v : Vs) (ic ja : Int) : Prop where
 vk : Vk w B qa Z A tA tc td
 sy : Sy w B q gi g m s n T f b sg (.slice (some ⟨qa, 0, none⟩) N N) (.slice tA td.length tc)
 kp : Keep (fun k => k = s ∨ k = q ∨ B ≤ k) w0 w
 r1 : Rd w (fun k => k < N5 ∨ N6 ≤ k) 2 la v.lo.length (v.lo.flatMap Ty.cells)
 r2 : Rd w (fun k => k < N5 ∨ N6 ≤ k) 2 sa v.st.length (v.st.flatMap Ty.cells)
 bp : Blk w p7 113 #[.slice la v.lo.length lc, .slice sa v.st.length sc]
 bi : Blk w r6 87 #[.int .i64 ic, .int .i64 ja]
 nm : N5 ≤ p7 ∧ p7 < N6 ∧ N6 ≤ w.heap.size ∧ B ≤ r6 ∧ r6 < N5
 hz : ∀ k, Z k → (B ≤ k ∧ k < r6) ∨ (N6 ≤ k ∧ k < w.heap.size)
section
variable {w0 w w' : World} {B N5 N6 q qa gi g m s N n tc r6 p7 lc sc : Nat} {T : List Fc} {f : Fl} {b : Bd} {sg : Sg} {Z : Nat → Prop} {A : List (Option Vp)} {tA la sa : Option Addr} {td : List Nat} {v : Vs} {ic ja : Int}
theorem Mm.below (h : Mm w0 w B N5 N6 q qa gi g m s N n T f b sg Z A tA tc td r6 p7 la sa lc sc v ic ja) (hb : Below w.heap.size w w') : Mm w0 w' B N5 N6 q qa gi g m s N n T f b sg Z A tA tc td r6 p7 la sa lc sc v ic ja :=
 ⟨h.vk.below hb, h.sy.below hb, h.kp.trans' (keep_any (F := fun _ => False) hb) (fun _ _ h => h.elim), h.r1.keep (keep_any hb), h.r2.keep (keep_any hb), h.bp.below hb h.bp.lt, h.bi.below hb h.bi.lt, by have := h.nm; have := hb.size; omega, fun k hk => by have := h.hz k hk; have := hb.size; omega⟩
theorem Mm.flow (h : Mm w0 w B N5 N6 q qa gi g m s N n T f b sg Z A tA tc td r6 p7 la sa lc sc v ic ja) {M fu : Nat} (c : Rc N M T f b) (hg : Gd b.lo.toNat b.sk N ⟨A.map (Option.map Vp.v), td⟩) (hs : ShK ⟨A.map (Option.map Vp.v), td⟩) (hm : mu T b.lo.toNat b.sk ⟨A.map (Option.map Vp.v), td⟩ < fu) (hf : fu ≤ 10000000)
  (hS : VsS v) (hF : Fit b.lo.toNat b.sk v) (hv : Sho v) (hn : n ≤ 6000000000000000) (j : Nat) (J : Int) (hJ : J = (j : Int)) (hj : j ≤ 1000000) (R : Option Vm) (hR : flowM T ⟨A.map (Option.map Vp.v), td⟩ j v = R) :
  Calls Tryd.prog 40 #[.pointer (some ⟨q, 0, none⟩), .int .i64 J, .agg #[.slice la v.lo.length lc, .slice sa v.st.length sc]] w (fun e w' => e = .returned (.bool R.isSome) ∧ Vt w' gi g m s T (n + 1000000) ∧ w'.cell? ⟨q, 13, none⟩ = some (.slice b.A N b.c) ∧ Blk w' r6 87 #[.int .i64 ic, .int .i64 ja] ∧ Keep (fun k => k = s ∨ k = q ∨ B ≤ k) w0 w' ∧
   ∀ K, R = some K → Gd b.lo.toNat b.sk N K ∧ ShK K ∧ mu T b.lo.toNat b.sk K < fu ∧ ∃ A' tA' tc', K = ⟨A'.map (Option.map Vp.v), K.todo⟩ ∧ Mm w0 w' B N5 N6 q qa gi g m s N (n + 1000000) T f b sg (fun k => (B ≤ k ∧ k < r6) ∨ (N6 ≤ k ∧ k < w'.heap.size)) A' tA' tc' K.todo r6 p7 la sa lc sc v ic ja) := by
 subst hJ hR
 have hlo := c.lo
 have hlt := h.sy.sx.lt
 have hnm := h.nm
 have hw0 := h.kp.size
 have htd : td.length ≤ mu T b.lo.toNat b.sk ⟨A.map (Option.map Vp.v), td⟩ := by unfold mu; simp
 have hsz := h.vk.atb.lt
 have hZ2 : ∀ k, Z k → B ≤ k ∧ k < w.heap.size := fun k hk => by have := h.hz k hk; omega
 have hZ3 : ∀ k, (k = s ∨ k = q ∨ Z k) → k < N5 ∨ N6 ≤ k := fun k hk => by rcases hk with e | e | e; omega; omega; have := h.hz k e; omega
 have hvl : (v.lo.length : Int) = b.lo := by have := hF.1; omega
 have hA : A.length = N := by have := hg.len; simpa using this
 refine (flow_any w B q qa gi g m s n N j T f b sg tA tc td A Z v la sa lc sc h.sy h.vk hA c.k hZ2 c.N (by omega) (h.r1.weak (fun k _ => hZ3 k)) (h.r2.weak (fun k _ => hZ3 k)) hS hn hj (c.fits rfl hg hs hvl)).mono ?_
 rintro e w' ⟨rfl, hvt, h13, hk, hK⟩
 rw [c.k] at h13
 have hk' : Keep (fun k => k < N5 ∨ N6 ≤ k) w w' := hk.mono (fun k _ => hZ3 k)
 have hbi : ¬ (r6 = s ∨ r6 = q ∨ Z r6) := by rintro (e | e | e); omega; omega; (have := h.hz _ e; omega)
 refine ⟨rfl, hvt, h13, h.bi.keep hk hbi, h.kp.trans' hk (fun k _ e => by rcases e with e | e | e; exact .inl e; exact .inr (.inl e); exact .inr (.inr (hZ2 k e).1)), fun K e => ?_⟩
 obtain ⟨A', tA', tc', hat, hvk, hsy⟩ := hK K e
 have h1 := flow_gd c.ends hg hF e
 refine ⟨h1.1, flow_sho h.sy.sx.vt.sh hs hv e, Nat.lt_of_le_of_lt h1.2 hm, A', tA', tc', by rw [← hat], ?_⟩
 have hks := hk.size
 refine ⟨hvk.weak (fun k hz hlt => ?_), hsy, h.kp.trans' hk (fun k _ e => by rcases e with e | e | e; exact .inl e; exact .inr (.inl e); exact .inr (.inr (hZ2 k e).1)), h.r1.keep hk', h.r2.keep hk', h.bp.keep hk' (by omega), h.bi.keep hk hbi, by omega, fun k h => h⟩
 rcases hz with e | e
 ·have := h.hz k e; omega
 ·omega
end
theorem own_rd3 {w : World} {B n c : Nat} {a : Option Addr} {l : List Ty} (h : w.ownsRow B 24 2 (.slice a n c) n (l.flatMap Ty.cells)) : Rd w (fun k => k < B ∨ w.heap.size ≤ k) 2 a n (l.flatMap Ty.cells) := (own_rd2 h).lt_
theorem flow_first (T : List Fc) (N : Nat) (v : Vs) (h : 1 ≤ N) : flowM T ⟨(List.replicate N (none : Option Vp)).map (Option.map Vp.v), []⟩ 0 v = some ⟨(List.replicate N none).set 0 (some v), [0]⟩ := by
 obtain ⟨k, rfl⟩ : ∃ k, N = k + 1 := ⟨N - 1, by omega⟩
 simp [flowM, List.replicate_succ]
theorem start_rm {T : List Fc} {p : PoolP} {sk : Int} {ret : Ty} {code : List (Int × Int)} {nl N : Nat} {v : Vs} (hN : 1 ≤ N) (hN2 : N ≤ 100) (hv : Fit nl sk v) (hs : Sho v) (h1 : nl ≤ 401) (h2 : sk ≤ 1000) :
  Rm T p sk ret code nl N (runM T p sk ret code 10000000 ⟨(List.replicate N none).set 0 (some v), [0]⟩) 10000000 ⟨(List.replicate N none).set 0 (some v), [0]⟩ := by
 have hm : ∀ x, some x ∈ (List.replicate N (none : Option Vs)).set 0 (some v) → x = v := by
  intro x hx
  rcases List.mem_or_eq_of_mem_set hx with h1 | h1
  ·rw [List.mem_replicate] at h1; cases h1.2
  ·injection h1
 refine ⟨⟨by simp, fun x hx => hm x hx ▸ hv, fun i hi => ?_⟩, fun x hx => hm x hx ▸ hs, rfl, ?_⟩
 ·rw [List.mem_singleton] at hi
  subst hi
  exact ⟨v, List.getElem?_set_self (by rw [List.length_replicate]; omega)⟩
 ·have h3 := sum_set (pot T (22 * (nl + sk.toNat) + 1)) (List.replicate N none) 0 (some v) none (by rw [List.getElem?_replicate, if_pos (by omega)])
  have h4 := hv.rk (T := T)
  have h5 : ((List.replicate N (none : Option Vs)).map (pot T (22 * (nl + sk.toNat) + 1))).sum = N * (22 * (nl + sk.toNat) + 1) := by rw [List.map_replicate]; simp [pot]
  have h6 : N * (22 * (nl + sk.toNat) + 1) ≤ 100 * 30823 := Nat.mul_le_mul hN2 (by omega)
  unfold mu
  simp only [pot, List.length_singleton] at h3 ⊢
  omega
theorem start_vk {w : World} {B qa N : Nat} (h : Blk w qa 115 ((List.replicate N (none : Option Vp)).map Vp.ptr).toArray) (hB : B ≤ qa) : Vk w B qa (fun k => k = qa) (List.replicate N none) none 0 [] := by
 have hn : ∀ (i : Nat) (x : Vp), (List.replicate N (none : Option Vp))[i]? = some (some x) → False := by
  intro i x hx
  have := List.mem_of_getElem? hx
  rw [List.mem_replicate] at this
  cases this.2
 exact ⟨h, World.ownsRow_nil _ _ _ _, fun i x hx => (hn i x hx).elim, fun i j x y _ hx => (hn i x hx).elim, ⟨rfl, hB⟩, fun k hk => by (first | cases hk | simp [Value.ownBlock] at hk), fun i x hx => (hn i x hx).elim⟩
end Go.Proofs.YtmbegaobnpoefaaDoor
