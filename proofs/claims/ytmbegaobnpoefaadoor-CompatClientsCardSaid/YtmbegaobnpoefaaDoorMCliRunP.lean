/- Verification of a method in plain Lean: its first state, and that types' names stay short; no program in sight. (Written by gen/vrunp.py.) -/
import Derived.Test.YtmbegaobnpoefaaDoorMCliFlow
namespace Go.Proofs.YtmbegaobnpoefaaDoor
open Go.RowKit
set_option linter.unusedVariables false
def loM (nm : List UInt8) (st : Bool) (ps : List Ty) (lo : Nat) : List Ty :=
 let l0 := List.replicate lo kZ
 let l1 := if st then l0 else l0.set 0 (kO nm)
 let k := if st then 0 else 1
 l1.take k ++ (ps ++ l1.drop (k + ps.length))
theorem loM_len {nm : List UInt8} {st : Bool} {ps : List Ty} {lo : Nat} (h : ps.length + (if st then 0 else 1) ≤ lo) : (loM nm st ps lo).length = lo := by
 unfold loM
 cases st <;> simp at * <;> omega
structure PoS (p : PoolP) : Prop where
 c : ∀ x ∈ p.cls, short x
 t : ∀ x ∈ p.tys, short x.n
 d : ∀ x ∈ p.fds, short x.c ∧ short x.v.t.n
 m : ∀ x ∈ p.mts, short x.c ∧ short x.m.r.n
def Sho (v : Vs) : Prop := (∀ t ∈ v.lo, short t.n) ∧ ∀ t ∈ v.st, short t.n
theorem short_nil : short ([] : List UInt8) := by show ([] : List UInt8).length ≤ _; simp
theorem loM_short {nm : List UInt8} {st : Bool} {ps : List Ty} {lo : Nat} (h1 : short nm) (h2 : ∀ t ∈ ps, short t.n) : ∀ t ∈ loM nm st ps lo, short t.n := by
 have hz : ∀ t ∈ List.replicate lo kZ, short t.n := fun t ht => by rw [List.mem_replicate] at ht; rw [ht.2]; exact short_nil
 have h3 : ∀ t ∈ (if st then List.replicate lo kZ else (List.replicate lo kZ).set 0 (kO nm)), short t.n := by
  intro t ht
  split at ht
  ·exact hz t ht
  ·rcases List.mem_or_eq_of_mem_set ht with e | e
   ·exact hz t e
   ·rw [e]; exact h1
 intro t ht
 unfold loM at ht
 rcases List.mem_append.1 ht with e | e
 ·exact h3 t (List.mem_of_mem_take e)
 ·rcases List.mem_append.1 e with e | e
  ·exact h2 t e
  ·exact h3 t (List.mem_of_mem_drop e)
theorem short_getD {l : List (List UInt8)} (h : ∀ x ∈ l, short x) (i : Nat) : short (l.getD i []) := by
 by_cases hi : i < l.length
 ·exact h _ (List.mem_of_getElem? (getD_some hi))
 ·rw [List.getD_eq_getElem?_getD, List.getElem?_eq_none (by omega)]; exact short_nil
theorem short_tyAt {l : List Ty} (h : ∀ x ∈ l, short x.n) (i : Nat) : short (tyAt l i).n := by
 unfold tyAt
 by_cases hi : i < l.length
 ·exact h _ (List.mem_of_getElem? (getD_some hi))
 ·rw [List.getD_eq_getElem?_getD, List.getElem?_eq_none (by omega)]; exact short_nil
theorem short_fd {l : List FdP} (h : ∀ x ∈ l, short x.c ∧ short x.v.t.n) (i : Nat) : short (l.getD i fdZ).c ∧ short (l.getD i fdZ).v.t.n := by
 by_cases hi : i < l.length
 ·exact h _ (List.mem_of_getElem? (getD_some hi))
 ·rw [List.getD_eq_getElem?_getD, List.getElem?_eq_none (by omega)]; exact ⟨short_nil, short_nil⟩
theorem short_mt {l : List MtP} (h : ∀ x ∈ l, short x.c ∧ short x.m.r.n) (i : Nat) : short (l.getD i mtZ).c ∧ short (l.getD i mtZ).m.r.n := by
 by_cases hi : i < l.length
 ·exact h _ (List.mem_of_getElem? (getD_some hi))
 ·rw [List.getD_eq_getElem?_getD, List.getElem?_eq_none (by omega)]; exact ⟨short_nil, short_nil⟩
theorem short_kI : short kI.n := by show kI.n.length ≤ _; decide
theorem short_kB : short kB.n := by show kB.n.length ≤ _; decide
theorem short_kN : short kN.n := by show kN.n.length ≤ _; decide
theorem popR_mem {T : List Fc} : ∀ (ws st r : List Ty), popR T ws st = some r → ∀ t ∈ r, t ∈ st
 | [], st, r, h => by injection h with h; subst h; exact fun t h => h
 | u :: ws, st, r, h => by
  unfold popR at h
  split at h
  ·cases h
  ·split at h
   ·exact fun t ht => List.dropLast_subset _ (popR_mem ws _ r h t ht)
   ·cases h
theorem po_sho {T : List Fc} {want : List Ty} {s s' : Vs} (hs : Sho s) (h : poM T want s = some s') : Sho s' := by
 unfold poM at h
 rw [Option.map_eq_some_iff] at h
 obtain ⟨r, hr, rfl⟩ := h
 exact ⟨hs.1, fun t ht => hs.2 t (popR_mem _ _ _ hr t ht)⟩
theorem pu_sho {sk : Int} {t : Ty} {s s' : Vs} (hs : Sho s) (ht : short t.n) (h : puM sk t s = some s') : Sho s' := by
 unfold puM at h
 rw [Option.map_eq_some_iff] at h
 obtain ⟨r, hr, rfl⟩ := h
 unfold pushM at hr
 split at hr
 ·injection hr with hr
  subst hr
  refine ⟨hs.1, fun x hx => ?_⟩
  rcases List.mem_append.1 hx with h1 | h1
  ·exact hs.2 x h1
  ·rw [List.mem_singleton] at h1; subst h1; exact ht
 ·cases hr
theorem pp_sho {T : List Fc} {sk : Int} {want : List Ty} {t : Ty} {s s' : Vs} (hs : Sho s) (ht : short t.n) (h : ppM T sk want t s = some s') : Sho s' := by
 unfold ppM at h
 rw [Option.bind_eq_some_iff] at h
 obtain ⟨r, hr, h⟩ := h
 exact pu_sho (po_sho hs hr) ht h
theorem dr_sho {s : Vs} (hs : Sho s) : Sho (dr s) := ⟨hs.1, fun t ht => hs.2 t (List.dropLast_subset _ ht)⟩
theorem arr_sho {T : List Fc} {p : PoolP} {sk : Int} {c : Int} {a : Nat} {s s' : Vs} (hp : PoS p) (hs : Sho s) (h : arrM T p sk c a s = some s') : Sho s' := by
 unfold arrM at h
 split at h
 ·split at h
  ·cases h
  ·split at h
   ·exact pu_sho (dr_sho hs) short_kI h
   ·cases h
 ·split at h
  ·cases h
  ·split at h
   ·exact po_sho hs h
   ·have h9 : short (kE (tyAt p.tys a)).n := short_tyAt hp.t a
    exact pp_sho hs h9 h
theorem obj_sho {T : List Fc} {p : PoolP} {sk : Int} {c : Int} {a : Nat} {s s' : Vs} (hp : PoS p) (hs : Sho s) (h : objM T p sk c a s = some s') : Sho s' := by
 unfold objM at h
 split at h
 ·exact pu_sho hs (short_getD hp.c a) h
 ·split at h
  ·split at h
   ·cases h
   ·exact pp_sho hs (short_tyAt hp.t a) h
  ·split at h
   ·split at h
    ·cases h
    ·split at h
     ·exact pu_sho (dr_sho hs) (by split; exact short_getD hp.c a; exact short_kB) h
     ·cases h
   ·split at h
    ·exact pp_sho hs (short_fd hp.d a).2 h
    ·split at h
     ·exact po_sho hs h
     ·split at h
      ·split at h
       ·cases h
       ·split at h
        ·cases h
        ·rename_i s1 h1
         split at h
         ·exact pp_sho (po_sho hs h1) (short_mt hp.m a).2 h
         ·exact pu_sho (po_sho hs h1) (short_mt hp.m a).2 h
      ·exact arr_sho hp hs h
theorem step_sho {T : List Fc} {p : PoolP} {sk : Int} {ret : Ty} {c : Int} {a : Nat} {s s' : Vs} (hp : PoS p) (hs : Sho s) (h : stepM T p sk ret c a s = some s') : Sho s' := by
 unfold stepM at h
 by_cases e : c = 1
 ·rw [if_pos e] at h
  exact pu_sho hs short_kI h
 rw [if_neg e] at h
 clear e
 by_cases e : c = 32
 ·rw [if_pos e] at h
  exact pu_sho hs short_kB h
 rw [if_neg e] at h
 clear e
 by_cases e : c = 2
 ·rw [if_pos e] at h
  exact pu_sho hs short_kN h
 rw [if_neg e] at h
 clear e
 by_cases e : c = 3
 ·rw [if_pos e] at h
  split at h <;> first | (cases h; done) | exact pu_sho hs (short_tyAt hs.1 a) h
 rw [if_neg e] at h
 clear e
 by_cases e : c = 4
 ·rw [if_pos e] at h
  split at h
  ·cases h
  ·rename_i t ht
   injection h with h
   subst h
   refine ⟨fun x hx => ?_, fun x hx => hs.2 x (List.dropLast_subset _ hx)⟩
   rcases List.mem_or_eq_of_mem_set hx with h1 | h1
   ·exact hs.1 x h1
   ·subst h1; exact hs.2 _ (List.mem_of_getLast? ht)
 rw [if_neg e] at h
 clear e
 by_cases e : c = 5 ∨ c = 6 ∨ c = 7 ∨ c = 8 ∨ c = 9
 ·rw [if_pos e] at h
  exact pp_sho hs short_kI h
 rw [if_neg e] at h
 clear e
 by_cases e : c = 10 ∨ c = 11
 ·rw [if_pos e] at h
  exact pp_sho hs short_kB h
 rw [if_neg e] at h
 clear e
 by_cases e : c = 14
 ·rw [if_pos e] at h
  exact pp_sho hs short_kI h
 rw [if_neg e] at h
 clear e
 by_cases e : c = 15
 ·rw [if_pos e] at h
  exact pp_sho hs short_kB h
 rw [if_neg e] at h
 clear e
 by_cases e : c = 12 ∨ c = 13
 ·rw [if_pos e] at h
  split at h
  ·split at h
   ·exact pu_sho (dr_sho (dr_sho hs)) short_kB h
   ·cases h
  ·cases h
 rw [if_neg e] at h
 clear e
 by_cases e : c = 30
 ·rw [if_pos e] at h
  exact po_sho hs h
 rw [if_neg e] at h
 clear e
 by_cases e : c = 28
 ·rw [if_pos e] at h
  exact po_sho hs h
 rw [if_neg e] at h
 clear e
 by_cases e : c = 31
 ·rw [if_pos e] at h
  split at h <;> first | (cases h; done) | (injection h with h; subst h; exact dr_sho hs)
 rw [if_neg e] at h
 clear e
 by_cases e : c = 29
 ·rw [if_pos e] at h
  exact po_sho hs h
 rw [if_neg e] at h
 clear e
 by_cases e : c = 27
 ·rw [if_pos e] at h
  injection h with h; subst h; exact hs
 rw [if_neg e] at h
 clear e
 exact obj_sho hp hs h
theorem mrg_sho {T : List Fc} (hT : ∀ f ∈ T, short f.su) : ∀ o s : List Ty, (∀ t ∈ o, short t.n) → (∀ t ∈ s, short t.n) → ∀ t ∈ mrg T o s, short t.n
 | [], s, h1, h2, t, ht => by cases s <;> simp [mrg] at ht
 | a :: l, [], h1, h2, t, ht => h1 t ht
 | a :: l, b :: r, h1, h2, t, ht => by
  simp only [mrg, List.mem_cons] at ht
  rcases ht with e | e
  ·subst e; exact join_short hT (h1 a (by simp)) (h2 b (by simp))
  ·exact mrg_sho hT l r (fun t ht => h1 t (by simp [ht])) (fun t ht => h2 t (by simp [ht])) t e
def ShK (K : Vm) : Prop := ∀ s, some s ∈ K.at_ → Sho s
theorem mem_getD {l : List (Option Vs)} {j : Nat} {s : Vs} (h : l.getD j none = some s) : some s ∈ l := by
 by_cases hi : j < l.length
 ·have := getD_some (d := none) hi
  rw [h] at this
  exact List.mem_of_getElem? this
 ·rw [List.getD_eq_getElem?_getD, List.getElem?_eq_none (by omega)] at h
  cases h
theorem flow_sho {T : List Fc} (hT : ∀ f ∈ T, short f.su) {K K' : Vm} {j : Nat} {s : Vs} (hK : ShK K) (hs : Sho s) (h : flowM T K j s = some K') : ShK K' := by
 unfold flowM at h
 split at h
 ·cases h
 ·split at h
  ·injection h with h
   subst h
   intro x hx
   rcases List.mem_or_eq_of_mem_set hx with h1 | h1
   ·exact hK x h1
   ·injection h1 with h1; subst h1; exact hs
  ·rename_i o ho
   have h1 := hK o (mem_getD ho)
   split at h
   ·cases h
   ·split at h
    ·injection h with h
     subst h
     intro x hx
     rcases List.mem_or_eq_of_mem_set hx with h2 | h2
     ·exact hK x h2
     ·injection h2 with h2; subst h2; exact ⟨mrg_sho hT _ _ h1.1 hs.1, mrg_sho hT _ _ h1.2 hs.2⟩
    ·cases h
theorem next_sho {T : List Fc} (hT : ∀ f ∈ T, short f.su) {p : PoolP} (hp : PoS p) {sk : Int} {i : Nat} {ret : Ty} {code : List (Int × Int)} {K K' : Vm} (hK : ShK K) (h : nextM T p sk ret code i K = some K') : ShK K' := by
 unfold nextM at h
 split at h
 ·cases h
 ·rename_i s hs
  split at h
  ·cases h
  ·rename_i s' h1
   have hf1 := step_sho hp (hK s (mem_getD hs)) h1
   split at h
   ·cases h
   ·rename_i K1 h2
    have hK1 : ShK K1 := by
     split at h2
     ·exact flow_sho hT hK hf1 h2
     ·injection h2 with h2; subst h2; exact hK
    split at h
    ·injection h with h; subst h; exact hK1
    ·exact flow_sho hT hK1 hf1 h
theorem runM_turn {T : List Fc} {p : PoolP} {sk : Int} {ret : Ty} {code : List (Int × Int)} {f i : Nat} {K : Vm} (h : K.todo.getLast? = some i) : runM T p sk ret code (f + 1) K = match nextM T p sk ret code i ⟨K.at_, K.todo.dropLast⟩ with
   | none => false
   | some K' => runM T p sk ret code f K' := by
 rw [runM, h]
 rfl
theorem runM_end {T : List Fc} {p : PoolP} {sk : Int} {ret : Ty} {code : List (Int × Int)} {f : Nat} {K : Vm} (h : K.todo = []) : runM T p sk ret code (f + 1) K = true := by
 rw [runM, h]; rfl
end Go.Proofs.YtmbegaobnpoefaaDoor
namespace Go.Proofs.YtmbegaobnpoefaaDoor
open Go.RowKit Go.Maps
set_option linter.unusedVariables false
set_option linter.unusedSimpArgs false
theorem ends_any (c : Int) (w : World) : Calls Tryd.prog 44 #[.int .i64 c] w (Gives w (.bool (decide (c = 27 ∨ c = 29)))) := by
 by_cases h1 : c = 27
 ·subst h1
  go_enter Tryd.func44, Tryd.ntmps44
  go_wp2_with fail
  refine bodyPost_ret (v := .bool true) ?_ rfl ?_
  ·simp [results, Tryd.results44, go_sem]
  ·exact ⟨rfl, Below.refl _ _⟩
 ·by_cases h2 : c = 29
  ·subst h2
   go_enter Tryd.func44, Tryd.ntmps44
   go_wp2_with fail
   refine bodyPost_ret (v := .bool true) ?_ rfl ?_
   ·simp [results, Tryd.results44, go_sem]
   ·exact ⟨rfl, Below.refl _ _⟩
  ·go_enter Tryd.func44, Tryd.ntmps44
   go_wp2_with fail
   refine bodyPost_ret (v := .bool false) ?_ rfl ?_
   ·simp [results, Tryd.results44, go_sem, h1, h2]
   ·exact ⟨by simp [h1, h2], Below.refl _ _⟩
theorem where_any (w : World) (q k : Nat) (A : Option Addr) (c : Nat) (i : Nat) (j : Int) (h : w.cell? ⟨q, 13, none⟩ = some (.slice A k c)) (hj : 0 ≤ j) :
  Calls Tryd.prog 43 #[.pointer (some ⟨q, 0, none⟩), .int .i64 (i : Int), .int .i64 j] w (fun e w' => ∃ z : Int, 0 ≤ z ∧ e = .returned (.int .i64 z) ∧ Below w.heap.size w w') := by
 by_cases hk : (k : Int) ≤ j
 ·go_enter Tryd.func43, Tryd.ntmps43
  go_wp2_with fail
  refine bodyPost_ret (v := .int .i64 (i : Int)) ?_ rfl ?_
  ·simp [results, Tryd.results43, go_sem]
  ·exact ⟨_, by omega, rfl, Below.refl _ _⟩
 ·go_enter Tryd.func43, Tryd.ntmps43
  go_wp2_with fail
  refine bodyPost_ret (v := .int .i64 j) ?_ rfl ?_
  ·simp [results, Tryd.results43, go_sem]
  ·exact ⟨_, hj, rfl, Below.refl _ _⟩
end Go.Proofs.YtmbegaobnpoefaaDoor
