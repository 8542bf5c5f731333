/- Faces that take others' places, in plain Lean: names that rise are distinct; what the page's two loops count; no program in sight. -/
import Derived.Test.YtmbegaobnpoefaaDoorMPassesH
import Derived.Sort.Walk0
import Derived.Test.YtmbegaobnpoefaaDoorMCliWithM
import Derived.Test.YtmbegaobnpoefaaDoorMLnkLink
import Derived.Test.YtmbegaobnpoefaaDoorMClsFew
namespace Go.Proofs.YtmbegaobnpoefaaDoor
theorem lt_of_leqB {a b : List UInt8} (h : leqB a b = false) : b < a := by
 unfold leqB at h
 rw [Bool.or_eq_false_iff] at h
 obtain ⟨h1, h2⟩ := h
 rw [bytesLess_eq] at h1
 have h1' : ¬ a < b := by simpa using h1
 have h2' : a ≠ b := by simpa using h2
 apply Decidable.byContradiction
 intro h3
 exact h2' (List.le_antisymm (List.not_lt.1 h3) (List.not_lt.1 h1'))
def Rise (l : List Sg) : Prop := l.Pairwise fun a b => a.n < b.n
theorem rise_of : ∀ (last : List UInt8) (l : List Sg), riseM last l = true → Rise l ∧ ∀ m ∈ l, last < m.n
 | _, [], _ => ⟨List.Pairwise.nil, by simp⟩
 | last, m :: r, h => by
  unfold riseM at h
  simp only [Bool.and_eq_true, Bool.not_eq_true'] at h
  obtain ⟨⟨⟨h1, _⟩, _⟩, h4⟩ := h
  obtain ⟨hr, hm⟩ := rise_of m.n r h4
  have hl := lt_of_leqB h1
  refine ⟨List.Pairwise.cons hm hr, fun x hx => ?_⟩
  rcases List.mem_cons.1 hx with rfl | hx
  ·exact hl
  ·exact List.lt_trans hl (hm x hx)
theorem right_rise {f : Fc} (h : f.right = true) : Rise f.ms := by
 unfold Fc.right at h
 simp only [Bool.and_eq_true] at h
 exact (rise_of _ _ h.2).1
theorem rise_inj : ∀ {l : List Sg}, Rise l → ∀ x ∈ l, ∀ y ∈ l, x.n = y.n → x = y
 | [], _, x, hx, _, _, _ => by cases hx
 | a :: r, h, x, hx, y, hy, e => by
  obtain ⟨h1, h2⟩ := List.pairwise_cons.1 h
  rcases List.mem_cons.1 hx with hx' | hx' <;> rcases List.mem_cons.1 hy with hy' | hy'
  ·rw [hx', hy']
  ·have := h1 y hy'
   rw [← e, hx'] at this
   exact absurd this (List.lt_irrefl _)
  ·have := h1 x hx'
   rw [e, hy'] at this
   exact absurd this (List.lt_irrefl _)
  ·exact rise_inj h2 x hx' y hy' e
theorem meth_mem {f : Fc} (h : Rise f.ms) {m : Sg} (hm : m ∈ f.ms) : methOf f m.n = some m := by
 unfold methOf
 cases hf : f.ms.find? (fun x => x.n == m.n) with
 | none => have := List.find?_eq_none.1 hf m hm; simp at this
 | some x =>
  have h1 := List.mem_of_find?_eq_some hf
  have h2 := List.find?_some hf
  rw [rise_inj h x h1 m hm (by simpa using h2)]
theorem meth_none {f : Fc} {k : List UInt8} : methOf f k = none ↔ ∀ x ∈ f.ms, x.n ≠ k := by
 unfold methOf
 rw [List.find?_eq_none]
 simp
theorem kept_iff {f : Fc} {m : Sg} : keptM f m = true ↔ ∃ x, methOf f m.n = some x ∧ x.p = m.p := by
 unfold keptM
 cases h : methOf f m.n with
 | none => simp
 | some x => simp
theorem new_iff {o : Fc} {m : Sg} : newM o m = true ↔ methOf o m.n = none ∧ m.st = false := by
 unfold newM
 cases h : methOf o m.n with
 | none => simp
 | some x => simp
theorem passH_iff {o f : Fc} : passH o f = true ↔ o.right = true ∧ f.right = true ∧ o.n = f.n ∧ o.su = f.su ∧ o.fs = f.fs := by
 unfold passH
 simp [and_assoc]
theorem passB_iff {o f : Fc} : passB o f = true ↔ passH o f = true ∧ (∀ m ∈ o.ms, ∃ x, methOf f m.n = some x ∧ x.p = m.p) ∧ ∀ n ∈ f.ms, methOf o n.n = none → n.st = true := by
 unfold passB
 rw [Bool.and_eq_true, Bool.and_eq_true, Bool.not_eq_true', List.any_eq_false, List.all_eq_true, and_assoc]
 refine and_congr Iff.rfl (and_congr (forall_congr' fun m => forall_congr' fun _ => kept_iff) (forall_congr' fun n => forall_congr' fun _ => ?_))
 rw [new_iff]
 cases n.st <;> simp
end Go.Proofs.YtmbegaobnpoefaaDoor
namespace Go.Proofs.YtmbegaobnpoefaaDoor
open Go.RowKit Go.Maps
set_option linter.unusedVariables false
structure Mo (T T' : List Fc) (c0 nm : List UInt8) (r : Ty) : Prop where
 is : ∀ c, (get T' c).isSome = (get T c).isSome
 su : ∀ c, (faceF T' c).su = (faceF T c).su
 fs : ∀ c, (faceF T' c).fs = (faceF T c).fs
 ms : ∀ c k, ¬(c = c0 ∧ k = nm) → (methOf (faceF T' c) k).map Sg.pl = (methOf (faceF T c) k).map Sg.pl
 m0 : methOf (faceF T c0) nm = none
 m1 : (methOf (faceF T' c0) nm).map Sg.pl = some (sigW nm r)
section
variable {T T' : List Fc} {c0 nm : List UInt8} {r : Ty}
theorem Mo.up_eq (h : Mo T T' c0 nm r) : ∀ (j : Nat) (out : List (List UInt8)) (n : List UInt8), up T' j out n = up T j out n
 | 0, _, _ => rfl
 | j + 1, out, n => by
  unfold up
  rw [h.is n, h.su n, h.up_eq j]
theorem Mo.common_eq (h : Mo T T' c0 nm r) : common T' = common T := by
 funext a b
 unfold common
 rw [h.up_eq, h.up_eq]
theorem Mo.fits_eq (h : Mo T T' c0 nm r) : fitsT T' = fitsT T := by
 funext a b
 unfold fitsT
 rw [h.up_eq]
theorem Mo.known_eq (h : Mo T T' c0 nm r) : knownT T' = knownT T := by
 funext t
 unfold knownT
 rw [h.is]
theorem Mo.join_eq (h : Mo T T' c0 nm r) : joinM T' = joinM T := by
 funext a b
 unfold joinM
 rw [h.common_eq]
theorem mrg_eq (h : joinM T' = joinM T) : ∀ a b, mrg T' a b = mrg T a b
 | a :: l, b :: r => by simp only [mrg, h, mrg_eq h l r]
 | [], b => by cases b <;> simp [mrg]
 | a :: l, [] => by simp [mrg]
theorem okJ_eq (h : joinM T' = joinM T) : ∀ a b, okJ T' a b = okJ T a b
 | a :: l, b :: r => by simp only [okJ, h, okJ_eq h l r]
 | [], b => by cases b <;> simp [okJ]
 | a :: l, [] => by simp [okJ]
theorem flow_eq (h : joinM T' = joinM T) : flowM T' = flowM T := by
 have h1 : mrg T' = mrg T := by funext a b; exact mrg_eq h a b
 have h2 : okJ T' = okJ T := by funext a b; exact okJ_eq h a b
 funext K j s
 unfold flowM
 rw [h1, h2]
theorem popR_eq (h : fitsT T' = fitsT T) : ∀ ws st, popR T' ws st = popR T ws st
 | [], _ => rfl
 | u :: ws, st => by
  unfold popR
  rw [h]
  cases st.getLast? with
  | none => rfl
  | some t => simp only [popR_eq h ws]
theorem poM_eq (h : fitsT T' = fitsT T) : poM T' = poM T := by
 funext want s
 unfold poM popM
 rw [popR_eq h]
theorem ppM_eq (h : fitsT T' = fitsT T) : ppM T' = ppM T := by
 funext sk want t s
 unfold ppM
 rw [poM_eq h]
theorem stepM_eq (h : fitsT T' = fitsT T) : stepM T' = stepM T := by
 have h1 := poM_eq h
 have h2 := ppM_eq h
 have h3 : arrM T' = arrM T := by
  funext p sk c a s
  unfold arrM
  rw [h1, h2]
 have h4 : objM T' = objM T := by
  funext p sk c a s
  unfold objM
  rw [h1, h2, h3]
 funext p sk ret c a s
 unfold stepM
 rw [h1, h2, h4]
theorem Mo.next_eq (h : Mo T T' c0 nm r) : nextM T' = nextM T := by
 funext p sk ret code i K
 unfold nextM
 rw [stepM_eq h.fits_eq, flow_eq h.join_eq]
theorem Mo.run_eq (h : Mo T T' c0 nm r) (p : PoolP) (sk : Int) (ret : Ty) (code : List (Int × Int)) : ∀ (f : Nat) (K : Vm), runM T' p sk ret code f K = runM T p sk ret code f K
 | 0, _ => rfl
 | f + 1, K => by
  unfold runM
  rw [h.next_eq]
  cases K.todo.getLast? with
  | none => rfl
  | some i =>
   simp only
   cases nextM T p sk ret code i ⟨K.at_, K.todo.dropLast⟩ with
   | none => rfl
   | some K' => exact h.run_eq p sk ret code f K'
theorem Mo.vOne_eq (h : Mo T T' c0 nm r) : vOne T' = vOne T := by
 funext n p m b
 unfold vOne
 rw [h.run_eq]
theorem Mo.vFile_eq (h : Mo T T' c0 nm r) : vFile T' = vFile T := by
 funext F
 unfold vFile
 congr 1
 funext j
 unfold vAt
 rw [h.vOne_eq]
theorem next_nums (p : PoolP) (x : List Int) (sk : Int) (ret : Ty) (code : List (Int × Int)) (i : Nat) (K : Vm) : nextM T { p with nums := x } sk ret code i K = nextM T p sk ret code i K := by
 have h1 : ∀ c a s, arrM T { p with nums := x } sk c a s = arrM T p sk c a s := fun c a s => rfl
 have h2 : ∀ c a s, objM T { p with nums := x } sk c a s = objM T p sk c a s := fun c a s => by unfold objM; simp only [h1]
 have h3 : ∀ c a s, stepM T { p with nums := x } sk ret c a s = stepM T p sk ret c a s := fun c a s => by unfold stepM; simp only [h2]
 unfold nextM
 simp only [h3]
theorem run_nums (p : PoolP) (x : List Int) (sk : Int) (ret : Ty) (code : List (Int × Int)) : ∀ (f : Nat) (K : Vm), runM T { p with nums := x } sk ret code f K = runM T p sk ret code f K
 | 0, _ => rfl
 | f + 1, K => by
  unfold runM
  simp only [next_nums]
  cases K.todo.getLast? with
  | none => rfl
  | some i =>
   simp only
   cases nextM T p sk ret code i ⟨K.at_, K.todo.dropLast⟩ with
   | none => rfl
   | some K' => exact run_nums p x sk ret code f K'
theorem run_one {p : PoolP} {sk : Int} {ret : Ty} {code : List (Int × Int)} {f i : Nat} {K K' : Vm} (h : K.todo.getLast? = some i) (hn : nextM T p sk ret code i ⟨K.at_, K.todo.dropLast⟩ = some K') : runM T p sk ret code (f + 1) K = runM T p sk ret code f K' := by
 rw [runM, h]
 simp only [hn]
theorem new_runs {p : PoolP} {ret t : Ty} {x : Int × Int} {L : List Ty} (hc : x.1 ≠ 27 ∧ x.1 ≠ 28 ∧ x.1 ≠ 29) (hs : ∀ s, stepM T p 1 ret x.1 x.2.toNat s = puM 1 t s) (hf : fitsT T t ret = true) :
  runM T p 1 ret [x, (29, 0)] 10000000 ⟨(List.replicate 2 none).set 0 (some ⟨L, []⟩), [0]⟩ = true := by
 rw [show (10000000 : Nat) = 9999997 + 1 + 1 + 1 from rfl]
 rw [run_one (i := 0) (K' := ⟨[some ⟨L, []⟩, some ⟨L, [t]⟩], [1]⟩) rfl]
 ·rw [run_one (i := 1) (K' := ⟨[some ⟨L, []⟩, some ⟨L, [t]⟩], []⟩) rfl]
  ·rfl
  ·have h9 : stepM T p 1 ret 29 0 ⟨L, [t]⟩ = some ⟨L, []⟩ := by
    have h8 : poM T [ret] ⟨L, [t]⟩ = some ⟨L, []⟩ := by simp [poM, popM, popR, hf]
    simp [stepM, h8]
   simp [nextM, h9]
 ·obtain ⟨a, b, c⟩ := hc
  simp [nextM, hs, puM, pushM, flowM, a, b, c]
theorem vOne_new (n : List UInt8) (p : PoolP) (nm : List UInt8) (r : Ty) (k : Nat) (h : knownT T r = true) : vOne T n p (sigW nm r) (bodyW r k) = true := by
 have key : ∃ t, (∀ s, stepM T p 1 r (insW r k).1 (insW r k).2.toNat s = puM 1 t s) ∧ fitsT T t r = true ∧ (insW r k).1 ≠ 27 ∧ (insW r k).1 ≠ 28 ∧ (insW r k).1 ≠ 29 := by
  unfold insW
  split
  case isTrue e => exact ⟨kI, fun s => by simp [stepM], by simp [fitsT, e], by simp, by simp, by simp⟩
  case isFalse e =>
   split
   case isTrue e2 => exact ⟨kB, fun s => by simp [stepM], by simp [fitsT, e2], by simp, by simp, by simp⟩
   case isFalse e2 =>
    refine ⟨kN, fun s => by simp [stepM], ?_, by simp, by simp, by simp⟩
    have ho : r.obj = true := by
     obtain ⟨rn, ra⟩ := r
     cases ra
     ·simp only [knownT, Bool.and_eq_true, Ty.good, Bool.or_eq_true, beq_iff_eq] at h
      rcases h.1 with (h1 | h1) | h1
      ·exact absurd (by rw [h1]; rfl) e
      ·exact absurd (by rw [h1]; rfl) e2
      ·simp [Ty.obj, Ty.cls, h1.1]
     ·simp [Ty.obj]
    unfold fitsT
    split
    ·rfl
    ·rw [if_pos (show kN = ⟨nNull, false⟩ from rfl)]; exact ho
 obtain ⟨t, h1, h2, h3⟩ := key
 exact new_runs h3 h1 h2
end
end Go.Proofs.YtmbegaobnpoefaaDoor
namespace Go.Proofs.YtmbegaobnpoefaaDoor
open Go.RowKit Go.Maps
set_option linter.unusedVariables false
theorem nodup_inj {α : Type} {l : List α} {f : α → List UInt8} (h : (l.map f).Nodup) {i j : Nat} (hi : i < l.length) (hj : j < l.length) (e : f l[i] = f l[j]) : i = j := by
 rw [List.Nodup, List.pairwise_map, List.pairwise_iff_getElem] at h
 rcases Nat.lt_trichotomy i j with h1 | h1 | h1
 ·exact absurd e (h i j hi hj h1)
 ·exact h1
 ·exact absurd e.symm (h j i hj hi h1)
theorem get_iff {T : List Fc} (hn : (T.map (·.n)).Nodup) {c : List UInt8} {x : Fc} : get T c = some x ↔ x ∈ T ∧ x.n = c := by
 refine ⟨get_mem, fun ⟨h1, h2⟩ => ?_⟩
 cases hg : get T c with
 | none =>
  unfold get at hg
  rw [List.find?_eq_none] at hg
  exact absurd (by simpa using h2) (hg x (by simpa using h1))
 | some y =>
  obtain ⟨h3, h4⟩ := get_mem hg
  obtain ⟨i, hi, rfl⟩ := List.getElem_of_mem h1
  obtain ⟨j, hj, rfl⟩ := List.getElem_of_mem h3
  have e := nodup_inj hn hj hi (h4.trans h2.symm)
  subst e
  rfl
theorem meth_pl (f : Fc) (k : List UInt8) : (methOf f k).map Sg.pl = (f.ms.map Sg.pl).find? (fun m => m.n == k) := by
 unfold methOf
 rw [List.find?_map]
 rfl
theorem find_ins {l : List SgP} {a : Nat} {s : SgP} {k : List UInt8} (hs : s.n ≠ k) : (l.take a ++ s :: l.drop a).find? (fun m => m.n == k) = l.find? (fun m => m.n == k) := by
 rw [List.find?_append, List.find?_cons_of_neg (by simpa using hs), ← List.find?_append, List.take_append_drop]
theorem find_new {l : List SgP} {a : Nat} {s : SgP} (hn : l.find? (fun m => m.n == s.n) = none) : (l.take a ++ s :: l.drop a).find? (fun m => m.n == s.n) = some s := by
 have h1 : (l.take a).find? (fun m => m.n == s.n) = none := by
  rw [List.find?_eq_none] at hn ⊢
  exact fun x hx => hn x (List.mem_of_mem_take hx)
 rw [List.find?_append, h1]
 simp
theorem set_names {T : List Fc} {k : Nat} (hk : k < T.length) {g : Fc} (h1 : g.n = T[k].n) : (T.set k g).map (·.n) = T.map (·.n) := by
 rw [List.map_set, h1]
 apply List.ext_getElem
 ·simp
 ·intro i h2 h3
  rw [List.getElem_set]
  split
  ·next e => subst e; simp
  ·rfl
section
variable {T : List Fc} {k : Nat} {g : Fc} {nm : List UInt8} {r : Ty} {a : Nat}
theorem get_set_same (hk : k < T.length) (hn : (T.map (·.n)).Nodup) (h1 : g.n = T[k].n) : get (T.set k g) T[k].n = some g ∧ get T T[k].n = some T[k] :=
 ⟨(get_iff (by rw [set_names hk h1]; exact hn)).2 ⟨List.mem_iff_getElem.2 ⟨k, by simpa using hk, by simp⟩, h1⟩, (get_iff hn).2 ⟨List.getElem_mem hk, rfl⟩⟩
theorem get_set_other (hk : k < T.length) (hn : (T.map (·.n)).Nodup) (h1 : g.n = T[k].n) {c : List UInt8} (hc : c ≠ T[k].n) : get (T.set k g) c = get T c := by
 apply Option.ext
 intro x
 rw [get_iff (by rw [set_names hk h1]; exact hn), get_iff hn]
 refine and_congr_left fun e => ?_
 constructor
 ·intro h
  obtain ⟨i, hi, rfl⟩ := List.getElem_of_mem h
  rw [List.getElem_set] at e ⊢
  split at e
  ·exact absurd (e.symm.trans h1) hc
  ·next e2 => rw [if_neg e2]; exact List.getElem_mem _
 ·intro h
  obtain ⟨i, hi, rfl⟩ := List.getElem_of_mem h
  have hik : k ≠ i := fun e2 => by subst e2; exact hc e.symm
  exact List.mem_iff_getElem.2 ⟨i, by simpa using hi, by rw [List.getElem_set, if_neg hik]⟩
theorem face_set_other (hk : k < T.length) (hn : (T.map (·.n)).Nodup) (h1 : g.n = T[k].n) {c : List UInt8} (hc : c ≠ T[k].n) : faceF (T.set k g) c = faceF T c := by
 unfold faceF; rw [get_set_other hk hn h1 hc]
theorem face_set_same (hk : k < T.length) (hn : (T.map (·.n)).Nodup) (h1 : g.n = T[k].n) : faceF (T.set k g) T[k].n = g ∧ faceF T T[k].n = T[k] := by
 unfold faceF; rw [(get_set_same hk hn h1).1, (get_set_same hk hn h1).2]; exact ⟨rfl, rfl⟩
theorem mo_set (hk : k < T.length) (hn : (T.map (·.n)).Nodup) (h1 : g.n = T[k].n) (h2 : g.su = T[k].su) (h3 : g.fs = T[k].fs) (h4 : g.ms.map Sg.pl = (T[k].ms.map Sg.pl).take a ++ sigW nm r :: (T[k].ms.map Sg.pl).drop a) (h5 : methOf T[k] nm = none) :
  Mo T (T.set k g) T[k].n nm r := by
 obtain ⟨g1, g2⟩ := get_set_same hk hn h1
 obtain ⟨f1, f2⟩ := face_set_same hk hn h1
 have ho : ∀ c, c ≠ T[k].n → faceF (T.set k g) c = faceF T c := fun c hc => face_set_other hk hn h1 hc
 refine ⟨fun c => ?_, fun c => ?_, fun c => ?_, fun c m hm => ?_, by rw [f2]; exact h5, ?_⟩
 ·by_cases hc : c = T[k].n
  ·rw [hc, g1, g2]; rfl
  ·rw [get_set_other hk hn h1 hc]
 ·by_cases hc : c = T[k].n
  ·rw [hc, f1, f2, h2]
  ·rw [ho c hc]
 ·by_cases hc : c = T[k].n
  ·rw [hc, f1, f2, h3]
  ·rw [ho c hc]
 ·by_cases hc : c = T[k].n
  ·have hm2 : nm ≠ m := fun e => hm ⟨hc, e.symm⟩
   rw [hc, f1, f2, meth_pl, meth_pl, h4, find_ins (s := sigW nm r) hm2]
  ·rw [ho c hc]
 ·rw [f1, meth_pl, h4]
  exact find_new (s := sigW nm r) (by rw [← meth_pl, show (sigW nm r).n = nm from rfl, h5]; rfl)
end
def ovrP (T : List Fc) (su : List UInt8) (p : SgP) : Bool := match (memM T p.n false (up T 20 [] su).1).map (fun x => x.2.pl) with
 | some o => !p.st && !decide (p = o)
 | none => false
theorem ovr_pl (T : List Fc) (su : List UInt8) (m : Sg) : ovr T su m = ovrP T su m.pl := by
 unfold ovr ovrP
 rw [show m.pl.n = m.n from rfl]
 cases memM T m.n false (up T 20 [] su).1 with
 | none => rfl
 | some x =>
  obtain ⟨c, o⟩ := x
  simp only [Option.map_some, p_pl]
  rfl
theorem memM_pl (T : List Fc) (k : List UInt8) : ∀ l, (memM T k false l).map (fun x => x.2.pl) = l.findSome? (fun c => ((methOf (faceF T c) k).map Sg.pl).bind (fun m => if m.st = false then some m else none))
 | [] => rfl
 | c :: l => by
  have ih := memM_pl T k l
  unfold memM at ih ⊢
  rw [List.findSome?_cons, List.findSome?_cons]
  cases methOf (faceF T c) k with
  | none => simpa using ih
  | some m =>
   by_cases hm : m.st = false
   ·simp [hm, Sg.pl]
   ·simpa [hm, Sg.pl] using ih
def okS (T : List Fc) (su : List UInt8) (p : SgP) : Prop := (p.r :: p.ps).all (knownT T) = true ∧ ovrP T su p = false
theorem chkM_zero (T : List Fc) (su : List UInt8) : ∀ ms : List Sg, chkM T su ms = 0 ↔ ∀ p ∈ ms.map Sg.pl, okS T su p
 | [] => by simp [chkM]
 | m :: ms => by
  have ih := chkM_zero T su ms
  unfold chkM
  rw [ovr_pl, List.map_cons, List.forall_mem_cons, ← ih, show (m.r :: m.ps).all (knownT T) = (m.pl.r :: m.pl.ps).all (knownT T) from rfl]
  unfold okS
  cases (m.pl.r :: m.pl.ps).all (knownT T) <;> cases ovrP T su m.pl <;> simp
theorem chkL_zero (T : List Fc) (f : Fc) : ∀ vs : List Vr, chkL T f vs = 0 ↔ (∀ v ∈ vs, knownT T v.t = true ∧ (memF T v.n (up T 20 [] f.su).1).isSome = false) ∧ ∀ p ∈ f.ms.map Sg.pl, okS T f.su p
 | [] => by simp [chkL, chkM_zero]
 | v :: vs => by
  have ih := chkL_zero T f vs
  unfold chkL
  rw [List.forall_mem_cons, and_assoc, ← ih]
  cases knownT T v.t <;> cases (memF T v.n (up T 20 [] f.su).1).isSome <;> simp
theorem chk_zero {T : List Fc} {c : List UInt8} : chk T c = 0 ↔ ((get T c).isSome = true ∧ c ≠ []) ∧ (up T 20 [] c).2 = true ∧ twiceB (faceF T c) = false ∧ chkL T (faceF T c) (faceF T c).fs = 0 := by
 unfold chk
 by_cases h1 : (get T c).isSome = true ∧ c ≠ []
 ·rw [if_pos h1]
  cases h2 : (up T 20 [] c).2
  ·simp only [Bool.false_eq_true, if_false]
   split <;> simp
  ·cases h3 : twiceB (faceF T c) <;> simp [h1]
 ·rw [if_neg h1]; simp [h1]
section
variable {T T' : List Fc} {c0 nm : List UInt8} {r : Ty}
theorem Mo.memF_eq (h : Mo T T' c0 nm r) (k : List UInt8) (l : List (List UInt8)) : memF T' k l = memF T k l := by
 unfold memF fieldOf
 simp only [h.fs]
theorem Mo.ovr_eq (h : Mo T T' c0 nm r) (su : List UInt8) (p : SgP) : ovrP T' su p = ovrP T su p := by
 unfold ovrP
 rw [memM_pl, memM_pl, h.up_eq]
 have e : ∀ c, ((methOf (faceF T' c) p.n).map Sg.pl).bind (fun m : SgP => if m.st = false then some m else none) = ((methOf (faceF T c) p.n).map Sg.pl).bind (fun m : SgP => if m.st = false then some m else none) := by
  intro c
  by_cases hc : c = c0 ∧ p.n = nm
  ·obtain ⟨rfl, e2⟩ := hc
   rw [e2, h.m0, h.m1]
   simp [sigW]
  ·rw [h.ms c p.n hc]
 simp only [e]
theorem Mo.chk (h : Mo T T' c0 nm r) {c : List UInt8} (hc : chk T c = 0) (h1 : twiceB (faceF T' c) = false) (h2 : ∀ p ∈ (faceF T' c).ms.map Sg.pl, p ∈ (faceF T c).ms.map Sg.pl ∨ p = sigW nm r) (hr : knownT T r = true) : Go.Proofs.YtmbegaobnpoefaaDoor.chk T' c = 0 := by
 rw [chk_zero] at hc ⊢
 obtain ⟨a1, a2, a3, a4⟩ := hc
 rw [chkL_zero] at a4
 refine ⟨by rw [h.is]; exact a1, by rw [h.up_eq]; exact a2, h1, ?_⟩
 rw [chkL_zero, h.fs, h.su]
 refine ⟨fun v hv => ?_, fun p hp => ?_⟩
 ·rw [h.known_eq, h.memF_eq, h.up_eq]; exact a4.1 v hv
 ·unfold okS
  rw [h.known_eq, h.ovr_eq]
  rcases h2 p hp with h9 | h9
  ·exact a4.2 p h9
  ·subst h9
   refine ⟨by simpa [sigW] using hr, ?_⟩
   unfold ovrP
   split
   ·rfl
   ·rfl
theorem fitP_iff {m : SgP} {c : List UInt8} : fitP T m c = true ↔ (methOf (faceF T c) m.n).map Sg.pl = some m := by
 unfold fitP
 cases methOf (faceF T c) m.n <;> simp
theorem Mo.pool (h : Mo T T' c0 nm r) {p : PoolP} (hp : poolP T p = true) : poolP T' p = true := by
 unfold poolP at hp ⊢
 rw [h.known_eq]
 simp only [Bool.and_eq_true, List.all_eq_true] at hp ⊢
 refine ⟨hp.1, hp.2.1, fun x hx => ?_, fun x hx => ?_⟩
 ·have := hp.2.2.1 x hx
  unfold fdIn at this ⊢
  rw [h.memF_eq, h.up_eq]; exact this
 ·have := hp.2.2.2 x hx
  unfold mtIn at this ⊢
  rw [h.up_eq]
  rw [List.find?_isSome] at this ⊢
  obtain ⟨c, hc, hf⟩ := this
  refine ⟨c, hc, ?_⟩
  rw [fitP_iff] at hf ⊢
  rw [h.ms c _ ?_]
  ·exact hf
  ·rintro ⟨rfl, e⟩
   rw [e, h.m0] at hf
   cases hf
end
end Go.Proofs.YtmbegaobnpoefaaDoor
namespace Go.Proofs.YtmbegaobnpoefaaDoor
open Go.RowKit Go.Maps
set_option linter.unusedVariables false
theorem leqB_of_lt {a b : List UInt8} (h : b < a) : leqB a b = false := by
 unfold leqB
 rw [Bool.or_eq_false_iff, bytesLess_eq]
 refine ⟨decide_eq_false (fun h2 => List.lt_irrefl _ (List.lt_trans h h2)), ?_⟩
 rw [beq_eq_false_iff_ne]
 intro e
 subst e
 exact List.lt_irrefl _ h
theorem rise_ins {s : SgP} (hs1 : s.n.length ≤ 40) (hs2 : s.good = true) : ∀ (l : List SgP) (last : List UInt8) (a : Nat), riseP last l = true → a ≤ l.length → (∀ i (hi : i < l.length), i < a → l[i].n < s.n) → (∀ (hi : a < l.length), s.n < l[a].n) → last < s.n → riseP last (l.take a ++ s :: l.drop a) = true
 | [], last, 0, h, _, _, _, h3 => by simp [riseP, leqB_of_lt h3, hs1, hs2]
 | m :: r, last, 0, h, _, _, h2, h3 => by
  have h4 := h2 (by simp)
  unfold riseP at h
  simp only [Bool.and_eq_true] at h
  have h5 : s.n < m.n := h4
  simp only [List.take_zero, List.nil_append, List.drop_zero, riseP, leqB_of_lt h3, leqB_of_lt h5, hs1, hs2, h.1.1.2, h.1.2, h.2]
  simp
 | [], last, a + 1, _, ha, _, _, _ => by simp at ha
 | m :: r, last, a + 1, h, ha, h1, h2, h3 => by
  unfold riseP at h
  simp only [Bool.and_eq_true] at h
  have ih := rise_ins hs1 hs2 r m.n a h.2 (by simpa using ha) (fun i hi hlt => h1 (i + 1) (by simpa using hi) (by omega)) (fun hi => h2 (by simpa using hi)) (h1 0 (by simp) (by omega))
  simp only [List.take_succ_cons, List.cons_append, List.drop_succ_cons, riseP, ih, Bool.and_eq_true]
  exact ⟨h.1, trivial⟩
theorem rise_adj : ∀ (l : List SgP) (last : List UInt8), riseP last l = true → adjN (l.map (·.n)) = false
 | [], _, _ => rfl
 | [_], _, _ => rfl
 | a :: b :: r, last, h => by
  unfold riseP at h
  simp only [Bool.and_eq_true] at h
  have ih := rise_adj (b :: r) a.n h.2
  have h2 := h.2
  unfold riseP at h2
  simp only [Bool.and_eq_true, Bool.not_eq_true'] at h2
  have h3 := lt_of_leqB h2.1.1.1
  have h4 : (a.n == b.n) = false := by
   rw [beq_eq_false_iff_ne]
   intro e
   rw [e] at h3
   exact List.lt_irrefl _ h3
  simp only [List.map_cons] at ih ⊢
  unfold adjN
  rw [h4, ih]
  rfl
theorem rtC_mono {c a v v' : Int} (hv : v ≤ v') (h : rtC c a v = true) : rtC c a v' = true := by
 unfold rtC at h ⊢
 rw [Bool.and_eq_true] at h ⊢
 refine ⟨h.1, ?_⟩
 have h2 := h.2
 split
 ·next e => rw [if_pos e] at h2; exact h2
 ·next e =>
  rw [if_neg e] at h2
  simp only [Bool.and_eq_true, decide_eq_true_eq] at h2 ⊢
  omega
theorem bdOk_nums {p : PoolP} {x : List Int} (hx : p.nums.length ≤ x.length) {m : SgP} {b : BdP} (h : bdOk p m b = true) : bdOk { p with nums := x } m b = true := by
 unfold bdOk at h ⊢
 rw [Bool.and_eq_true] at h ⊢
 refine ⟨h.1, ?_⟩
 have h2 := h.2
 rw [List.all_eq_true] at h2 ⊢
 intro y hy
 refine rtC_mono ?_ (h2 y hy)
 unfold manyV
 split
 ·show (p.nums.length : Int) ≤ (x.length : Int); omega
 ·exact Int.le_refl _
theorem bodies_mono {p p' : PoolP} (hm : ∀ m b, bdOk p m b = true → bdOk p' m b = true) : ∀ (ms : List SgP) (bs : List BdP), bodiesOk p ms bs = true → bodiesOk p' ms bs = true
 | [], _, _ => by simp [bodiesOk]
 | _ :: _, [], _ => by simp [bodiesOk]
 | m :: ms, b :: bs, h => by
  simp only [bodiesOk, Bool.and_eq_true] at h ⊢
  exact ⟨hm m b h.1, bodies_mono hm ms bs h.2⟩
theorem bodies_ins {p p' : PoolP} {s : SgP} {b : BdP} (hm : ∀ m b, bdOk p m b = true → bdOk p' m b = true) (hb : bdOk p' s b = true) : ∀ (ms : List SgP) (bs : List BdP) (a : Nat), bodiesOk p ms bs = true → ms.length = bs.length → a ≤ ms.length → bodiesOk p' (ms.take a ++ s :: ms.drop a) (bs.take a ++ b :: bs.drop a) = true
 | ms, bs, 0, h, _, _ => by
  simp only [List.take_zero, List.nil_append, List.drop_zero, bodiesOk, Bool.and_eq_true]
  exact ⟨hb, bodies_mono hm ms bs h⟩
 | [], _, a + 1, _, _, ha => by simp at ha
 | _ :: _, [], a + 1, _, hl, _ => by simp at hl
 | m :: ms, b0 :: bs, a + 1, h, hl, ha => by
  simp only [bodiesOk, Bool.and_eq_true] at h
  simp only [List.take_succ_cons, List.cons_append, List.drop_succ_cons, bodiesOk, Bool.and_eq_true]
  exact ⟨hm m b0 h.1, bodies_ins hm hb ms bs a h.2 (by simpa using hl) (by simpa using ha)⟩
theorem pl_some : pl 1 = 110 ∧ pl 32 = 98 ∧ pl 2 = 0 ∧ pl 29 = 0 ∧ kn 1 = true ∧ kn 32 = true ∧ kn 2 = true ∧ kn 29 = true := by decide
theorem bd_new (p : PoolP) (n : List UInt8) (r : Ty) : bdOk { p with nums := numsW r p.nums } (sigW n r) (bodyW r p.nums.length) = true := by
 obtain ⟨p1, p2, p3, p4, k1, k2, k3, k4⟩ := pl_some
 have h9 : rtC (insW r p.nums.length).1 (insW r p.nums.length).2 (manyV { p with nums := numsW r p.nums } (bodyW r p.nums.length) (pl (insW r p.nums.length).1)) = true := by
  unfold insW numsW
  split
  ·simp only [p1, manyV, rtC, k1]
   simp
   omega
  ·split
   ·simp only [p2, manyV, rtC, k2]
    simp
   ·simp [p3, rtC, k3]
 have h8 : rtC 29 0 (manyV { p with nums := numsW r p.nums } (bodyW r p.nums.length) (pl 29)) = true := by simp [p4, rtC, k4]
 unfold bdOk
 rw [Bool.and_eq_true]
 refine ⟨by simp [sigW, bodyW], ?_⟩
 show List.all [insW r p.nums.length, (29, 0)] _ = true
 simp only [List.all_cons, List.all_nil, Bool.and_true, Bool.and_eq_true]
 exact ⟨h9, h8⟩
theorem right_with {F : FileP} {n : List UInt8} {r : Ty} {a : Nat} (h : F.right = true) (ha : a ≤ F.f.ms.length) (hlt : ∀ i (hi : i < F.f.ms.length), i < a → F.f.ms[i].n < n) (hge : ∀ (hi : a < F.f.ms.length), n < F.f.ms[a].n) (h0 : [] < n) (hl : n.length ≤ 40) (hr : r.good = true)
  (hm : F.f.ms.length ≤ 199) (hn : F.p.nums.length ≤ 16383) : (withM F n r a).right = true := by
 simp only [FileP.right, Bool.and_eq_true, decide_eq_true_eq] at h ⊢
 obtain ⟨⟨⟨h1, h2⟩, h3⟩, h4⟩ := h
 have hnl : (numsW r F.p.nums).length ≤ F.p.nums.length + 1 ∧ F.p.nums.length ≤ (numsW r F.p.nums).length := by unfold numsW; split <;> simp
 refine ⟨⟨⟨?_, ?_⟩, ?_⟩, ?_⟩
 ·simp only [FcP.right, Bool.and_eq_true, decide_eq_true_eq] at h1 ⊢
  obtain ⟨⟨⟨⟨⟨⟨⟨a1, a2⟩, a3⟩, a4⟩, a5⟩, a6⟩, a7⟩, a8⟩ := h1
  refine ⟨⟨⟨⟨⟨⟨⟨a1, a2⟩, a3⟩, ?_⟩, a5⟩, a6⟩, a7⟩, rise_ins (s := sigW n r) hl (by simp [SgP.good, sigW, hr]) _ _ _ a8 ha hlt hge h0⟩
  show (F.f.ms.take a ++ sigW n r :: F.f.ms.drop a).length ≤ 200
  simp; omega
 ·simp only [PoolP.right, Bool.and_eq_true, decide_eq_true_eq] at h2 ⊢
  obtain ⟨⟨⟨⟨⟨⟨⟨⟨a1, a2⟩, a3⟩, a4⟩, a5⟩, a6⟩, a7⟩, a8⟩, a9⟩ := h2
  exact ⟨⟨⟨⟨⟨⟨⟨⟨by show (numsW r F.p.nums).length ≤ 16384; omega, a2⟩, a3⟩, a4⟩, a5⟩, a6⟩, a7⟩, a8⟩, a9⟩
 ·show (F.b.take a ++ bodyW r F.p.nums.length :: F.b.drop a).length = (F.f.ms.take a ++ sigW n r :: F.f.ms.drop a).length
  simp; omega
 ·exact bodies_ins (fun m b => bdOk_nums hnl.2) (bd_new F.p n r) _ _ _ h4 h3.symm ha
theorem ins_getD {α : Type} (x d : α) : ∀ (l : List α) (a : Nat), a ≤ l.length → ∀ j, (l.take a ++ x :: l.drop a).getD j d = if j < a then l.getD j d else if j = a then x else l.getD (j - 1) d
 | l, 0, _, 0 => by simp
 | l, 0, _, j + 1 => by simp
 | [], a + 1, ha, _ => by simp at ha
 | y :: l, a + 1, ha, 0 => by simp
 | y :: l, a + 1, ha, j + 1 => by
  have ih := ins_getD x d l a (by simpa using ha) j
  simp only [List.take_succ_cons, List.cons_append, List.drop_succ_cons, List.getD_cons_succ, ih, Nat.add_lt_add_iff_right, Nat.add_right_cancel_iff, Nat.add_sub_cancel]
  split
  ·rfl
  ·split
   ·rfl
   ·obtain ⟨j', rfl⟩ : ∃ j', j = j' + 1 := ⟨j - 1, by omega⟩
    simp
theorem vOne_nums (T : List Fc) (n : List UInt8) (p : PoolP) (x : List Int) (m : SgP) (b : BdP) : vOne T n { p with nums := x } m b = vOne T n p m b := by
 unfold vOne; rw [run_nums]
theorem vFile_with {T : List Fc} {F : FileP} {n : List UInt8} {r : Ty} {a : Nat} (h : vFile T F = true) (hb : F.b.length = F.f.ms.length) (ha : a ≤ F.f.ms.length) (hr : knownT T r = true) : vFile T (withM F n r a) = true := by
 unfold vFile at h ⊢
 rw [List.all_eq_true] at h ⊢
 intro j hj
 have hj2 : j < F.f.ms.length + 1 := by
  have : (withM F n r a).f.ms.length = F.f.ms.length + 1 := by
   show (F.f.ms.take a ++ sigW n r :: F.f.ms.drop a).length = _
   simp; omega
  rw [List.mem_range, this] at hj; exact hj
 show vOne T F.f.n { F.p with nums := numsW r F.p.nums } ((F.f.ms.take a ++ sigW n r :: F.f.ms.drop a).getD j sgZ) ((F.b.take a ++ bodyW r F.p.nums.length :: F.b.drop a).getD j bdZ) = true
 rw [vOne_nums, ins_getD _ _ _ _ ha, ins_getD _ _ _ _ (by omega)]
 by_cases h1 : j < a
 ·rw [if_pos h1, if_pos h1]
  exact h j (List.mem_range.2 (by omega))
 ·rw [if_neg h1, if_neg h1]
  by_cases h2 : j = a
  ·rw [if_pos h2, if_pos h2]
   exact vOne_new _ _ _ _ _ hr
  ·rw [if_neg h2, if_neg h2]
   exact h (j - 1) (List.mem_range.2 (by omega))
end Go.Proofs.YtmbegaobnpoefaaDoor
namespace Go.Proofs.YtmbegaobnpoefaaDoor
open Go.RowKit Go.Maps
set_option linter.unusedVariables false
structure FwL (f : Fl) : Prop where
 m : f.f.fewM ∧ f.cl ≤ 20 ∧ f.tl ≤ 20 ∧ f.dl ≤ 20 ∧ f.ml ≤ 20
 v : f.f.ml ≤ 13 ∧ (∀ b ∈ f.bs, b.k ≤ 100) ∧ ∀ x ∈ f.mts, x.m.k ≤ 200
theorem fw_of_few {f : Fl} (h : f.few) : FwL f := by
 obtain ⟨h1, h2, h3, h4, h5, h6⟩ := h.fa
 refine ⟨⟨⟨h1, by omega, h3, h4, h5, h6⟩, h.c, h.t, h.d, h.m⟩, by omega, fun b hb => by have := h.bs b hb; omega, fun x hx => ?_⟩
 have := (h.ms x hx).2.2.2.1
 omega
theorem mem_ins {α : Type} {l : List α} {a : Nat} {x p : α} (h : p ∈ l.take a ++ x :: l.drop a) : p ∈ l ∨ p = x := by
 rcases List.mem_append.1 h with h1 | h1
 ·exact .inl (List.mem_of_mem_take h1)
 ·rcases List.mem_cons.1 h1 with h1 | h1
  ·exact .inr h1
  ·exact .inl (List.mem_of_mem_drop h1)
section
variable {f g : Fl} {n : List UInt8} {r : Ty} {a : Nat} {w w2 : World} {F G : Nat → Prop}
theorem fw_with (hf : f.few) (hat : f.at_ w F) (hgat : g.at_ w2 G) (hg : g.pl = withM f.pl n r a) (ha : a ≤ f.f.ms.length) (hn : n.length ≤ 60) (hr : r.n.length ≤ 60) : FwL g := by
 have e1 : g.f.n = f.f.n := congrArg (fun F : FileP => F.f.n) hg
 have e2 : g.f.su = f.f.su := congrArg (fun F : FileP => F.f.su) hg
 have e3 : g.f.fs = f.f.fs := congrArg (fun F : FileP => F.f.fs) hg
 have e4 : g.f.ms.map Sg.pl = (f.f.ms.map Sg.pl).take a ++ sigW n r :: (f.f.ms.map Sg.pl).drop a := congrArg (fun F : FileP => F.f.ms) hg
 have e5 : g.cls = f.cls := congrArg (fun F : FileP => F.p.cls) hg
 have e6 : g.tys = f.tys := congrArg (fun F : FileP => F.p.tys) hg
 have e7 : g.fds = f.fds := congrArg (fun F : FileP => F.p.fds) hg
 have e8 : g.mts.map Mt.pl = f.mts.map Mt.pl := congrArg (fun F : FileP => F.p.mts) hg
 have e9 : g.bs.map Bd.pl = (f.bs.map Bd.pl).take a ++ bodyW r f.nums.length :: (f.bs.map Bd.pl).drop a := congrArg (fun F : FileP => F.b) hg
 obtain ⟨h1, h2, h3, h4, h5, h6⟩ := hf.fa
 have l1 := hgat.fa.1.2.1
 have l2 := hat.fa.1.2.1
 have l3 := hgat.fa.2.1.2.1
 have l4 := hat.fa.2.1.2.1
 have l5 := congrArg List.length e4
 simp only [List.length_map, List.length_append, List.length_cons, List.length_take, List.length_drop] at l5
 have hml : g.f.ml ≤ 13 := by omega
 refine ⟨⟨⟨by rw [← l1, e3]; omega, hml, by rw [e1]; exact h3, by rw [e2]; exact h4, by rw [e3]; exact h5, fun m hm => ?_⟩, ?_, ?_, ?_, ?_⟩, hml, fun b hb => ?_, fun x hx => ?_⟩
 ·have hk := (hgat.fa.2.1.2.2.2 m hm).2.1
  have h9 : m.pl ∈ g.f.ms.map Sg.pl := List.mem_map_of_mem hm
  rw [e4] at h9
  rcases mem_ins h9 with h9 | h9
  ·obtain ⟨m', hm', he⟩ := List.mem_map.1 h9
   have hk' := (hat.fa.2.1.2.2.2 m' hm').2.1
   have q1 : m'.n = m.n := congrArg SgP.n he
   have q2 : m'.ps = m.ps := congrArg SgP.ps he
   have q3 : m'.r = m.r := congrArg SgP.r he
   obtain ⟨f1, f2, f3, f4⟩ := h6 m' hm'
   exact ⟨by rw [← q1]; exact f1, by rw [← q3]; exact f2, by rw [← hk, ← q2, hk']; exact f3, by rw [← q2]; exact f4⟩
  ·have q1 : m.n = n := congrArg SgP.n h9
   have q2 : m.ps = [] := congrArg SgP.ps h9
   have q3 : m.r = r := congrArg SgP.r h9
   exact ⟨by rw [q1]; exact hn, by rw [q3]; exact hr, by rw [← hk, q2]; simp, by rw [q2]; simp⟩
 ·rw [← hgat.po.cL, e5, hat.po.cL]; exact hf.c
 ·rw [← hgat.po.tL, e6, hat.po.tL]; exact hf.t
 ·rw [← hgat.po.dL, e7, hat.po.dL]; exact hf.d
 ·have := congrArg List.length e8
  simp only [List.length_map] at this
  rw [← hgat.po.mL, this, hat.po.mL]; exact hf.m
 ·have h9 : b.pl ∈ g.bs.map Bd.pl := List.mem_map_of_mem hb
  have hk := (hgat.bW b hb).2.1
  rw [e9] at h9
  rcases mem_ins h9 with h9 | h9
  ·obtain ⟨b', hb', he⟩ := List.mem_map.1 h9
   have q : b'.code = b.code := congrArg BdP.code he
   have := hf.bs b' hb'
   have hk' := (hat.bW b' hb').2.1
   rw [← hk, ← q, hk']; omega
  ·have q : b.code = [insW r f.nums.length, (29, 0)] := congrArg BdP.code h9
   rw [← hk, q]; simp
 ·have h9 : x.pl ∈ g.mts.map Mt.pl := List.mem_map_of_mem hx
  rw [e8] at h9
  obtain ⟨x', hx', he⟩ := List.mem_map.1 h9
  have q : x'.m.ps = x.m.ps := congrArg (fun z : MtP => z.m.ps) he
  have hk := (hgat.po.mW x hx).1.2.1
  have hk' := (hat.po.mW x' hx').1.2.1
  have := (hf.ms x' hx').2.2.2.1
  rw [← hk, ← q, hk']; omega
end
theorem vg_of {Fs : List Fl} (hL : LinkOk Fs) (hl : Fs.length ≤ 8) (hF : ∀ f ∈ Fs, FwL f) : Vg (Fs.map (·.f)) Fs := by
 refine ⟨fun c hc => ?_, hL.right, hl, fun f hf => (hF f hf).v⟩
 obtain ⟨f, hf, rfl⟩ := List.mem_map.1 hc
 have h1 := chk_zero.1 (hL.chk f hf)
 have h2 := hL.right f hf
 simp only [FileP.right, FcP.right, Bool.and_eq_true, decide_eq_true_eq] at h2
 exact ⟨h1.2.1, h2.1.1.1.1.1.1.1.1.1.1⟩
theorem lt_of_less {x y : List UInt8} (h : Op.bytesLess x y = true) : x < y := by
 rw [bytesLess_eq] at h; simpa using h
theorem with_all {Fs : List Fl} {k a : Nat} {g : Fl} {n : List UInt8} {r : Ty} {w w2 : World} {F G : Nat → Prop} (hat : ∀ f ∈ Fs, f.at_ w F) (hgat : g.at_ w2 G) (hL : LinkOk Fs) (hV : vAll (Fs.map (·.f)) (Fs.map Fl.pl) = true) (hF : ∀ f ∈ Fs, f.few) (hl : Fs.length ≤ 8) (hk : k < Fs.length)
  (hg : g.pl = withM Fs[k].pl n r a) (ha : a ≤ Fs[k].f.ml) (h1 : ∀ i (hi : i < Fs[k].f.ms.length), i < a → Op.bytesLess Fs[k].f.ms[i].n n = true) (h2 : ∀ hi : a < Fs[k].f.ms.length, Op.bytesLess Fs[k].f.ms[a].n n = false) (hm : methOf Fs[k].f n = none)
  (hr : knownT (Fs.map (·.f)) r = true) (h0 : [] < n) (hn : n.length ≤ 40) (hrl : r.n.length ≤ 40) :
  passB Fs[k].f g.f = true ∧ LinkOk (Fs.set k g) ∧ vAll ((Fs.set k g).map (·.f)) ((Fs.set k g).map Fl.pl) = true ∧ ∀ f ∈ Fs.set k g, FwL f := by
 obtain ⟨f, hf⟩ : ∃ f, f = Fs[k] := ⟨_, rfl⟩
 have hfm : f ∈ Fs := hf ▸ List.getElem_mem hk
 have e1 : g.f.n = f.f.n := hf ▸ congrArg (fun F : FileP => F.f.n) hg
 have e2 : g.f.su = f.f.su := hf ▸ congrArg (fun F : FileP => F.f.su) hg
 have e3 : g.f.fs = f.f.fs := hf ▸ congrArg (fun F : FileP => F.f.fs) hg
 have e4 : g.f.ms.map Sg.pl = (f.f.ms.map Sg.pl).take a ++ sigW n r :: (f.f.ms.map Sg.pl).drop a := hf ▸ congrArg (fun F : FileP => F.f.ms) hg
 have e5 : g.ppl = { f.ppl with nums := numsW r f.ppl.nums } := hf ▸ congrArg (fun F : FileP => F.p) hg
 rw [← hf] at hg ha h1 h2 hm ⊢
 have hfa := hat f hfm
 have hml := hfa.fa.2.1.2.1
 have hfr := hL.right f hfm
 have hff := hF f hfm
 have ha2 : a ≤ f.pl.f.ms.length := by show a ≤ (f.f.ms.map Sg.pl).length; simp; omega
 have hne : ∀ m ∈ f.f.ms, m.n ≠ n := meth_none.1 hm
 have hgr : g.pl.right = true := by
  rw [hg]
  refine right_with hfr ha2 (fun i hi hlt => ?_) (fun hi => ?_) h0 hn ?_ ?_ ?_
  ·have hi2 : i < f.f.ms.length := by have h9 : i < (f.f.ms.map Sg.pl).length := hi; simpa using h9
   have : f.pl.f.ms[i] = f.f.ms[i].pl := List.getElem_map (l := f.f.ms) (i := i) Sg.pl (h := by simpa using hi2)
   rw [this]
   exact lt_of_less (h1 i hi2 hlt)
  ·have hi2 : a < f.f.ms.length := by have h9 : a < (f.f.ms.map Sg.pl).length := hi; simpa using h9
   have : f.pl.f.ms[a] = f.f.ms[a].pl := List.getElem_map (l := f.f.ms) (i := a) Sg.pl (h := by simpa using hi2)
   rw [this]
   refine lt_of_leqB ?_
   unfold leqB
   rw [Bool.or_eq_false_iff, beq_eq_false_iff_ne]
   exact ⟨h2 hi2, hne _ (List.getElem_mem hi2)⟩
  ·unfold knownT at hr; rw [Bool.and_eq_true] at hr; exact hr.1
  ·show (f.f.ms.map Sg.pl).length ≤ 199
   have := hff.fa.2.1
   simp; omega
  ·show f.nums.length ≤ 16383
   have := hff.n
   have := hfa.po.nL
   omega
 have hT : (Fs.map (·.f)).length = Fs.length := List.length_map ..
 have hkT : k < (Fs.map (·.f)).length := by rw [hT]; exact hk
 have hTk : (Fs.map (·.f))[k] = f.f := by simp [hf]
 have hTs : (Fs.set k g).map (·.f) = (Fs.map (·.f)).set k g.f := List.map_set ..
 have hnd : ((Fs.map (·.f)).map (·.n)).Nodup := by rw [List.map_map]; exact hL.nodup
 have MO : Mo (Fs.map (·.f)) ((Fs.map (·.f)).set k g.f) f.f.n n r := by
  have h9 := mo_set (g := g.f) (nm := n) (r := r) (a := a) hkT hnd (by rw [hTk]; exact e1) (by rw [hTk]; exact e2) (by rw [hTk]; exact e3) (by rw [hTk]; exact e4) (by rw [hTk]; exact hm)
  rwa [hTk] at h9
 have hmem : ∀ x ∈ Fs.set k g, x = g ∨ x ∈ Fs := fun x hx => by
  rcases List.mem_or_eq_of_mem_set hx with h9 | h9
  ·exact .inr h9
  ·exact .inl h9
 obtain ⟨fs1, fs2⟩ := face_set_same (g := g.f) hkT hnd (by rw [hTk]; exact e1)
 rw [hTk] at fs1 fs2
 have hfw : ∀ x ∈ Fs.set k g, FwL x := fun x hx => by
  rcases hmem x hx with rfl | h9
  ·exact fw_with hff hfa hgat hg (by omega) (by omega) (by omega)
  ·exact fw_of_few (hF x h9)
 have hch : ∀ x ∈ Fs, chk ((Fs.map (·.f)).set k g.f) x.f.n = 0 := fun x hx => by
  have hc := hL.chk x hx
  have hc2 := chk_zero.1 hc
  by_cases hxc : x.f.n = f.f.n
  ·refine MO.chk hc ?_ (fun p hp => ?_) hr
   ·rw [hxc, fs1]
    have h9 := hc2.2.2.1
    rw [hxc, fs2] at h9
    unfold twiceB at h9 ⊢
    rw [Bool.or_eq_false_iff] at h9 ⊢
    refine ⟨by rw [e3]; exact h9.1, ?_⟩
    simp only [FileP.right, FcP.right, Bool.and_eq_true] at hgr
    have h8 := rise_adj _ _ hgr.1.1.1.2
    have h7 : (g.pl.f.ms.map (·.n)) = g.f.ms.map Sg.n := by show ((g.f.ms.map Sg.pl).map (·.n)) = _; rw [List.map_map]; rfl
    rw [← h7]; exact h8
   ·rw [hxc, fs1, e4] at hp
    rw [hxc, fs2]
    exact mem_ins hp
  ·have h9 := face_set_other (g := g.f) hkT hnd (by rw [hTk]; exact e1) (c := x.f.n) (by rw [hTk]; exact hxc)
   refine MO.chk hc (by rw [h9]; exact hc2.2.2.1) (fun p hp => by rw [h9] at hp; exact .inl hp) hr
 refine ⟨?_, ⟨fun x hx => ?_, ?_, fun x hx => ?_, fun x hx => ?_⟩, ?_, hfw⟩
 ·have r1 : f.f.right = true := by
   rw [Fc.right_pl hfa.fa]
   simp only [FileP.right, Bool.and_eq_true] at hfr
   exact hfr.1.1.1
  have r2 : g.f.right = true := by
   rw [Fc.right_pl hgat.fa]
   simp only [FileP.right, Bool.and_eq_true] at hgr
   exact hgr.1.1.1
  rw [passB_iff, passH_iff]
  refine ⟨⟨r1, r2, e1.symm, e2.symm, e3.symm⟩, fun m hm2 => ?_, fun m hm2 hno => ?_⟩
  ·have h9 : (methOf g.f m.n).map Sg.pl = some m.pl := by
    rw [meth_pl, e4, find_ins (s := sigW n r) (fun e => hne m hm2 e.symm), ← meth_pl, meth_mem (right_rise r1) hm2]
    rfl
   cases hx : methOf g.f m.n with
   | none => rw [hx] at h9; cases h9
   | some x =>
    rw [hx] at h9
    injection h9 with h9
    exact ⟨x, rfl, p_pl.2 h9⟩
  ·have h9 : m.pl ∈ g.f.ms.map Sg.pl := List.mem_map_of_mem hm2
   rw [e4] at h9
   rcases mem_ins h9 with h9 | h9
   ·obtain ⟨m', hm', he⟩ := List.mem_map.1 h9
    have q : m'.n = m.n := congrArg SgP.n he
    exact absurd q (meth_none.1 hno m' hm')
   ·exact congrArg SgP.st h9
 ·rcases hmem x hx with rfl | h9
  ·exact hgr
  ·exact hL.right x h9
 ·have : (Fs.set k g).map (·.f.n) = Fs.map (·.f.n) := by
   rw [List.map_set, e1]
   apply List.ext_getElem
   ·simp
   ·intro i h3 h4
    rw [List.getElem_set]
    split
    ·next e => subst e; simp [hf]
    ·rfl
  rw [this]; exact hL.nodup
 ·rw [hTs]
  rcases hmem x hx with rfl | h9
  ·rw [e1]; exact hch f hfm
  ·exact hch x h9
 ·rw [hTs]
  rcases hmem x hx with rfl | h9
  ·rw [e5]
   exact MO.pool (p := { f.ppl with nums := numsW r f.ppl.nums }) (show poolP _ f.ppl = true from hL.pool f hfm)
  ·exact MO.pool (hL.pool x h9)
 ·rw [hTs]
  unfold vAll at hV ⊢
  rw [List.all_eq_true] at hV ⊢
  intro P hP
  obtain ⟨x, hx, rfl⟩ := List.mem_map.1 hP
  rw [MO.vFile_eq]
  rcases hmem x hx with rfl | h9
  ·rw [hg]
   have hb : f.pl.b.length = f.pl.f.ms.length := by
    simp only [FileP.right, Bool.and_eq_true, decide_eq_true_eq] at hfr
    exact hfr.1.2
   exact vFile_with (hV _ (List.mem_map_of_mem hfm)) hb ha2 hr
  ·exact hV _ (List.mem_map_of_mem h9)
end Go.Proofs.YtmbegaobnpoefaaDoor
