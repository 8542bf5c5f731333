/- Operations of regions that draw their order, one by one; no statement of the seat is proved here. -/
import Derived.Test.YthehimjdjgmnjaaDepSt1
import Derived.Test.YthehimjdjgmnjaaAppRdD
import Derived.Great.BuildSlice
namespace Go.Proofs.Ythehimjdjgmnjaa
open Go.RowKit Go.Maps Go.Sort Go.Great
set_option linter.unusedVariables false

section
variable {P : Program} {o : Oper} {a : Act} {w : World} {K : Act → World → Prop} {Q : Exit → Act → World → Prop}
/-- '[]T{x}', x a value of several cells. -/
theorem wp_part (t e : TypeId) (x : Operand) (ho : o.op = .buildSlice t 1 #[(0, x)])
    (n : Nat) (v : Array Value) (hx : a.eval x = .agg v) (hv : v.size = n) (hn : 0 < n) (hs : n ≤ 2 ^ 24) (hu : P.underlying t = some (.slice e)) (hi : (P.info? e).map (fun i => (i.zero.isSome, i.size)) = some (true, n))
    (h : ∀ b w', b = w.heap.size → Blk w' b e v → Below w.heap.size w w' → K (a.put o.dst (.slice (some ⟨b, 0, none⟩) 1 1)) w') : Oper.wp P o a w K Q := by
  cases hie : P.info? e with
  | none => simp [hie] at hi
  | some ie =>
    simp only [hie, Option.map_some, Option.some.injEq, Prod.mk.injEq] at hi
    obtain ⟨z, hz⟩ := Option.isSome_iff_exists.1 hi.1
    refine wp_buildSlice t e 1 #[(0, x)] ho v ie z hu hie hz (by rw [hi.2]; omega) (by rw [hi.2]; omega) ?_ (h _ _ rfl (Blk.new _ _ _) ((Below.refl _ w).alloc (Nat.le_refl _) _))
    rw [hi.2, Nat.one_mul]
    have := fill_one n ((Array.range n).map (z.cells[· % z.cells.size]!)) v (by simp) hv
    simpa [hx] using this
/-- 'm[k] = v' of a map of the call's own, where a literal makes it. -/
theorem wp_insert {H : Type} (m x v : Operand) (t : TypeId) (hop : o.op = Op.insert t m x v)
    (k e : TypeId) (Ky : Keyed P k) (ht : P.underlying t = some (.map k e)) (R : Value → Option (DataW H × List MemPlace)) (b n : Nat) (D : DataW H)
    (hm : a.eval m = .map (some b)) (hown : w.ownsMap P k R b n D) (hn : n < maxLen) (key val : Value) (kl : Lit) (hx : a.eval x = key) (hv : a.eval v = val) (hkey : keyOf P k key = some kl)
    (d : DataW H) (ps : List MemPlace) (hval : R val = some (d, ps))
    (hK : ∀ w', w'.ownsMap P k R b (n + 1) (D.put kl d) → w.grownBy w' (some b) → K (a.put o.dst undef) w') : Oper.wp P o a w K Q := by
  obtain ⟨w', hrun, r1, r2⟩ := hown.update Ky ht hn hkey hval
  unfold Oper.wp
  simp [execOp, hop, hm, hx, hv, hrun, Result.andThen]
  exact hK w' r1 r2
/-- 'make(map)'. -/
theorem wp_map (t : TypeId) (hop : o.op = Op.makeMap t none) (hmm : ∀ w, (Instr.makeMap t none).run P w = .ok (.map (some w.heap.size)) (w.alloc (.map #[] 0)))
    (h : ∀ b w', b = w.heap.size → w' = w.alloc (.map #[] 0) → K (a.put o.dst (.map (some b))) w') : Oper.wp P o a w K Q := by
  unfold Oper.wp
  simp [execOp, hop, hmm, Result.andThen]
  exact h _ _ rfl rfl
/-- 'append(v, xs...)'. -/
theorem wp_app (s x : Operand) (t : TypeId)
    (ho : o.op = .call { callee := .builtin .append, args := #[s, x], argTypes := #[t, t] })
    (base : Nat) (e : TypeId) (z : Value) (size bytes : Nat) (ht : P.underlying t = some (.slice e)) (hinfo : (P.info? e).map (fun i => (i.zero, i.size, i.bytes)) = some (some z, size, bytes)) (hzs : z.cells.size = size) (hsz : 0 < size)
    (v : Value) (n : Nat) (xs : List Value) (hs : a.eval s = v) (hown : w.ownsRow base e size v n xs) {F : Nat → Prop} (A : Option Addr) (m c : Nat) (news : List Value) (hx : a.eval x = .slice A m c) (hr : Rd w F size A m news)
    (h1 : ∀ u ∈ news, u.oneCell' = true) (h63 : n + m ≤ maxLen) (hbytes : (n + m) * bytes ≤ 140737488355328) (hbase : base ≤ w.heap.size)
    (h : ∀ A' c' w', w'.ownsRow base e size (.slice A' (n + m) c') (n + m) (xs ++ news) → w.grownBy w' v.ownBlock → K (a.put o.dst (.slice A' (n + m) c')) w') : Oper.wp P o a w K Q := by
  obtain ⟨i, hi, hz, hz1, hz2⟩ := info_parts hinfo
  have key : ∃ v' w', (Builtin.append_ #[t, t] o.type #[v, .slice A m c]).run P w = .ok v' w' ∧ w'.ownsRow base e size v' (n + m) (xs ++ news) ∧ w.grownBy w' v.ownBlock := by
    by_cases h0 : m = 0
    · subst h0
      obtain rfl : news = [] := List.eq_nil_of_length_eq_zero (by have := hr.1; simpa using this)
      cases A with
      | none => exact ⟨v, w, app_none ht hi hown c, by simpa using hown, World.grownBy.refl w _⟩
      | some ad =>
        obtain ⟨v', w', hrun, h2, h3, _, h5⟩ := run_append_own_at (P := P) w base t o.type e i z size bytes ht hi hz hz1 hz2 hzs hsz v n xs hown ad 0 c [] (by simp) (by simp) h1 h63 hbytes hbase
        exact ⟨v', w', hrun, h2, h3⟩
    · obtain ⟨b, off, rfl, _, _, hc⟩ := hr.2 (by omega)
      obtain ⟨v', w', hrun, h2, h3, _, h5⟩ := run_append_own_at (P := P) w base t o.type e i z size bytes ht hi hz hz1 hz2 hzs hsz v n xs hown ⟨b, off, none⟩ m c news hr.1 (fun j u hu => by
        have := hc j u hu
        unfold Addr.add
        split
        · rename_i hj; subst hj; exact this
        · exact this) h1 h63 hbytes hbase
      exact ⟨v', w', hrun, h2, h3⟩
  obtain ⟨v', w', hrun, h2, h3⟩ := key
  obtain ⟨A', c', rfl⟩ := own_slice h2
  unfold Oper.wp execOp
  simp only [ho, resolve, invoke, builtin, Sem.run_bind, Sem.run_pure, Result.andThen_ok, List.map_toArray, List.map_cons, List.map_nil, hs, hx, hrun]
  exact h A' c' w' h2 h3
end
/-- The digest of one text, wherever its slice lies. -/
theorem sum_blk (W : World) (b : Nat) (l : List UInt8) (hl : l.length ≤ 1099511627776) (hb : Blk W b 9 #[S l]) : Calls Try.prog 8 #[.slice (some ⟨b, 0, none⟩) 1 1] W fun e w' => e = .returned (.agg (darr (sumM l))) ∧ Below W.heap.size W w' := by
  refine (sum_any W (some ⟨b, 0, none⟩) 1 1 [l] (Rd.of_one (cs := [S l]) (by simpa using hb) rfl (by have := hb.lt; omega)) rfl (by simpa using hl) (by omega)).mono ?_
  rintro e w' ⟨rfl, hbe⟩
  exact ⟨by simp, hbe⟩
end Go.Proofs.Ythehimjdjgmnjaa
