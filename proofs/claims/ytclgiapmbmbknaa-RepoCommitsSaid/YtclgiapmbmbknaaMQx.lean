/- A region that draws its order, whose operations read, make new memory and call what touches nothing that was there: each operation is looked at once; no statement of the seat is proved here. -/
import Derived.Test.YtclgiapmbmbknaaMBase
import Derived.Test.YtclgiapmbmbknaaMChain
namespace Go.Proofs.Ytclgiapmbmbknaa
open Go.RowKit

section
variable {P : Program} {ops : Array Oper} {Q : Exit → Act → World → Prop}
theorem ObQ.mk {a : Act} {w : World} {K : Nat → Value → World → Prop} (hmono : ∀ d x w1 w2, K d x w1 → Below w1.heap.size w1 w2 → K d x w2) {i : Nat} {d : Option Nat} {needs : List Nat} {o : Oper} (ho : ops[i]? = some o)
    (h : ∀ (z : Nat → Value) (w' : World), Below w.heap.size w w' → (∀ d ∈ needs, K d (z d) w') → ∀ G : Value → World → Prop, (∀ u w'', Below w'.heap.size w' w'' → (∀ d', d = some d' → K d' u w'') → G u w'') → Runs P o (putsAt needs z a) w' G) :
    Ob P ops a (fun d x _ w' => K d x w') (fun _ w' => Below w.heap.size w w') ⟨i, d, false, [0], needs⟩ :=
  Ob.mk ho fun z w' k _ hb hz G hG => by
    have h1 := h z w' hb hz (fun u w'' => Below w'.heap.size w' w'' ∧ ∀ d', d = some d' → K d' u w'') fun u w'' h1 h2 => ⟨h1, h2⟩
    unfold Runs at h1 ⊢
    revert h1
    generalize (execOp (putsAt needs z a).eval o).run P w' = r
    intro h1
    cases r with
    | ok n w2 =>
      cases n <;> simp only [ComesTo] at h1 ⊢
      case value u => exact hG u w2 (fun d' e => h1.2 d' e) (fun d' v _ hv => hmono _ _ _ _ hv h1.1) (hb.trans (h1.1.mono hb.size))
      case skip => exact hG undef w2 (fun d' e => h1.2 d' e) (fun d' v _ hv => hmono _ _ _ _ hv h1.1) (hb.trans (h1.1.mono hb.size))
      case enter f args => exact h1.mono fun e w'' ⟨u, he, h2⟩ => ⟨u, he, hG u w'' (fun d' e => h2.2 d' e) (fun d' v _ hv => hmono _ _ _ _ hv (by
          exact h2.1)) (hb.trans (h2.1.mono hb.size))⟩
    | halt x w2 => simp only [ComesTo] at h1
theorem region_qx {id : Nat} {a : Act} {w : World} (hm : P.follows .mixedOrders = true) (nds : List Nd) (K : Nat → Value → World → Prop) (hchk : chkAll ops [] nds = true)
    (hob : ∀ nd ∈ nds, Ob P ops a (fun d x _ w' => K d x w') (fun _ w' => Below w.heap.size w w') nd)
    (hend : ∀ (z : Nat → Value) (w' : World), (∀ d ∈ dstsOf nds, K d (z d) w') → Below w.heap.size w w' → Q .normal (putsAt (dstsOf nds) z a) w') : (Code.region id ops true).wp P Q a w :=
  region_chain hm nds [] (fun d x _ w' => K d x w') (fun _ w' => Below w.heap.size w w') hchk (Below.refl _ _).drew hob hend
end

/-- What a slot holds: a value that is known; one that hangs on where a new block lies, and what lies there; anything. -/
inductive Qk where
  | is (u : Value)
  | ex (f : Nat → Value) (T : TypeId) (cs : Array Value)
  | any
def Qk.at_ : Qk → Value → World → Prop
  | .is u, x, _ => x = u
  | .ex f T cs, x, w' => ∃ g, x = f g ∧ Blk w' g T cs
  | .any, _, _ => True
theorem Qk.mono (K : Nat → Qk) : ∀ (d : Nat) (x : Value) (w1 w2 : World), (K d).at_ x w1 → Below w1.heap.size w1 w2 → (K d).at_ x w2 := by
  intro d x w1 w2 h hb
  generalize K d = k at h ⊢
  cases k with
  | is u => exact h
  | any => trivial
  | ex f T cs =>
    obtain ⟨g, e, hB⟩ := h
    exact ⟨g, e, hB.below hb hB.lt⟩
end Go.Proofs.Ytclgiapmbmbknaa
/- A region that draws its order and ends in an append, whose other operations read, make new memory and call quietly: each operation is looked at once; no statement of the seat is proved here. -/
namespace Go.Proofs.Ytclgiapmbmbknaa
open Go.RowKit

section
variable {P : Program} {ops : Array Oper} {Q : Exit → Act → World → Prop}
/-- What the slots hold: ahead of the append, behind it. -/
abbrev VA (K T : Nat → Value → World → Prop) : Nat → Value → Nat → World → Prop := fun d x k w' => (k = 0 → K d x w') ∧ (k = 1 → T d x w')
abbrev PA (w : World) (Tp : World → Prop) : Nat → World → Prop := fun k w' => (k = 0 → Below w.heap.size w w') ∧ (k = 1 → Tp w')
theorem region_qxa {id : Nat} {a : Act} {w : World} (hm : P.follows .mixedOrders = true) (nds : List Nd) (ia : Nat) (K T : Nat → Value → World → Prop) (Tp : World → Prop) (hchk : chkAll ops [ia] nds = true)
    (hob : ∀ nd ∈ nds, Ob P ops a (VA K T) (PA w Tp) nd)
    (hend : ∀ (z : Nat → Value) (w' : World), (∀ d ∈ dstsOf nds, T d (z d) w') → Tp w' → Q .normal (putsAt (dstsOf nds) z a) w') : (Code.region id ops true).wp P Q a w :=
  region_chain hm nds [ia] (VA K T) (PA w Tp) hchk ⟨fun _ => (Below.refl _ _).drew, fun h => absurd h (by decide)⟩ hob (fun z w' hz hp => hend z w' (fun d hd => (hz d hd).2 rfl) (hp.2 rfl))
theorem ObA.mk {a : Act} {w : World} {K T : Nat → Value → World → Prop} {Tp : World → Prop} (hmono : ∀ d x w1 w2, K d x w1 → Below w1.heap.size w1 w2 → K d x w2) {i : Nat} {d : Option Nat} {needs : List Nat} {o : Oper} (ho : ops[i]? = some o)
    (h : ∀ (z : Nat → Value) (w' : World), Below w.heap.size w w' → (∀ d ∈ needs, K d (z d) w') → ∀ G : Value → World → Prop, (∀ u w'', Below w'.heap.size w' w'' → (∀ d', d = some d' → K d' u w'') → G u w'') → Runs P o (putsAt needs z a) w' G) :
    Ob P ops a (VA K T) (PA w Tp) ⟨i, d, false, [0], needs⟩ :=
  Ob.mk ho fun z w' k hk hb hz G hG => by
    obtain rfl := List.mem_singleton.1 hk
    have hb0 := hb.1 rfl
    have h1 := h z w' hb0 (fun d hd => (hz d hd).1 rfl) (fun u w'' => Below w'.heap.size w' w'' ∧ ∀ d', d = some d' → K d' u w'') fun u w'' h1 h2 => ⟨h1, h2⟩
    have fin : ∀ u w2, Below w'.heap.size w' w2 → (∀ d', d = some d' → K d' u w2) → G u w2 := fun u w2 h1 h2 =>
      hG u w2 (fun d' e => ⟨fun _ => h2 d' e, fun e => absurd e (by decide)⟩) (fun d' v _ hv => ⟨fun _ => hmono _ _ _ _ (hv.1 rfl) h1, fun e => absurd e (by decide)⟩) ⟨fun _ => hb0.trans (h1.mono hb0.size), fun e => absurd e (by decide)⟩
    unfold Runs at h1 ⊢
    revert h1
    generalize (execOp (putsAt needs z a).eval o).run P w' = r
    intro h1
    cases r with
    | ok n w2 =>
      cases n <;> simp only [ComesTo] at h1 ⊢
      case value u => exact fin u w2 h1.1 h1.2
      case skip => exact fin undef w2 h1.1 h1.2
      case enter f args => exact h1.mono fun e w'' ⟨u, he, h2⟩ => ⟨u, he, fin u w'' h2.1 h2.2⟩
    | halt x w2 => simp only [ComesTo] at h1
/-- The append. -/
theorem ObA.app {a : Act} {w : World} {K T : Nat → Value → World → Prop} {Tp : World → Prop} {i d : Nat} {needs : List Nat} {o : Oper} (ho : ops[i]? = some o)
    (hT : ∀ d' v w1 w2, d' ≠ d → K d' v w1 → T d' v w2)
    (h : ∀ (z : Nat → Value) (w' : World), Below w.heap.size w w' → (∀ d ∈ needs, K d (z d) w') → ∀ G : Value → World → Prop, (∀ u w'', T d u w'' → Tp w'' → G u w'') → Runs P o (putsAt needs z a) w' G) :
    Ob P ops a (VA K T) (PA w Tp) ⟨i, some d, true, [0], needs⟩ :=
  Ob.mk ho fun z w' k hk hb hz G hG => by
    obtain rfl := List.mem_singleton.1 hk
    exact h z w' (hb.1 rfl) (fun d hd => (hz d hd).1 rfl) G fun u w'' h1 h2 =>
      hG u w'' (fun d' e => by cases e; exact ⟨fun e => absurd e (by decide), fun _ => h1⟩) (fun d' v hne hv => ⟨fun e => absurd e (by decide), fun _ => hT d' v _ _ (fun e => hne (by rw [e])) (hv.1 rfl)⟩) ⟨fun e => absurd e (by decide), fun _ => h2⟩
/-- A pure operation that may come ahead of the append or behind it. -/
theorem ObA.pur {a : Act} {w : World} {K T : Nat → Value → World → Prop} {Tp : World → Prop} {i d : Nat} {o : Oper} {u : Value} (ho : ops[i]? = some o) (hK : ∀ w', K d u w') (hT : ∀ w', T d u w')
    (h : ∀ (w' : World) (G : Value → World → Prop), G u w' → Runs P o a w' G) : Ob P ops a (VA K T) (PA w Tp) ⟨i, some d, false, [0, 1], []⟩ :=
  Ob.mk ho fun z w' k hk hb hz G hG => h w' G (hG u w' (fun d' e => by cases e; exact ⟨fun _ => hK w', fun _ => hT w'⟩) (fun d' v _ hv => hv) hb)
/-- What comes behind the append and turns nothing. -/
theorem ObA.aft {a : Act} {w : World} {K T : Nat → Value → World → Prop} {Tp : World → Prop} {i d : Nat} {needs : List Nat} {o : Oper} (ho : ops[i]? = some o)
    (h : ∀ (z : Nat → Value) (w' : World), (∀ d ∈ needs, T d (z d) w') → ∀ G : Value → World → Prop, (∀ u, T d u w' → G u w') → Runs P o (putsAt needs z a) w' G) :
    Ob P ops a (VA K T) (PA w Tp) ⟨i, some d, false, [1], needs⟩ :=
  Ob.mk ho fun z w' k hk hb hz G hG => by
    obtain rfl := List.mem_singleton.1 hk
    exact h z w' (fun d hd => (hz d hd).2 rfl) G fun u h1 =>
      hG u w' (fun d' e => by cases e; exact ⟨fun e => absurd e (by decide), fun _ => h1⟩) (fun d' v _ hv => hv) hb
end
/-- An append of one element of one cell, out of a new block, onto what the call owns: as a step. -/
theorem runs_app1 {P : Program} {w : World} {o : Oper} {a : Act} (s x : Operand) (t : TypeId) (ho : o.op = .call { callee := .builtin .append, args := #[s, x], argTypes := #[t, t] })
    (base : Nat) (e : TypeId) (z : Value) (bytes : Nat) (ht : P.underlying t = some (.slice e)) (hinfo : (P.info? e).map (fun i => (i.zero, i.size, i.bytes)) = some (some z, 1, bytes)) (hzs : z.cells.size = 1)
    (v : Value) (n : Nat) (xs : List Value) (hs : a.eval s = v) (hown : w.ownsRow base e 1 v n xs) (u : Value) (h1 : u.oneCell' = true) {g : Nat} (hx : a.eval x = .slice (some ⟨g, 0, none⟩) 1 1) (hg : w.cell? ⟨g, 0, none⟩ = some u)
    (hbytes : (n + 1) * bytes ≤ 140737488355328) (h63 : n + 1 ≤ 140737488355328) (hbase : base ≤ w.heap.size) {G : Value → World → Prop}
    (h : ∀ a' c' w', w'.ownsRow base e 1 (.slice a' (n + 1) c') (n + 1) (xs ++ [u]) → w.grownBy w' v.ownBlock → G (.slice a' (n + 1) c') w') : Runs P o a w G := by
  obtain ⟨i, hi, hz, hz1, hz2⟩ := info_parts hinfo
  obtain ⟨v', w', hrun, h2, h3, _, _⟩ := run_append_own_at (P := P) w base t o.type e i z 1 bytes ht hi hz hz1 hz2 hzs (by decide) v n xs hown ⟨g, 0, none⟩ 1 1 [u] rfl (fun j u2 hu => by
    cases j with
    | zero => simp at hu; subst hu; simpa [Addr.add] using hg
    | succ j => simp at hu) (by simpa using h1) (by unfold maxLen; omega) hbytes hbase
  obtain ⟨A', c', rfl⟩ := own_slice h2
  unfold Runs execOp
  simp only [ho, resolve, invoke, builtin, Sem.run_bind, Sem.run_pure, Result.andThen_ok, List.map_toArray, List.map_cons, List.map_nil, hs, hx, hrun]
  exact h A' c' w' h2 h3
/-- What the slots hold ahead of the append, which writes slot da, and db behind it. -/
abbrev KA (K : Nat → Qk) (da db : Nat) : Nat → Value → World → Prop := fun d x w' => (d ≠ da ∧ d ≠ db) ∧ (K d).at_ x w'
theorem KA.mono (K : Nat → Qk) (da db : Nat) : ∀ d x w1 w2, KA K da db d x w1 → Below w1.heap.size w1 w2 → KA K da db d x w2 := fun d x w1 w2 h hb => ⟨h.1, Qk.mono K d x w1 w2 h.2 hb⟩
/-- What the two slots hold behind it. -/
abbrev TA (R : Value → World → Prop) (da db : Nat) : Nat → Value → World → Prop := fun d x w' => (d = da ∨ d = db) → R x w'
theorem TA.of {K : Nat → Qk} {R : Value → World → Prop} {da db : Nat} : ∀ d' v w1 w2, d' ≠ da → KA K da db d' v w1 → TA R da db d' v w2 := fun d' v w1 w2 h hk e => by
  rcases e with e | e
  · exact absurd e hk.1.1
  · exact absurd e hk.1.2
end Go.Proofs.Ytclgiapmbmbknaa
