/- A slice in a struct's field that grows by what is read, one element a round; no statement of the seat is proved here. -/
import Derived.Test.YtkgnoemagklmiaaReader2F
import Derived.Test.YtkgnoemagklmiaaChain
import Derived.Deep.AppendLies
namespace Go.Proofs.Ytkgnoemagklmiaa
open Go.RowKit

/-- A struct behind q whose j-th cell is the slice v, which the call owns: n elements, of the cells xs. -/
structure Gx (w : World) (q : Nat) (T : TypeId) (cs : List Value) (j : Nat) (B : Nat) (e : TypeId) (sz n : Nat) (xs : List Value) (v : Value) : Prop where
  blk : Blk w q T cs.toArray
  at_ : cs[j]? = some v
  own : w.ownsRow B e sz v n xs
  ne : e ≠ T
section
variable {w w1 w2 : World} {q j B sz n : Nat} {T e : TypeId} {cs xs news : List Value} {v v2 : Value} {F : Nat → Prop}
theorem Gx.keep (h : Gx w q T cs j B e sz n xs v) (hk : Keep F w w1) (hq : ¬ F q) (hv : ∀ k, v.ownBlock = some k → ¬ F k) : Gx w1 q T cs j B e sz n xs v :=
  ⟨h.blk.keep hk hq, h.at_, own_keep h.own hk hv, h.ne⟩
theorem Gx.alloc (h : Gx w q T cs j B e sz n xs v) (o : Obj) : Gx (w.alloc o) q T cs j B e sz n xs v := ⟨h.blk.alloc o, h.at_, h.own.alloc o, h.ne⟩
theorem Gx.row (h : Gx w q T cs j B e sz n xs v) : v.ownBlock ≠ some q := own_blk_ne h.own h.blk h.ne
theorem Gx.cell (h : Gx w q T cs j B e sz n xs v) : w.cell? ⟨q, j, none⟩ = some v := by rw [h.blk.cell]; simpa using h.at_
theorem Gx.next (h : Gx w1 q T cs j B e sz n xs v) (hown : w2.ownsRow B e sz v2 (n + 1) (xs ++ news)) (hg : w1.grownBy w2 v.ownBlock) :
    Gx (w2.setCell ⟨q, j, none⟩ v2) q T (cs.set j v2) j B e sz (n + 1) (xs ++ news) v2 ∧ w2.cell? ⟨q, j, none⟩ = some v ∧ w2.frozen? ⟨q, j, none⟩ = false := by
  have hb := h.blk.grown hg (fun e => h.row e.symm)
  have hn2 : ∀ k, v2.ownBlock = some k → ¬ k = q := fun k hk e => own_blk_ne hown hb h.ne (by rw [hk, e])
  have hj : j < cs.length := (List.getElem?_eq_some_iff.1 h.at_).1
  refine ⟨⟨?_, by simp [hj], own_keep hown ((Keep.refl (fun k => k = q) w2).setCell (p := ⟨q, j, none⟩) (fun _ => rfl) v2) hn2, h.ne⟩, ?_, hb.frozen j⟩
  · have := hb.set_ j v2
    simpa using this
  · rw [hb.cell]; simpa using h.at_
theorem Gx.keepNext (hg : w1.grownBy w2 v.ownBlock) (hv : ∀ k, v.ownBlock = some k → F k) (hq : F q) (hk : Keep F w w1) : Keep F w (w2.setCell ⟨q, j, none⟩ v2) :=
  (hk.grown hg (fun k hk _ => hv k hk)).setCell (fun _ => hq) _
end

section
variable {P : Program} {w : World}
/-- An 'append' onto what the call owns, run. -/
theorem runs_append {o : Oper} {a : Act} {G : Value → World → Prop} (s x : Operand) (t : TypeId) (ho : o.op = .call { callee := .builtin .append, args := #[s, x], argTypes := #[t, t] })
    (base : Nat) (e : TypeId) (z : Value) (size bytes : Nat) (ht : P.underlying t = some (.slice e)) (hinfo : (P.info? e).map (fun i => (i.zero, i.size, i.bytes)) = some (some z, size, bytes)) (hzs : z.cells.size = size) (hsz : 0 < size)
    (v : Value) (n : Nat) (xs : List Value) (hs : a.eval s = v) (hown : w.ownsRow base e size v n xs) (b : Nat) (news : List Value) (hx : a.eval x = .slice (some ⟨b, 0, none⟩) 1 1) (hl : news.length = size) (hb : Blk w b e news.toArray) (h1 : ∀ u ∈ news, u.oneCell' = true)
    (h63 : n + 1 ≤ maxLen) (hbytes : (n + 1) * bytes ≤ 140737488355328) (hbase : base ≤ w.heap.size)
    (h : ∀ A c w', w'.ownsRow base e size (.slice A (n + 1) c) (n + 1) (xs ++ news) → w.grownBy w' v.ownBlock → G (.slice A (n + 1) c) w') : Runs P o a w G := by
  obtain ⟨i, hi, hz, hz1, hz2⟩ := info_parts hinfo
  have hnews : ∀ j u, news[j]? = some u → w.cell? ((⟨b, 0, none⟩ : Addr).add j) = some u := fun j u hu => World.news_of_block hb j u (by simpa using hu)
  obtain ⟨v', w', hr, h2, h3, h4, h5⟩ := run_append_own_at (P := P) w base t o.type e i z size bytes ht hi hz hz1 hz2 hzs hsz v n xs hown ⟨b, 0, none⟩ 1 1 news (by omega) hnews h1 h63 hbytes hbase
  obtain ⟨A, c, rfl⟩ := own_slice h2
  unfold Runs execOp
  simp only [ho, resolve, invoke, builtin, Sem.run_bind, Sem.run_pure, Result.andThen_ok, List.map_toArray, List.map_cons, List.map_nil, hs, hx, hr]
  exact h A c w' h2 h3
end

/-- What is known of what an operation's slot holds. -/
inductive Ka where
  | is (u : Value)
  | lit (n : Nat) (t : TypeId) (cs : Array Value)
  | app (B : Nat) (e : TypeId) (sz n : Nat) (xs : List Value)
  | any
def Ka.at_ (w : World) (m : Nat) : Ka → Value → Nat → World → Prop
  | .is u, x, _, _ => x = u
  | .lit n t cs, x, k, w' => k ≤ m → ∃ b, x = .slice (some ⟨b, 0, none⟩) n n ∧ Blk w' b t cs ∧ w.heap.size ≤ b
  | .app B e sz n xs, x, k, w' => k = m + 1 → ∃ A c, x = .slice A n c ∧ w'.ownsRow B e sz x n xs
  | .any, _, _, _ => True
theorem Ka.keep {w w' w'' : World} {m k k' : Nat} {F : Nat → Prop} {K : Ka} {x : Value} (h : K.at_ w m x k w') (hk : Keep F w' w'') (hg : ∀ i, F i → i < w.heap.size) (hkk : k ≤ k') (hm : k' ≤ m) : K.at_ w m x k' w'' := by
  cases K with
  | is u => exact h
  | any => trivial
  | app B e sz n xs => intro e; omega
  | lit n t cs =>
    intro _
    obtain ⟨b, e1, e2, e3⟩ := h (by omega)
    exact ⟨b, e1, e2.keep hk (fun hf => by have := hg b hf; omega), e3⟩
theorem Ka.late {w w' w'' : World} {m k k' : Nat} {K : Ka} {x : Value} (h : K.at_ w m x k w') (hna : ∀ B e sz n xs, K ≠ .app B e sz n xs) (hm : m < k') : K.at_ w m x k' w'' := by
  cases K with
  | is u => exact h
  | any => trivial
  | app B e sz n xs => exact absurd rfl (hna B e sz n xs)
  | lit n t cs => intro _; omega

/-- What else holds while an element is made, step by step: new blocks and the 'append' leave it be. -/
structure XOk (X : Nat → World → Prop) (m q j : Nat) (v : Value) : Prop where
  below : ∀ k w w', X k w → Below w.heap.size w w' → X k w'
  next : ∀ w1 w2 u, X m w1 → w1.grownBy w2 v.ownBlock → X m (w2.setCell ⟨q, j, none⟩ u)
theorem XOk.alloc {X : Nat → World → Prop} {m q j : Nat} {v : Value} (h : XOk X m q j v) {k : Nat} {w : World} (hx : X k w) (o : Obj) : X k (w.alloc o) := h.below k w _ hx ((Below.refl _ _).alloc (Nat.le_refl _) _)
abbrev RlX (g : Nat) (sts : Nat → Option (List UInt8)) : Nat → World → Prop := fun k w' => Rl w' g (sts k)
theorem RlX.ok {g m q j : Nat} {v : Value} {sts : Nat → Option (List UInt8)} (hgq : g ≠ q) (hgv : v.ownBlock ≠ some g) : XOk (RlX g sts) m q j v where
  below := fun _ _ _ h hb => ⟨h.rs.below hb h.lt, h.len⟩
  next := fun _ _ u h hg => ⟨(h.rs.grown hg (fun e => hgv e.symm)).far (by exact hgq) u, h.len⟩
theorem XOk.none {m q j : Nat} {v : Value} : XOk (fun _ _ => True) m q j v := ⟨fun _ _ _ _ _ => trivial, fun _ _ _ _ _ => trivial⟩

section
variable {P : Program} {ops : Array Oper} {Q : Exit → Act → World → Prop} {a : Act} {K : Nat → Ka} {F : Nat → Prop} {m : Nat} {w : World} {X : Nat → World → Prop} {q j B sz n : Nat} {T e : TypeId} {cs xs news : List Value} {v : Value}
/-- What holds behind k steps: m of them read, then the 'append', then the store. -/
def PhA (F : Nat → Prop) (m : Nat) (w : World) (X : Nat → World → Prop) (q j B sz n : Nat) (T e : TypeId) (cs xs news : List Value) (v : Value) (k : Nat) (w' : World) : Prop :=
  (k ≤ m → Keep F w w' ∧ X k w') ∧ (k = m + 1 → ∃ w1, Keep F w w1 ∧ X m w1 ∧ w1.grownBy w' v.ownBlock) ∧
  (k = m + 2 → ∃ A c, Gx w' q T (cs.set j (.slice A (n + 1) c)) j B e sz (n + 1) (xs ++ news) (.slice A (n + 1) c) ∧ X m w' ∧ Keep (fun i => F i ∨ i = q ∨ some i = v.ownBlock) w w')
/-- An operation of a round that reads an element and appends it. -/
abbrev ObA (P : Program) (ops : Array Oper) (a : Act) (K : Nat → Ka) (F : Nat → Prop) (m : Nat) (w : World) (X : Nat → World → Prop) (q j B sz n : Nat) (T e : TypeId) (cs xs news : List Value) (v : Value) (nd : Nd) : Prop :=
  Ob P ops a (fun d x k w' => (K d).at_ w m x k w') (PhA F m w X q j B sz n T e cs xs news v) nd
theorem ObA.pure {i d : Nat} {ks needs : List Nat} {o : Oper} (ho : ops[i]? = some o) (u : Value) (hd : K d = .is u)
    (h : ∀ (z : Nat → Value) (w' : World) (k : Nat), (∀ d ∈ needs, (K d).at_ w m (z d) k w') → ∀ G : Value → World → Prop, G u w' → Runs P o (putsAt needs z a) w' G) : ObA P ops a K F m w X q j B sz n T e cs xs news v ⟨i, some d, false, ks, needs⟩ :=
  Ob.mk ho fun z w' k _ hph hz G hG => h z w' k hz G (hG u w' (fun d' e' => by cases e'; show (K d).at_ _ _ _ _ _; rw [hd]; rfl) (fun _ _ _ h => h) hph)
theorem ObA.load {i d : Nat} {ks needs : List Nat} {o : Oper} (ho : ops[i]? = some o) (hks : ∀ k ∈ ks, k ≤ m) (u : Value) (hd : K d = .is u)
    (h : ∀ (z : Nat → Value) (w' : World) (k : Nat), Keep F w w' → (∀ d ∈ needs, (K d).at_ w m (z d) k w') → ∀ G : Value → World → Prop, G u w' → Runs P o (putsAt needs z a) w' G) : ObA P ops a K F m w X q j B sz n T e cs xs news v ⟨i, some d, false, ks, needs⟩ :=
  Ob.mk ho fun z w' k hk hph hz G hG => h z w' k (hph.1 (hks k hk)).1 hz G (hG u w' (fun d' e' => by cases e'; show (K d).at_ _ _ _ _ _; rw [hd]; rfl) (fun _ _ _ h => h) hph)
theorem ObA.lit {i d r : Nat} {t : TypeId} {ds : Array Value} {ks needs : List Nat} {o : Oper} (ho : ops[i]? = some o) (hks : ∀ k ∈ ks, k ≤ m) (hd : K d = .lit r t ds) (hgl : ∀ i, F i → i < w.heap.size) (hX : XOk X m q j v)
    (h : ∀ (z : Nat → Value) (w' : World) (k : Nat), (∀ d ∈ needs, (K d).at_ w m (z d) k w') → ∀ G : Value → World → Prop, G (.slice (some ⟨w'.heap.size, 0, none⟩) r r) (w'.alloc (.cells ds t)) → Runs P o (putsAt needs z a) w' G) : ObA P ops a K F m w X q j B sz n T e cs xs news v ⟨i, some d, false, ks, needs⟩ :=
  Ob.mk ho fun z w' k hk hph hz G hG => by
    have hkm := hks k hk
    obtain ⟨h1, h2⟩ := hph.1 hkm
    refine h z w' k hz G (hG _ _ (fun d' e' => ?_) (fun d' x _ hx => Ka.keep (K := K d') hx ((Keep.refl F w').alloc _) hgl (Nat.le_refl _) hkm) ⟨fun _ => ⟨h1.alloc _, hX.alloc h2 _⟩, fun e => ?_, fun e => ?_⟩)
    · cases e'
      show (K d).at_ _ _ _ _ _
      rw [hd]
      exact fun _ => ⟨_, rfl, Blk.new _ _ _, h1.size⟩
    · simp only [Bool.false_eq_true, if_false] at e; omega
    · simp only [Bool.false_eq_true, if_false] at e; omega
/-- A call that touches nothing that was there. -/
theorem ObA.quiet {i d : Nat} {ks needs : List Nat} {o : Oper} (ho : ops[i]? = some o) (hks : ∀ k ∈ ks, k ≤ m) (hgl : ∀ i, F i → i < w.heap.size) (hX : XOk X m q j v) (u : Value) (hd : K d = .is u)
    (h : ∀ (z : Nat → Value) (w' : World) (k : Nat), (∀ d ∈ needs, (K d).at_ w m (z d) k w') → ∀ G : Value → World → Prop, (∀ w'', Below w'.heap.size w' w'' → G u w'') → Runs P o (putsAt needs z a) w' G) : ObA P ops a K F m w X q j B sz n T e cs xs news v ⟨i, some d, false, ks, needs⟩ :=
  Ob.mk ho fun z w' k hk hph hz G hG => by
    have hkm := hks k hk
    obtain ⟨h1, h2⟩ := hph.1 hkm
    refine h z w' k hz G fun w'' hb => ?_
    have hkb : Keep F w' w'' := Keep.of_below hb (fun k h1 h2 => by omega)
    refine hG u w'' (fun d' e' => by cases e'; show (K d).at_ _ _ _ _ _; rw [hd]; rfl) (fun d' x _ hx => Ka.keep (K := K d') hx hkb hgl (Nat.le_refl _) hkm) ⟨fun _ => ⟨h1.trans hkb, hX.below _ _ _ h2 hb⟩, fun e => ?_, fun e => ?_⟩
    · simp only [Bool.false_eq_true, if_false] at e; omega
    · simp only [Bool.false_eq_true, if_false] at e; omega
theorem ObA.read {i k : Nat} {d : Nat} {needs : List Nat} {o : Oper} (ho : ops[i]? = some o) (hkm : k < m) (hgl : ∀ i, F i → i < w.heap.size) (u : Value) (hd : K d = .is u)
    (h : ∀ (z : Nat → Value) (w' : World), X k w' → (∀ d ∈ needs, (K d).at_ w m (z d) k w') → ∀ G : Value → World → Prop, (∀ w'', X (k + 1) w'' → Keep F w' w'' → G u w'') → Runs P o (putsAt needs z a) w' G) :
    ObA P ops a K F m w X q j B sz n T e cs xs news v ⟨i, some d, true, [k], needs⟩ :=
  Ob.mk ho fun z w' k' hk hph hz G hG => by
    obtain rfl := List.mem_singleton.1 hk
    obtain ⟨h1, h2⟩ := hph.1 (by omega)
    refine h z w' h2 hz G fun w'' h3 h4 => hG u w'' (fun d' e' => by cases e'; show (K d).at_ _ _ _ _ _; rw [hd]; rfl) (fun d' x _ hx => ?_) ⟨fun _ => ⟨h1.trans h4, h3⟩, fun e => ?_, fun e => ?_⟩
    · have : k' + 1 ≤ m := hkm
      exact Ka.keep (K := K d') hx h4 hgl (Nat.le_succ _) this
    · simp only [if_true] at e; omega
    · simp only [if_true] at e; omega
theorem ObA.app {i k d s x : Nat} {o : Oper} (ho : ops[i]? = some o) (hk : k = m) (t : TypeId) (hop : o.op = .call { callee := .builtin .append, args := #[.tmp s, .tmp x], argTypes := #[t, t] })
    (ht : P.underlying t = some (.slice e)) (zv : Value) (bytes : Nat) (hinfo : (P.info? e).map (fun i => (i.zero, i.size, i.bytes)) = some (some zv, sz, bytes)) (hzs : zv.cells.size = sz) (hsz : 0 < sz)
    (h0 : Gx w q T cs j B e sz n xs v) (hgq : ¬ F q) (hgv : ∀ k, v.ownBlock = some k → ¬ F k) (hgB : B ≤ w.heap.size) (hs : K s = .is v) (hx : K x = .lit 1 e news.toArray) (hd : K d = .app B e sz (n + 1) (xs ++ news)) (hone : ∀ d', d' ≠ d → ∀ B e sz n xs, K d' ≠ .app B e sz n xs)
    (hnl : news.length = sz) (h1 : ∀ u ∈ news, u.oneCell' = true) (h63 : n + 1 ≤ maxLen) (hbytes : (n + 1) * bytes ≤ 140737488355328) (hsl : s < a.tmps.size) (hxl : x < a.tmps.size) :
    ObA P ops a K F m w X q j B sz n T e cs xs news v ⟨i, some d, true, [k], [s, x]⟩ := by
  subst hk
  refine Ob.mk ho fun z w' k' hk hph hz G hG => ?_
  obtain rfl := List.mem_singleton.1 hk
  obtain ⟨hk1, hr1⟩ := hph.1 (Nat.le_refl _)
  have es : (K s).at_ w k' (z s) k' w' := hz s (List.mem_cons_self ..)
  rw [hs] at es
  have ex : (K x).at_ w k' (z x) k' w' := hz x (List.mem_cons_of_mem _ (List.mem_cons_self ..))
  rw [hx] at ex
  obtain ⟨b, ex, hb, hbw⟩ := ex (Nat.le_refl _)
  have hgx := h0.keep hk1 hgq hgv
  have e1 : (putsAt [s, x] z a).eval (.tmp s) = v := by
    rw [putsAt_eq, mix_eval, if_pos hsl, if_pos (List.mem_cons_self ..)]
    exact es
  have e2 : (putsAt [s, x] z a).eval (.tmp x) = .slice (some ⟨b, 0, none⟩) 1 1 := by
    rw [putsAt_eq, mix_eval, if_pos hxl, if_pos (List.mem_cons_of_mem _ (List.mem_cons_self ..))]
    exact ex
  refine runs_append (.tmp s) (.tmp x) t hop B e zv sz bytes ht hinfo hzs hsz v n xs e1 hgx.own b news e2 hnl hb h1 h63 hbytes (Nat.le_trans hgB hk1.size) ?_
  intro A c w'' hown hgr
  refine hG _ _ (fun d' e' => ?_) (fun d' y hne hy => ?_) ⟨fun e => ?_, fun _ => ⟨w', hk1, hr1, hgr⟩, fun e => ?_⟩
  · cases e'
    show (K d).at_ _ _ _ _ _
    rw [hd]
    exact fun _ => ⟨A, c, rfl, hown⟩
  · have hne' : d' ≠ d := fun e => hne (by rw [e])
    exact Ka.late (K := K d') hy (hone d' hne') (by simp)
  · simp only [if_true] at e; omega
  · simp only [if_true] at e; omega
theorem ObA.store {i k p x : Nat} {o : Oper} (ho : ops[i]? = some o) (hk : k = m + 1) (h0 : Gx w q T cs j B e sz n xs v) (hgq : ¬ F q) (hgv : ∀ k, v.ownBlock = some k → ¬ F k) (hX : XOk X m q j v) (hp : K p = .is (.pointer (some ⟨q, j, none⟩))) (hx : K x = .app B e sz (n + 1) (xs ++ news))
    (h : ∀ (z : Nat → Value) (w' : World), z p = .pointer (some ⟨q, j, none⟩) → w'.cell? ⟨q, j, none⟩ = some v → w'.frozen? ⟨q, j, none⟩ = false → ∀ A c, z x = .slice A (n + 1) c → ∀ G : Value → World → Prop, G undef (w'.setCell ⟨q, j, none⟩ (.slice A (n + 1) c)) → Runs P o (putsAt [p, x] z a) w' G) :
    ObA P ops a K F m w X q j B sz n T e cs xs news v ⟨i, none, true, [k], [p, x]⟩ := by
  subst hk
  refine Ob.mk ho fun z w' k' hk hph hz G hG => ?_
  obtain rfl := List.mem_singleton.1 hk
  obtain ⟨w1, hk1, hr1, hgr⟩ := hph.2.1 rfl
  have ep : (K p).at_ w m (z p) (m + 1) w' := hz p (List.mem_cons_self ..)
  rw [hp] at ep
  have ex : (K x).at_ w m (z x) (m + 1) w' := hz x (List.mem_cons_of_mem _ (List.mem_cons_self ..))
  rw [hx] at ex
  obtain ⟨A, c, ex, hown⟩ := ex rfl
  rw [ex] at hown
  have hgx := h0.keep hk1 hgq hgv
  obtain ⟨hn, hc, hf⟩ := hgx.next hown hgr
  refine h z w' ep hc hf A c ex G (hG _ _ (fun d' e' => by cases e') (fun d' y _ hy => ?_) ⟨fun e => ?_, fun e => ?_, fun _ => ⟨A, c, hn, hX.next _ _ _ hr1 hgr, ?_⟩⟩)
  · show (K d').at_ w m y (m + 1 + 1) _
    cases hK : K d' with
    | is u => rw [hK] at hy; exact hy
    | any => trivial
    | lit n t cs => intro _; omega
    | app B e sz n xs => intro e; omega
  · simp only [if_true] at e; omega
  · simp only [if_true] at e; omega
  · exact Gx.keepNext hgr (fun k hk => .inr (.inr hk.symm)) (.inr (.inl rfl)) (hk1.mono (fun _ _ h => .inl h))
/-- A round that reads an element, part by part, and appends it to a slice in a field. -/
theorem region_app {id : Nat} (hm : P.follows .mixedOrders = true) (nds : List Nd) (evs : List Nat) (K : Nat → Ka) (F : Nat → Prop) (m : Nat) (X : Nat → World → Prop) (hX : XOk X m q j v) (hchk : chkAll ops evs nds = true) (hlen : evs.length = m + 2)
    (hr : X 0 w) (hob : ∀ nd ∈ nds, ObA P ops a K F m w X q j B sz n T e cs xs news v nd)
    (hend : ∀ (z : Nat → Value) (w' : World) (A : Option Addr) (c : Nat), Gx w' q T (cs.set j (.slice A (n + 1) c)) j B e sz (n + 1) (xs ++ news) (.slice A (n + 1) c) → X m w' → Keep (fun i => F i ∨ i = q ∨ some i = v.ownBlock) w w' → Q .normal (putsAt (dstsOf nds) z a) w') : (Code.region id ops true).wp P Q a w :=
  region_chain hm nds evs (fun d x k w' => (K d).at_ w m x k w') (PhA F m w X q j B sz n T e cs xs news v) hchk ⟨fun _ => ⟨(Keep.refl _ w).drew, hX.below _ _ _ hr (Below.refl _ _).drew⟩, fun e => by omega, fun e => by omega⟩ hob fun z w' hz hph => by
    obtain ⟨A, c, h1, h2, h3⟩ := hph.2.2 hlen
    exact hend z w' A c h1 h2 h3
end
end Go.Proofs.Ytkgnoemagklmiaa
