/- What a writer has laid while other blocks are made beside it; no statement of the seat is proved here. -/
import Derived.Test.YtclgiapmbmbknaaMWriter
import Derived.Test.YtclgiapmbmbknaaMChain
namespace Go.Proofs.Ytclgiapmbmbknaa
open Go.RowKit

/-- The writer behind g has gone on from wo, and has laid bs. -/
def Wk (g : Nat) (v : Value) (wo : World) (bs : List UInt8) (w : World) : Prop := ∃ v', Wrote g v wo bs v' w
def farT (t : TypeId) : Bool := t != 5 && t != 93
/-- Blocks of other types stay as they are. -/
def Stay (w w' : World) : Prop := ∀ b t cs, farT t = true → Blk w b t cs → Blk w' b t cs
theorem Stay.refl (w : World) : Stay w w := fun _ _ _ _ h => h
theorem Stay.alloc (w : World) (o : Obj) : Stay w (w.alloc o) := fun _ _ _ _ h => h.alloc o
theorem Stay.trans {w w1 w2 : World} (h : Stay w w1) (k : Stay w1 w2) : Stay w w2 := fun b t cs hf hb => k b t cs hf (h b t cs hf hb)
theorem farT_ne {t : TypeId} (h : farT t = true) : 5 ≠ t ∧ 93 ≠ t := by
  simp only [farT, Bool.and_eq_true, bne_iff_ne] at h
  exact ⟨fun e => h.1 e.symm, fun e => h.2 e.symm⟩
/-- A block of another type is none of the writer's. -/
theorem Wr.far {w : World} {g b : Nat} {v : Value} {bs : List UInt8} {t : TypeId} {cs : Array Value} (h : Wr w g v bs) (hf : farT t = true) (hb : Blk w b t cs) : ¬ Same g v b := by
  obtain ⟨h1, h2⟩ := farT_ne hf
  rintro (e | e)
  · exact Blk.ne_ h.blk hb h2 e.symm
  · exact own_blk_ne h.own hb h1 e.symm
theorem Wrote.stay {w w' : World} {g : Nat} {v v' : Value} {bs ds : List UInt8} (h : Wr w g v bs) (k : Wrote g v w ds v' w') : Stay w w' :=
  fun _ _ _ hf hb => hb.keep k.2.1 (h.far hf hb)
theorem Wk.start {w : World} {g : Nat} {v : Value} {bs : List UInt8} (h : Wr w g v bs) : Wk g v w bs w := ⟨v, Wrote.refl h⟩
theorem Wrote.alloc {w w' : World} {g : Nat} {v v' : Value} {bs : List UInt8} (h : Wrote g v w bs v' w') (o : Obj) : Wrote g v w bs v' (w'.alloc o) := ⟨h.1.alloc o, h.2.1.alloc o, h.2.2⟩
theorem Wrote.drew {w w' : World} {g : Nat} {v v' : Value} {bs : List UInt8} (h : Wrote g v w bs v' w') : Wrote g v w bs v' w'.drew := ⟨⟨h.1.blk.drew, h.1.own⟩, h.2.1.drew, h.2.2⟩
theorem Wk.alloc {w w' : World} {g : Nat} {v : Value} {bs : List UInt8} (h : Wk g v w bs w') (o : Obj) : Wk g v w bs (w'.alloc o) := let ⟨v', h'⟩ := h; ⟨v', h'.alloc o⟩
theorem Wk.drew {w w' : World} {g : Nat} {v : Value} {bs : List UInt8} (h : Wk g v w bs w') : Wk g v w bs w'.drew := let ⟨v', h'⟩ := h; ⟨v', h'.drew⟩
theorem Wk.below {B : Nat} {w w1 : World} {g : Nat} {v : Value} {bs : List UInt8} (h : Wk g v w bs w1) (hB : B ≤ w.heap.size) (hg : B ≤ g) (hv : ∀ k, v.ownBlock = some k → B ≤ k) : Below B w w1 := let ⟨_, h'⟩ := h; h'.below hB hg hv
/-- A step of the writer's. -/
theorem Wk.step {wo w' w'' : World} {g : Nat} {v v1 v2 : Value} {bs ds : List UInt8} (h : Wrote g v wo bs v1 w') (k : Wrote g v1 w' ds v2 w'') : Wk g v wo ds w'' ∧ Stay w' w'' := ⟨⟨v2, h.trans k⟩, Wrote.stay h.1 k⟩

/-- A call that lays: it hands the writer back. -/
def LaysOn (g : Nat) (v : Value) (wo : World) (bs : List UInt8) (w' : World) (e : Ending) (w'' : World) : Prop := e = .returned (.pointer (some ⟨g, 0, none⟩)) ∧ Wk g v wo bs w'' ∧ Stay w' w''
/-- A call that lays, and hands nothing back. -/
def LaysOff (g : Nat) (v : Value) (wo : World) (bs : List UInt8) (w' : World) (e : Ending) (w'' : World) : Prop := e = .returned (.tuple #[]) ∧ Wk g v wo bs w'' ∧ Stay w' w''

theorem Rd.blk {w : World} {F : Nat → Prop} {b : Nat} {t : TypeId} {l : List Value} (hb : Blk w b t l.toArray) (hF : ¬ F b) : Rd w F 1 (some ⟨b, 0, none⟩) l.length l :=
  ⟨by simp, fun _ => ⟨b, 0, rfl, hF, hb.lt, fun j u hu => by rw [Nat.zero_add, hb.cell j]; simpa using hu⟩⟩

section
variable {g : Nat} {v : Value} {wo w' : World} {bs : List UInt8} {b : Nat}
theorem ctexts (l : List (List UInt8)) (h : Wk g v wo bs w') (hb : Blk w' b 9 (l.map S).toArray) (hl : bs.length + (catAll tx l).length + 20 ≤ 140737488355328) (hn : l.length ≤ 9223372036854775807) :
    Calls Try.prog 41 #[.pointer (some ⟨g, 0, none⟩), .slice (some ⟨b, 0, none⟩) l.length l.length] w' (LaysOn g v wo (bs ++ catAll tx l) w') := by
  obtain ⟨v1, h1⟩ := h
  have hr := Rd.blk (F := Same g v1) hb (h1.1.far (by decide) hb)
  rw [List.length_map] at hr
  refine (text_any g v1 bs _ l.length l.length l w' h1.1 hr hn hl).mono ?_
  rintro e w2 ⟨v2, rfl, h2⟩
  exact ⟨rfl, Wk.step h1 h2⟩
theorem ctext1 (s : List UInt8) (h : Wk g v wo bs w') (hb : Blk w' b 9 #[S s]) (hl : bs.length + s.length + 40 ≤ 140737488355328) :
    Calls Try.prog 41 #[.pointer (some ⟨g, 0, none⟩), .slice (some ⟨b, 0, none⟩) 1 1] w' (LaysOn g v wo (bs ++ tx s) w') := by
  have e : catAll tx [s] = tx s := by simp [catAll]
  have hv := vi_len_10 s.length (by omega)
  have := ctexts [s] h hb (by rw [e, tx, List.length_append]; omega) (by simp)
  rw [e] at this
  exact this
theorem ctext2 (s t : List UInt8) (h : Wk g v wo bs w') (hb : Blk w' b 9 #[S s, S t]) (hl : bs.length + s.length + t.length + 60 ≤ 140737488355328) :
    Calls Try.prog 41 #[.pointer (some ⟨g, 0, none⟩), .slice (some ⟨b, 0, none⟩) 2 2] w' (LaysOn g v wo (bs ++ (tx s ++ tx t)) w') := by
  have e : catAll tx [s, t] = tx s ++ tx t := by simp [catAll]
  have hv := vi_len_10 s.length (by omega)
  have hv2 := vi_len_10 t.length (by omega)
  have := ctexts [s, t] h hb (by rw [e, tx, tx, List.length_append, List.length_append, List.length_append]; omega) (by simp)
  rw [e] at this
  exact this
theorem cnums (l : List Int) (h : Wk g v wo bs w') (hb : Blk w' b 3 (l.map (Value.int .i64)).toArray) (hl : bs.length + 10 * l.length ≤ 140737488355328) (hn : ∀ x ∈ l, x ≤ 9223372036854775807) :
    Calls Try.prog 40 #[.pointer (some ⟨g, 0, none⟩), .slice (some ⟨b, 0, none⟩) l.length l.length] w' (LaysOn g v wo (bs ++ visAll l) w') := by
  obtain ⟨v1, h1⟩ := h
  have hr := Rd.blk (F := Same g v1) hb (h1.1.far (by decide) hb)
  rw [List.length_map] at hr
  refine (num_any g v1 bs _ l.length l.length l w' h1.1 hr hn hl).mono ?_
  rintro e w2 ⟨v2, rfl, h2⟩
  exact ⟨rfl, Wk.step h1 h2⟩
theorem cnum1 (x : Int) (h : Wk g v wo bs w') (hb : Blk w' b 3 #[.int .i64 x]) (hl : bs.length + 10 ≤ 140737488355328) (hn : x ≤ 9223372036854775807) :
    Calls Try.prog 40 #[.pointer (some ⟨g, 0, none⟩), .slice (some ⟨b, 0, none⟩) 1 1] w' (LaysOn g v wo (bs ++ vi x.toNat) w') := by
  have := cnums [x] h hb (by simpa using hl) (by simpa using hn)
  simpa [visAll, vis] using this
theorem cnum3 (x y z : Int) (h : Wk g v wo bs w') (hb : Blk w' b 3 #[.int .i64 x, .int .i64 y, .int .i64 z]) (hl : bs.length + 30 ≤ 140737488355328) (hx : x ≤ 9223372036854775807) (hy : y ≤ 9223372036854775807) (hz : z ≤ 9223372036854775807) :
    Calls Try.prog 40 #[.pointer (some ⟨g, 0, none⟩), .slice (some ⟨b, 0, none⟩) 3 3] w' (LaysOn g v wo (bs ++ (vi x.toNat ++ (vi y.toNat ++ vi z.toNat))) w') := by
  have := cnums [x, y, z] h hb (by simpa using hl) (by intro q hq; simp at hq; rcases hq with rfl | rfl | rfl <;> assumption)
  simpa [visAll, vis] using this
end

/-- What is known of what an operation's slot holds. -/
inductive Kd where
  | is (u : Value)
  | lit (n : Nat) (t : TypeId) (cs : Array Value)
  | any
def Kd.at_ : Kd → Value → World → Prop
  | .is u, x, _ => x = u
  | .lit n t cs, x, w => farT t = true ∧ ∃ b, x = .slice (some ⟨b, 0, none⟩) n n ∧ Blk w b t cs
  | .any, _, _ => True
theorem Kd.stay {V : Nat → Kd} : ∀ (w' w'' : World) (d : Nat) (x : Value), Stay w' w'' → (V d).at_ x w' → (V d).at_ x w'' := by
  intro w' w'' d x hs h
  cases hk : V d with
  | is u => rw [hk] at h; exact h
  | any => trivial
  | lit n t cs =>
    rw [hk] at h
    obtain ⟨hf, b, rfl, hb⟩ := h
    exact ⟨hf, b, rfl, hs _ _ _ hf hb⟩
theorem Kd.new {w : World} {n : Nat} {t : TypeId} {cs : Array Value} (hf : farT t = true) : (Kd.lit n t cs).at_ (.slice (some ⟨w.heap.size, 0, none⟩) n n) (w.alloc (.cells cs t)) := ⟨hf, _, rfl, Blk.new _ _ _⟩

section
variable {P : Program} {ops : Array Oper} {Q : Exit → Act → World → Prop} {a : Act} {V : Nat → Kd} {g : Nat} {v : Value} {wo w : World} {ph : Nat → List UInt8}
/-- An operation of a region in which the writer lays. -/
abbrev ObL (P : Program) (ops : Array Oper) (a : Act) (V : Nat → Kd) (g : Nat) (v : Value) (wo w : World) (ph : Nat → List UInt8) (nd : Nd) : Prop := Ob P ops a (fun d x _ w' => (V d).at_ x w') (fun k w' => Wk g v wo (ph k) w' ∧ Stay w w') nd
/-- One that reads only. -/
theorem ObL.pure {i d : Nat} {ks needs : List Nat} {o : Oper} (ho : ops[i]? = some o)
    (h : ∀ (z : Nat → Value) (w' : World), Stay w w' → (∀ d ∈ needs, (V d).at_ (z d) w') → ∀ G : Value → World → Prop, (∀ u, (V d).at_ u w' → G u w') → Runs P o (putsAt needs z a) w' G) : ObL P ops a V g v wo w ph ⟨i, some d, false, ks, needs⟩ :=
  Ob.mk ho fun z w' k _ hph hz G hG => h z w' hph.2 hz G fun u hu => hG u w' (fun d' e => by cases e; exact hu) (fun _ _ _ h => h) hph
/-- One that makes a new block of known cells. -/
theorem ObL.lit {i d n : Nat} {t : TypeId} {cs : Array Value} {ks needs : List Nat} {o : Oper} (ho : ops[i]? = some o) (hV : V d = .lit n t cs) (hf : farT t = true)
    (h : ∀ (z : Nat → Value) (w' : World), Stay w w' → (∀ d ∈ needs, (V d).at_ (z d) w') → ∀ G : Value → World → Prop, G (.slice (some ⟨w'.heap.size, 0, none⟩) n n) (w'.alloc (.cells cs t)) → Runs P o (putsAt needs z a) w' G) : ObL P ops a V g v wo w ph ⟨i, some d, false, ks, needs⟩ :=
  Ob.mk ho fun z w' k _ hph hz G hG => h z w' hph.2 hz G (hG _ _ (fun d' e => by cases e; show (V d).at_ _ _; rw [hV]; exact Kd.new hf) (fun d' x _ hx => Kd.stay w' _ d' x (Stay.alloc _ _) hx) ⟨hph.1.alloc _, hph.2.trans (Stay.alloc _ _)⟩)
/-- One that lays. -/
theorem ObL.call {i k : Nat} {d : Option Nat} {needs : List Nat} {o : Oper} (ho : ops[i]? = some o)
    (h : ∀ (z : Nat → Value) (w' : World), Wk g v wo (ph k) w' → Stay w w' → (∀ d ∈ needs, (V d).at_ (z d) w') → ∀ G : Value → World → Prop, (∀ u w'', (∀ d', d = some d' → (V d').at_ u w'') → Wk g v wo (ph (k + 1)) w'' → Stay w' w'' → G u w'') → Runs P o (putsAt needs z a) w' G) : ObL P ops a V g v wo w ph ⟨i, d, true, [k], needs⟩ :=
  Ob.mk ho fun z w' k' hk hph hz G hG => by
    obtain rfl := List.mem_singleton.1 hk
    exact h z w' hph.1 hph.2 hz G fun u w'' h1 h2 h3 => hG u w'' h1 (fun d' x _ hx => Kd.stay w' w'' d' x h3 hx) ⟨h2, hph.2.trans h3⟩
/-- A region in which the writer behind g lays, one call behind the other. -/
theorem region_lays {id : Nat} (hm : P.follows .mixedOrders = true) (nds : List Nd) (cs : List Nat) (V : Nat → Kd) (g : Nat) (v : Value) (wo : World) (ph : Nat → List UInt8) (hchk : chkAll ops cs nds = true)
    (h0 : Wk g v wo (ph 0) w) (hob : ∀ nd ∈ nds, ObL P ops a V g v wo w ph nd)
    (hend : ∀ (z : Nat → Value) (w' : World), (∀ d ∈ dstsOf nds, (V d).at_ (z d) w') → Wk g v wo (ph cs.length) w' → Stay w w' → Q .normal (putsAt (dstsOf nds) z a) w') : (Code.region id ops true).wp P Q a w :=
  region_chain hm nds cs (fun d x _ w' => (V d).at_ x w') (fun k w' => Wk g v wo (ph k) w' ∧ Stay w w') hchk ⟨h0.drew, fun _ _ _ _ h => h.drew⟩ hob fun z w' hz hph => hend z w' hz hph.1 hph.2
end
end Go.Proofs.Ytclgiapmbmbknaa
