/- The face of a class: face.Of, walked; no statement of the seat is proved here. -/
import Derived.Test.YtkgnoemagklmiaaSrtF
import Derived.Test.YtkgnoemagklmiaaSigSameC
namespace Go.Proofs.Ytkgnoemagklmiaa
open Go.RowKit

/-- A class as it lies. -/
structure Cs where
  ln : Int
  cl : Int
  n : List UInt8
  su : List UInt8
  fA : Option Addr
  fk : Nat
  fc : Nat
  fs : List Vr
  mA : Option Addr
  mq : Nat
  mc : Nat
  ms : List Md
abbrev Cs.cells (c : Cs) : List Value := [.int .i64 c.ln, .int .i64 c.cl, S c.n, S c.su, .slice c.fA c.fk c.fc, .slice c.mA c.mq c.mc]
abbrev Cs.val (c : Cs) : Value := .agg #[.int .i64 c.ln, .int .i64 c.cl, S c.n, S c.su, .slice c.fA c.fk c.fc, .slice c.mA c.mq c.mc]
structure Cs.at_ (w : World) (F : Nat → Prop) (c : Cs) : Prop where
  fr : Rd w F 3 c.fA c.fk (c.fs.flatMap Vr.cells)
  fl : c.fs.length = c.fk
  fb : c.fk ≤ 19
  fo : ∀ v ∈ c.fs, v.ok
  mr : Rd w F 8 c.mA c.mq (c.ms.flatMap Md.cells)
  ml : c.ms.length = c.mq
  mb : c.mq ≤ 19
  mo : ∀ m ∈ c.ms, m.at_ w F
  sn : short c.n
  ss : short c.su
theorem Cs.at_.below {w w' : World} {B : Nat} {c : Cs} (h : c.at_ w (fun k => B ≤ k)) (hk : Below B w w') : c.at_ w' (fun k => B ≤ k) :=
  { h with fr := h.fr.below hk, mr := h.mr.below hk, mo := fun m hm => (h.mo m hm).below hk }
theorem Cs.at_.weak {w : World} {F G : Nat → Prop} {c : Cs} (h : c.at_ w F) (hs : ∀ k, k < w.heap.size → G k → F k) : c.at_ w G :=
  { h with fr := h.fr.weak hs, mr := h.mr.weak hs, mo := fun m hm => (h.mo m hm).weak hs }

section
variable {P : Program} {ops : Array Oper} {a : Act} {V : Nat → Value → Nat → World → Prop} {Ph : Nat → World → Prop}
/-- An operation that turns nothing. -/
theorem Ob.still {i d : Nat} {ks needs : List Nat} {o : Oper} (ho : ops[i]? = some o)
    (h : ∀ (z : Nat → Value) (w' : World) (k : Nat), k ∈ ks → Ph k w' → (∀ d ∈ needs, V d (z d) k w') → ∀ G : Value → World → Prop, (∀ u, V d u k w' → G u w') → Runs P o (putsAt needs z a) w' G) : Ob P ops a V Ph ⟨i, some d, false, ks, needs⟩ :=
  Ob.mk2 ho fun z w' k hk hph hz G hG => h z w' k hk hph hz G fun u hu => hG u w' (fun d' e => by cases e; exact hu) (fun _ _ _ _ hv => hv) hph
end

/-- What a slot of the first region holds. -/
inductive Ofc where
  | is (u : Value)
  | row
  | bld
  | new
  | any
/-- The face's first cells; its fields' row. -/
def FRow (B fk : Nat) (fs : List Vr) (A : Option Addr) (c : Nat) (w' : World) : Prop := w'.ownsRow B 45 3 (.slice A fk c) fk (fs.flatMap Vr.cells)
def Ofc.at_ (B fk : Nat) (n su : List UInt8) (fs : List Vr) : Ofc → Value → Nat → World → Prop
  | .is u, x, _, _ => x = u
  | .row, x, k, w' => k ≤ 1 → ∃ A c, x = .slice A fk c ∧ FRow B fk fs A c w'
  | .bld, x, k, w' => k ≤ 1 → ∃ A c, x = .agg #[S n, S su, .slice A fk c, .slice none 0 0] ∧ FRow B fk fs A c w'
  | .new, x, k, w' => ∃ b, x = .pointer (some ⟨b, 0, none⟩) ∧ B ≤ b ∧ (k ≤ 1 → Blk w' b 25 #[S [], S [], .slice none 0 0, .slice none 0 0]) ∧ (k = 2 → ∃ A c, Blk w' b 25 #[S n, S su, .slice A fk c, .slice none 0 0] ∧ FRow B fk fs A c w')
  | .any, _, _, _ => True

theorem own_below {w w' : World} {base : Nat} {e : TypeId} {size n : Nat} {v : Value} {xs : List Value} (h : w.ownsRow base e size v n xs) (hb : Below w.heap.size w w') : w'.ownsRow base e size v n xs :=
  own_keep h (Keep.of_below (F := fun i => w.heap.size ≤ i) hb (fun i _ h => h)) (fun i hi hf => by have := (h.lt i hi).2; omega)
theorem Ofc.below {B fk : Nat} {n su : List UInt8} {fs : List Vr} {K : Ofc} {x : Value} {k k' : Nat} {w' w2 : World} (h : K.at_ B fk n su fs x k w') (hb : Below w'.heap.size w' w2) (hk : k ≤ 1) (hk' : k' ≤ 1) : K.at_ B fk n su fs x k' w2 := by
  cases K with
  | is u => exact h
  | any => trivial
  | row =>
    intro _
    obtain ⟨A, c, e, ho⟩ := h hk
    exact ⟨A, c, e, own_below ho hb⟩
  | bld =>
    intro _
    obtain ⟨A, c, e, ho⟩ := h hk
    exact ⟨A, c, e, own_below ho hb⟩
  | new =>
    obtain ⟨b, e, h1, h2, _⟩ := h
    exact ⟨b, e, h1, fun _ => (h2 hk).below hb (h2 hk).lt, fun e => by omega⟩
/-- What a slot of the loop's region holds. -/
inductive Ofd where
  | is (u : Value)
  | sig
  | lit
  | app
  | any
def NSig (B : Nat) (m : Md) (news : List Value) (w' : World) : Prop := ∃ A c, news = [S m.n, .bool m.st, .slice A m.k c, S m.r.n, .bool m.r.a] ∧ w'.ownsRow B 43 2 (.slice A m.k c) m.k ((tyz m.ps).flatMap Ty.cells)
theorem NSig.keep {B : Nat} {m : Md} {news : List Value} {w w' : World} {F : Nat → Prop} (h : NSig B m news w) (hk : Keep F w w') (hF : ∀ i, F i → i < B) : NSig B m news w' := by
  obtain ⟨A, c, e, ho⟩ := h
  exact ⟨A, c, e, own_keep ho hk (fun i hi hf => by have := own_base ho hi; have := hF i hf; omega)⟩
def Md.sg (m : Md) (A : Option Addr) (c : Nat) : Sg := ⟨m.n, m.st, A, m.k, c, tyz m.ps, m.r⟩
def Ofd.at_ (B B0 n : Nat) (m : Md) (xs : List Value) : Ofd → Value → Nat → World → Prop
  | .is u, x, _, _ => x = u
  | .sig, x, k, w' => k ≤ 1 → ∃ news, x = .agg news.toArray ∧ NSig B m news w'
  | .lit, x, k, w' => k ≤ 1 → ∃ b news, x = .slice (some ⟨b, 0, none⟩) 1 1 ∧ Blk w' b 58 news.toArray ∧ B ≤ b ∧ NSig B m news w'
  | .app, x, k, w' => k = 2 → ∃ news A c, x = .slice A (n + 1) c ∧ w'.ownsRow B0 58 5 x (n + 1) (xs ++ news) ∧ NSig B m news w'
  | .any, _, _, _ => True

theorem Ofd.below {B B0 n : Nat} {m : Md} {xs : List Value} {K : Ofd} {x : Value} {k k' : Nat} {w' w2 : World} (h : K.at_ B B0 n m xs x k w') (hb : Below w'.heap.size w' w2) (hk : k ≤ 1) (hk' : k' ≤ 1) : K.at_ B B0 n m xs x k' w2 := by
  have hN : ∀ news, NSig B m news w' → NSig B m news w2 := fun news ⟨A, c, e, ho⟩ => ⟨A, c, e, own_below ho hb⟩
  cases K with
  | is u => exact h
  | any => trivial
  | sig =>
    intro _
    obtain ⟨news, e, ho⟩ := h hk
    exact ⟨news, e, hN _ ho⟩
  | lit =>
    intro _
    obtain ⟨b, news, e, h1, h2, ho⟩ := h hk
    exact ⟨b, news, e, h1.below hb h1.lt, h2, hN _ ho⟩
  | app => intro e; omega
theorem Ofd.late {B B0 n : Nat} {m : Md} {xs : List Value} {K : Ofd} {x : Value} {k k' : Nat} {w' w2 : World} (h : K.at_ B B0 n m xs x k w') (hK : K ≠ .app) (hk' : 2 ≤ k') : K.at_ B B0 n m xs x k' w2 := by
  cases K with
  | is u => exact h
  | any => trivial
  | sig => intro e; omega
  | lit => intro e; omega
  | app => exact absurd rfl hK

set_option maxRecDepth 100000 in
set_option maxHeartbeats 8000000 in
theorem faceof_any (c : Cs) (w : World) (h : c.at_ w (fun k => w.heap.size ≤ k)) : Calls Try.prog 14 #[c.val] w (fun e w' => ∃ f : Fc, e = .returned f.val ∧ f.n = c.n ∧ f.su = c.su ∧ f.fs.Perm c.fs ∧ Ris Vr.n f.fs ∧ (f.ms.map Sg.p).Perm (c.ms.map Md.p) ∧ Ris Sg.n f.ms ∧ f.at_ w' (fun k => w'.heap.size ≤ k) ∧ f.fl ≤ 19 ∧ f.ml ≤ 19 ∧ (∀ m ∈ f.ms, m.k ≤ 200) ∧ Below w.heap.size w w') := by
  obtain ⟨ln, cl, n, su, fA, fk, fc, fs, mA, mq, mc, ms⟩ := c
  have HAT := hide h
  clear h
  simp only [Cs.val]
  go_enter Try.func14, Try.ntmps14
  go_upto_region 1 with fail
  refine name_world ?_
  intro wA hwA
  have HBA : Hid (Below w.heap.size w wA) := hide (by rw [hwA]; exact ((Below.refl _ _).alloc (Nat.le_refl _) _).alloc (by simp) _)
  have HM : Hid (Blk wA w.heap.size 39 #[.int .i64 ln, .int .i64 cl, S n, S su, .slice fA fk fc, .slice mA mq mc]) := hide (by rw [hwA]; exact (Blk.new _ _ _).alloc _)
  have HZ : Hid (Blk wA (w.heap.size + 1) 25 #[S [], S [], .slice none 0 0, .slice none 0 0]) := hide (by
    rw [hwA]
    have := Blk.new (w.alloc (.cells #[.int .i64 ln, .int .i64 cl, S n, S su, .slice fA fk fc, .slice mA mq mc] 39)) 25 #[S [], S [], .slice none 0 0, .slice none 0 0]
    rwa [World.size_alloc] at this)
  clear hwA
  obtain ⟨N, hN⟩ : ∃ N, N = w.heap.size + 1 := ⟨_, rfl⟩
  rw [← hN] at HZ ⊢
  have HNW : Hid (w.heap.size < N) := hide (by omega)
  clear hN
  have HCL : Hid (∀ w', Below wA.heap.size wA w' → Calls Try.prog 36 #[.slice fA fk fc] w' (fun e w2 => ∃ A' c', e = .returned (.slice A' fk c') ∧ w2.ownsRow w'.heap.size 45 3 (.slice A' fk c') fk (fs.flatMap Vr.cells) ∧ Below w'.heap.size w' w2)) := hide (fun w' hb => by
    have hbw := HBA.out.trans (hb.mono HBA.out.size)
    exact vclone_any fA fk fc fs w' ((HAT.out.fr.below hbw).weak (fun k hk h => Nat.le_trans hbw.size h)) HAT.out.fl (by have := HAT.out.fb; simp only at this; omega))
  refine region_chain (by kernel_rfl) [⟨0, some 6, false, [0, 1], []⟩, ⟨1, some 7, false, [0, 1], [6]⟩, ⟨2, some 8, false, [0, 1], []⟩, ⟨3, some 9, false, [0, 1], [8]⟩, ⟨4, some 10, false, [0], []⟩, ⟨5, some 11, false, [0], [10]⟩, ⟨6, some 12, true, [0], [11]⟩, ⟨7, some 13, false, [1], [7, 9, 12]⟩, ⟨8, some 3, false, [0, 1], []⟩, ⟨9, none, true, [1], [3, 13]⟩] [6, 9]
    (fun d x k w' => Ofc.at_ wA.heap.size fk n su fs (match d with | 6 => .is (.pointer (some ⟨w.heap.size, 2, none⟩)) | 7 => .is (S n) | 8 => .is (.pointer (some ⟨w.heap.size, 3, none⟩)) | 9 => .is (S su) | 10 => .is (.pointer (some ⟨w.heap.size, 4, none⟩)) | 11 => .is (.slice fA fk fc) | 12 => .row | 13 => .bld | 3 => .new | _ => .any) x k w')
    (fun _ w' => Below wA.heap.size wA w') (by kernel_rfl) (Below.refl _ _).drew ?obs ?hend
  case obs =>
    refine List.forall_mem_cons.2 ⟨?_, ?_⟩
    · refine Ob.still (by rfl) ?_
      intro z w' k _ hb hz G hG
      simp only [putsAt, List.foldl]
      unfold Runs
      go_simp
      exact hG _ rfl
    refine List.forall_mem_cons.2 ⟨?_, ?_⟩
    · refine Ob.still (by rfl) ?_
      intro z w' k _ hb hz G hG
      have e : z 6 = .pointer (some ⟨w.heap.size, 2, none⟩) := hz 6 (by simp)
      have hc := (HM.out.below hb HM.out.lt).cell 2
      simp at hc
      simp only [putsAt, List.foldl, e]
      unfold Runs
      go_simp
      exact hG _ rfl
    refine List.forall_mem_cons.2 ⟨?_, ?_⟩
    · refine Ob.still (by rfl) ?_
      intro z w' k _ hb hz G hG
      simp only [putsAt, List.foldl]
      unfold Runs
      go_simp
      exact hG _ rfl
    refine List.forall_mem_cons.2 ⟨?_, ?_⟩
    · refine Ob.still (by rfl) ?_
      intro z w' k _ hb hz G hG
      have e : z 8 = .pointer (some ⟨w.heap.size, 3, none⟩) := hz 8 (by simp)
      have hc := (HM.out.below hb HM.out.lt).cell 3
      simp at hc
      simp only [putsAt, List.foldl, e]
      unfold Runs
      go_simp
      exact hG _ rfl
    refine List.forall_mem_cons.2 ⟨?_, ?_⟩
    · refine Ob.still (by rfl) ?_
      intro z w' k _ hb hz G hG
      simp only [putsAt, List.foldl]
      unfold Runs
      go_simp
      exact hG _ rfl
    refine List.forall_mem_cons.2 ⟨?_, ?_⟩
    · refine Ob.still (by rfl) ?_
      intro z w' k _ hb hz G hG
      have e : z 10 = .pointer (some ⟨w.heap.size, 4, none⟩) := hz 10 (by simp)
      have hc := (HM.out.below hb HM.out.lt).cell 4
      simp at hc
      simp only [putsAt, List.foldl, e]
      unfold Runs
      go_simp
      exact hG _ rfl
    refine List.forall_mem_cons.2 ⟨?_, ?_⟩
    · refine Ob.mk2 (by rfl) ?_
      intro z w' k hk hb hz G hG
      obtain rfl := List.mem_singleton.1 hk
      have e : z 11 = .slice fA fk fc := hz 11 (by simp)
      simp only [putsAt, List.foldl, e]
      unfold Runs
      go_simp
      refine (HCL.out w' hb).mono ?_
      rintro e2 w2 ⟨A', c', rfl, ho, hb2⟩
      have ho2 : FRow wA.heap.size fk fs A' c' w2 := own_base_mono ho hb.size
      exact ⟨_, rfl, hG _ w2 (fun d' e3 => by cases e3; exact fun _ => ⟨A', c', rfl, ho2⟩) (fun d' v hne _ hv => Ofc.below hv hb2 (by decide) (by decide)) (hb.trans (hb2.mono hb.size))⟩
    refine List.forall_mem_cons.2 ⟨?_, ?_⟩
    · refine Ob.still (by rfl) ?_
      intro z w' k hk hb hz G hG
      obtain rfl := List.mem_singleton.1 hk
      have e7 : z 7 = S n := hz 7 (by simp)
      have e9 : z 9 = S su := hz 9 (by simp)
      obtain ⟨A, c, e12, ho⟩ : ∃ A c, z 12 = .slice A fk c ∧ FRow wA.heap.size fk fs A c w' := hz 12 (by simp) (by decide)
      simp only [putsAt, List.foldl, e7, e9, e12]
      unfold Runs
      go_simp
      exact hG _ (fun _ => ⟨A, c, rfl, ho⟩)
    refine List.forall_mem_cons.2 ⟨?_, ?_⟩
    · refine Ob.mk2 (by rfl) ?_
      intro z w' k hk hb hz G hG
      have hk1 : k ≤ 1 := by
        rcases List.mem_cons.1 hk with rfl | hk
        · decide
        · rw [List.mem_singleton.1 hk]; decide
      simp only [putsAt, List.foldl]
      unfold Runs
      go_simp
      have hba := (Below.refl w'.heap.size w').alloc (Nat.le_refl _) (.cells #[S [], S [], .slice none 0 0, .slice none 0 0] 25)
      exact hG _ _ (fun d' e3 => by cases e3; exact ⟨_, rfl, hb.size, fun _ => Blk.new _ _ _, fun e => by simp at e; omega⟩) (fun d' v hne _ hv => Ofc.below hv hba hk1 hk1) (hb.trans (hba.mono hb.size))
    refine List.forall_mem_cons.2 ⟨?_, ?_⟩
    · refine Ob.mk2 (by rfl) ?_
      intro z w' k hk hb hz G hG
      obtain rfl := List.mem_singleton.1 hk
      obtain ⟨A, c, e13, ho⟩ : ∃ A c, z 13 = .agg #[S n, S su, .slice A fk c, .slice none 0 0] ∧ FRow wA.heap.size fk fs A c w' := hz 13 (by simp) (by decide)
      obtain ⟨b, e3, hB, hz3, -⟩ : ∃ b, z 3 = .pointer (some ⟨b, 0, none⟩) ∧ wA.heap.size ≤ b ∧ (1 ≤ 1 → Blk w' b 25 #[S [], S [], .slice none 0 0, .slice none 0 0]) ∧ (1 = 2 → _) := hz 3 (by simp)
      have hblk := hz3 (by decide)
      have g0 := hblk.cell 0
      have g1 := hblk.cell 1
      have g2 := hblk.cell 2
      have g3 := hblk.cell 3
      have fz := fun i => hblk.frozen i
      simp at g0 g1 g2 g3
      simp only [putsAt, List.foldl, e3, e13]
      unfold Runs
      go_simp
      have hf : (Value.slice A fk c).ownBlock ≠ some b := own_blk_ne ho hblk (by decide)
      have hkp : Keep (fun i => i = b) w' ((((w'.setCell ⟨b, 0, none⟩ (S n)).setCell ⟨b, 1, none⟩ (S su)).setCell ⟨b, 2, none⟩ (.slice A fk c)).setCell ⟨b, 3, none⟩ (.slice none 0 0)) := ((((Keep.refl (fun i => i = b) w').setCell (p := ⟨b, 0, none⟩) (fun _ => rfl) _).setCell (p := ⟨b, 1, none⟩) (fun _ => rfl) _).setCell (p := ⟨b, 2, none⟩) (fun _ => rfl) _).setCell (p := ⟨b, 3, none⟩) (fun _ => rfl) _
      have hbn := (((hblk.set_ 0 (S n)).set_ 1 (S su)).set_ 2 (.slice A fk c)).set_ 3 (.slice none 0 0)
      have ho2 := own_keep ho hkp (fun i hi hf' => hf (by rw [hi, hf']))
      refine hG _ _ (fun d' e => by cases e) (fun d' v hne hzv hv => ?_) ((Keep.of_below (F := fun i => wA.heap.size ≤ i) hb (fun i _ h => h)).trans (hkp.mono (fun i _ h => by rw [h]; exact hB)) |>.below (Nat.le_refl _) (fun i h => h))
      revert hv
      split <;> intro hv
      · exact hv
      · exact hv
      · exact hv
      · exact hv
      · exact hv
      · exact hv
      · exact fun h => absurd h (by decide)
      · exact fun h => absurd h (by decide)
      · have hv3 := hzv (by simp)
        rw [e3] at hv3
        refine ⟨b, hv3, hB, fun h => absurd h (by decide), fun _ => ⟨A, c, ?_, ho2⟩⟩
        simpa using hbn
      · trivial
    exact List.forall_mem_nil _
  case hend =>
    intro z wB hz hb
    have h3 : Ofc.at_ wA.heap.size fk n su fs .new (z 3) 2 wB := hz 3 (by decide)
    obtain ⟨q, e3, hB, -, h2⟩ := h3
    obtain ⟨A0, c0, hblk, hrow⟩ := h2 rfl
    clear h2
    simp only [putsAt, List.foldl, dstsOf, List.filterMap, Act.put, List.setIfInBounds_toArray, List.set_cons_zero, List.set_cons_succ, e3]
    clear hz e3
    generalize z 6 = y6
    generalize z 7 = y7
    generalize z 8 = y8
    generalize z 9 = y9
    generalize z 10 = y10
    generalize z 11 = y11
    generalize z 12 = y12
    generalize z 13 = y13
    have HX := hide hblk
    have HRW := hide hrow
    have HBB : Hid (Below w.heap.size w wB) := hide (HBA.out.trans (hb.mono HBA.out.size))
    have HMB := hide (HM.out.below hb HM.out.lt)
    have HZB := hide (HZ.out.below hb HZ.out.lt)
    have HQA := hide hB
    have HNA := hide HZ.out.lt
    have HQL := hide hblk.lt
    have HAS := hide hb.size
    have HXN := hide (own_blk_ne hrow hblk (by decide))
    clear hb hblk hrow HM HZ HCL hB
    have c5 := HMB.out.cell 5
    simp at c5
    go_wp2_with fail
    clear c5
    go_loopw [17] (fun i wr => ∃ (k : Nat) (A : Option Addr) (c : Nat) (Ss : List Sg), k ≤ mq ∧ i = .int .i64 k ∧ Hid (Gx wr q 25 [S n, S su, .slice A0 fk c0, .slice A k c] 3 wB.heap.size 58 5 k (Ss.flatMap Sg.cells) (.slice A k c)) ∧ Hid (SgsOwn wr wB.heap.size Ss) ∧ Hid (Ss.map Sg.p = (ms.take k).map Md.p) ∧ Hid (Keep (fun i => i = q) wB wr)) (fun i _ => mq - (intOf i).toNat)
    case atStart => exact ⟨0, none, 0, [], Nat.zero_le _, rfl, hide ⟨HX.out, rfl, World.ownsRow_nil _ _ _ _, by decide⟩, hide (fun m hm => by cases hm), hide rfl, hide (Keep.refl _ _)⟩
    case round =>
      obtain ⟨k, A, c, Ss, hk, rfl, HGX, HSO, HSP, HKP⟩ := hrel
      clear HX
      have HBR : Hid (Below w.heap.size w wr) := hide (((Keep.of_below (F := fun i => w.heap.size ≤ i) HBB.out (fun i _ h => h)).trans (HKP.out.mono (fun i _ h => by rw [h]; have := HQA.out; have := HBA.out.size; omega))).below (Nat.le_refl _) (fun i h => h))
      by_cases hlt : k < mq
      · obtain ⟨x, o, rfl, _, hxl, hcell⟩ := Rd.rec_ (size := 8) (fun _ => rfl) (HAT.out.mr.below HBR.out) HAT.out.ml k hlt
        have hlk : k < ms.length := by have := HAT.out.ml; simp only at this; omega
        have hmk : mq ≤ 19 := HAT.out.mb
        have hmo := HAT.out.mo ms[k] (List.getElem_mem hlk)
        have HTK : Hid ((ms.take (k + 1)).map Md.p = (ms.take k).map Md.p ++ [ms[k].p]) := hide (by rw [List.take_succ_eq_append_getElem hlk, List.map_append]; rfl)
        generalize ms[k] = v at hcell HTK hmo
        have HVA := hide hmo
        clear hmo
        have q0 : wr.cell? ⟨x, o + k * 8, none⟩ = some (.int .i64 v.ln) := hcell 0 _ rfl
        have q1 : wr.cell? ⟨x, o + k * 8 + 1, none⟩ = some (.int .i64 v.cl) := hcell 1 _ rfl
        have q2 : wr.cell? ⟨x, o + k * 8 + 2, none⟩ = some (S v.n) := hcell 2 _ rfl
        have q3 : wr.cell? ⟨x, o + k * 8 + 3, none⟩ = some (.bool v.st) := hcell 3 _ rfl
        have q4 : wr.cell? ⟨x, o + k * 8 + 4, none⟩ = some (.slice v.A v.k v.c) := hcell 4 _ rfl
        have q5 : wr.cell? ⟨x, o + k * 8 + 5, none⟩ = some (S v.r.n) := hcell 5 _ rfl
        have q6 : wr.cell? ⟨x, o + k * 8 + 6, none⟩ = some (.bool v.r.a) := hcell 6 _ rfl
        have q7 : wr.cell? ⟨x, o + k * 8 + 7, none⟩ = some (.slice v.bA v.bk v.bc) := hcell 7 _ rfl
        have hki : (k : Int) < (mq : Int) := by omega
        clear hcell
        go_upto_region 5 with fail
        refine name_world ?_
        intro wC hwC
        clear q0 q1 q2 q3 q4 q5 q6 q7
        have HGC : Hid (Gx wC q 25 [S n, S su, .slice A0 fk c0, .slice A k c] 3 wB.heap.size 58 5 k (Ss.flatMap Sg.cells) (.slice A k c)) := hide (by rw [hwC]; exact HGX.out.alloc _)
        have HKC : Hid (Keep (fun i => i = q) wB wC) := hide (by rw [hwC]; exact HKP.out.alloc _)
        have HSC : Hid (SgsOwn wC wB.heap.size Ss) := hide (by rw [hwC]; exact HSO.out.keep ((Keep.refl (fun _ => False) wr).alloc _) (fun _ _ _ _ h => h))
        have HPC : Hid (Blk wC wr.heap.size 48 #[.int .i64 v.ln, .int .i64 v.cl, S v.n, .bool v.st, .slice v.A v.k v.c, S v.r.n, .bool v.r.a, .slice v.bA v.bk v.bc]) := hide (by rw [hwC]; exact Blk.new _ _ _)
        have HBC : Hid (Below w.heap.size w wC) := hide (by rw [hwC]; exact HBR.out.alloc HBR.out.size _)
        clear hwC HGX HKP HSO HBR
        have HO1 : Hid (∀ w', Below wC.heap.size wC w' → Calls Try.prog 37 #[v.val] w' (fun e w2 => ∃ A' c', e = .returned (.agg #[S v.n, .bool v.st, .slice A' v.k c', S v.r.n, .bool v.r.a]) ∧ w2.ownsRow w'.heap.size 43 2 (.slice A' v.k c') v.k ((tyz v.ps).flatMap Ty.cells) ∧ Below w'.heap.size w' w2)) := hide (fun w' hb => by
          have hbw := HBC.out.trans (hb.mono HBC.out.size)
          exact of1_any v w' ((HVA.out.below hbw).weak (fun k hk h => Nat.le_trans hbw.size h)))
        obtain ⟨p, hp⟩ : ∃ p, p = wr.heap.size := ⟨_, rfl⟩
        rw [← hp] at HPC ⊢
        clear hp
        obtain ⟨k0, rfl⟩ : ∃ k0 : Nat, k0 = k := ⟨_, rfl⟩
        have HVV : Hid (v.val = .agg #[.int .i64 v.ln, .int .i64 v.cl, S v.n, .bool v.st, .slice v.A v.k v.c, S v.r.n, .bool v.r.a, .slice v.bA v.bk v.bc]) := hide rfl
        have HQC : Hid (q < wC.heap.size) := hide HGC.out.blk.lt
        have HGV : Hid (∀ i, (Value.slice A k0 c).ownBlock = some i → i < wC.heap.size) := hide (fun i hi => (HGC.out.own.lt i hi).2)
        refine region_chain (by kernel_rfl) [⟨0, some 21, false, [0, 1], []⟩, ⟨1, some 22, false, [0, 1], [21]⟩, ⟨2, some 23, false, [0], []⟩, ⟨3, some 24, true, [0], [23]⟩, ⟨4, some 25, false, [1], [24]⟩, ⟨5, some 26, true, [1], [22, 25]⟩, ⟨6, some 27, false, [0, 1, 2], []⟩, ⟨7, none, true, [2], [26, 27]⟩] [3, 5, 7] (fun d x k w' => Ofd.at_ wC.heap.size wB.heap.size k0 v (Ss.flatMap Sg.cells) (match d with | 21 => .is (.pointer (some ⟨q, 3, none⟩)) | 22 => .is (.slice A k0 c) | 23 => .is v.val | 24 => .sig | 25 => .lit | 26 => .app | 27 => .is (.pointer (some ⟨q, 3, none⟩)) | _ => .any) x k w') (fun k w' => (k ≤ 1 → Below wC.heap.size wC w') ∧ (k = 2 → ∃ w1, Below wC.heap.size wC w1 ∧ w1.grownBy w' (Value.slice A k0 c).ownBlock) ∧ (k = 3 → ∃ news A2 c2, Gx w' q 25 [S n, S su, .slice A0 fk c0, .slice A2 (k0 + 1) c2] 3 wB.heap.size 58 5 (k0 + 1) (Ss.flatMap Sg.cells ++ news) (.slice A2 (k0 + 1) c2) ∧ NSig wC.heap.size v news w' ∧ Keep (fun i => i = q ∨ some i = (Value.slice A k0 c).ownBlock) wC w')) (by kernel_rfl) ⟨fun _ => (Below.refl _ _).drew, fun e => by omega, fun e => by omega⟩ ?obs2 ?hend2
        case obs2 =>
          refine List.forall_mem_cons.2 ⟨?_, ?_⟩
          · refine Ob.still (by rfl) ?_
            intro z w' k _ hb hz G hG
            simp only [putsAt, List.foldl]
            unfold Runs
            go_simp
            exact hG _ rfl
          refine List.forall_mem_cons.2 ⟨?_, ?_⟩
          · refine Ob.still (by rfl) ?_
            intro z w' k hk hb hz G hG
            have hk1 : k ≤ 1 := by
              rcases List.mem_cons.1 hk with rfl | hk
              · decide
              · rw [List.mem_singleton.1 hk]; decide
            have e : z 21 = .pointer (some ⟨q, 3, none⟩) := hz 21 (by simp)
            have hc := (HGC.out.keep (Keep.of_below (F := fun i => wC.heap.size ≤ i) (hb.1 hk1) (fun i _ h => h)) (by have := HQC.out; omega) (fun i hi h => by have := HGV.out i hi; omega)).cell
            simp only [putsAt, List.foldl, e]
            unfold Runs
            go_simp
            exact hG _ rfl
          refine List.forall_mem_cons.2 ⟨?_, ?_⟩
          · refine Ob.still (by rfl) ?_
            intro z w' k hk hb hz G hG
            obtain rfl := List.mem_singleton.1 hk
            have hpb := HPC.out.below (hb.1 (by decide)) HPC.out.lt
            have p0 := hpb.cell 0
            have p1 := hpb.cell 1
            have p2 := hpb.cell 2
            have p3 := hpb.cell 3
            have p4 := hpb.cell 4
            have p5 := hpb.cell 5
            have p6 := hpb.cell 6
            have p7 := hpb.cell 7
            simp at p0 p1 p2 p3 p4 p5 p6 p7
            simp only [putsAt, List.foldl]
            unfold Runs
            go_simp
            exact hG _ rfl
          refine List.forall_mem_cons.2 ⟨?_, ?_⟩
          · refine Ob.mk2 (by rfl) ?_
            intro z w' k hk hb hz G hG
            obtain rfl := List.mem_singleton.1 hk
            have e : z 23 = v.val := hz 23 (by simp)
            have hb0 := hb.1 (by decide)
            simp only [putsAt, List.foldl, e]
            unfold Runs
            go_simp
            refine (HO1.out w' hb0).mono ?_
            rintro e2 w2 ⟨A', c', rfl, ho, hb2⟩
            exact ⟨_, rfl, hG _ w2 (fun d' e3 => by cases e3; exact fun _ => ⟨_, rfl, A', c', rfl, own_base_mono ho hb0.size⟩) (fun d' v hne _ hv => Ofd.below hv hb2 (by decide) (by decide)) ⟨fun _ => hb0.trans (hb2.mono hb0.size), fun e => by simp at e, fun e => by simp at e⟩⟩
          refine List.forall_mem_cons.2 ⟨?_, ?_⟩
          · refine Ob.mk2 (by rfl) ?_
            intro z w' k hk hb hz G hG
            obtain rfl := List.mem_singleton.1 hk
            have hb0 := hb.1 (by decide)
            obtain ⟨news, e24, A', c', rfl, ho⟩ : ∃ news, z 24 = .agg news.toArray ∧ NSig wC.heap.size v news w' := hz 24 (by simp) (by decide)
            have e24' : z 24 = .agg #[S v.n, .bool v.st, .slice A' v.k c', S v.r.n, .bool v.r.a] := e24
            simp only [putsAt, List.foldl, e24']
            unfold Runs
            go_simp
            have hba := (Below.refl w'.heap.size w').alloc (Nat.le_refl _) (.cells #[S v.n, .bool v.st, .slice A' v.k c', S v.r.n, .bool v.r.a] 58)
            exact hG _ _ (fun d' e3 => by cases e3; exact fun _ => ⟨_, _, rfl, Blk.new _ _ _, hb0.size, A', c', rfl, own_below ho hba⟩) (fun d' v hne _ hv => Ofd.below hv hba (by decide) (by decide)) ⟨fun _ => hb0.trans (hba.mono hb0.size), fun e => by simp at e, fun e => by simp at e⟩
          refine List.forall_mem_cons.2 ⟨?_, ?_⟩
          · refine Ob.mk2 (by rfl) ?_
            intro z w' k hk hb hz G hG
            obtain rfl := List.mem_singleton.1 hk
            have hb0 := hb.1 (by decide)
            have e22 : z 22 = .slice A k0 c := hz 22 (by simp)
            obtain ⟨b, news, e25, hbl, hbb, A', c', rfl, ho⟩ : ∃ b news, z 25 = .slice (some ⟨b, 0, none⟩) 1 1 ∧ Blk w' b 58 news.toArray ∧ wC.heap.size ≤ b ∧ NSig wC.heap.size v news w' := hz 25 (by simp) (by decide)
            have hgx := HGC.out.keep (Keep.of_below (F := fun i => wC.heap.size ≤ i) hb0 (fun i _ h => h)) (by have := HQC.out; omega) (fun i hi h => by have := HGV.out i hi; omega)
            refine runs_append (.tmp 22) (.tmp 25) 23 rfl wB.heap.size 58 _ 5 72 Try.underlying23 sig_info rfl (by decide) (.slice A k0 c) k0 (Ss.flatMap Sg.cells) (by simp only [putsAt, List.foldl, e22, e25]; simp [Act.eval, Act.put]) hgx.own b [S v.n, .bool v.st, .slice A' v.k c', S v.r.n, .bool v.r.a] (by simp only [putsAt, List.foldl, e22, e25]; simp [Act.eval, Act.put]) rfl hbl (by intro u hu; simp only [List.mem_cons, List.not_mem_nil, or_false] at hu; rcases hu with rfl | rfl | rfl | rfl | rfl <;> rfl) (by unfold maxLen; omega) (by omega) (Nat.le_trans HKC.out.size hb0.size) ?_
            intro A2 c2 w2 hown hgr
            have hns : NSig wC.heap.size v [S v.n, .bool v.st, .slice A' v.k c', S v.r.n, .bool v.r.a] w2 := ⟨A', c', rfl, own_keep ho ((Keep.refl (fun i => i < wC.heap.size) w').grown hgr (fun i hi _ => HGV.out i hi)) (fun i hi hf => by have := own_base ho hi; omega)⟩
            refine hG _ w2 (fun d' e3 => by cases e3; exact fun _ => ⟨_, A2, c2, rfl, hown, hns⟩) (fun d' v' hne _ hv => Ofd.late hv ?_ (by decide)) ⟨fun e => by simp at e, fun _ => ⟨w', hb0, hgr⟩, fun e => by simp at e⟩
            have hd : d' ≠ 26 := fun e => hne (by rw [e])
            split <;> first | (intro h; cases h; done) | exact absurd rfl hd
          refine List.forall_mem_cons.2 ⟨?_, ?_⟩
          · refine Ob.still (by rfl) ?_
            intro z w' k _ hb hz G hG
            simp only [putsAt, List.foldl]
            unfold Runs
            go_simp
            exact hG _ rfl
          refine List.forall_mem_cons.2 ⟨?_, ?_⟩
          · refine Ob.mk2 (by rfl) ?_
            intro z w' k hk hb hz G hG
            obtain rfl := List.mem_singleton.1 hk
            obtain ⟨w1, hb1, hgr⟩ := hb.2.1 rfl
            obtain ⟨news, A2, c2, e26, hown, hns⟩ : ∃ news A c', z 26 = .slice A (k0 + 1) c' ∧ w'.ownsRow wB.heap.size 58 5 (z 26) (k0 + 1) (Ss.flatMap Sg.cells ++ news) ∧ NSig wC.heap.size v news w' := hz 26 (by simp) rfl
            have e27 : z 27 = .pointer (some ⟨q, 3, none⟩) := hz 27 (by simp)
            rw [e26] at hown
            have hgx := HGC.out.keep (Keep.of_below (F := fun i => wC.heap.size ≤ i) hb1 (fun i _ h => h)) (by have := HQC.out; omega) (fun i hi h => by have := HGV.out i hi; omega)
            obtain ⟨hg2, hc2, hf2⟩ := hgx.next hown hgr
            simp only [List.set_cons_zero, List.set_cons_succ] at hg2
            simp only [putsAt, List.foldl, e26, e27]
            unfold Runs
            go_simp
            have hkk := Gx.keepNext (F := fun i => i = q ∨ some i = (Value.slice A k0 c).ownBlock) (q := q) (j := 3) (v2 := .slice A2 (k0 + 1) c2) hgr (fun i hi => .inr hi.symm) (.inl rfl) (Keep.of_below (F := fun i => i = q ∨ some i = (Value.slice A k0 c).ownBlock) hb1 (fun i hi h => by omega))
            refine hG _ _ (fun d' e => by cases e) (fun d' v' hne _ hv => ?_) ⟨fun e => by simp at e, fun e => by simp at e, fun _ => ⟨news, A2, c2, hg2, hns.keep ((Keep.refl (fun i => i < wC.heap.size) w').setCell (fun _ => HQC.out) _) (fun _ h => h), hkk⟩⟩
            revert hv
            split <;> intro hv <;> first | exact hv | (intro e; exact absurd e (by decide)) | trivial
          exact List.forall_mem_nil _
        case hend2 =>
          intro z w' hz hph
          obtain ⟨news, A2, c2, hg2, ⟨A', c', rfl, ho⟩, hkk⟩ := hph.2.2 rfl
          clear hz hph
          simp only [putsAt, List.foldl, dstsOf, List.filterMap, Act.put, List.setIfInBounds_toArray, List.set_cons_zero, List.set_cons_succ]
          generalize z 21 = y21
          generalize z 22 = y22
          generalize z 23 = y23
          generalize z 24 = y24
          generalize z 25 = y25
          generalize z 26 = y26
          generalize z 27 = y27
          have HG5 : Hid (Gx w' q 25 [S n, S su, .slice A0 fk c0, .slice A2 (k0 + 1) c2] 3 wB.heap.size 58 5 (k0 + 1) ((Ss ++ [v.sg A' c']).flatMap Sg.cells) (.slice A2 (k0 + 1) c2)) := hide (by rw [List.flatMap_append, List.flatMap_singleton]; exact hg2)
          have HS5 : Hid (SgsOwn w' wB.heap.size (Ss ++ [v.sg A' c'])) := hide (by
            intro m hm
            rcases List.mem_append.1 hm with hm | hm
            · exact HSC.out.keep hkk (fun m hm i hi h => by
              rcases h with h | h
              · exact own_blk_ne (HSC.out m hm).1 HGC.out.blk (by decide) (by rw [hi, h])
              · exact own_own_ne (HSC.out m hm).1 HGC.out.own (by decide) i hi h.symm) m hm
            · obtain rfl := List.mem_singleton.1 hm
              obtain ⟨g1, g2, g3, g4, g5, g6⟩ := HVA.out
              exact ⟨own_base_mono ho HKC.out.size, by simp [Md.sg, tyz, g2], g3, g4, g5, by
                intro p hp
                obtain ⟨u, hu, rfl⟩ := List.mem_map.1 hp
                exact (g6 u hu).2⟩)
          have HP5 : Hid ((Ss ++ [v.sg A' c']).map Sg.p = (ms.take (k0 + 1)).map Md.p) := hide (by rw [HTK.out, ← HSP.out, List.map_append]; rfl)
          have HK5 : Hid (Keep (fun i => i = q) wB w') := hide (HKC.out.trans' hkk (fun i hi h => h.elim id (fun h => by have := own_base HGC.out.own h.symm; omega)))
          clear hg2 hkk ho HGC HSC HKC HPC
          go_wp2_with fail
          go_roundw
          case rel => exact ⟨k0 + 1, A2, c2, _, by omega, by go_num, HG5, HS5, HP5, HK5⟩
          case measure => simp [intOf]; omega
      · obtain rfl : k = mq := by omega
        obtain ⟨wu, rfl⟩ : ∃ wu : World, wu = wr := ⟨_, rfl⟩
        have HRU : Hid (FRow wA.heap.size fk fs A0 c0 wu) := hide (own_keep HRW.out HKP.out (fun i hi h => HXN.out (by rw [hi, h])))
        have hml : ms.length = k := HAT.out.ml
        have hmk : k ≤ 19 := HAT.out.mb
        have hfk : fk ≤ 19 := HAT.out.fb
        have hsl : Ss.length = k := by
          have := congrArg List.length HSP.out
          rw [List.length_map, List.length_map, List.length_take, hml] at this
          omega
        have HPP : Hid (Ss.map Sg.p = ms.map Md.p) := hide (by rw [HSP.out, List.take_of_length_le (by omega)])
        have HSRT := hide (sort_any wA.heap.size wB.heap.size q fk c0 k c n su A0 A fs Ss wu HGX.out.blk HRU.out HGX.out.own HAT.out.fl hfk hsl hmk)
        have HZU := hide (HZB.out.keep HKP.out (by have := HQA.out; have := HNA.out; omega))
        have HROW := hide HGX.out.row
        have HGB := hide HGX.out.blk
        have HGO := hide HGX.out.own
        have HSLL := hide (And.intro hml (And.intro hmk (And.intro hfk hsl)))
        clear HGX HSP HRW HZB hml hmk hfk hsl
        go_wp2_with fail
        refine HSRT.out.mono ?_
        clear HSRT
        rintro e w2 ⟨rfl, fs', Ss', hp, hr, hp2, hr2, hof, hom, hkk⟩
        have HKK := hide hkk
        have HOF := hide hof
        have HOM := hide hom
        have HPR := hide (And.intro hp (And.intro hr (And.intro hp2 hr2)))
        have HB2 := hide (HGB.out.keep hkk (fun h => h.elim (fun h => HXN.out h.symm) (fun h => HROW.out h.symm)))
        have HZ2 := hide (HZU.out.keep hkk (fun h => h.elim (fun h => by have := own_base HRU.out h.symm; have := HNA.out; omega) (fun h => by have := own_base HGO.out h.symm; have := HNA.out; have := HAS.out; omega)))
        have HS2 : Hid (SgsOwn w2 wB.heap.size Ss) := hide (HSO.out.keep hkk (fun m hm i hi h => h.elim (fun h => own_own_ne (HSO.out m hm).1 HRU.out (by decide) i hi h.symm) (fun h => own_own_ne (HSO.out m hm).1 HGO.out (by decide) i hi h.symm)))
        have HBU : Hid (Below w.heap.size w w2) := hide ((((Keep.of_below (F := fun i => w.heap.size ≤ i) HBR.out (fun i _ h => h)).trans (hkk.mono (fun i _ h => h.elim (fun h => by have := own_base HRU.out h.symm; have := HBA.out.size; omega) (fun h => by have := own_base HGO.out h.symm; have := HBB.out.size; omega)))).below (Nat.le_refl _) (fun i h => h)))
        clear hkk hof hom hp hr hp2 hr2 HGB HZU HSO HRU HGO
        have m0 := HB2.out.cell 0
        have m1 := HB2.out.cell 1
        have m2 := HB2.out.cell 2
        have m3 := HB2.out.cell 3
        have z0 := HZ2.out.cell 0
        have z1 := HZ2.out.cell 1
        have z2 := HZ2.out.cell 2
        have z3 := HZ2.out.cell 3
        have fz := fun i => HZ2.out.frozen i
        simp at m0 m1 m2 m3 z0 z1 z2 z3
        obtain ⟨wF, hwF⟩ : ∃ wF, wF = (((w2.setCell ⟨N, 0, none⟩ (S n)).setCell ⟨N, 1, none⟩ (S su)).setCell ⟨N, 2, none⟩ (.slice A0 fk c0)).setCell ⟨N, 3, none⟩ (.slice A k c) := ⟨_, rfl⟩
        have HKF : Hid (Keep (fun i => i = N) w2 wF) := hide (by rw [hwF]; exact (((((Keep.refl (fun i => i = N) w2).setCell (p := ⟨N, 0, none⟩) (fun _ => rfl) _).setCell (p := ⟨N, 1, none⟩) (fun _ => rfl) _).setCell (p := ⟨N, 2, none⟩) (fun _ => rfl) _).setCell (p := ⟨N, 3, none⟩) (fun _ => rfl) _))
        have HBN : Hid (Blk wF N 25 #[S n, S su, .slice A0 fk c0, .slice A k c]) := hide (by rw [hwF]; have := (((HZ2.out.set_ 0 (S n)).set_ 1 (S su)).set_ 2 (.slice A0 fk c0)).set_ 3 (.slice A k c); simpa using this)
        have HBF : Hid (Below w.heap.size w wF) := hide (((Keep.of_below (F := fun i => w.heap.size ≤ i) HBU.out (fun i _ h => h)).trans (HKF.out.mono (fun i _ h => by rw [h]; have := HNW.out; omega))).below (Nat.le_refl _) (fun i h => h))
        have HATF : Hid ((⟨n, su, A0, fk, c0, fs', A, k, c, Ss'⟩ : Fc).at_ wF (fun i => wF.heap.size ≤ i)) := hide (by
          obtain ⟨g1, g2, g3, g4⟩ := HSLL.out
          obtain ⟨p1, p2, p3, p4⟩ := HPR.out
          have hf := own_keep HOF.out HKF.out (fun i hi h => by have := own_base HOF.out hi; have := HNA.out; omega)
          have hm := own_keep HOM.out HKF.out (fun i hi h => by have := own_base HOM.out hi; have := HNA.out; have := HAS.out; omega)
          refine ⟨⟨(Rd.of_ownB hf).weak (fun i h1 h => by omega), by rw [p1.length_eq]; exact HAT.out.fl, by show fk ≤ 9223372036854775807; omega, fun v hv => HAT.out.fo v (p1.mem_iff.1 hv)⟩, ⟨(Rd.of_ownB hm).weak (fun i h1 h => by omega), by rw [p3.length_eq]; exact g4, by show k ≤ 9223372036854775807; omega, fun m hm => ?_⟩, HAT.out.sn, HAT.out.ss⟩
          obtain ⟨h1, h2, h3, h4⟩ := HS2.out m (p3.mem_iff.1 hm)
          have h5 := own_keep h1 HKF.out (fun i hi h => by have := own_base h1 hi; have := HNA.out; have := HAS.out; omega)
          exact ⟨(Rd.of_ownB h5).weak (fun i h1 h => by omega), h2, by omega, h4⟩)
        have HPPP : Hid ((Ss'.map Sg.p).Perm (ms.map Md.p)) := hide (by rw [← HPP.out]; exact HPR.out.2.2.1.map _)
        have HK20 : Hid (∀ m ∈ Ss', m.k ≤ 200) := hide (fun m hm => (HS2.out m (HPR.out.2.2.1.mem_iff.1 hm)).2.2.1)
        have r0 := HBN.out.cell 0
        have r1 := HBN.out.cell 1
        have r2 := HBN.out.cell 2
        have r3 := HBN.out.cell 3
        simp at r0 r1 r2 r3
        rw [hwF] at r0 r1 r2 r3 HATF HBF
        clear HKF HBN hwF HKK HOF HOM HB2 HZ2 HS2 HBU
        go_wp2_with fail
        refine bodyPost_ret (v := .agg #[S n, S su, .slice A0 fk c0, .slice A k c]) ?_ rfl ?_
        · simp [results, Try.results14, go_sem, r0, r1, r2, r3]
        exact ⟨⟨n, su, A0, fk, c0, fs', A, k, c, Ss'⟩, rfl, rfl, rfl, HPR.out.1, HPR.out.2.1, HPPP.out, HPR.out.2.2.2, HATF.out, HSLL.out.2.2.1, HSLL.out.2.1, HK20.out, HBF.out⟩
end Go.Proofs.Ytkgnoemagklmiaa
