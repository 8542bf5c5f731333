/- A region that draws its order and holds calls, one behind the other, that write, beside loads and new blocks in any order: each operation is looked at once; no statement of the seat is proved here. -/
import Derived.Orders
import Derived.WalkKit
namespace Go.Proofs.Ytclgiapmbmbknaa
open Go

section
variable {P : Program} {ops : Array Oper} {Q : Exit → Act → World → Prop}

/-- What an operation has come to: a value, or what a call hands back. -/
def ComesTo (P : Program) (G : Value → World → Prop) : Result Next → Prop
  | .ok (.value u) w => G u w
  | .ok .skip w => G undef w
  | .ok (.enter f args) w => Calls P f args w (fun e w' => ∃ u, e = .returned u ∧ G u w')
  | _ => False
def Runs (P : Program) (o : Oper) (a : Act) (w : World) (G : Value → World → Prop) : Prop := ComesTo P G ((execOp a.eval o).run P w)
theorem Runs.wp {o : Oper} {a : Act} {w : World} {G : Value → World → Prop} {K : Act → World → Prop} (h : Runs P o a w G) (hK : ∀ u w', G u w' → K (a.put o.dst u) w') : o.wp P a w K Q := by
  unfold Runs at h
  unfold Oper.wp
  generalize (execOp a.eval o).run P w = r at *
  cases r with
  | ok n w' =>
    cases n <;> simp only [ComesTo] at h <;> simp only [Oper.upon]
    case value u => exact hK _ _ h
    case skip => exact hK _ _ h
    case enter f args => exact h.mono fun e w'' ⟨u, he, hg⟩ => by subst he; exact hK _ _ hg
  | halt x w' => simp only [ComesTo] at h

/-- Some slots set anew. -/
def mix (y : Nat → Option Value) (a : Act) : Act := { a with tmps := a.tmps.mapIdx fun t v => (y t).getD v }
def upd (y : Nat → Option Value) (d : Nat) (u : Value) : Nat → Option Value := fun t => if t = d then some u else y t
theorem mix_none (a : Act) : mix (fun _ => none) a = a := by
  obtain ⟨t, d⟩ := a
  unfold mix
  congr 1
  apply Array.ext
  · simp
  · intro i h1 h2; simp
theorem mix_put (y : Nat → Option Value) (a : Act) (d : Nat) (u : Value) : (mix y a).put (some d) u = mix (upd y d u) a := by
  obtain ⟨t, df⟩ := a
  unfold mix Act.put upd
  simp only
  congr 1
  apply Array.ext_getElem?
  intro i
  rw [Array.getElem?_setIfInBounds, Array.getElem?_mapIdx, Array.getElem?_mapIdx]
  by_cases h : d = i
  · subst h
    by_cases hl : d < t.size
    · simp [hl]
    · simp [hl]
  · have : ¬ i = d := fun e => h e.symm
    simp [h, this]
theorem mix_eval (y : Nat → Option Value) (a : Act) (t : Nat) : (mix y a).eval (.tmp t) = if t < a.tmps.size then (y t).getD (a.eval (.tmp t)) else undef := by
  obtain ⟨ts, df⟩ := a
  unfold mix Act.eval
  simp only [Array.getD_eq_getD_getElem?, Array.getElem?_mapIdx]
  by_cases h : t < ts.size
  · simp [h]
  · simp [h]
def putsAt (ds : List Nat) (z : Nat → Value) (a : Act) : Act := ds.foldl (fun a d => a.put (some d) (z d)) a
theorem putsAt_mix (z : Nat → Value) (a : Act) : ∀ (ds : List Nat) (y : Nat → Option Value), putsAt ds z (mix y a) = mix (fun t => if t ∈ ds then some (z t) else y t) a
  | [], y => by simp [putsAt]
  | d :: ds, y => by
    have := putsAt_mix z a ds (upd y d (z d))
    unfold putsAt at this ⊢
    rw [List.foldl_cons, mix_put, this]
    congr 1
    funext t
    unfold upd
    by_cases h1 : t ∈ ds
    · simp [h1]
    · by_cases h2 : t = d
      · simp [h2]
      · simp [h1, h2]
theorem putsAt_eq (z : Nat → Value) (a : Act) (ds : List Nat) : putsAt ds z a = mix (fun t => if t ∈ ds then some (z t) else none) a := by
  have := putsAt_mix z a ds (fun _ => none)
  rw [mix_none] at this
  exact this
theorem mix_exec {y y' : Nat → Option Value} {a : Act} {o : Oper} (hs : ∀ cs b, o.op ≠ .select cs b) (h : ∀ t, Operand.tmp t ∈ o.op.operands → y t = y' t) : execOp (mix y a).eval o = execOp (mix y' a).eval o := by
  refine execOp_congr o hs fun x hx => ?_
  cases x with
  | tmp t => rw [mix_eval, mix_eval, h t hx]
  | _ => rfl

/-- An operation of the region: its number, its slot, which step of the row it is (or none), how many of those may have been done when it comes up, whose results it reads. -/
structure Nd where
  i : Nat
  d : Option Nat
  ev : Bool
  ks : List Nat
  needs : List Nat

/-- The numbers ahead of one, by the edges. -/
def ahead (ops : Array Oper) : Nat → Nat → List Nat
  | 0, _ => []
  | f + 1, i => (((ops[i]?).map fun o => (o.after.toList.filter (Region.binds .any)).map (·.on)).getD []).flatMap fun j => j :: ahead ops f j
def opTmps (o : Oper) : List Nat := o.op.operands.toList.filterMap fun | .tmp t => some t | _ => none
def fitsAt (ops : Array Oper) (cs : List Nat) (i k : Nat) : Bool :=
  (List.range cs.length).all fun j => if j < k then !(ahead ops 6 (cs.getD j 0)).contains i else !(ahead ops 6 i).contains (cs.getD j 0)
def isSel : Op → Bool
  | .select _ _ => true
  | _ => false
/-- The slots that the region's operations write. -/
def dstsOf (nds : List Nd) : List Nat := nds.filterMap (·.d)
def chkNd (ops : Array Oper) (cs : List Nat) (nds : List Nd) (nd : Nd) : Bool :=
  match ops[nd.i]? with
  | none => false
  | some o =>
    (o.after.toList.all fun e => !Region.binds .any e || decide (e.on < nd.i)) && o.dst == nd.d && o.guard.isNone && !isSel o.op &&
    ((opTmps o).all fun t => !(dstsOf nds).contains t || nd.needs.contains t || nds.all fun n => n.d != some t || (ahead ops 6 n.i).contains nd.i) &&
    (nd.needs.all fun t => nds.any fun n => n.d == some t && (ahead ops 6 nd.i).contains n.i) &&
    (if nd.ev then (List.range cs.length).any (fun k => cs.getD k 0 == nd.i && nd.ks == [k]) && (nd.ks.all fun k => k == 0 || (ahead ops 6 nd.i).contains (cs.getD (k - 1) 0))
      else !cs.contains nd.i && (List.range (cs.length + 1)).all fun k => !fitsAt ops cs nd.i k || nd.ks.contains k)
def nodupB : List Nat → Bool
  | [] => true
  | x :: l => !l.contains x && nodupB l
def chkAll (ops : Array Oper) (cs : List Nat) (nds : List Nd) : Bool :=
  nds.map (·.i) == List.range ops.size && nodupB (dstsOf nds) && nodupB cs && (cs.all fun c => decide (c < ops.size)) && (nds.all (chkNd ops cs nds)) && (nds.all fun n => !cs.contains n.i || n.ev)

theorem nodupB_spec : ∀ {l : List Nat}, nodupB l = true → l.Nodup
  | [], _ => List.nodup_nil
  | x :: l, h => by
    simp only [nodupB, Bool.and_eq_true, Bool.not_eq_true'] at h
    refine List.nodup_cons.2 ⟨fun hm => ?_, nodupB_spec h.2⟩
    have := List.contains_iff_mem.2 hm
    rw [h.1] at this
    cases this

/-- What has come up is shut downwards. -/
def Down (ops : Array Oper) (L : Array Bool) : Prop := ∀ i o, L.getD i false = true → ops[i]? = some o → ∀ e ∈ o.after, Region.binds .any e = true → L.getD e.on false = true
theorem ahead_down {L : Array Bool} (h : Down ops L) : ∀ (f i : Nat), L.getD i false = true → ∀ j ∈ ahead ops f i, L.getD j false = true
  | 0, _, _, _, hj => by cases hj
  | f + 1, i, hi, j, hj => by
    unfold ahead at hj
    cases ho : ops[i]? with
    | none => rw [ho] at hj; simp at hj
    | some o =>
      rw [ho] at hj
      simp only [Option.map_some, Option.getD_some, List.mem_flatMap, List.mem_map, List.mem_filter] at hj
      obtain ⟨n, ⟨e, ⟨he, hb⟩, rfl⟩, hj⟩ := hj
      have hn := h i o hi ho e (by simpa using he) hb
      rcases List.mem_cons.1 hj with rfl | hj
      · exact hn
      · exact ahead_down h f _ hn j hj
/-- Those ahead of one that may come up have come up. -/
theorem ahead_ready {L : Array Bool} (h : Down ops L) {i : Nat} {o : Oper} (ho : ops[i]? = some o) (hr : ∀ e ∈ o.after, Region.binds .any e = true → L.getD e.on false = true) (f : Nat) : ∀ j ∈ ahead ops f i, L.getD j false = true := by
  intro j hj
  cases f with
  | zero => cases hj
  | succ f =>
    unfold ahead at hj
    rw [ho] at hj
    simp only [Option.map_some, Option.getD_some, List.mem_flatMap, List.mem_map, List.mem_filter] at hj
    obtain ⟨n, ⟨e, ⟨he, hb⟩, rfl⟩, hj⟩ := hj
    have hn := hr e (by simpa using he) hb
    rcases List.mem_cons.1 hj with rfl | hj
    · exact hn
    · exact ahead_down h f _ hn j hj

/-- What is shown of one operation. -/
def Ob (P : Program) (ops : Array Oper) (a : Act) (V : Nat → Value → Nat → World → Prop) (Ph : Nat → World → Prop) (nd : Nd) : Prop :=
  ∀ o, ops[nd.i]? = some o → ∀ (z : Nat → Value) (w' : World) (k : Nat), k ∈ nd.ks → Ph k w' → (∀ d ∈ nd.needs, V d (z d) k w') →
    Runs P o (putsAt nd.needs z a) w' fun u w'' => (∀ d, nd.d = some d → V d u (if nd.ev then k + 1 else k) w'') ∧ (∀ d v, nd.d ≠ some d → (d ∈ nd.needs → v = z d) → V d v k w' → V d v (if nd.ev then k + 1 else k) w'') ∧ Ph (if nd.ev then k + 1 else k) w''

structure StepInv (ops : Array Oper) (a : Act) (V : Nat → Value → Nat → World → Prop) (Ph : Nat → World → Prop) (cs : List Nat) (nds : List Nd) (L : Array Bool) (a' : Act) (w' : World) : Prop where
  size : L.size = ops.size
  down : Down ops L
  mixed : ∃ (y : Nat → Option Value) (k : Nat), a' = mix y a ∧ (∀ nd ∈ nds, ∀ d, nd.d = some d → (y d).isSome = L.getD nd.i false) ∧ (∀ t, t ∉ dstsOf nds → y t = none) ∧ (∀ d v, y d = some v → V d v k w') ∧ k ≤ cs.length ∧ Ph k w' ∧ ∀ j, j < cs.length → L.getD (cs.getD j 0) false = decide (j < k)

theorem getD_set {L : Array Bool} {i j : Nat} (hi : i < L.size) : (L.setIfInBounds i true).getD j false = if j = i then true else L.getD j false := by
  by_cases h : j = i
  · subst h; simp [hi]
  · rw [if_neg h, getD_set_ne false (fun e => h e.symm)]

theorem nodup_d {nds : List Nd} (h : (dstsOf nds).Nodup) {n m : Nd} (hn : n ∈ nds) (hm : m ∈ nds) {d : Nat} (h1 : n.d = some d) (h2 : m.d = some d) : n = m := by
  unfold dstsOf at h
  induction nds with
  | nil => cases hn
  | cons x nds ih =>
    have hsub : ∀ y ∈ nds, y.d = some d → d ∈ nds.filterMap (·.d) := fun y hy hd => List.mem_filterMap.2 ⟨y, hy, hd⟩
    cases hx : x.d with
    | none =>
      rw [List.filterMap_cons_none hx] at h
      rcases List.mem_cons.1 hn with e1 | hn' <;> rcases List.mem_cons.1 hm with e2 | hm'
      · rw [e1, e2]
      · rw [e1, hx] at h1; cases h1
      · rw [e2, hx] at h2; cases h2
      · exact ih h hn' hm'
    | some e =>
      rw [List.filterMap_cons_some hx] at h
      obtain ⟨hne, h⟩ := List.nodup_cons.1 h
      rcases List.mem_cons.1 hn with e1 | hn' <;> rcases List.mem_cons.1 hm with e2 | hm'
      · rw [e1, e2]
      · rw [e1, hx] at h1; cases h1; exact absurd (hsub _ hm' h2) hne
      · rw [e2, hx] at h2; cases h2; exact absurd (hsub _ hn' h1) hne
      · exact ih h hn' hm'

theorem ops_i {nds : List Nd} {n : Nat} (h : nds.map (·.i) = List.range n) {i : Nat} (hi : i < n) : ∃ nd ∈ nds, nd.i = i := by
  have : i ∈ nds.map (·.i) := by rw [h]; simpa using hi
  obtain ⟨nd, h1, h2⟩ := List.mem_map.1 this
  exact ⟨nd, h1, h2⟩
theorem ops_inj {nds : List Nd} {n : Nat} (h : nds.map (·.i) = List.range n) {a b : Nd} (ha : a ∈ nds) (hb : b ∈ nds) (e : a.i = b.i) : a = b := by
  have hnd : (nds.map (·.i)).Nodup := by rw [h]; exact List.nodup_range
  clear h
  induction nds with
  | nil => cases ha
  | cons x nds ih =>
    rw [List.map_cons] at hnd
    obtain ⟨h1, h2⟩ := List.nodup_cons.1 hnd
    rcases List.mem_cons.1 ha with e1 | ha' <;> rcases List.mem_cons.1 hb with e2 | hb'
    · rw [e1, e2]
    · exact absurd (List.mem_map.2 ⟨b, hb', by rw [← e, e1]⟩) h1
    · exact absurd (List.mem_map.2 ⟨a, ha', by rw [e, e2]⟩) h1
    · exact ih ha' hb' h2

theorem chk_size {cs : List Nat} {nds : List Nd} (h : chkAll ops cs nds = true) : nds.map (·.i) = List.range ops.size := by
  simp only [chkAll, Bool.and_eq_true, beq_iff_eq] at h
  exact h.1.1.1.1.1
theorem chk_nd {cs : List Nat} {nds : List Nd} (h : chkAll ops cs nds = true) {nd : Nd} (hn : nd ∈ nds) : chkNd ops cs nds nd = true := by
  simp only [chkAll, Bool.and_eq_true, List.all_eq_true] at h
  exact h.1.2 nd hn

set_option linter.unusedVariables false in
/-- One operation. -/
theorem step_inv {a : Act} {V : Nat → Value → Nat → World → Prop} {Ph : Nat → World → Prop} {cs : List Nat} {nds : List Nd} (hchk : chkAll ops cs nds = true)
    (hob : ∀ nd ∈ nds, Ob P ops a V Ph nd) {L : Array Bool} {a' : Act} {w' : World} (h : StepInv ops a V Ph cs nds L a' w') {i : Nat} (hi : i ∈ Region.ready .any ops L) :
    wpOp P ops Q i (fun a'' w'' => StepInv ops a V Ph cs nds (L.setIfInBounds i true) a'' w'') a' w' := by
  obtain ⟨hun, o, ho, hpre⟩ := mem_ready.1 hi
  have hil : i < ops.size := (Array.getElem?_eq_some_iff.1 ho).1
  have hiL : i < L.size := by rw [h.size]; exact hil
  have hunf : L.getD i false = false := by
    rw [Array.getD_eq_getD_getElem?] at hun ⊢
    cases hg : L[i]? with
    | none => rfl
    | some b => rw [hg] at hun; exact hun
  obtain ⟨nd, hnd, rfl⟩ := ops_i (chk_size hchk) hil
  have hc := chk_nd hchk hnd
  unfold chkNd at hc
  rw [ho] at hc
  simp only [Bool.and_eq_true, beq_iff_eq, Bool.not_eq_true'] at hc
  obtain ⟨⟨⟨⟨⟨⟨_, hdst⟩, hguard⟩, hsel⟩, hops⟩, hneeds⟩, hev⟩ := hc
  obtain ⟨y, k, rfl, hy1, hy2, hy3, hk, hph, hkj⟩ := h.mixed
  have hah := ahead_ready h.down ho hpre 6
  have hnsel : ∀ cs b, o.op ≠ .select cs b := by
    intro cs b e
    rw [e] at hsel
    cases hsel
  -- the number of steps done fits
  have hks : k ∈ nd.ks ∧ (nd.ev = true → cs.getD k 0 = nd.i ∧ k < cs.length) := by
    cases hE : nd.ev with
    | true =>
      rw [hE] at hev
      simp only [if_true, Bool.and_eq_true, List.any_eq_true, List.mem_range, List.all_eq_true, beq_iff_eq, Bool.or_eq_true] at hev
      obtain ⟨⟨q, hq, hqi, hqk⟩, hq2⟩ := hev
      have h1 := hkj q hq
      rw [hqi, hunf] at h1
      have h2 : ¬ q < k := by simpa using h1.symm
      have h3 : k = q := by
        rcases Nat.eq_zero_or_pos q with rfl | hqp
        · omega
        · have h4 := hq2 q (by rw [hqk]; exact List.mem_singleton.2 rfl)
          rcases h4 with h4 | h4
          · omega
          · have h5 := hah _ (List.contains_iff_mem.1 h4)
            have h6 := hkj (q - 1) (by omega)
            rw [h5] at h6
            have h7 : q - 1 < k := by simpa using h6.symm
            omega
      subst h3
      exact ⟨by rw [hqk]; exact List.mem_singleton.2 rfl, fun _ => ⟨hqi, hq⟩⟩
    | false =>
      rw [hE] at hev
      simp only [Bool.false_eq_true, if_false, Bool.and_eq_true, Bool.not_eq_true', List.all_eq_true, List.mem_range, Bool.or_eq_true] at hev
      refine ⟨?_, fun h => by cases h⟩
      rcases hev.2 k (by omega) with h1 | h1
      · exfalso
        unfold fitsAt at h1
        obtain ⟨j, hj, h2⟩ := List.all_eq_false.1 h1
        have hj := List.mem_range.1 hj
        have h3 := hkj j hj
        by_cases hjk : j < k
        · rw [if_pos hjk] at h2
          simp only [Bool.not_eq_true', Bool.not_eq_false] at h2
          have h5 := ahead_down h.down 6 _ (by rw [h3]; simpa using hjk) nd.i (List.contains_iff_mem.1 h2)
          rw [hunf] at h5
          cases h5
        · rw [if_neg hjk] at h2
          simp only [Bool.not_eq_true', Bool.not_eq_false] at h2
          have h5 := hah _ (List.contains_iff_mem.1 h2)
          rw [h3] at h5
          exact hjk (by simpa using h5)
      · exact List.contains_iff_mem.1 h1
  -- the results that it reads
  have hz : ∀ d ∈ nd.needs, ∃ v, y d = some v := by
    intro d hd
    simp only [List.all_eq_true, List.any_eq_true, Bool.and_eq_true, beq_iff_eq] at hneeds
    obtain ⟨n, hn, hnd2, hna⟩ := hneeds d hd
    have h1 := hah _ (List.contains_iff_mem.1 hna)
    have h2 := hy1 n hn d hnd2
    rw [h1] at h2
    exact Option.isSome_iff_exists.1 h2
  have hzV : ∀ d ∈ nd.needs, V d ((fun t => (y t).getD undef) d) k w' := by
    intro d hd
    obtain ⟨v, hv⟩ := hz d hd
    simp only [hv, Option.getD_some]
    exact hy3 d v hv
  have hexec : execOp (mix y a).eval o = execOp (putsAt nd.needs (fun t => (y t).getD undef) a).eval o := by
    rw [putsAt_eq]
    refine mix_exec hnsel fun t ht => ?_
    by_cases hm : t ∈ nd.needs
    · obtain ⟨v, hv⟩ := hz t hm
      rw [if_pos hm, hv]
      rfl
    · rw [if_neg hm]
      by_cases hd : t ∈ dstsOf nds
      · have h1 : t ∈ opTmps o := List.mem_filterMap.2 ⟨.tmp t, by simpa using ht, rfl⟩
        have h2 := List.all_eq_true.1 hops t h1
        simp only [Bool.or_eq_true, Bool.not_eq_true'] at h2
        rcases h2 with (h2 | h2) | h2
        · rw [List.contains_iff_mem.2 hd] at h2; cases h2
        · exact absurd (List.contains_iff_mem.1 h2) hm
        · -- it is written later: it has not been
          obtain ⟨n, hn, hnd3⟩ := List.mem_filterMap.1 hd
          have h3 := List.all_eq_true.1 h2 n hn
          simp only [Bool.or_eq_true, bne_iff_ne, ne_eq] at h3
          rcases h3 with h3 | h3
          · exact absurd hnd3 h3
          · have h4 := hy1 n hn t hnd3
            cases hL : L.getD n.i false with
            | true =>
              have h5 := ahead_down h.down 6 _ hL nd.i (List.contains_iff_mem.1 h3)
              rw [hunf] at h5
              cases h5
            | false =>
              rw [hL] at h4
              exact Option.not_isSome_iff_eq_none.1 (by rw [h4]; decide)
      · exact hy2 t hd
  have hrun := hob nd hnd o ho _ w' k hks.1 hph hzV
  have hrun2 : Runs P o (mix y a) w' fun u w'' => (∀ d, nd.d = some d → V d u (if nd.ev then k + 1 else k) w'') ∧ (∀ d v, nd.d ≠ some d → (d ∈ nd.needs → v = (y d).getD undef) → V d v k w' → V d v (if nd.ev then k + 1 else k) w'') ∧ Ph (if nd.ev then k + 1 else k) w'' := by
    unfold Runs at hrun ⊢
    rw [hexec]
    exact hrun
  unfold wpOp
  rw [ho]
  simp only
  have hw : Region.wanted o (yielded ops (mix y a).tmps) = true := by
    unfold Region.wanted
    cases hg : o.guard with
    | none => rfl
    | some g => rw [hg] at hguard; cases hguard
  rw [if_pos hw]
  refine .inl (hrun2.wp ?_)
  rintro u w'' ⟨hV, hTT, hPh⟩
  have hset : ∀ j, (L.setIfInBounds nd.i true).getD j false = if j = nd.i then true else L.getD j false := fun j => getD_set hiL
  have hndp : (dstsOf nds).Nodup := by
    simp only [chkAll, Bool.and_eq_true] at hchk
    exact nodupB_spec hchk.1.1.1.1.2
  refine ⟨by simp [h.size], ?_, ?_⟩
  · intro j oj hj hoj e he hb
    rw [hset] at hj ⊢
    by_cases hje : j = nd.i
    · subst hje
      rw [ho] at hoj
      cases hoj
      have := hpre e he hb
      split
      · rfl
      · exact this
    · rw [if_neg hje] at hj
      have := h.down j oj hj hoj e he hb
      split
      · rfl
      · exact this
  · have hcsn : cs.Nodup := by
      simp only [chkAll, Bool.and_eq_true] at hchk
      exact nodupB_spec hchk.1.1.1.2
    have hkk : (if nd.ev then k + 1 else k) ≤ cs.length ∧ ∀ j, j < cs.length → (L.setIfInBounds nd.i true).getD (cs.getD j 0) false = decide (j < if nd.ev then k + 1 else k) := by
      cases hE : nd.ev with
      | false =>
        refine ⟨by simpa using hk, fun j hj => ?_⟩
        rw [hset, if_neg (fun e => ?_)]
        · simpa using hkj j hj
        · have h1 : nd.i ∈ cs := by
            rw [← e]
            simp [List.getD, hj]
          simp only [chkAll, Bool.and_eq_true, List.all_eq_true] at hchk
          have h2 := hchk.2 nd hnd
          rw [List.contains_iff_mem.2 h1, hE] at h2
          cases h2
      | true =>
        obtain ⟨hci, hkl⟩ := hks.2 hE
        refine ⟨hkl, fun j hj => ?_⟩
        rw [hset]
        by_cases hjk : j = k
        · subst hjk
          rw [if_pos hci]
          simp
        · rw [if_neg (fun e => ?_)]
          · rw [hkj j hj]
            simp only [if_true, decide_eq_decide]
            omega
          · rw [← hci] at e
            have h1 : cs[j]? = cs[k]? := by
              simp [List.getD, hj, hkl] at e
              simp [hj, hkl, e]
            exact hjk ((List.getElem?_inj hj hcsn).1 h1)
    cases hd : nd.d with
    | none =>
      refine ⟨y, _, by rw [hdst, hd]; rfl, fun n hn d hnd2 => ?_, hy2, fun d v hv => hTT d v (by rw [hd]; intro h; cases h) (fun _ => by rw [hv]; rfl) (hy3 d v hv), hkk.1, hPh, hkk.2⟩
      rw [hset, if_neg (fun e => by
        have := ops_inj (chk_size hchk) hn hnd e
        rw [this, hd] at hnd2
        cases hnd2)]
      exact hy1 n hn d hnd2
    | some d =>
      refine ⟨upd y d u, _, by rw [hdst, hd, mix_put], fun n hn d2 hnd2 => ?_, fun t ht => ?_, fun d2 v hv => ?_, hkk.1, hPh, hkk.2⟩
      · unfold upd
        rw [hset]
        by_cases he : d2 = d
        · subst he
          have := nodup_d hndp hn hnd hnd2 hd
          rw [if_pos rfl, this, if_pos rfl]
          rfl
        · rw [if_neg he, if_neg (fun e => by
            have := ops_inj (chk_size hchk) hn hnd e
            rw [this, hd] at hnd2
            cases hnd2
            exact he rfl)]
          exact hy1 n hn d2 hnd2
      · unfold upd
        rw [if_neg (fun e => ht (by rw [e]; exact List.mem_filterMap.2 ⟨nd, hnd, hd⟩))]
        exact hy2 t ht
      · unfold upd at hv
        by_cases he : d2 = d
        · subst he
          rw [if_pos rfl] at hv
          cases hv
          exact hV d2 hd
        · rw [if_neg he] at hv
          exact hTT d2 v (by rw [hd]; intro h; cases h; exact he rfl) (fun _ => by rw [hv]; rfl) (hy3 d2 v hv)

/-- How many have not come up. -/
def todo (L : Array Bool) (l : List Nat) : Nat := l.countP fun i => !L.getD i false
theorem todo_set {L : Array Bool} {i : Nat} (hL : i < L.size) (h : L.getD i false = false) : ∀ l : List Nat, i ∈ l → todo (L.setIfInBounds i true) l < todo L l
  | [], hi => by cases hi
  | x :: l, hi => by
    have hle : todo (L.setIfInBounds i true) l ≤ todo L l := by
      refine List.countP_mono_left fun j _ hj => ?_
      rw [getD_set hL] at hj
      by_cases e : j = i
      · rw [if_pos e] at hj; cases hj
      · rw [if_neg e] at hj; exact hj
    unfold todo at hle ⊢
    rw [List.countP_cons, List.countP_cons]
    by_cases e : x = i
    · subst e
      rw [getD_set hL, if_pos rfl, h]
      simp only [Bool.not_true, Bool.not_false, Bool.false_eq_true, if_false, if_true]
      omega
    · have hm : i ∈ l := by
        rcases List.mem_cons.1 hi with h1 | h1
        · exact absurd h1.symm e
        · exact h1
      have := todo_set hL h l hm
      unfold todo at this
      rw [getD_set hL, if_neg e]
      omega

theorem wpAny_chain {a : Act} {V : Nat → Value → Nat → World → Prop} {Ph : Nat → World → Prop} {cs : List Nat} {nds : List Nd} (hchk : chkAll ops cs nds = true)
    (hob : ∀ nd ∈ nds, Ob P ops a V Ph nd)
    (hend : ∀ (z : Nat → Value) (w' : World), (∀ d ∈ dstsOf nds, V d (z d) cs.length w') → Ph cs.length w' → Q .normal (putsAt (dstsOf nds) z a) w') :
    ∀ (fuel : Nat) (L : Array Bool) (a' : Act) (w' : World), todo L (List.range ops.size) ≤ fuel → StepInv ops a V Ph cs nds L a' w' → wpAny P .any ops Q fuel L a' w' := by
  have done : ∀ (L : Array Bool) (a' : Act) (w' : World), StepInv ops a V Ph cs nds L a' w' → (∀ i, i < ops.size → L.getD i false = true) → Q .normal a' w' := by
    intro L a' w' h hall
    obtain ⟨y, k, rfl, hy1, hy2, hy3, hk, hph, hkj⟩ := h.mixed
    have hkl : k = cs.length := by
      rcases Nat.lt_or_ge k cs.length with hlt | hge
      · have h1 := hkj k hlt
        have h2 : cs.getD k 0 < ops.size := by
          simp only [chkAll, Bool.and_eq_true, List.all_eq_true, decide_eq_true_eq] at hchk
          exact hchk.1.1.2 _ (by simp [List.getD, hlt])
        rw [hall _ h2] at h1
        simp at h1
      · omega
    subst hkl
    have hsome : ∀ d ∈ dstsOf nds, ∃ v, y d = some v := by
      intro d hd
      obtain ⟨nd, hn, hnd⟩ := List.mem_filterMap.1 hd
      have h1 := hy1 nd hn d hnd
      have h2 : nd.i < ops.size := by
        have : nd.i ∈ nds.map (·.i) := List.mem_map.2 ⟨nd, hn, rfl⟩
        rw [chk_size hchk] at this
        simpa using this
      rw [hall _ h2] at h1
      exact Option.isSome_iff_exists.1 h1
    have e : mix y a = putsAt (dstsOf nds) (fun t => (y t).getD undef) a := by
      rw [putsAt_eq]
      congr 1
      funext t
      by_cases hm : t ∈ dstsOf nds
      · obtain ⟨v, hv⟩ := hsome t hm
        rw [if_pos hm, hv]
        rfl
      · rw [if_neg hm]
        exact hy2 t hm
    rw [e]
    refine hend _ _ (fun d hd => ?_) hph
    obtain ⟨v, hv⟩ := hsome d hd
    simp only [hv, Option.getD_some]
    exact hy3 d v hv
  -- where nothing may come up all have come up: the lowest number that has not would be one
  have ready_all : ∀ (L : Array Bool) (a' : Act) (w' : World), StepInv ops a V Ph cs nds L a' w' → todo L (List.range ops.size) = 0 → ∀ i, i < ops.size → L.getD i false = true := by
    intro L a' w' _ h0 i hi
    have h1 := List.countP_eq_zero.1 h0 i (by simpa using hi)
    simpa using h1
  have none_all : ∀ (L : Array Bool), L.size = ops.size → todo L (List.range ops.size) = 0 → Region.ready .any ops L = [] := by
    intro L hs h0
    cases hr : Region.ready .any ops L with
    | nil => rfl
    | cons i rest =>
      exfalso
      obtain ⟨hun, o, ho, _⟩ := mem_ready.1 (show i ∈ Region.ready .any ops L by rw [hr]; exact List.mem_cons_self ..)
      have hil : i < ops.size := (Array.getElem?_eq_some_iff.1 ho).1
      have h1 := List.countP_eq_zero.1 h0 i (by simpa using hil)
      have h2 : L.getD i false = true := by simpa using h1
      rw [Array.getD_eq_getD_getElem?] at hun h2
      have : i < L.size := by omega
      simp [this] at hun h2
      rw [h2] at hun
      cases hun
  intro fuel
  induction fuel with
  | zero =>
    intro L a' w' hf h
    have h0 : todo L (List.range ops.size) = 0 := by omega
    exact ⟨none_all L h.size h0, done L a' w' h (ready_all L a' w' h h0)⟩
  | succ fuel ih =>
    intro L a' w' hf h
    refine ⟨fun hr => done L a' w' h ?_, fun i hi => ?_⟩
    · intro i
      induction i using Nat.strongRecOn with
      | ind i ihi =>
        intro hi
        cases hg : L.getD i false with
        | true => rfl
        | false =>
          exfalso
          obtain ⟨nd, hnd, rfl⟩ := ops_i (chk_size hchk) hi
          have hc := chk_nd hchk hnd
          unfold chkNd at hc
          cases ho : ops[nd.i]? with
          | none => rw [ho] at hc; cases hc
          | some o =>
            rw [ho] at hc
            simp only [Bool.and_eq_true] at hc
            have hbk := hc.1.1.1.1.1.1
            have hiL : nd.i < L.size := by rw [h.size]; exact hi
            have : nd.i ∈ Region.ready .any ops L := mem_ready.2 ⟨by rw [Array.getD_eq_getD_getElem?] at hg ⊢; simp [hiL] at hg ⊢; exact hg, o, ho, fun e he hb => by
              have h1 := List.all_eq_true.1 hbk e (by simpa using he)
              rw [hb] at h1
              have h2 : e.on < nd.i := by simpa using h1
              exact ihi e.on h2 (by omega)⟩
            rw [hr] at this
            cases this
    · obtain ⟨hun, o, ho, _⟩ := mem_ready.1 hi
      have hil : i < ops.size := (Array.getElem?_eq_some_iff.1 ho).1
      have hiL : i < L.size := by rw [h.size]; exact hil
      have hunf : L.getD i false = false := by
        rw [Array.getD_eq_getD_getElem?] at hun ⊢
        cases hg : L[i]? with
        | none => rfl
        | some b => rw [hg] at hun; exact hun
      refine wpOp_mono (fun a'' w'' h2 => ih _ a'' w'' ?_ h2) (step_inv hchk hob h hi)
      have := todo_set hiL hunf (List.range ops.size) (by simpa using hil)
      omega

/-- The whole region. -/
theorem region_chain {id : Nat} {a : Act} {w : World} (hm : P.follows .mixedOrders = true) (nds : List Nd) (cs : List Nat) (V : Nat → Value → Nat → World → Prop) (Ph : Nat → World → Prop) (hchk : chkAll ops cs nds = true)
    (h0 : Ph 0 w.drew) (hob : ∀ nd ∈ nds, Ob P ops a V Ph nd)
    (hend : ∀ (z : Nat → Value) (w' : World), (∀ d ∈ dstsOf nds, V d (z d) cs.length w') → Ph cs.length w' → Q .normal (putsAt (dstsOf nds) z a) w') : (Code.region id ops true).wp P Q a w := by
  have hrep : ∀ j, (Array.replicate ops.size false).getD j false = false := by
    intro j
    rw [Array.getD_eq_getD_getElem?, Array.getElem?_replicate]
    split <;> rfl
  refine wp_region_any hm (wpAny_chain hchk hob hend ops.size _ a w.drew ?_ ⟨by simp, ?_, ⟨fun _ => none, 0, (mix_none a).symm, ?_, fun _ _ => rfl, (fun _ _ h => by cases h), Nat.zero_le _, h0, fun j hj => by rw [hrep]; simp⟩⟩)
  · have := List.countP_le_length (p := fun i => !(Array.replicate ops.size false).getD i false) (l := List.range ops.size)
    rw [List.length_range] at this
    exact this
  · intro i o hi
    rw [hrep] at hi
    cases hi
  · intro nd hn d hd
    rw [hrep]
    rfl
/-- One operation, written out. -/
theorem Ob.mk {a : Act} {V : Nat → Value → Nat → World → Prop} {Ph : Nat → World → Prop} {i : Nat} {d : Option Nat} {ev : Bool} {ks needs : List Nat} {o : Oper} (ho : ops[i]? = some o)
    (h : ∀ (z : Nat → Value) (w' : World) (k : Nat), k ∈ ks → Ph k w' → (∀ d ∈ needs, V d (z d) k w') → ∀ G : Value → World → Prop, (∀ u w'', (∀ d', d = some d' → V d' u (if ev then k + 1 else k) w'') → (∀ d' v, d ≠ some d' → V d' v k w' → V d' v (if ev then k + 1 else k) w'') → Ph (if ev then k + 1 else k) w'' → G u w'') → Runs P o (putsAt needs z a) w' G) :
    Ob P ops a V Ph ⟨i, d, ev, ks, needs⟩ := by
  intro o' ho' z w' k hk hph hz
  obtain rfl := Option.some.inj (ho.symm.trans ho')
  exact h z w' k hk hph hz _ fun u w'' h1 h2 h3 => ⟨h1, fun d v hd _ hv => h2 d v hd hv, h3⟩
/-- One operation, where what it reads is what the slots hold. -/
theorem Ob.mk2 {a : Act} {V : Nat → Value → Nat → World → Prop} {Ph : Nat → World → Prop} {i : Nat} {d : Option Nat} {ev : Bool} {ks needs : List Nat} {o : Oper} (ho : ops[i]? = some o)
    (h : ∀ (z : Nat → Value) (w' : World) (k : Nat), k ∈ ks → Ph k w' → (∀ d ∈ needs, V d (z d) k w') → ∀ G : Value → World → Prop, (∀ u w'', (∀ d', d = some d' → V d' u (if ev then k + 1 else k) w'') → (∀ d' v, d ≠ some d' → (d' ∈ needs → v = z d') → V d' v k w' → V d' v (if ev then k + 1 else k) w'') → Ph (if ev then k + 1 else k) w'' → G u w'') → Runs P o (putsAt needs z a) w' G) :
    Ob P ops a V Ph ⟨i, d, ev, ks, needs⟩ := by
  intro o' ho' z w' k hk hph hz
  obtain rfl := Option.some.inj (ho.symm.trans ho')
  exact h z w' k hk hph hz _ fun u w'' h1 h2 h3 => ⟨h1, h2, h3⟩
end
end Go.Proofs.Ytclgiapmbmbknaa
