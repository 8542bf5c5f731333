/- ClassLimits returns true for every input: the walk. The condition: the listed package-level variable holds what the program's text lays. -/
import Derived.Test.YtkldfbacagnhoaaDoorFaceRead
import Derived.Test.YtkldfbacagnhoaaDoorClsMany
namespace Go.Proofs.YtkldfbacagnhoaaDoor
open Go.RowKit

theorem i64_low' (p : Nat) (m : Nat) (hp : p < 63) (hm : m = 2 ^ p - 1) (n : Int) : ∃ N : Nat, N ≤ m ∧ bits .and .i64 n (m : Int) = (N : Int) := by
  have hlt : m < 2 ^ 63 := by
    have : 2 ^ p ≤ 2 ^ 63 := Nat.pow_le_pow_right (by decide) (by omega)
    omega
  refine ⟨(BitVec.ofInt 64 n &&& BitVec.ofInt 64 (m : Int)).toNat, ?_, ?_⟩
  · rw [BitVec.toNat_and, BitVec.ofInt_natCast, BitVec.toNat_ofNat]
    exact Nat.le_trans Nat.and_le_right (Nat.mod_le _ _)
  · show IntKind.i64.wrap ((BitVec.ofInt 64 n &&& BitVec.ofInt 64 (m : Int)).toNat : Int) = _
    have h : (BitVec.ofInt 64 n &&& BitVec.ofInt 64 (m : Int)).toNat ≤ m := by
      rw [BitVec.toNat_and, BitVec.ofInt_natCast, BitVec.toNat_ofNat]
      exact Nat.le_trans Nat.and_le_right (Nat.mod_le _ _)
    rw [IntKind.wrap_i64]
    have : (2 : Nat) ^ 63 = 9223372036854775808 := by decide
    omega

set_option maxRecDepth 100000 in
theorem astint_any (w : World) : Calls Tryd.prog 15 #[] w (Gives w (.agg #[S nInt, .bool false])) := by
  go_enter Tryd.func15, Tryd.ntmps15
  have hb : ∀ o, Below w.heap.size w (w.alloc o) := fun o => (Below.refl _ _).alloc (Nat.le_refl _) o
  go_wp2_with fail
  refine bodyPost_ret (v := .agg #[S nInt, .bool false]) ?_ rfl ?_
  · simp [results, Tryd.results15, go_sem, nInt]
  · first
      | exact ⟨rfl, hb _⟩
      | exact ⟨rfl, (hb _).setCell (by simp) _⟩
      | exact ⟨rfl, ((hb _).setCell (by simp) _).setCell (by simp) _⟩

/-- The law's file. -/
def limM (st : Bool) (A : Option Addr) (k c : Nat) : Sg := ⟨[109], st, A, k, c, List.replicate k ⟨nInt, false⟩, ⟨nInt, false⟩⟩
def limF (m : Sg) (g1 g3 : Nat) (b : Bd) : Fl := ⟨⟨[65], [], none, 0, 0, [], some ⟨g1, 0, none⟩, 1, 1, [m]⟩, none, 0, 0, [], none, 0, 0, [], none, 0, 0, [], none, 0, 0, [], none, 0, 0, [], some ⟨g3, 0, none⟩, 1, 1, [b]⟩
theorem Rd.blkN {w : World} {F : Nat → Prop} {b size n : Nat} {t : TypeId} {l : List Value} (hb : Blk w b t l.toArray) (hF : ¬ F b) (hl : l.length = n * size) : Rd w F size (some ⟨b, 0, none⟩) n l :=
  ⟨hl, fun _ => ⟨b, 0, rfl, hF, hb.lt, fun j u hu => by rw [Nat.zero_add, hb.cell j]; simpa using hu⟩⟩
theorem limF_at {w : World} {F : Nat → Prop} {st : Bool} {A : Option Addr} {k c g1 g2 g3 n : Nat} {lo sk : Int} {code : List (Int × Int)} (hk : k ≤ 7) (hr : Rd w F 2 A k ((List.replicate k (⟨nInt, false⟩ : Ty)).flatMap Ty.cells)) (h1 : Blk w g1 52 (limM st A k c).cells.toArray) (h3 : Blk w g3 58 #[.int .i64 lo, .int .i64 sk, .slice (some ⟨g2, 0, none⟩) n n])
    (h2 : Blk w g2 55 (code.flatMap coC).toArray) (hn : code.length = n) (hn2 : n ≤ 9223372036854775807) (f1 : ¬ F g1) (f2 : ¬ F g2) (f3 : ¬ F g3) (hlo : i64In lo) (hsk : i64In sk) (hco : ∀ x ∈ code, i64In x.1 ∧ i64In x.2) :
    (limF (limM st A k c) g1 g3 ⟨lo, sk, some ⟨g2, 0, none⟩, n, n, code⟩).at_ w F :=
  { fa := ⟨⟨Rd.none_ _ _ _, rfl, Nat.zero_le _, (fun _ h => by cases h)⟩, ⟨Rd.blkN (by simpa [limF] using h1) f1 rfl, rfl, by show 1 ≤ 9223372036854775807; omega, (fun m hm => by
      obtain rfl := List.mem_singleton.1 hm
      exact ⟨hr, by simp [limM], by show k ≤ 9223372036854775807; omega, by show 1 ≤ 9223372036854775807; omega, by show 3 ≤ 9223372036854775807; omega, (fun p hp => by rw [List.eq_of_mem_replicate hp]; show 3 ≤ 9223372036854775807; omega)⟩)⟩, by show 1 ≤ 9223372036854775807; omega, by show 0 ≤ 9223372036854775807; omega⟩
    po := { nr := Rd.none_ _ _ _, nL := rfl, nB := Nat.zero_le _, nW := (fun _ h => by cases h), cr := Rd.none_ _ _ _, cL := rfl, cB := Nat.zero_le _, cW := (fun _ h => by cases h), tr := Rd.none_ _ _ _, tL := rfl, tB := Nat.zero_le _, tW := (fun _ h => by cases h), dr := Rd.none_ _ _ _, dL := rfl, dB := Nat.zero_le _, dW := (fun _ h => by cases h), mr := Rd.none_ _ _ _, mL := rfl, mB := Nat.zero_le _, mW := (fun _ h => by cases h) }
    br := Rd.blkN (by simpa [limF] using h3) f3 rfl, bL := rfl, bB := by show 1 ≤ 9223372036854775807; omega
    bW := (fun b hb => by
      obtain rfl := List.mem_singleton.1 hb
      refine ⟨Rd.blkN h2 f2 ?_, hn, hn2, hlo, hsk, hco⟩
      rw [flat_len coC 2 (fun _ => rfl), hn]) }
theorem lim_good (k : Nat) (hk : k ≤ 7) (st : Bool) (A : Option Addr) (c : Nat) : FcP.right ⟨[65], [], [], [(limM st A k c).pl]⟩ = true := by
  have h1 : (List.replicate k (⟨nInt, false⟩ : Ty)).any (fun t => !t.good) = false := by
    rw [List.any_eq_false]
    intro t ht
    rw [List.eq_of_mem_replicate ht]
    decide
  have h2 : (limM st A k c).pl.good = true := by
    unfold SgP.good limM Sg.pl
    simp only [h1, List.length_replicate]
    have : decide (k ≤ 200) = true := by simp; omega
    rw [this]
    decide
  have e : (limM st A k c).pl.n = [109] := rfl
  unfold FcP.right
  simp only [riseP, h2, e, List.length_cons, List.length_nil]
  rfl
theorem limF_right {st : Bool} {A : Option Addr} {k c g1 g2 g3 n : Nat} {lo sk : Int} {code : List (Int × Int)} (hk : k ≤ 7) :
    (limF (limM st A k c) g1 g3 ⟨lo, sk, some ⟨g2, 0, none⟩, n, n, code⟩).pl.right = ((decide ((if st then (k : Int) else k + 1) ≤ lo) && decide (lo ≤ 401) && decide (0 ≤ sk) && decide (sk ≤ 1000) && decide (1 ≤ code.length) && decide (code.length ≤ 16384)) && code.all fun x => rtC x.1 x.2 (if pl x.1 == 110 then 0 else if pl x.1 == 99 then 0 else if pl x.1 == 116 then 0 else if pl x.1 == 102 then 0 else if pl x.1 == 109 then 0 else if pl x.1 == 108 then lo else if pl x.1 == 106 then code.length else 2)) := by
  have h1 := lim_good k hk st A c
  unfold FileP.right
  have e1 : (limF (limM st A k c) g1 g3 ⟨lo, sk, some ⟨g2, 0, none⟩, n, n, code⟩).pl.f = ⟨[65], [], [], [(limM st A k c).pl]⟩ := rfl
  have e2 : (limF (limM st A k c) g1 g3 ⟨lo, sk, some ⟨g2, 0, none⟩, n, n, code⟩).pl.p = ⟨[], [], [], [], []⟩ := rfl
  have e3 : (limF (limM st A k c) g1 g3 ⟨lo, sk, some ⟨g2, 0, none⟩, n, n, code⟩).pl.b = [⟨lo, sk, code⟩] := rfl
  rw [e1, e2, e3, h1]
  have e4 : PoolP.right ⟨[], [], [], [], []⟩ = true := by decide
  rw [e4]
  simp only [bodiesOk, bdOk, limM, Sg.pl, List.length_replicate, manyV, List.length_cons, List.length_nil, Bool.true_and, Bool.and_true, decide_true]
  rfl
theorem pl_mem {c : Int} (h : kn c = true) : pl c ∈ [0, 110, 99, 116, 102, 109, 108, 106, 98] := by
  obtain ⟨n, rfl, h1, h2⟩ := kn_cast h
  have : ∀ n : Nat, n < 33 → 1 ≤ n → pl (n : Int) ∈ ([0, 110, 99, 116, 102, 109, 108, 106, 98] : List Int) := by decide +kernel
  exact this n (by omega) h1

def limV (K : Bool) (p x5 : Int) : Bool := K && (if p == 0 then x5 == 0 else decide (0 ≤ x5) && decide (x5 < (if p == 110 then 0 else if p == 99 then 0 else if p == 116 then 0 else if p == 102 then 0 else if p == 109 then 0 else if p == 108 then 8 else if p == 106 then 2 else 2)))
theorem lim_two {st : Bool} {A : Option Addr} {k c g1 g2 g3 : Nat} {x4 x5 : Int} (hk : k ≤ 7) :
    (limF (limM st A k c) g1 g3 ⟨8, 0, some ⟨g2, 0, none⟩, 2, 2, [(x4, x5), (2, 0)]⟩).pl.right = limV (kn x4) (pl x4) x5 := by
  rw [limF_right hk]
  have h1 : decide ((if st then (k : Int) else k + 1) ≤ 8) = true := by cases st <;> simp <;> omega
  have h2 : ∀ v : Int, rtC 2 0 v = true := by intro v; unfold rtC; rfl
  rw [h1]
  simp only [List.all_cons, List.all_nil, Bool.and_true, h2]
  unfold rtC limV
  rfl
theorem lim_cs (x4 : Int) : (kn x4 = false ∧ pl x4 = 0) ∨ (kn x4 = true ∧ (pl x4 = 0 ∨ pl x4 = 110 ∨ pl x4 = 99 ∨ pl x4 = 116 ∨ pl x4 = 102 ∨ pl x4 = 109 ∨ pl x4 = 108 ∨ pl x4 = 106 ∨ pl x4 = 98)) := by
  cases h : kn x4 with
  | false => exact Or.inl ⟨rfl, by unfold pl; rw [h]; rfl⟩
  | true =>
    refine Or.inr ⟨rfl, ?_⟩
    simpa using pl_mem h
/-- What Right says of the second file. -/
def limD (K : Bool) (p : Int) (v0 v1 v8 v2 : Bool) : Bool := K && (if p == 0 then v0 else if p == 108 then v1 && v8 else if p == 106 then v1 && v2 else if p == 98 then v1 && v2 else false)
theorem lim_v {K : Bool} {p x5 : Int} {v0 v1 v8 v2 : Bool} (hcs : (K = false ∧ p = 0) ∨ (K = true ∧ (p = 0 ∨ p = 110 ∨ p = 99 ∨ p = 116 ∨ p = 102 ∨ p = 109 ∨ p = 108 ∨ p = 106 ∨ p = 98))) (d0 : decide (x5 = 0) = v0) (d1 : decide (0 ≤ x5) = v1) (d8 : decide (x5 < 8) = v8) (d2 : decide (x5 < 2) = v2) : limV K p x5 = limD K p v0 v1 v8 v2 := by
  have e : (decide (0 ≤ x5) && decide (x5 < 0)) = false := by
    rw [Bool.and_eq_false_iff]
    by_cases h : 0 ≤ x5
    · exact Or.inr (by simp; omega)
    · exact Or.inl (by simpa using h)
  subst d0 d1 d8 d2
  rcases hcs with ⟨rfl, rfl⟩ | ⟨rfl, rfl | rfl | rfl | rfl | rfl | rfl | rfl | rfl | rfl⟩
  all_goals first | rfl | exact e

set_option maxRecDepth 100000 in
set_option maxHeartbeats 8000000 in
theorem limits_walk (x0 x1 x2 : Int) (st : Bool) (x4 x5 : Int) (w : World) (h4 : i64In x4) (h5 : i64In x5) (hm : Laid w) : Calls Tryd.prog 5 #[.int .i64 x0, .int .i64 x1, .int .i64 x2, .bool st, .int .i64 x4, .int .i64 x5] w (Gives w (.bool true)) := by
  have HLD := hide hm
  clear hm
  obtain ⟨lo, hlo, e0⟩ := i64_low' 9 511 (by decide) (by decide) x0
  obtain ⟨sk, hsk, e1⟩ := i64_low' 11 2047 (by decide) (by decide) x1
  obtain ⟨np, hnp, e2⟩ := i64_low' 3 7 (by decide) (by decide) x2
  have e0' : bits .and .i64 x0 511 = (lo : Int) := e0
  have e1' : bits .and .i64 x1 2047 = (sk : Int) := e1
  have e2' : bits .and .i64 x2 7 = (np : Int) := e2
  clear e0 e1 e2
  have HH := hide (head_any w)
  have H45 := hide (And.intro h4 h5)
  clear h4 h5
  go_enter Tryd.func5, Tryd.ntmps5
  go_upto_region 7 with (first | (go_at_call 9; refine HH.out.mono ?_; rintro e w1 ⟨rfl, hb1⟩) | (go_at_call 15; refine (astint_any _).mono ?_; rintro e w2 ⟨rfl, hb2⟩))
  clear e0' e1' e2' HH
  refine name_world ?_
  intro wo hwo
  have HB2 : Hid (Below w.heap.size w w2) := hide (hb1.trans (hb2.mono hb1.size))
  have HB : Hid (Below w.heap.size w wo) := hide (by rw [hwo]; exact HB2.out.alloc HB2.out.size _)
  have HX : Hid (Blk wo w2.heap.size 52 #[S [109], .bool st, .slice none 0 0, S nInt, .bool false]) := hide (by rw [hwo]; exact Blk.new _ _ _)
  have HQ : Hid (w.heap.size ≤ w2.heap.size) := hide HB2.out.size
  clear hwo hb1 hb2 HB2
  obtain ⟨q, hq⟩ : ∃ q, q = w2.heap.size := ⟨_, rfl⟩
  rw [← hq] at HX HQ ⊢
  clear hq
  go_wp2_with fail
  go_loopw [14] (fun i wr => ∃ (k : Nat) (A : Option Addr) (c : Nat), k ≤ np ∧ i = .int .i64 k ∧ Hid (Gx wr q 52 [S [109], .bool st, .slice A k c, S nInt, .bool false] 2 wo.heap.size 49 2 k ((List.replicate k (⟨nInt, false⟩ : Ty)).flatMap Ty.cells) (.slice A k c)) ∧ Hid (Keep (fun i => i = q) wo wr)) (fun i _ => np - (intOf i).toNat)
  case atStart => exact ⟨0, none, 0, Nat.zero_le _, rfl, hide ⟨HX.out, rfl, World.ownsRow_nil _ _ _ _, by decide⟩, hide (Keep.refl _ _)⟩
  case round =>
    obtain ⟨k, A, c, hk, rfl, HGX, HKP⟩ := hrel
    clear HX
    by_cases hlt : k < np
    · skip
      have HK2 : Hid (k < 7) := hide (by omega)
      have HGB : Hid (wo.heap.size ≤ wr.heap.size) := hide HKP.out.size
      go_upto_region 10 with fail
      refine region_app (q := q) (j := 2) (B := wo.heap.size) (sz := 2) (n := k) (T := 52) (e := 49) (cs := [S [109], .bool st, .slice A k c, S nInt, .bool false]) (xs := (List.replicate k (⟨nInt, false⟩ : Ty)).flatMap Ty.cells) (news := [S nInt, .bool false]) (v := .slice A k c) (by kernel_rfl) [⟨0, some 35, false, [0, 1, 2], []⟩, ⟨1, some 36, false, [0], [35]⟩, ⟨2, some 37, false, [0], []⟩, ⟨3, some 38, false, [0], [37]⟩, ⟨4, some 39, true, [0], [36, 38]⟩, ⟨5, some 40, false, [0, 1, 2], []⟩, ⟨6, none, true, [1], [40, 39]⟩] [4, 6] (fun d => match d with | 35 => .is (.pointer (some ⟨q, 2, none⟩)) | 36 => .is (.slice A k c) | 37 => .is (.agg #[S nInt, .bool false]) | 38 => .lit 1 49 ([S nInt, .bool false]).toArray | 39 => .app (wo.heap.size) 49 2 (k + 1) ((List.replicate k (⟨nInt, false⟩ : Ty)).flatMap Ty.cells ++ [S nInt, .bool false]) | 40 => .is (.pointer (some ⟨q, 2, none⟩)) | _ => .any) (fun _ => False) 0 (fun _ _ => True) XOk.none (by kernel_rfl) rfl trivial ?obs ?hend
      case obs =>
        refine List.forall_mem_cons.2 ⟨?_, ?_⟩
        · refine ObA.pure (by rfl) (.pointer (some ⟨q, 2, none⟩)) rfl ?_
          intro z w' k hz G hG
          simp only [putsAt, List.foldl]
          unfold Runs
          go_simp
          exact hG
        refine List.forall_mem_cons.2 ⟨?_, ?_⟩
        · refine ObA.load (by rfl) (by decide) (.slice A k c) rfl ?_
          intro z w' k hkp hz G hG
          have e35 : z 35 = .pointer (some ⟨q, 2, none⟩) := hz 35 (by simp)
          have hc := (HGX.out.keep hkp (fun h => h) (fun _ _ h => h)).cell
          simp only [putsAt, List.foldl, e35]
          unfold Runs
          go_simp
          exact hG
        refine List.forall_mem_cons.2 ⟨?_, ?_⟩
        · refine ObA.quiet (by rfl) (by decide) (fun _ h => h.elim) XOk.none (.agg #[S nInt, .bool false]) rfl ?_
          intro z w' k hz G hG
          simp only [putsAt, List.foldl]
          unfold Runs
          go_simp
          refine (astint_any w').mono ?_
          rintro e w2 ⟨rfl, h1⟩
          exact ⟨_, rfl, hG _ h1⟩
        refine List.forall_mem_cons.2 ⟨?_, ?_⟩
        · refine ObA.lit (by rfl) (by decide) rfl (fun _ h => h.elim) XOk.none ?_
          intro z w' k hz G hG
          have e37 : z 37 = .agg #[S nInt, .bool false] := hz 37 (by simp)
          simp only [putsAt, List.foldl, e37]
          unfold Runs
          go_simp
          exact hG
        refine List.forall_mem_cons.2 ⟨?_, ?_⟩
        · refine ObA.app (by rfl) rfl 29 rfl Tryd.underlying29 (.agg #[S [], .bool false]) 24 ty_info rfl (by decide) HGX.out (fun h => h) (fun _ _ h => h) HGB.out rfl rfl rfl ?_ rfl (by intro u hu; simp only [List.mem_cons, List.not_mem_nil, or_false] at hu; rcases hu with rfl | rfl <;> rfl) (by unfold maxLen; have := HK2.out; omega) (by have := HK2.out; omega) (by simp) (by simp)
          intro d' hd' B e sz n xs
          split <;> first | (intro h; cases h; done) | exact absurd rfl hd'
        refine List.forall_mem_cons.2 ⟨?_, ?_⟩
        · refine ObA.pure (by rfl) (.pointer (some ⟨q, 2, none⟩)) rfl ?_
          intro z w' k hz G hG
          simp only [putsAt, List.foldl]
          unfold Runs
          go_simp
          exact hG
        refine List.forall_mem_cons.2 ⟨?_, ?_⟩
        · refine ObA.store (by rfl) rfl HGX.out (fun h => h) (fun _ _ h => h) XOk.none rfl rfl ?_
          intro z w' ep hc hf A c ex G hG
          simp only [putsAt, List.foldl, ep, ex]
          unfold Runs
          go_simp
          exact hG
        exact List.forall_mem_nil _
      case hend =>
        intro z w' A2 c2 hg2 hr20 hk20
        have hk2 : Keep (fun i =>  i = q ∨ some i = (Value.slice A k c).ownBlock) _ w' := hk20.mono (fun i _ h => h.elim False.elim id)
        clear hk20
        clear hr20
        simp only [putsAt, List.foldl, dstsOf, List.filterMap, Act.put, List.setIfInBounds_toArray, List.set_cons_zero, List.set_cons_succ]
        simp only [List.set_cons_zero, List.set_cons_succ] at hg2
        generalize z 35 = y35
        generalize z 36 = y36
        generalize z 37 = y37
        generalize z 38 = y38
        generalize z 39 = y39
        generalize z 40 = y40
        have HG5 : Hid (Gx w' q 52 [S [109], .bool st, .slice A2 (k + 1) c2, S nInt, .bool false] 2 wo.heap.size 49 2 (k + 1) ((List.replicate (k + 1) (⟨nInt, false⟩ : Ty)).flatMap Ty.cells) (.slice A2 (k + 1) c2)) := hide (by rw [List.replicate_succ', List.flatMap_append, List.flatMap_singleton]; exact hg2)
        have HK5 : Hid (Keep (fun i => i = q) wo w') := hide (HKP.out.trans' hk2 (fun i hi h => h.elim id (fun h => by have := own_base HGX.out.own h.symm; omega)))
        clear hg2 hk2 HGX HKP
        go_wp2_with fail
        go_roundw
        case rel => exact ⟨k + 1, A2, c2, by omega, by go_num, HG5, HK5⟩
        case measure => simp [intOf]; omega
    · obtain rfl : k = np := by omega
      obtain ⟨wu, rfl⟩ : ∃ wu : World, wu = wr := ⟨_, rfl⟩
      have HBU : Hid (Below w.heap.size w wu) := hide (((Keep.of_below (F := fun i => w.heap.size ≤ i) HB.out (fun i _ h => h)).trans (HKP.out.mono (fun i _ h => by rw [h]; exact HQ.out))).below (Nat.le_refl _) (fun i h => h))
      have HPR : Hid (Rd wu (fun i => i < w.heap.size) 2 A k ((List.replicate k (⟨nInt, false⟩ : Ty)).flatMap Ty.cells)) := hide ((Rd.of_ownB HGX.out.own).weak (fun i _ h => by have := HB.out.size; omega))
      have m0 := HGX.out.blk.cell 0
      have m1 := HGX.out.blk.cell 1
      have m2 := HGX.out.blk.cell 2
      have m3 := HGX.out.blk.cell 3
      have m4 := HGX.out.blk.cell 4
      simp at m0 m1 m2 m3 m4
      clear HGX HKP HB
      cases st
      case' false =>
        skip
        go_upto_region 15 with fail
        refine name_world ?_
        intro wB hwB
        obtain ⟨g1, hg1⟩ : ∃ g1, g1 = wu.heap.size := ⟨_, rfl⟩
        have HBB : Hid (Below w.heap.size w wB) := hide (by rw [hwB]; exact (((HBU.out.alloc HBU.out.size _).alloc (by have := HBU.out.size; simp; omega) _).alloc (by have := HBU.out.size; simp; omega) _).alloc (by have := HBU.out.size; simp; omega) _)
        have HKB : Hid (Below wu.heap.size wu wB) := hide (by rw [hwB]; exact ((((Below.refl wu.heap.size wu).alloc (Nat.le_refl _) _).alloc (by simp) _).alloc (by simp; omega) _).alloc (by simp; omega) _)
        have b1 : Blk wB g1 52 (limM false A k c).cells.toArray := by rw [hwB, hg1]; exact ((((Blk.new wu _ _).alloc _).alloc _).alloc _)
        have b2 : Blk wB (g1 + 1) 55 #[.int .i64 2, .int .i64 0] := by rw [hwB, hg1]; have := Blk.new (wu.alloc (.cells #[S [109], .bool false, .slice A k c, S nInt, .bool false] 52)) 55 #[.int .i64 2, .int .i64 0]; simp only [World.size_alloc] at this; exact ((this.alloc _).alloc _)
        have b3 : Blk wB (g1 + 1 + 1) 58 #[.int .i64 (lo : Int), .int .i64 (sk : Int), .slice (some ⟨g1 + 1, 0, none⟩) 1 1] := by
          rw [hwB, hg1]
          have := Blk.new ((wu.alloc (.cells #[S [109], .bool false, .slice A k c, S nInt, .bool false] 52)).alloc (.cells #[.int .i64 2, .int .i64 0] 55)) 58 #[.int .i64 (lo : Int), .int .i64 (sk : Int), .slice (some ⟨wu.heap.size + 1, 0, none⟩) 1 1]
          simp only [World.size_alloc] at this
          exact (this.alloc _)
        have b4 : Blk wB (g1 + 1 + 1 + 1) 36 #[S [65], S [], .slice none 0 0, .slice (some ⟨g1, 0, none⟩) 1 1, .slice none 0 0, .slice none 0 0, .slice none 0 0, .slice none 0 0, .slice none 0 0, .slice (some ⟨g1 + 1 + 1, 0, none⟩) 1 1] := by
          rw [hwB, hg1]
          have := Blk.new (((wu.alloc (.cells #[S [109], .bool false, .slice A k c, S nInt, .bool false] 52)).alloc (.cells #[.int .i64 2, .int .i64 0] 55)).alloc (.cells #[.int .i64 (lo : Int), .int .i64 (sk : Int), .slice (some ⟨wu.heap.size + 1, 0, none⟩) 1 1] 58)) 36 #[S [65], S [], .slice none 0 0, .slice (some ⟨wu.heap.size, 0, none⟩) 1 1, .slice none 0 0, .slice none 0 0, .slice none 0 0, .slice none 0 0, .slice none 0 0, .slice (some ⟨wu.heap.size + 1 + 1, 0, none⟩) 1 1]
          simp only [World.size_alloc] at this
          exact this
        rw [← hg1]
        clear hwB m0 m1 m2 m3 m4
        have HS1 : Hid (wu.heap.size = g1) := hide hg1.symm
        clear hg1
        have HWU : Hid (w.heap.size ≤ g1) := hide (by have := HBU.out.size; have := HS1.out; omega)
        have HPB : Hid (Rd wB (fun i => i < w.heap.size) 2 A k ((List.replicate k (⟨nInt, false⟩ : Ty)).flatMap Ty.cells)) := hide (HPR.out.keep (Keep.of_below HKB.out (fun i h1 h2 => by omega)))
        have HSB : Hid (g1 + 1 + 1 < wB.heap.size) := hide b3.lt
        have HLB : Hid (Laid wB) := hide (HLD.out.below HBB.out (Nat.le_refl _))
        obtain ⟨c1, d1⟩ : ∃ v, decide (((k : Int) + 1) ≤ (lo : Int)) = v := ⟨_, rfl⟩
        have d1' : decide (k + 1 ≤ lo) = c1 := by rw [← d1]; exact decide_eq_decide.2 (by omega)
        obtain ⟨c2, d2⟩ : ∃ v, decide ((lo : Int) ≤ 401) = v := ⟨_, rfl⟩
        obtain ⟨c3, d3⟩ : ∃ v, decide ((sk : Int) ≤ 1000) = v := ⟨_, rfl⟩
        have hF1 := limF_at (F := fun i => wB.heap.size ≤ i) (st := false) (code := [(2, 0)]) hnp (HPB.out.weak (fun i hi h => by omega)) b1 b3 b2 rfl (by omega) (by have := HSB.out; omega) (by have := HSB.out; omega) (by have := HSB.out; omega) (by unfold i64In; omega) (by unfold i64In; omega) (by intro x hx; obtain rfl := List.mem_singleton.1 hx; exact ⟨by unfold i64In; omega, by unfold i64In; omega⟩)
        have hR1 := fright_any _ wB HLB.out hF1
        rw [limF_right hnp] at hR1
        have hc0 : ([((2 : Int), (0 : Int))].all fun x => rtC x.1 x.2 (if pl x.1 == 110 then 0 else if pl x.1 == 99 then 0 else if pl x.1 == 116 then 0 else if pl x.1 == 102 then 0 else if pl x.1 == 109 then 0 else if pl x.1 == 108 then (lo : Int) else if pl x.1 == 106 then (1 : Int) else 2)) = true := by
          have : rtC 2 0 (lo : Int) = true := by unfold rtC; rfl
          simp only [List.all_cons, List.all_nil, Bool.and_true]
          unfold rtC
          rfl
        have hcv : ((decide ((if false then (k : Int) else k + 1) ≤ (lo : Int)) && decide ((lo : Int) ≤ 401) && decide (0 ≤ (sk : Int)) && decide ((sk : Int) ≤ 1000) && decide (1 ≤ [((2 : Int), (0 : Int))].length) && decide ([((2 : Int), (0 : Int))].length ≤ 16384)) && [((2 : Int), (0 : Int))].all fun x => rtC x.1 x.2 (if pl x.1 == 110 then 0 else if pl x.1 == 99 then 0 else if pl x.1 == 116 then 0 else if pl x.1 == 102 then 0 else if pl x.1 == 109 then 0 else if pl x.1 == 108 then (lo : Int) else if pl x.1 == 106 then (([((2 : Int), (0 : Int))].length : Nat) : Int) else 2)) = (c1 && c2 && c3) := by
          have e5 : decide (0 ≤ (sk : Int)) = true := by simp
          rw [show (([((2 : Int), (0 : Int))].length : Nat) : Int) = 1 from rfl, hc0, e5]
          simp only [Bool.false_eq_true, if_false, d1, d2, d3, List.length_cons, List.length_nil]
          cases c1 <;> cases c2 <;> cases c3 <;> rfl
        rw [hcv] at hR1
        have HR1 : Hid (Calls Tryd.prog 12 #[.agg #[S [65], S [], .slice none 0 0, .slice (some ⟨g1, 0, none⟩) 1 1, .slice none 0 0, .slice none 0 0, .slice none 0 0, .slice none 0 0, .slice none 0 0, .slice (some ⟨g1 + 1 + 1, 0, none⟩) 1 1]] wB (Gives wB (.bool (c1 && c2 && c3)))) := hide hR1
        clear hR1 hcv hc0 hF1
        have p0 := b4.cell 0
        have p1 := b4.cell 1
        have p2 := b4.cell 2
        have p3 := b4.cell 3
        have p4 := b4.cell 4
        have p5 := b4.cell 5
        have p6 := b4.cell 6
        have p7 := b4.cell 7
        have p8 := b4.cell 8
        have p9 := b4.cell 9
        simp at p0 p1 p2 p3 p4 p5 p6 p7 p8 p9
        go_cut [69] (fun v wx => v = .bool false ∧ Hid (Below wB.heap.size wB wx))
        case first =>
          clear b1 b2 b3 b4
          go_wp2_with fail
          refine HR1.out.mono ?_
          rintro e w2 ⟨rfl, hb2⟩
          cases c1 <;> cases c2 <;> cases c3
          all_goals
            go_wp2_with fail
            go_meet
            exact ⟨rfl, hide hb2⟩
        case rest =>
        clear p0 p1 p2 p3 p4 p5 p6 p7 p8 p9 d1 d1' d2 d3 HR1
        obtain ⟨hv, HX⟩ := hcut
        subst hv
        have B1 : Hid (Blk wc g1 52 (limM false A k c).cells.toArray) := hide (b1.below HX.out b1.lt)
        have B3 : Hid (Blk wc (g1 + 1 + 1) 58 #[.int .i64 (lo : Int), .int .i64 (sk : Int), .slice (some ⟨g1 + 1, 0, none⟩) 1 1]) := hide (b3.below HX.out b3.lt)
        have B4 : Hid (Blk wc (g1 + 1 + 1 + 1) 36 #[S [65], S [], .slice none 0 0, .slice (some ⟨g1, 0, none⟩) 1 1, .slice none 0 0, .slice none 0 0, .slice none 0 0, .slice none 0 0, .slice none 0 0, .slice (some ⟨g1 + 1 + 1, 0, none⟩) 1 1]) := hide (b4.below HX.out b4.lt)
        have HPC : Hid (Rd wc (fun i => i < w.heap.size) 2 A k ((List.replicate k (⟨nInt, false⟩ : Ty)).flatMap Ty.cells)) := hide (HPB.out.keep (Keep.of_below HX.out (fun i h1 h2 => by omega)))
        have HLC : Hid (Laid wc) := hide (HLB.out.below HX.out (Nat.le_refl _))
        have HBC : Hid (Below w.heap.size w wc) := hide (HBB.out.trans (HX.out.mono HBB.out.size))
        have HKC : Hid (Below wu.heap.size wu wc) := hide (HKB.out.trans (HX.out.mono HKB.out.size))
        have HSC : Hid (g1 + 1 + 1 + 1 < wc.heap.size) := hide B4.out.lt
        clear b1 b2 b3 b4 HX HPB HLB HBB HSB
        have r9 := B4.out.cell 9
        have s0 := B3.out.cell 0
        have s1 := B3.out.cell 1
        have s2 := B3.out.cell 2
        have f0 := fun o => (B3.out.alloc o).frozen 0
        have a0 := fun o => (B3.out.alloc o).cell 0
        have f1 := fun o => (B3.out.alloc o).frozen 1
        have a1 := fun o => (B3.out.alloc o).cell 1
        have f2 := fun o => (B3.out.alloc o).frozen 2
        have a2 := fun o => (B3.out.alloc o).cell 2
        simp at r9 s0 s1 s2 a0 a1 a2
        have hsz := HSC.out
        go_upto_region 18 with fail
        refine name_world ?_
        intro wd hwd
        obtain ⟨g2, hg2⟩ : ∃ g2, g2 = wc.heap.size := ⟨_, rfl⟩
        have HKD : Hid (Below wu.heap.size wu wd) := hide (by
          have h0 := HS1.out
          have h1 := HKC.out
          rw [hwd]
          exact ((((h1.alloc h1.size _).setCell (by show _ ≤ g1 + 1 + 1; omega) _).setCell (by show _ ≤ g1 + 1 + 1; omega) _).setCell (by show _ ≤ g1 + 1 + 1; omega) _))
        have HBD : Hid (Below w.heap.size w wd) := hide (by
          have h0 := HWU.out
          have h1 := HBC.out
          rw [hwd]
          exact ((((h1.alloc h1.size _).setCell (by show _ ≤ g1 + 1 + 1; omega) _).setCell (by show _ ≤ g1 + 1 + 1; omega) _).setCell (by show _ ≤ g1 + 1 + 1; omega) _))
        have D1 : Hid (Blk wd g1 52 (limM false A k c).cells.toArray) := hide (by
          rw [hwd]
          exact ((((B1.out.alloc _).far (by show g1 ≠ g1 + 1 + 1; omega) _).far (by show g1 ≠ g1 + 1 + 1; omega) _).far (by show g1 ≠ g1 + 1 + 1; omega) _))
        have D4 : Hid (Blk wd (g1 + 1 + 1 + 1) 36 #[S [65], S [], .slice none 0 0, .slice (some ⟨g1, 0, none⟩) 1 1, .slice none 0 0, .slice none 0 0, .slice none 0 0, .slice none 0 0, .slice none 0 0, .slice (some ⟨g1 + 1 + 1, 0, none⟩) 1 1]) := hide (by
          rw [hwd]
          exact ((((B4.out.alloc _).far (by show g1 + 1 + 1 + 1 ≠ g1 + 1 + 1; omega) _).far (by show g1 + 1 + 1 + 1 ≠ g1 + 1 + 1; omega) _).far (by show g1 + 1 + 1 + 1 ≠ g1 + 1 + 1; omega) _))
        have D2 : Hid (Blk wd g2 55 #[.int .i64 x4, .int .i64 x5, .int .i64 2, .int .i64 0]) := hide (by
          rw [hwd, hg2]
          exact ((((Blk.new wc _ _).far (by show wc.heap.size ≠ g1 + 1 + 1; omega) _).far (by show wc.heap.size ≠ g1 + 1 + 1; omega) _).far (by show wc.heap.size ≠ g1 + 1 + 1; omega) _))
        have D3 : Hid (Blk wd (g1 + 1 + 1) 58 #[.int .i64 8, .int .i64 0, .slice (some ⟨g2, 0, none⟩) 2 2]) := hide (by
          rw [hwd, hg2]
          exact ((((B3.out.alloc _).set_ 0 _).set_ 1 _).set_ 2 _))
        rw [← hg2]
        clear hwd f0 f1 f2 r9 s0 s1 s2 a0 a1 a2 hsz hg2 B1 B3 B4 HPC HBC HSC HKC
        have HLD2 : Hid (Laid wd) := hide (HLD.out.below HBD.out (Nat.le_refl _))
        have r9 := D4.out.cell 9
        have s0 := D3.out.cell 0
        have s1 := D3.out.cell 1
        have s2 := D3.out.cell 2
        have t0 := D2.out.cell 0
        have t1 := D2.out.cell 1
        simp at r9 s0 s1 s2 t0 t1
        go_upto_region 19 with fail
        refine name_world ?_
        intro we hwe
        obtain ⟨g5, hg5⟩ : ∃ g5, g5 = wd.heap.size := ⟨_, rfl⟩
        have HS5 : Hid (Below wd.heap.size wd we) := hide (by rw [hwe]; exact (Below.refl _ _).alloc (Nat.le_refl _) _)
        have E5 : Hid (Blk we g5 55 #[.int .i64 x4, .int .i64 x5]) := hide (by rw [hwe, hg5]; exact Blk.new _ _ _)
        have E1 : Hid (Blk we g1 52 (limM false A k c).cells.toArray) := hide (D1.out.below HS5.out D1.out.lt)
        have E2 : Hid (Blk we g2 55 #[.int .i64 x4, .int .i64 x5, .int .i64 2, .int .i64 0]) := hide (D2.out.below HS5.out D2.out.lt)
        have E3 : Hid (Blk we (g1 + 1 + 1) 58 #[.int .i64 8, .int .i64 0, .slice (some ⟨g2, 0, none⟩) 2 2]) := hide (D3.out.below HS5.out D3.out.lt)
        have E4 : Hid (Blk we (g1 + 1 + 1 + 1) 36 #[S [65], S [], .slice none 0 0, .slice (some ⟨g1, 0, none⟩) 1 1, .slice none 0 0, .slice none 0 0, .slice none 0 0, .slice none 0 0, .slice none 0 0, .slice (some ⟨g1 + 1 + 1, 0, none⟩) 1 1]) := hide (D4.out.below HS5.out D4.out.lt)
        have HBE : Hid (Below w.heap.size w we) := hide (HBD.out.trans (HS5.out.mono HBD.out.size))
        have HKE : Hid (Below wu.heap.size wu we) := hide (HKD.out.trans (HS5.out.mono HKD.out.size))
        have HPE : Hid (Rd we (fun i => i < w.heap.size) 2 A k ((List.replicate k (⟨nInt, false⟩ : Ty)).flatMap Ty.cells)) := hide (HPR.out.keep (Keep.of_below HKE.out (fun i h1 h2 => by omega)))
        have HLE : Hid (Laid we) := hide (HLD.out.below HBE.out (Nat.le_refl _))
        rw [← hg5]
        clear hwe hg5 r9 s0 s1 s2 t0 t1 D1 D2 D3 D4 HLD2 HBD HKD HS5 HKE HPR
        have hF2 := limF_at (F := fun i => we.heap.size ≤ i) (st := false) (code := [(x4, x5), (2, 0)]) hnp (HPE.out.weak (fun i hi h => by omega)) E1.out E3.out E2.out rfl (by omega) (by have := E1.out.lt; omega) (by have := E2.out.lt; omega) (by have := E3.out.lt; omega) (by unfold i64In; omega) (by unfold i64In; omega) (by
          intro x hx
          simp only [List.mem_cons, List.not_mem_nil, or_false] at hx
          rcases hx with rfl | rfl
          · exact H45.out
          · exact ⟨by unfold i64In; omega, by unfold i64In; omega⟩)
        have hR2 := fright_any _ we HLE.out hF2
        rw [lim_two hnp] at hR2
        have HR2 : Hid (Calls Tryd.prog 12 #[.agg #[S [65], S [], .slice none 0 0, .slice (some ⟨g1, 0, none⟩) 1 1, .slice none 0 0, .slice none 0 0, .slice none 0 0, .slice none 0 0, .slice none 0 0, .slice (some ⟨g1 + 1 + 1, 0, none⟩) 1 1]] we (Gives we (.bool (limV (kn x4) (pl x4) x5)))) := hide hR2
        clear hR2 hF2 H45
        have HKN : Hid (Calls Tryd.prog 16 #[.int .i64 x4] we fun e w' => e = .returned (.bool (kn x4)) ∧ w' = we) := hide (known_any x4 we)
        have HPL : Hid (Calls Tryd.prog 17 #[.int .i64 x4] we fun e w' => e = .returned (.int .i32 (pl x4)) ∧ w' = we) := hide (pool_any x4 we HLE.out)
        have hcs := lim_cs x4
        generalize kn x4 = K at HR2 HKN hcs
        generalize pl x4 = p at HR2 HKN HPL hcs
        have z0 := E5.out.cell 0
        have z1 := E5.out.cell 1
        have y0 := E4.out.cell 0
        have y1 := E4.out.cell 1
        have y2 := E4.out.cell 2
        have y3 := E4.out.cell 3
        have y4 := E4.out.cell 4
        have y5 := E4.out.cell 5
        have y6 := E4.out.cell 6
        have y7 := E4.out.cell 7
        have y8 := E4.out.cell 8
        have y9 := E4.out.cell 9
        simp at z0 z1 y0 y1 y2 y3 y4 y5 y6 y7 y8 y9
        obtain ⟨v0, d0⟩ : ∃ v, decide (x5 = 0) = v := ⟨_, rfl⟩
        obtain ⟨v1, d1⟩ : ∃ v, decide (0 ≤ x5) = v := ⟨_, rfl⟩
        obtain ⟨v8, d8⟩ : ∃ v, decide (x5 < 8) = v := ⟨_, rfl⟩
        obtain ⟨v2, d2⟩ : ∃ v, decide (x5 < 2) = v := ⟨_, rfl⟩
        rw [lim_v hcs d0 d1 d8 d2] at HR2
        rcases hcs with ⟨rfl, rfl⟩ | ⟨rfl, rfl | rfl | rfl | rfl | rfl | rfl | rfl | rfl | rfl⟩
        · skip
          all_goals
            go_wp2_with (first | (go_at_call 16; refine HKN.out.mono ?_; rintro e w7 ⟨rfl, hw7⟩; subst hw7) | (go_at_call 17; refine HPL.out.mono ?_; rintro e w8 ⟨rfl, hw8⟩; subst hw8) | (go_at_call 12; refine HR2.out.mono ?_; rintro e w9 ⟨rfl, hb9⟩))
            go_ret
            exact ⟨by first | (simp [limD]; done) | (simp [limD]; simpa using d0), HBE.out.trans (hb9.mono HBE.out.size)⟩
        · cases v0
          all_goals
            go_wp2_with (first | (go_at_call 16; refine HKN.out.mono ?_; rintro e w7 ⟨rfl, hw7⟩; subst hw7) | (go_at_call 17; refine HPL.out.mono ?_; rintro e w8 ⟨rfl, hw8⟩; subst hw8) | (go_at_call 12; refine HR2.out.mono ?_; rintro e w9 ⟨rfl, hb9⟩))
            go_ret
            exact ⟨by first | (simp [limD]; done) | (simp [limD]; simpa using d0), HBE.out.trans (hb9.mono HBE.out.size)⟩
        · skip
          all_goals
            go_wp2_with (first | (go_at_call 16; refine HKN.out.mono ?_; rintro e w7 ⟨rfl, hw7⟩; subst hw7) | (go_at_call 17; refine HPL.out.mono ?_; rintro e w8 ⟨rfl, hw8⟩; subst hw8) | (go_at_call 12; refine HR2.out.mono ?_; rintro e w9 ⟨rfl, hb9⟩))
            go_ret
            exact ⟨by first | (simp [limD]; done) | (simp [limD]; simpa using d0), HBE.out.trans (hb9.mono HBE.out.size)⟩
        · skip
          all_goals
            go_wp2_with (first | (go_at_call 16; refine HKN.out.mono ?_; rintro e w7 ⟨rfl, hw7⟩; subst hw7) | (go_at_call 17; refine HPL.out.mono ?_; rintro e w8 ⟨rfl, hw8⟩; subst hw8) | (go_at_call 12; refine HR2.out.mono ?_; rintro e w9 ⟨rfl, hb9⟩))
            go_ret
            exact ⟨by first | (simp [limD]; done) | (simp [limD]; simpa using d0), HBE.out.trans (hb9.mono HBE.out.size)⟩
        · skip
          all_goals
            go_wp2_with (first | (go_at_call 16; refine HKN.out.mono ?_; rintro e w7 ⟨rfl, hw7⟩; subst hw7) | (go_at_call 17; refine HPL.out.mono ?_; rintro e w8 ⟨rfl, hw8⟩; subst hw8) | (go_at_call 12; refine HR2.out.mono ?_; rintro e w9 ⟨rfl, hb9⟩))
            go_ret
            exact ⟨by first | (simp [limD]; done) | (simp [limD]; simpa using d0), HBE.out.trans (hb9.mono HBE.out.size)⟩
        · skip
          all_goals
            go_wp2_with (first | (go_at_call 16; refine HKN.out.mono ?_; rintro e w7 ⟨rfl, hw7⟩; subst hw7) | (go_at_call 17; refine HPL.out.mono ?_; rintro e w8 ⟨rfl, hw8⟩; subst hw8) | (go_at_call 12; refine HR2.out.mono ?_; rintro e w9 ⟨rfl, hb9⟩))
            go_ret
            exact ⟨by first | (simp [limD]; done) | (simp [limD]; simpa using d0), HBE.out.trans (hb9.mono HBE.out.size)⟩
        · skip
          all_goals
            go_wp2_with (first | (go_at_call 16; refine HKN.out.mono ?_; rintro e w7 ⟨rfl, hw7⟩; subst hw7) | (go_at_call 17; refine HPL.out.mono ?_; rintro e w8 ⟨rfl, hw8⟩; subst hw8) | (go_at_call 12; refine HR2.out.mono ?_; rintro e w9 ⟨rfl, hb9⟩))
            go_ret
            exact ⟨by first | (simp [limD]; done) | (simp [limD]; simpa using d0), HBE.out.trans (hb9.mono HBE.out.size)⟩
        · cases v1 <;> cases v8
          all_goals
            go_wp2_with (first | (go_at_call 16; refine HKN.out.mono ?_; rintro e w7 ⟨rfl, hw7⟩; subst hw7) | (go_at_call 17; refine HPL.out.mono ?_; rintro e w8 ⟨rfl, hw8⟩; subst hw8) | (go_at_call 12; refine HR2.out.mono ?_; rintro e w9 ⟨rfl, hb9⟩))
            go_ret
            exact ⟨by first | (simp [limD]; done) | (simp [limD]; simpa using d0), HBE.out.trans (hb9.mono HBE.out.size)⟩
        · cases v1 <;> cases v2
          all_goals
            go_wp2_with (first | (go_at_call 16; refine HKN.out.mono ?_; rintro e w7 ⟨rfl, hw7⟩; subst hw7) | (go_at_call 17; refine HPL.out.mono ?_; rintro e w8 ⟨rfl, hw8⟩; subst hw8) | (go_at_call 12; refine HR2.out.mono ?_; rintro e w9 ⟨rfl, hb9⟩))
            go_ret
            exact ⟨by first | (simp [limD]; done) | (simp [limD]; simpa using d0), HBE.out.trans (hb9.mono HBE.out.size)⟩
        · cases v1 <;> cases v2
          all_goals
            go_wp2_with (first | (go_at_call 16; refine HKN.out.mono ?_; rintro e w7 ⟨rfl, hw7⟩; subst hw7) | (go_at_call 17; refine HPL.out.mono ?_; rintro e w8 ⟨rfl, hw8⟩; subst hw8) | (go_at_call 12; refine HR2.out.mono ?_; rintro e w9 ⟨rfl, hb9⟩))
            go_ret
            exact ⟨by first | (simp [limD]; done) | (simp [limD]; simpa using d0), HBE.out.trans (hb9.mono HBE.out.size)⟩
      case' true =>
        skip
        go_upto_region 15 with fail
        refine name_world ?_
        intro wB hwB
        obtain ⟨g1, hg1⟩ : ∃ g1, g1 = wu.heap.size := ⟨_, rfl⟩
        have HBB : Hid (Below w.heap.size w wB) := hide (by rw [hwB]; exact (((HBU.out.alloc HBU.out.size _).alloc (by have := HBU.out.size; simp; omega) _).alloc (by have := HBU.out.size; simp; omega) _).alloc (by have := HBU.out.size; simp; omega) _)
        have HKB : Hid (Below wu.heap.size wu wB) := hide (by rw [hwB]; exact ((((Below.refl wu.heap.size wu).alloc (Nat.le_refl _) _).alloc (by simp) _).alloc (by simp; omega) _).alloc (by simp; omega) _)
        have b1 : Blk wB g1 52 (limM true A k c).cells.toArray := by rw [hwB, hg1]; exact ((((Blk.new wu _ _).alloc _).alloc _).alloc _)
        have b2 : Blk wB (g1 + 1) 55 #[.int .i64 2, .int .i64 0] := by rw [hwB, hg1]; have := Blk.new (wu.alloc (.cells #[S [109], .bool true, .slice A k c, S nInt, .bool false] 52)) 55 #[.int .i64 2, .int .i64 0]; simp only [World.size_alloc] at this; exact ((this.alloc _).alloc _)
        have b3 : Blk wB (g1 + 1 + 1) 58 #[.int .i64 (lo : Int), .int .i64 (sk : Int), .slice (some ⟨g1 + 1, 0, none⟩) 1 1] := by
          rw [hwB, hg1]
          have := Blk.new ((wu.alloc (.cells #[S [109], .bool true, .slice A k c, S nInt, .bool false] 52)).alloc (.cells #[.int .i64 2, .int .i64 0] 55)) 58 #[.int .i64 (lo : Int), .int .i64 (sk : Int), .slice (some ⟨wu.heap.size + 1, 0, none⟩) 1 1]
          simp only [World.size_alloc] at this
          exact (this.alloc _)
        have b4 : Blk wB (g1 + 1 + 1 + 1) 36 #[S [65], S [], .slice none 0 0, .slice (some ⟨g1, 0, none⟩) 1 1, .slice none 0 0, .slice none 0 0, .slice none 0 0, .slice none 0 0, .slice none 0 0, .slice (some ⟨g1 + 1 + 1, 0, none⟩) 1 1] := by
          rw [hwB, hg1]
          have := Blk.new (((wu.alloc (.cells #[S [109], .bool true, .slice A k c, S nInt, .bool false] 52)).alloc (.cells #[.int .i64 2, .int .i64 0] 55)).alloc (.cells #[.int .i64 (lo : Int), .int .i64 (sk : Int), .slice (some ⟨wu.heap.size + 1, 0, none⟩) 1 1] 58)) 36 #[S [65], S [], .slice none 0 0, .slice (some ⟨wu.heap.size, 0, none⟩) 1 1, .slice none 0 0, .slice none 0 0, .slice none 0 0, .slice none 0 0, .slice none 0 0, .slice (some ⟨wu.heap.size + 1 + 1, 0, none⟩) 1 1]
          simp only [World.size_alloc] at this
          exact this
        rw [← hg1]
        clear hwB m0 m1 m2 m3 m4
        have HS1 : Hid (wu.heap.size = g1) := hide hg1.symm
        clear hg1
        have HWU : Hid (w.heap.size ≤ g1) := hide (by have := HBU.out.size; have := HS1.out; omega)
        have HPB : Hid (Rd wB (fun i => i < w.heap.size) 2 A k ((List.replicate k (⟨nInt, false⟩ : Ty)).flatMap Ty.cells)) := hide (HPR.out.keep (Keep.of_below HKB.out (fun i h1 h2 => by omega)))
        have HSB : Hid (g1 + 1 + 1 < wB.heap.size) := hide b3.lt
        have HLB : Hid (Laid wB) := hide (HLD.out.below HBB.out (Nat.le_refl _))
        obtain ⟨c1, d1⟩ : ∃ v, decide ((k : Int) ≤ (lo : Int)) = v := ⟨_, rfl⟩
        have d1' : decide (k ≤ lo) = c1 := by rw [← d1]; exact decide_eq_decide.2 (by omega)
        obtain ⟨c2, d2⟩ : ∃ v, decide ((lo : Int) ≤ 401) = v := ⟨_, rfl⟩
        obtain ⟨c3, d3⟩ : ∃ v, decide ((sk : Int) ≤ 1000) = v := ⟨_, rfl⟩
        have hF1 := limF_at (F := fun i => wB.heap.size ≤ i) (st := true) (code := [(2, 0)]) hnp (HPB.out.weak (fun i hi h => by omega)) b1 b3 b2 rfl (by omega) (by have := HSB.out; omega) (by have := HSB.out; omega) (by have := HSB.out; omega) (by unfold i64In; omega) (by unfold i64In; omega) (by intro x hx; obtain rfl := List.mem_singleton.1 hx; exact ⟨by unfold i64In; omega, by unfold i64In; omega⟩)
        have hR1 := fright_any _ wB HLB.out hF1
        rw [limF_right hnp] at hR1
        have hc0 : ([((2 : Int), (0 : Int))].all fun x => rtC x.1 x.2 (if pl x.1 == 110 then 0 else if pl x.1 == 99 then 0 else if pl x.1 == 116 then 0 else if pl x.1 == 102 then 0 else if pl x.1 == 109 then 0 else if pl x.1 == 108 then (lo : Int) else if pl x.1 == 106 then (1 : Int) else 2)) = true := by
          have : rtC 2 0 (lo : Int) = true := by unfold rtC; rfl
          simp only [List.all_cons, List.all_nil, Bool.and_true]
          unfold rtC
          rfl
        have hcv : ((decide ((if true then (k : Int) else k + 1) ≤ (lo : Int)) && decide ((lo : Int) ≤ 401) && decide (0 ≤ (sk : Int)) && decide ((sk : Int) ≤ 1000) && decide (1 ≤ [((2 : Int), (0 : Int))].length) && decide ([((2 : Int), (0 : Int))].length ≤ 16384)) && [((2 : Int), (0 : Int))].all fun x => rtC x.1 x.2 (if pl x.1 == 110 then 0 else if pl x.1 == 99 then 0 else if pl x.1 == 116 then 0 else if pl x.1 == 102 then 0 else if pl x.1 == 109 then 0 else if pl x.1 == 108 then (lo : Int) else if pl x.1 == 106 then (([((2 : Int), (0 : Int))].length : Nat) : Int) else 2)) = (c1 && c2 && c3) := by
          have e5 : decide (0 ≤ (sk : Int)) = true := by simp
          rw [show (([((2 : Int), (0 : Int))].length : Nat) : Int) = 1 from rfl, hc0, e5]
          simp only [if_true, d1, d2, d3, List.length_cons, List.length_nil]
          cases c1 <;> cases c2 <;> cases c3 <;> rfl
        rw [hcv] at hR1
        have HR1 : Hid (Calls Tryd.prog 12 #[.agg #[S [65], S [], .slice none 0 0, .slice (some ⟨g1, 0, none⟩) 1 1, .slice none 0 0, .slice none 0 0, .slice none 0 0, .slice none 0 0, .slice none 0 0, .slice (some ⟨g1 + 1 + 1, 0, none⟩) 1 1]] wB (Gives wB (.bool (c1 && c2 && c3)))) := hide hR1
        clear hR1 hcv hc0 hF1
        have p0 := b4.cell 0
        have p1 := b4.cell 1
        have p2 := b4.cell 2
        have p3 := b4.cell 3
        have p4 := b4.cell 4
        have p5 := b4.cell 5
        have p6 := b4.cell 6
        have p7 := b4.cell 7
        have p8 := b4.cell 8
        have p9 := b4.cell 9
        simp at p0 p1 p2 p3 p4 p5 p6 p7 p8 p9
        go_cut [69] (fun v wx => v = .bool false ∧ Hid (Below wB.heap.size wB wx))
        case first =>
          clear b1 b2 b3 b4
          go_wp2_with fail
          refine HR1.out.mono ?_
          rintro e w2 ⟨rfl, hb2⟩
          cases c1 <;> cases c2 <;> cases c3
          all_goals
            go_wp2_with fail
            go_meet
            exact ⟨rfl, hide hb2⟩
        case rest =>
        clear p0 p1 p2 p3 p4 p5 p6 p7 p8 p9 d1 d1' d2 d3 HR1
        obtain ⟨hv, HX⟩ := hcut
        subst hv
        have B1 : Hid (Blk wc g1 52 (limM true A k c).cells.toArray) := hide (b1.below HX.out b1.lt)
        have B3 : Hid (Blk wc (g1 + 1 + 1) 58 #[.int .i64 (lo : Int), .int .i64 (sk : Int), .slice (some ⟨g1 + 1, 0, none⟩) 1 1]) := hide (b3.below HX.out b3.lt)
        have B4 : Hid (Blk wc (g1 + 1 + 1 + 1) 36 #[S [65], S [], .slice none 0 0, .slice (some ⟨g1, 0, none⟩) 1 1, .slice none 0 0, .slice none 0 0, .slice none 0 0, .slice none 0 0, .slice none 0 0, .slice (some ⟨g1 + 1 + 1, 0, none⟩) 1 1]) := hide (b4.below HX.out b4.lt)
        have HPC : Hid (Rd wc (fun i => i < w.heap.size) 2 A k ((List.replicate k (⟨nInt, false⟩ : Ty)).flatMap Ty.cells)) := hide (HPB.out.keep (Keep.of_below HX.out (fun i h1 h2 => by omega)))
        have HLC : Hid (Laid wc) := hide (HLB.out.below HX.out (Nat.le_refl _))
        have HBC : Hid (Below w.heap.size w wc) := hide (HBB.out.trans (HX.out.mono HBB.out.size))
        have HKC : Hid (Below wu.heap.size wu wc) := hide (HKB.out.trans (HX.out.mono HKB.out.size))
        have HSC : Hid (g1 + 1 + 1 + 1 < wc.heap.size) := hide B4.out.lt
        clear b1 b2 b3 b4 HX HPB HLB HBB HSB
        have r9 := B4.out.cell 9
        have s0 := B3.out.cell 0
        have s1 := B3.out.cell 1
        have s2 := B3.out.cell 2
        have f0 := fun o => (B3.out.alloc o).frozen 0
        have a0 := fun o => (B3.out.alloc o).cell 0
        have f1 := fun o => (B3.out.alloc o).frozen 1
        have a1 := fun o => (B3.out.alloc o).cell 1
        have f2 := fun o => (B3.out.alloc o).frozen 2
        have a2 := fun o => (B3.out.alloc o).cell 2
        simp at r9 s0 s1 s2 a0 a1 a2
        have hsz := HSC.out
        go_upto_region 18 with fail
        refine name_world ?_
        intro wd hwd
        obtain ⟨g2, hg2⟩ : ∃ g2, g2 = wc.heap.size := ⟨_, rfl⟩
        have HKD : Hid (Below wu.heap.size wu wd) := hide (by
          have h0 := HS1.out
          have h1 := HKC.out
          rw [hwd]
          exact ((((h1.alloc h1.size _).setCell (by show _ ≤ g1 + 1 + 1; omega) _).setCell (by show _ ≤ g1 + 1 + 1; omega) _).setCell (by show _ ≤ g1 + 1 + 1; omega) _))
        have HBD : Hid (Below w.heap.size w wd) := hide (by
          have h0 := HWU.out
          have h1 := HBC.out
          rw [hwd]
          exact ((((h1.alloc h1.size _).setCell (by show _ ≤ g1 + 1 + 1; omega) _).setCell (by show _ ≤ g1 + 1 + 1; omega) _).setCell (by show _ ≤ g1 + 1 + 1; omega) _))
        have D1 : Hid (Blk wd g1 52 (limM true A k c).cells.toArray) := hide (by
          rw [hwd]
          exact ((((B1.out.alloc _).far (by show g1 ≠ g1 + 1 + 1; omega) _).far (by show g1 ≠ g1 + 1 + 1; omega) _).far (by show g1 ≠ g1 + 1 + 1; omega) _))
        have D4 : Hid (Blk wd (g1 + 1 + 1 + 1) 36 #[S [65], S [], .slice none 0 0, .slice (some ⟨g1, 0, none⟩) 1 1, .slice none 0 0, .slice none 0 0, .slice none 0 0, .slice none 0 0, .slice none 0 0, .slice (some ⟨g1 + 1 + 1, 0, none⟩) 1 1]) := hide (by
          rw [hwd]
          exact ((((B4.out.alloc _).far (by show g1 + 1 + 1 + 1 ≠ g1 + 1 + 1; omega) _).far (by show g1 + 1 + 1 + 1 ≠ g1 + 1 + 1; omega) _).far (by show g1 + 1 + 1 + 1 ≠ g1 + 1 + 1; omega) _))
        have D2 : Hid (Blk wd g2 55 #[.int .i64 x4, .int .i64 x5, .int .i64 2, .int .i64 0]) := hide (by
          rw [hwd, hg2]
          exact ((((Blk.new wc _ _).far (by show wc.heap.size ≠ g1 + 1 + 1; omega) _).far (by show wc.heap.size ≠ g1 + 1 + 1; omega) _).far (by show wc.heap.size ≠ g1 + 1 + 1; omega) _))
        have D3 : Hid (Blk wd (g1 + 1 + 1) 58 #[.int .i64 8, .int .i64 0, .slice (some ⟨g2, 0, none⟩) 2 2]) := hide (by
          rw [hwd, hg2]
          exact ((((B3.out.alloc _).set_ 0 _).set_ 1 _).set_ 2 _))
        rw [← hg2]
        clear hwd f0 f1 f2 r9 s0 s1 s2 a0 a1 a2 hsz hg2 B1 B3 B4 HPC HBC HSC HKC
        have HLD2 : Hid (Laid wd) := hide (HLD.out.below HBD.out (Nat.le_refl _))
        have r9 := D4.out.cell 9
        have s0 := D3.out.cell 0
        have s1 := D3.out.cell 1
        have s2 := D3.out.cell 2
        have t0 := D2.out.cell 0
        have t1 := D2.out.cell 1
        simp at r9 s0 s1 s2 t0 t1
        go_upto_region 19 with fail
        refine name_world ?_
        intro we hwe
        obtain ⟨g5, hg5⟩ : ∃ g5, g5 = wd.heap.size := ⟨_, rfl⟩
        have HS5 : Hid (Below wd.heap.size wd we) := hide (by rw [hwe]; exact (Below.refl _ _).alloc (Nat.le_refl _) _)
        have E5 : Hid (Blk we g5 55 #[.int .i64 x4, .int .i64 x5]) := hide (by rw [hwe, hg5]; exact Blk.new _ _ _)
        have E1 : Hid (Blk we g1 52 (limM true A k c).cells.toArray) := hide (D1.out.below HS5.out D1.out.lt)
        have E2 : Hid (Blk we g2 55 #[.int .i64 x4, .int .i64 x5, .int .i64 2, .int .i64 0]) := hide (D2.out.below HS5.out D2.out.lt)
        have E3 : Hid (Blk we (g1 + 1 + 1) 58 #[.int .i64 8, .int .i64 0, .slice (some ⟨g2, 0, none⟩) 2 2]) := hide (D3.out.below HS5.out D3.out.lt)
        have E4 : Hid (Blk we (g1 + 1 + 1 + 1) 36 #[S [65], S [], .slice none 0 0, .slice (some ⟨g1, 0, none⟩) 1 1, .slice none 0 0, .slice none 0 0, .slice none 0 0, .slice none 0 0, .slice none 0 0, .slice (some ⟨g1 + 1 + 1, 0, none⟩) 1 1]) := hide (D4.out.below HS5.out D4.out.lt)
        have HBE : Hid (Below w.heap.size w we) := hide (HBD.out.trans (HS5.out.mono HBD.out.size))
        have HKE : Hid (Below wu.heap.size wu we) := hide (HKD.out.trans (HS5.out.mono HKD.out.size))
        have HPE : Hid (Rd we (fun i => i < w.heap.size) 2 A k ((List.replicate k (⟨nInt, false⟩ : Ty)).flatMap Ty.cells)) := hide (HPR.out.keep (Keep.of_below HKE.out (fun i h1 h2 => by omega)))
        have HLE : Hid (Laid we) := hide (HLD.out.below HBE.out (Nat.le_refl _))
        rw [← hg5]
        clear hwe hg5 r9 s0 s1 s2 t0 t1 D1 D2 D3 D4 HLD2 HBD HKD HS5 HKE HPR
        have hF2 := limF_at (F := fun i => we.heap.size ≤ i) (st := true) (code := [(x4, x5), (2, 0)]) hnp (HPE.out.weak (fun i hi h => by omega)) E1.out E3.out E2.out rfl (by omega) (by have := E1.out.lt; omega) (by have := E2.out.lt; omega) (by have := E3.out.lt; omega) (by unfold i64In; omega) (by unfold i64In; omega) (by
          intro x hx
          simp only [List.mem_cons, List.not_mem_nil, or_false] at hx
          rcases hx with rfl | rfl
          · exact H45.out
          · exact ⟨by unfold i64In; omega, by unfold i64In; omega⟩)
        have hR2 := fright_any _ we HLE.out hF2
        rw [lim_two hnp] at hR2
        have HR2 : Hid (Calls Tryd.prog 12 #[.agg #[S [65], S [], .slice none 0 0, .slice (some ⟨g1, 0, none⟩) 1 1, .slice none 0 0, .slice none 0 0, .slice none 0 0, .slice none 0 0, .slice none 0 0, .slice (some ⟨g1 + 1 + 1, 0, none⟩) 1 1]] we (Gives we (.bool (limV (kn x4) (pl x4) x5)))) := hide hR2
        clear hR2 hF2 H45
        have HKN : Hid (Calls Tryd.prog 16 #[.int .i64 x4] we fun e w' => e = .returned (.bool (kn x4)) ∧ w' = we) := hide (known_any x4 we)
        have HPL : Hid (Calls Tryd.prog 17 #[.int .i64 x4] we fun e w' => e = .returned (.int .i32 (pl x4)) ∧ w' = we) := hide (pool_any x4 we HLE.out)
        have hcs := lim_cs x4
        generalize kn x4 = K at HR2 HKN hcs
        generalize pl x4 = p at HR2 HKN HPL hcs
        have z0 := E5.out.cell 0
        have z1 := E5.out.cell 1
        have y0 := E4.out.cell 0
        have y1 := E4.out.cell 1
        have y2 := E4.out.cell 2
        have y3 := E4.out.cell 3
        have y4 := E4.out.cell 4
        have y5 := E4.out.cell 5
        have y6 := E4.out.cell 6
        have y7 := E4.out.cell 7
        have y8 := E4.out.cell 8
        have y9 := E4.out.cell 9
        simp at z0 z1 y0 y1 y2 y3 y4 y5 y6 y7 y8 y9
        obtain ⟨v0, d0⟩ : ∃ v, decide (x5 = 0) = v := ⟨_, rfl⟩
        obtain ⟨v1, d1⟩ : ∃ v, decide (0 ≤ x5) = v := ⟨_, rfl⟩
        obtain ⟨v8, d8⟩ : ∃ v, decide (x5 < 8) = v := ⟨_, rfl⟩
        obtain ⟨v2, d2⟩ : ∃ v, decide (x5 < 2) = v := ⟨_, rfl⟩
        rw [lim_v hcs d0 d1 d8 d2] at HR2
        rcases hcs with ⟨rfl, rfl⟩ | ⟨rfl, rfl | rfl | rfl | rfl | rfl | rfl | rfl | rfl | rfl⟩
        · skip
          all_goals
            go_wp2_with (first | (go_at_call 16; refine HKN.out.mono ?_; rintro e w7 ⟨rfl, hw7⟩; subst hw7) | (go_at_call 17; refine HPL.out.mono ?_; rintro e w8 ⟨rfl, hw8⟩; subst hw8) | (go_at_call 12; refine HR2.out.mono ?_; rintro e w9 ⟨rfl, hb9⟩))
            go_ret
            exact ⟨by first | (simp [limD]; done) | (simp [limD]; simpa using d0), HBE.out.trans (hb9.mono HBE.out.size)⟩
        · cases v0
          all_goals
            go_wp2_with (first | (go_at_call 16; refine HKN.out.mono ?_; rintro e w7 ⟨rfl, hw7⟩; subst hw7) | (go_at_call 17; refine HPL.out.mono ?_; rintro e w8 ⟨rfl, hw8⟩; subst hw8) | (go_at_call 12; refine HR2.out.mono ?_; rintro e w9 ⟨rfl, hb9⟩))
            go_ret
            exact ⟨by first | (simp [limD]; done) | (simp [limD]; simpa using d0), HBE.out.trans (hb9.mono HBE.out.size)⟩
        · skip
          all_goals
            go_wp2_with (first | (go_at_call 16; refine HKN.out.mono ?_; rintro e w7 ⟨rfl, hw7⟩; subst hw7) | (go_at_call 17; refine HPL.out.mono ?_; rintro e w8 ⟨rfl, hw8⟩; subst hw8) | (go_at_call 12; refine HR2.out.mono ?_; rintro e w9 ⟨rfl, hb9⟩))
            go_ret
            exact ⟨by first | (simp [limD]; done) | (simp [limD]; simpa using d0), HBE.out.trans (hb9.mono HBE.out.size)⟩
        · skip
          all_goals
            go_wp2_with (first | (go_at_call 16; refine HKN.out.mono ?_; rintro e w7 ⟨rfl, hw7⟩; subst hw7) | (go_at_call 17; refine HPL.out.mono ?_; rintro e w8 ⟨rfl, hw8⟩; subst hw8) | (go_at_call 12; refine HR2.out.mono ?_; rintro e w9 ⟨rfl, hb9⟩))
            go_ret
            exact ⟨by first | (simp [limD]; done) | (simp [limD]; simpa using d0), HBE.out.trans (hb9.mono HBE.out.size)⟩
        · skip
          all_goals
            go_wp2_with (first | (go_at_call 16; refine HKN.out.mono ?_; rintro e w7 ⟨rfl, hw7⟩; subst hw7) | (go_at_call 17; refine HPL.out.mono ?_; rintro e w8 ⟨rfl, hw8⟩; subst hw8) | (go_at_call 12; refine HR2.out.mono ?_; rintro e w9 ⟨rfl, hb9⟩))
            go_ret
            exact ⟨by first | (simp [limD]; done) | (simp [limD]; simpa using d0), HBE.out.trans (hb9.mono HBE.out.size)⟩
        · skip
          all_goals
            go_wp2_with (first | (go_at_call 16; refine HKN.out.mono ?_; rintro e w7 ⟨rfl, hw7⟩; subst hw7) | (go_at_call 17; refine HPL.out.mono ?_; rintro e w8 ⟨rfl, hw8⟩; subst hw8) | (go_at_call 12; refine HR2.out.mono ?_; rintro e w9 ⟨rfl, hb9⟩))
            go_ret
            exact ⟨by first | (simp [limD]; done) | (simp [limD]; simpa using d0), HBE.out.trans (hb9.mono HBE.out.size)⟩
        · skip
          all_goals
            go_wp2_with (first | (go_at_call 16; refine HKN.out.mono ?_; rintro e w7 ⟨rfl, hw7⟩; subst hw7) | (go_at_call 17; refine HPL.out.mono ?_; rintro e w8 ⟨rfl, hw8⟩; subst hw8) | (go_at_call 12; refine HR2.out.mono ?_; rintro e w9 ⟨rfl, hb9⟩))
            go_ret
            exact ⟨by first | (simp [limD]; done) | (simp [limD]; simpa using d0), HBE.out.trans (hb9.mono HBE.out.size)⟩
        · cases v1 <;> cases v8
          all_goals
            go_wp2_with (first | (go_at_call 16; refine HKN.out.mono ?_; rintro e w7 ⟨rfl, hw7⟩; subst hw7) | (go_at_call 17; refine HPL.out.mono ?_; rintro e w8 ⟨rfl, hw8⟩; subst hw8) | (go_at_call 12; refine HR2.out.mono ?_; rintro e w9 ⟨rfl, hb9⟩))
            go_ret
            exact ⟨by first | (simp [limD]; done) | (simp [limD]; simpa using d0), HBE.out.trans (hb9.mono HBE.out.size)⟩
        · cases v1 <;> cases v2
          all_goals
            go_wp2_with (first | (go_at_call 16; refine HKN.out.mono ?_; rintro e w7 ⟨rfl, hw7⟩; subst hw7) | (go_at_call 17; refine HPL.out.mono ?_; rintro e w8 ⟨rfl, hw8⟩; subst hw8) | (go_at_call 12; refine HR2.out.mono ?_; rintro e w9 ⟨rfl, hb9⟩))
            go_ret
            exact ⟨by first | (simp [limD]; done) | (simp [limD]; simpa using d0), HBE.out.trans (hb9.mono HBE.out.size)⟩
        · cases v1 <;> cases v2
          all_goals
            go_wp2_with (first | (go_at_call 16; refine HKN.out.mono ?_; rintro e w7 ⟨rfl, hw7⟩; subst hw7) | (go_at_call 17; refine HPL.out.mono ?_; rintro e w8 ⟨rfl, hw8⟩; subst hw8) | (go_at_call 12; refine HR2.out.mono ?_; rintro e w9 ⟨rfl, hb9⟩))
            go_ret
            exact ⟨by first | (simp [limD]; done) | (simp [limD]; simpa using d0), HBE.out.trans (hb9.mono HBE.out.size)⟩

end Go.Proofs.YtkldfbacagnhoaaDoor
