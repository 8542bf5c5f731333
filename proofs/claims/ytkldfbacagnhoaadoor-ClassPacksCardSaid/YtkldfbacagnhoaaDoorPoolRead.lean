/- How a class's pool is read, walked; no statement of the seat is proved here. -/
import Derived.Test.YtkldfbacagnhoaaDoorFaceRead
import Derived.Test.YtkldfbacagnhoaaDoorClsData
import Derived.Test.YtkldfbacagnhoaaDoorClsM3
import Derived.Deep.RegionHeld3
namespace Go.Proofs.YtkldfbacagnhoaaDoor
open Go.RowKit

theorem i64_info : (Tryd.prog.info? 2).map (fun i => (i.zero, i.size, i.bytes)) = some (some (.int .i64 0), 1, 8) := by kernel_rfl
theorem str_info : (Tryd.prog.info? 9).map (fun i => (i.zero, i.size, i.bytes)) = some (some (S []), 1, 16) := by kernel_rfl
theorem fld_info : (Tryd.prog.info? 92).map (fun i => (i.zero, i.size, i.bytes)) = some (some (.agg #[S [], S [], .bool false, S []]), 4, 56) := by kernel_rfl
theorem mtd_info : (Tryd.prog.info? 94).map (fun i => (i.zero, i.size, i.bytes)) = some (some (.agg #[S [], .bool false, .slice none 0 0, S [], .bool false, S []]), 6, 88) := by kernel_rfl
theorem rmany16 (g : Nat) (st : St) (w : World) (h : Rl w g st) : Calls Tryd.prog 29 #[.pointer (some ⟨g, 0, none⟩), .int .i64 16384] w (ReadsTo g (.int .i64 ((manyR 16384 st).1 : Int)) (manyR 16384 st).2 w) := rmany_any g 16384 st w h (by omega)

theorem own_gq {w w' : World} {B s n g q : Nat} {e T : TypeId} {v : Value} {xs : List Value} {cs : Array Value} (h : w.ownsRow B e s v n xs) (hg : g < B) (hb : Blk w q T cs) (hne : e ≠ T) (hk : Keep (fun i => i = g ∨ i = q) w w') : w'.ownsRow B e s v n xs :=
  own_keep h hk (fun i hi he => he.elim (fun he => by have := own_base h hi; omega) (fun he => own_blk_ne h hb hne (by rw [hi, he])))
theorem iterR_sub {α : Type} (f : St → α × St) : ∀ (n k : Nat) (st : St), k < n → (f (iterR f k st).2).1 ∈ (iterR f n st).1
  | 0, _, _, h => by omega
  | n + 1, k, st, h => by
    rw [iterR]
    rcases Nat.lt_or_ge k n with h2 | h2
    · exact List.mem_append_left _ (iterR_sub f n k st h2)
    · obtain rfl : k = n := by omega
      exact List.mem_append_right _ (List.mem_singleton.2 rfl)
theorem iterR_all {α : Type} {f : St → α × St} {p : α → Prop} (h : ∀ st, p (f st).1) : ∀ (n : Nat) (st : St), ∀ x ∈ (iterR f n st).1, p x
  | 0, _, _, hx => by cases hx
  | n + 1, st, x, hx => by
    rw [iterR_cons] at hx
    rcases List.mem_cons.1 hx with rfl | hx
    · exact h st
    · exact iterR_all h n _ x hx
theorem intR_in (st : St) : i64In (intR st).1 := by
  have h1 := numR_le 4294967295 st
  have h2 := numR_le 4294967295 (numR 4294967295 st).2
  exact (zz_unzz _ _ h1 h2).2
theorem textR_short (st : St) : short (textR 40 st).1 := by have := textR_len 40 st; unfold short; omega
theorem tyR_ok (st : St) : (tyR st).1.ok := textR_short st
theorem fdR_ok (st : St) : (fdR st).1.ok := ⟨textR_short _, textR_short _, textR_short _⟩

def MtsOwn (w : World) (B : Nat) (ms : List Mt) : Prop := ∀ x ∈ ms, w.ownsRow B 49 2 (.slice x.m.A x.m.k x.m.c) x.m.k (x.m.ps.flatMap Ty.cells) ∧ x.m.ps.length = x.m.k ∧ x.m.k ≤ 200 ∧ short x.m.n ∧ x.m.r.ok ∧ (∀ p ∈ x.m.ps, p.ok) ∧ short x.c
theorem MtsOwn.keep {w w' : World} {B : Nat} {ms : List Mt} {F : Nat → Prop} (h : MtsOwn w B ms) (hk : Keep F w w') (hF : ∀ m ∈ ms, ∀ k, (Value.slice m.m.A m.m.k m.m.c).ownBlock = some k → ¬ F k) : MtsOwn w' B ms :=
  fun m hm => ⟨own_keep (h m hm).1 hk (hF m hm), (h m hm).2⟩
/-- A pool whose slices the call owns. -/
structure POwn (w : World) (B : Nat) (f : Fl) : Prop where
  nr : w.ownsRow B 2 1 (.slice f.nA f.nl f.nc) f.nl (f.nums.map (Value.int .i64))
  cr : w.ownsRow B 9 1 (.slice f.cA f.cl f.cc) f.cl (f.cls.map S)
  tr : w.ownsRow B 49 2 (.slice f.tA f.tl f.tc) f.tl (f.tys.flatMap Ty.cells)
  dr : w.ownsRow B 92 4 (.slice f.dA f.dl f.dc) f.dl (f.fds.flatMap FdP.cells)
  mr : w.ownsRow B 94 6 (.slice f.mA f.ml f.mc) f.ml (f.mts.flatMap Mt.cells)
  mW : MtsOwn w B f.mts
  L : f.nums.length = f.nl ∧ f.cls.length = f.cl ∧ f.tys.length = f.tl ∧ f.fds.length = f.dl ∧ f.mts.length = f.ml
  D : f.nl ≤ 16384 ∧ f.cl ≤ 16384 ∧ f.tl ≤ 16384 ∧ f.dl ≤ 16384 ∧ f.ml ≤ 16384
  W : (∀ x ∈ f.nums, i64In x) ∧ (∀ x ∈ f.cls, short x) ∧ (∀ x ∈ f.tys, x.ok) ∧ ∀ x ∈ f.fds, x.ok
theorem POwn.keep {w w' : World} {B q : Nat} {f : Fl} {cs : Array Value} (h : POwn w B f) (hb : Blk w q 33 cs) (hk : Keep (fun i => i = q) w w') : POwn w' B f :=
  { h with nr := own_keep h.nr hk (fun i hi e => own_blk_ne h.nr hb (by decide) (by rw [hi, e])), cr := own_keep h.cr hk (fun i hi e => own_blk_ne h.cr hb (by decide) (by rw [hi, e])), tr := own_keep h.tr hk (fun i hi e => own_blk_ne h.tr hb (by decide) (by rw [hi, e])), dr := own_keep h.dr hk (fun i hi e => own_blk_ne h.dr hb (by decide) (by rw [hi, e])), mr := own_keep h.mr hk (fun i hi e => own_blk_ne h.mr hb (by decide) (by rw [hi, e])), mW := h.mW.keep hk (fun m hm i hi e => own_blk_ne (h.mW m hm).1 hb (by decide) (by rw [hi, e])) }
theorem mt_at {w : World} {B : Nat} {x : Mt} (h : w.ownsRow B 49 2 (.slice x.m.A x.m.k x.m.c) x.m.k (x.m.ps.flatMap Ty.cells) ∧ x.m.ps.length = x.m.k ∧ x.m.k ≤ 200 ∧ short x.m.n ∧ x.m.r.ok ∧ (∀ p ∈ x.m.ps, p.ok) ∧ short x.c) : x.at_ w (fun k => k < B) := by
  obtain ⟨h1, h2, h3, h4, h5, h6, h7⟩ := h
  exact ⟨⟨Rd.of_ownB h1, h2, by omega, h4, h5, h6⟩, h7⟩
theorem POwn.pat {w : World} {B : Nat} {f : Fl} (h : POwn w B f) : f.pat w (fun k => k < B) := by
  obtain ⟨d1, d2, d3, d4, d5⟩ := h.D
  obtain ⟨l1, l2, l3, l4, l5⟩ := h.L
  obtain ⟨x1, x2, x3, x4⟩ := h.W
  exact { nr := Rd.of_ownB h.nr, nL := l1, nB := by omega, nW := x1, cr := Rd.of_ownB h.cr, cL := l2, cB := by omega, cW := x2, tr := Rd.of_ownB h.tr, tL := l3, tB := by omega, tW := x3, dr := Rd.of_ownB h.dr, dL := l4, dB := by omega, dW := x4, mr := Rd.of_ownB h.mr, mL := l5, mB := by omega, mW := fun x hx => mt_at (h.mW x hx) }

/-- A pool that was read, or none. -/
def PoolRead (g : Nat) (st : St) (w : World) (e : Ending) (w' : World) : Prop :=
  ∃ (f : Fl) (ok : Bool) (st' : St), e = .returned (.tuple #[f.pval, .bool ok]) ∧ POwn w' w.heap.size f ∧ Rl w' g st' ∧ Keep (fun k => k = g) w w' ∧ ok = ((poR st).1.2.all isMt && (poR st).2.isSome) ∧ (ok = true → f.ppl = (poR st).1.1 ∧ st' = (poR st).2)

set_option maxRecDepth 100000 in
set_option maxHeartbeats 16000000 in
theorem pread_pool (g : Nat) (t0 : St) (w : World) (h : Rl w g t0) : Calls Tryd.prog 27 #[.pointer (some ⟨g, 0, none⟩)] w (PoolRead g t0 w) := by
  have HR0 := hide h
  clear h
  go_enter Tryd.func27, Tryd.ntmps27
  go_upto_region 2 with fail
  refine name_world ?_
  intro wu hwu
  have HR : Hid (Rl wu g t0) := hide (by rw [hwu]; exact (HR0.out.alloc _).alloc _)
  have HT : Hid (Blk wu w.heap.size 33 #[.slice none 0 0, .slice none 0 0, .slice none 0 0, .slice none 0 0, .slice none 0 0]) := hide (by rw [hwu]; exact (Blk.new _ _ _).alloc _)
  have HX : Hid (Blk wu (w.heap.size + 1) 33 #[.slice none 0 0, .slice none 0 0, .slice none 0 0, .slice none 0 0, .slice none 0 0]) := hide (by rw [hwu]; have := Blk.new (w.alloc (.cells #[.slice none 0 0, .slice none 0 0, .slice none 0 0, .slice none 0 0, .slice none 0 0] 33)) 33 #[.slice none 0 0, .slice none 0 0, .slice none 0 0, .slice none 0 0, .slice none 0 0]; simpa using this)
  have HB : Hid (Keep (fun k => k = g) w wu) := hide (by rw [hwu]; exact ((Keep.refl _ w).alloc _).alloc _)
  have HGN0 : Hid (g < w.heap.size) := hide HR0.out.lt
  obtain ⟨N, hN⟩ : ∃ N, N = w.heap.size := ⟨_, rfl⟩
  obtain ⟨q, hq⟩ : ∃ q, q = w.heap.size + 1 := ⟨_, rfl⟩
  have HNN : Hid (w.heap.size = N) := hide hN.symm
  have HQN : Hid (q = N + 1) := hide (by omega)
  rw [← hq] at HX ⊢
  rw [← hN] at HT HGN0 ⊢
  clear hwu hN hq HR0
  have HGN : Hid (g < N) := HGN0
  have HNG : Hid (g ≠ N) := hide (by have := HGN.out; omega)
  have HGQ : Hid (g ≠ q) := hide (by have := HGN.out; have := HQN.out; omega)
  have HNQ : Hid (N ≠ q) := hide (by have := HQN.out; omega)
  clear HGN0
  have HM := hide (rmany16 g t0 wu HR.out)
  go_wp2_with (first | fail)
  refine HM.out.mono ?_
  rintro e wo0 ⟨rfl, h, k⟩
  have HT' := hide (HT.out.keep k (fun e => HNG.out e.symm))
  have HX' := hide (HX.out.keep k (fun e => HGQ.out e.symm))
  have HB' := hide (HB.out.trans k)
  have HR' := hide h
  have HS0 : Hid (secR intR 16384 t0 = iterR intR (manyR 16384 t0).1 (manyR 16384 t0).2) := hide rfl
  have hn0 := manyR_le 16384 t0
  clear HM HT HX HB HR h k
  generalize (manyR 16384 t0).1 = n0 at *
  generalize (manyR 16384 t0).2 = s0 at *
  have HNO : Hid (N ≤ wo0.heap.size) := hide (by have := HT'.out.lt; omega)
  have HGO : Hid (g < wo0.heap.size) := hide HR'.out.lt
  go_wp2_with fail
  go_loopw [9] (fun i wr => ∃ (k : Nat) (A : Option Addr) (c : Nat), k ≤ n0 ∧ i = .int .i64 k ∧ Hid (Gx wr q 33 [.slice A k c, .slice none 0 0, .slice none 0 0, .slice none 0 0, .slice none 0 0] 0 wo0.heap.size 2 1 k ((iterR intR k s0).1.map (Value.int .i64)) (.slice A k c)) ∧ Hid (Rl wr g (iterR intR k s0).2) ∧ Hid (Keep (fun i => i = g ∨ i = q) wo0 wr)) (fun i _ => n0 - (intOf i).toNat)
  case atStart => exact ⟨0, none, 0, Nat.zero_le _, rfl, hide ⟨HX'.out, rfl, World.ownsRow_nil _ _ _ _, by decide⟩, HR', hide (Keep.refl _ _)⟩
  case round =>
    obtain ⟨k, A, c, hk, rfl, HGX, HRL, HKP⟩ := hrel
    by_cases hlt : k < n0
    · skip
      have HK2 : Hid (k < 16384) := hide (by omega)
      have HGL : Hid (g < wr.heap.size) := hide HRL.out.lt
      have HGB : Hid (wo0.heap.size ≤ wr.heap.size) := hide HKP.out.size
      have HGV : Hid ((Value.slice A k c).ownBlock ≠ some g) := hide (fun e => by have := own_base HGX.out.own e; have := HGO.out; omega)
      have HXX : Hid ((iterR intR (k + 1) s0).1 = (iterR intR k s0).1 ++ [(intR (iterR intR k s0).2).1] ∧ (iterR intR (k + 1) s0).2 = (intR (iterR intR k s0).2).2) := hide ⟨rfl, rfl⟩
      generalize (iterR intR k s0).2 = X at HRL HXX
      go_upto_region 4 with fail
      refine region_app (q := q) (j := 0) (B := wo0.heap.size) (sz := 1) (n := k) (T := 33) (e := 2) (cs := [.slice A k c, .slice none 0 0, .slice none 0 0, .slice none 0 0, .slice none 0 0]) (xs := (iterR intR k s0).1.map (Value.int .i64)) (news := [.int .i64 (intR X).1]) (v := .slice A k c) (by kernel_rfl) [⟨0, some 11, false, [0, 1, 2, 3], []⟩, ⟨1, some 12, false, [0, 1], [11]⟩, ⟨2, some 13, false, [0, 1, 2, 3], []⟩, ⟨3, some 14, true, [0], [13]⟩, ⟨4, some 15, false, [0, 1], [14]⟩, ⟨5, some 16, true, [1], [12, 15]⟩, ⟨6, some 17, false, [0, 1, 2, 3], []⟩, ⟨7, none, true, [2], [17, 16]⟩] [3, 5, 7] (fun d => match d with | 11 => .is (.pointer (some ⟨q, 0, none⟩)) | 12 => .is (.slice A k c) | 13 => .is (.pointer (some ⟨g, 0, none⟩)) | 14 => .is (.int .i64 (intR X).1) | 15 => .lit 1 2 ([.int .i64 (intR X).1]).toArray | 16 => .app (wo0.heap.size) 2 1 (k + 1) ((iterR intR k s0).1.map (Value.int .i64) ++ [.int .i64 (intR X).1]) | 17 => .is (.pointer (some ⟨q, 0, none⟩)) | _ => .any) (fun i => i = g) 1 (RlX g (fun k => match k with | 0 => X | _ => (intR X).2)) (RlX.ok HGQ.out HGV.out) (by kernel_rfl) rfl HRL.out ?obs ?hend
      case obs =>
        refine List.forall_mem_cons.2 ⟨?_, ?_⟩
        · refine ObA.pure (by rfl) (.pointer (some ⟨q, 0, none⟩)) rfl ?_
          intro z w' k hz G hG
          simp only [putsAt, List.foldl]
          unfold Runs
          go_simp
          exact hG
        refine List.forall_mem_cons.2 ⟨?_, ?_⟩
        · refine ObA.load (by rfl) (by decide) (.slice A k c) rfl ?_
          intro z w' k hkp hz G hG
          have e11 : z 11 = .pointer (some ⟨q, 0, none⟩) := hz 11 (by simp)
          have hc := (HGX.out.keep hkp (fun e => HGQ.out e.symm) (fun k hk e => HGV.out (by rw [hk, e]))).cell
          simp only [putsAt, List.foldl, e11]
          unfold Runs
          go_simp
          exact hG
        refine List.forall_mem_cons.2 ⟨?_, ?_⟩
        · refine ObA.pure (by rfl) (.pointer (some ⟨g, 0, none⟩)) rfl ?_
          intro z w' k hz G hG
          simp only [putsAt, List.foldl]
          unfold Runs
          go_simp
          exact hG
        refine List.forall_mem_cons.2 ⟨?_, ?_⟩
        · refine ObA.read (by rfl) (by decide) (fun i h => by have := HGL.out; omega) (.int .i64 (intR X).1) rfl ?_
          intro z w' hr0 hz G hG
          have hr : Rl w' g (X) := hr0
          clear hr0
          have e13 : z 13 = .pointer (some ⟨g, 0, none⟩) := hz 13 (by simp)
          simp only [putsAt, List.foldl, e13]
          unfold Runs
          go_simp
          refine (rint_any g X w' hr).mono ?_
          rintro e w2 ⟨rfl, h1, h2⟩
          exact ⟨_, rfl, hG _ h1 h2⟩
        refine List.forall_mem_cons.2 ⟨?_, ?_⟩
        · refine ObA.lit (by rfl) (by decide) rfl (fun i h => by have := HGL.out; omega) (RlX.ok HGQ.out HGV.out) ?_
          intro z w' k hz G hG
          have e14 : z 14 = .int .i64 (intR X).1 := hz 14 (by simp)
          simp only [putsAt, List.foldl, e14]
          unfold Runs
          go_simp
          exact hG
        refine List.forall_mem_cons.2 ⟨?_, ?_⟩
        · refine ObA.app (by rfl) rfl 27 rfl Tryd.underlying27 (.int .i64 0) 8 i64_info rfl (by decide) HGX.out (fun e => HGQ.out e.symm) (fun k hk e => HGV.out (by rw [hk, e])) HGB.out rfl rfl rfl ?_ rfl (by intro u hu; simp only [List.mem_cons, List.not_mem_nil, or_false] at hu; subst hu; rfl) (by unfold maxLen; have := HK2.out; omega) (by have := HK2.out; omega) (by simp) (by simp)
          intro d' hd' B e sz n xs
          split <;> first | (intro h; cases h; done) | exact absurd rfl hd'
        refine List.forall_mem_cons.2 ⟨?_, ?_⟩
        · refine ObA.pure (by rfl) (.pointer (some ⟨q, 0, none⟩)) rfl ?_
          intro z w' k hz G hG
          simp only [putsAt, List.foldl]
          unfold Runs
          go_simp
          exact hG
        refine List.forall_mem_cons.2 ⟨?_, ?_⟩
        · refine ObA.store (by rfl) rfl HGX.out (fun e => HGQ.out e.symm) (fun k hk e => HGV.out (by rw [hk, e])) (RlX.ok HGQ.out HGV.out) rfl rfl ?_
          intro z w' ep hc hf A c ex G hG
          simp only [putsAt, List.foldl, ep, ex]
          unfold Runs
          go_simp
          exact hG
        exact List.forall_mem_nil _
      case hend =>
        intro z w' A2 c2 hg2 hr20 hk20
        have hk2 : Keep (fun i => i = g ∨ i = q ∨ some i = (Value.slice A k c).ownBlock) _ w' := hk20
        clear hk20
        have hr2 : Rl w' g ((intR X).2) := hr20
        clear hr20
        simp only [putsAt, List.foldl, dstsOf, List.filterMap, Act.put, List.setIfInBounds_toArray, List.set_cons_zero, List.set_cons_succ]
        simp only [List.set_cons_zero] at hg2
        generalize z 11 = y11
        generalize z 12 = y12
        generalize z 13 = y13
        generalize z 14 = y14
        generalize z 15 = y15
        generalize z 16 = y16
        generalize z 17 = y17
        have HG5 : Hid (Gx w' q 33 [.slice A2 (k + 1) c2, .slice none 0 0, .slice none 0 0, .slice none 0 0, .slice none 0 0] 0 wo0.heap.size 2 1 (k + 1) ((iterR intR (k + 1) s0).1.map (Value.int .i64)) (.slice A2 (k + 1) c2)) := hide (by rw [HXX.out.1, List.map_append, List.map_cons, List.map_nil]; exact hg2)
        have HR5 : Hid (Rl w' g (iterR intR (k + 1) s0).2) := hide (by rw [HXX.out.2]; exact hr2)
        have HK5 : Hid (Keep (fun i => i = g ∨ i = q) wo0 w') := hide (HKP.out.trans' hk2 (fun i hi h => by
          rcases h with h | h | h
          · exact .inl h
          · exact .inr h
          · have := own_base HGX.out.own h.symm; omega))
        clear hg2 hr2 hk2 HGX HRL HKP HXX
        go_wp2_with fail
        go_roundw
        case rel => exact ⟨k + 1, A2, c2, by omega, by go_num, HG5, HR5, HK5⟩
        case measure => simp [intOf]; omega
    · skip
      obtain rfl : n0 = k := by omega
      have HT := hide (HT'.out.keep HKP.out (fun h => h.elim (fun h => HNG.out h.symm) HNQ.out))
      have HB := hide (HB'.out.trans' HKP.out (fun i hi h => h.elim id (fun h => by have := HNN.out; have := HQN.out; omega)))
      have HO0 : Hid (wr.ownsRow N 2 1 (.slice A n0 c) n0 ((iterR intR n0 s0).1.map (Value.int .i64))) := hide (own_base_mono HGX.out.own HNO.out)
      have HX := hide HGX.out.blk
      have HR := HRL
      have HW0 := hide (iterR_all (p := i64In) intR_in n0 s0)
      have HL0 : Hid ((iterR intR n0 s0).1.length = n0) := hide (iterR_len _ _ _)
      clear HGX HRL HKP HT' HX' HB' HR' HNO HGO
      obtain ⟨A0, hA0⟩ : ∃ A', A' = A := ⟨_, rfl⟩
      obtain ⟨c0, hc0⟩ : ∃ c', c' = c := ⟨_, rfl⟩
      subst hA0 hc0
      obtain ⟨wu, rfl⟩ : ∃ wu : World, wu = wr := ⟨_, rfl⟩
      have HT0 : Hid (secR intR 16384 t0 = ((iterR intR n0 s0).1, (iterR intR n0 s0).2)) := HS0
      clear HS0
      generalize (iterR intR n0 s0).1 = L0 at *
      generalize (iterR intR n0 s0).2 = t1 at *
      have HM := hide (rmany16 g t1 wu HR.out)
      go_wp2_with (first | fail)
      refine HM.out.mono ?_
      rintro e wo1 ⟨rfl, h, k⟩
      have HT' := hide (HT.out.keep k (fun e => HNG.out e.symm))
      have HX' := hide (HX.out.keep k (fun e => HGQ.out e.symm))
      have HB' := hide (HB.out.trans k)
      have HR' := hide h
      have HO0' := hide (own_keep HO0.out k (fun i hi e => by have := own_base HO0.out hi; have := HGN.out; omega))
      have HS1 : Hid (secR (textR 40) 16384 t1 = iterR (textR 40) (manyR 16384 t1).1 (manyR 16384 t1).2) := hide rfl
      have hn1 := manyR_le 16384 t1
      clear HM HT HX HB HR h k HO0
      generalize (manyR 16384 t1).1 = n1 at *
      generalize (manyR 16384 t1).2 = s1 at *
      have HNO : Hid (N ≤ wo1.heap.size) := hide (by have := HT'.out.lt; omega)
      have HGO : Hid (g < wo1.heap.size) := hide HR'.out.lt
      go_wp2_with fail
      go_loopw [21] (fun i wr => ∃ (k : Nat) (A : Option Addr) (c : Nat), k ≤ n1 ∧ i = .int .i64 k ∧ Hid (Gx wr q 33 [.slice A0 n0 c0, .slice A k c, .slice none 0 0, .slice none 0 0, .slice none 0 0] 1 wo1.heap.size 9 1 k ((iterR (textR 40) k s1).1.map S) (.slice A k c)) ∧ Hid (Rl wr g (iterR (textR 40) k s1).2) ∧ Hid (Keep (fun i => i = g ∨ i = q) wo1 wr)) (fun i _ => n1 - (intOf i).toNat)
      case atStart => exact ⟨0, none, 0, Nat.zero_le _, rfl, hide ⟨HX'.out, rfl, World.ownsRow_nil _ _ _ _, by decide⟩, HR', hide (Keep.refl _ _)⟩
      case round =>
        obtain ⟨k, A, c, hk, rfl, HGX, HRL, HKP⟩ := hrel
        by_cases hlt : k < n1
        · skip
          have HK2 : Hid (k < 16384) := hide (by omega)
          have HGL : Hid (g < wr.heap.size) := hide HRL.out.lt
          have HGB : Hid (wo1.heap.size ≤ wr.heap.size) := hide HKP.out.size
          have HGV : Hid ((Value.slice A k c).ownBlock ≠ some g) := hide (fun e => by have := own_base HGX.out.own e; have := HGO.out; omega)
          have HXX : Hid ((iterR (textR 40) (k + 1) s1).1 = (iterR (textR 40) k s1).1 ++ [((textR 40) (iterR (textR 40) k s1).2).1] ∧ (iterR (textR 40) (k + 1) s1).2 = ((textR 40) (iterR (textR 40) k s1).2).2) := hide ⟨rfl, rfl⟩
          generalize (iterR (textR 40) k s1).2 = X at HRL HXX
          go_upto_region 8 with fail
          refine region_app (q := q) (j := 1) (B := wo1.heap.size) (sz := 1) (n := k) (T := 33) (e := 9) (cs := [.slice A0 n0 c0, .slice A k c, .slice none 0 0, .slice none 0 0, .slice none 0 0]) (xs := (iterR (textR 40) k s1).1.map S) (news := [S (textR 40 X).1]) (v := .slice A k c) (by kernel_rfl) [⟨0, some 23, false, [0, 1, 2, 3], []⟩, ⟨1, some 24, false, [0, 1], [23]⟩, ⟨2, some 25, false, [0, 1, 2, 3], []⟩, ⟨3, some 26, true, [0], [25]⟩, ⟨4, some 27, false, [0, 1], [26]⟩, ⟨5, some 28, true, [1], [24, 27]⟩, ⟨6, some 29, false, [0, 1, 2, 3], []⟩, ⟨7, none, true, [2], [29, 28]⟩] [3, 5, 7] (fun d => match d with | 23 => .is (.pointer (some ⟨q, 1, none⟩)) | 24 => .is (.slice A k c) | 25 => .is (.pointer (some ⟨g, 0, none⟩)) | 26 => .is (S (textR 40 X).1) | 27 => .lit 1 9 ([S (textR 40 X).1]).toArray | 28 => .app (wo1.heap.size) 9 1 (k + 1) ((iterR (textR 40) k s1).1.map S ++ [S (textR 40 X).1]) | 29 => .is (.pointer (some ⟨q, 1, none⟩)) | _ => .any) (fun i => i = g) 1 (RlX g (fun k => match k with | 0 => X | _ => ((textR 40) X).2)) (RlX.ok HGQ.out HGV.out) (by kernel_rfl) rfl HRL.out ?obs ?hend
          case obs =>
            refine List.forall_mem_cons.2 ⟨?_, ?_⟩
            · refine ObA.pure (by rfl) (.pointer (some ⟨q, 1, none⟩)) rfl ?_
              intro z w' k hz G hG
              simp only [putsAt, List.foldl]
              unfold Runs
              go_simp
              exact hG
            refine List.forall_mem_cons.2 ⟨?_, ?_⟩
            · refine ObA.load (by rfl) (by decide) (.slice A k c) rfl ?_
              intro z w' k hkp hz G hG
              have e23 : z 23 = .pointer (some ⟨q, 1, none⟩) := hz 23 (by simp)
              have hc := (HGX.out.keep hkp (fun e => HGQ.out e.symm) (fun k hk e => HGV.out (by rw [hk, e]))).cell
              simp only [putsAt, List.foldl, e23]
              unfold Runs
              go_simp
              exact hG
            refine List.forall_mem_cons.2 ⟨?_, ?_⟩
            · refine ObA.pure (by rfl) (.pointer (some ⟨g, 0, none⟩)) rfl ?_
              intro z w' k hz G hG
              simp only [putsAt, List.foldl]
              unfold Runs
              go_simp
              exact hG
            refine List.forall_mem_cons.2 ⟨?_, ?_⟩
            · refine ObA.read (by rfl) (by decide) (fun i h => by have := HGL.out; omega) (S (textR 40 X).1) rfl ?_
              intro z w' hr0 hz G hG
              have hr : Rl w' g (X) := hr0
              clear hr0
              have e25 : z 25 = .pointer (some ⟨g, 0, none⟩) := hz 25 (by simp)
              simp only [putsAt, List.foldl, e25]
              unfold Runs
              go_simp
              refine (rtext40 g X w' hr).mono ?_
              rintro e w2 ⟨rfl, h1, h2⟩
              exact ⟨_, rfl, hG _ h1 h2⟩
            refine List.forall_mem_cons.2 ⟨?_, ?_⟩
            · refine ObA.lit (by rfl) (by decide) rfl (fun i h => by have := HGL.out; omega) (RlX.ok HGQ.out HGV.out) ?_
              intro z w' k hz G hG
              have e26 : z 26 = S (textR 40 X).1 := hz 26 (by simp)
              simp only [putsAt, List.foldl, e26]
              unfold Runs
              go_simp
              exact hG
            refine List.forall_mem_cons.2 ⟨?_, ?_⟩
            · refine ObA.app (by rfl) rfl 28 rfl Tryd.underlying28 (S []) 16 str_info rfl (by decide) HGX.out (fun e => HGQ.out e.symm) (fun k hk e => HGV.out (by rw [hk, e])) HGB.out rfl rfl rfl ?_ rfl (by intro u hu; simp only [List.mem_cons, List.not_mem_nil, or_false] at hu; subst hu; rfl) (by unfold maxLen; have := HK2.out; omega) (by have := HK2.out; omega) (by simp) (by simp)
              intro d' hd' B e sz n xs
              split <;> first | (intro h; cases h; done) | exact absurd rfl hd'
            refine List.forall_mem_cons.2 ⟨?_, ?_⟩
            · refine ObA.pure (by rfl) (.pointer (some ⟨q, 1, none⟩)) rfl ?_
              intro z w' k hz G hG
              simp only [putsAt, List.foldl]
              unfold Runs
              go_simp
              exact hG
            refine List.forall_mem_cons.2 ⟨?_, ?_⟩
            · refine ObA.store (by rfl) rfl HGX.out (fun e => HGQ.out e.symm) (fun k hk e => HGV.out (by rw [hk, e])) (RlX.ok HGQ.out HGV.out) rfl rfl ?_
              intro z w' ep hc hf A c ex G hG
              simp only [putsAt, List.foldl, ep, ex]
              unfold Runs
              go_simp
              exact hG
            exact List.forall_mem_nil _
          case hend =>
            intro z w' A2 c2 hg2 hr20 hk20
            have hk2 : Keep (fun i => i = g ∨ i = q ∨ some i = (Value.slice A k c).ownBlock) _ w' := hk20
            clear hk20
            have hr2 : Rl w' g (((textR 40) X).2) := hr20
            clear hr20
            simp only [putsAt, List.foldl, dstsOf, List.filterMap, Act.put, List.setIfInBounds_toArray, List.set_cons_zero, List.set_cons_succ]
            simp only [List.set_cons_zero, List.set_cons_succ] at hg2
            generalize z 23 = y23
            generalize z 24 = y24
            generalize z 25 = y25
            generalize z 26 = y26
            generalize z 27 = y27
            generalize z 28 = y28
            generalize z 29 = y29
            have HG5 : Hid (Gx w' q 33 [.slice A0 n0 c0, .slice A2 (k + 1) c2, .slice none 0 0, .slice none 0 0, .slice none 0 0] 1 wo1.heap.size 9 1 (k + 1) ((iterR (textR 40) (k + 1) s1).1.map S) (.slice A2 (k + 1) c2)) := hide (by rw [HXX.out.1, List.map_append, List.map_cons, List.map_nil]; exact hg2)
            have HR5 : Hid (Rl w' g (iterR (textR 40) (k + 1) s1).2) := hide (by rw [HXX.out.2]; exact hr2)
            have HK5 : Hid (Keep (fun i => i = g ∨ i = q) wo1 w') := hide (HKP.out.trans' hk2 (fun i hi h => by
              rcases h with h | h | h
              · exact .inl h
              · exact .inr h
              · have := own_base HGX.out.own h.symm; omega))
            clear hg2 hr2 hk2 HGX HRL HKP HXX
            go_wp2_with fail
            go_roundw
            case rel => exact ⟨k + 1, A2, c2, by omega, by go_num, HG5, HR5, HK5⟩
            case measure => simp [intOf]; omega
        · skip
          obtain rfl : n1 = k := by omega
          have HT := hide (HT'.out.keep HKP.out (fun h => h.elim (fun h => HNG.out h.symm) HNQ.out))
          have HB := hide (HB'.out.trans' HKP.out (fun i hi h => h.elim id (fun h => by have := HNN.out; have := HQN.out; omega)))
          have HO0 := hide (own_gq HO0'.out HGN.out HX'.out (by decide) HKP.out)
          have HO1 : Hid (wr.ownsRow N 9 1 (.slice A n1 c) n1 ((iterR (textR 40) n1 s1).1.map S)) := hide (own_base_mono HGX.out.own HNO.out)
          have HX := hide HGX.out.blk
          have HR := HRL
          have HW1 := hide (iterR_all (p := short) textR_short n1 s1)
          have HL1 : Hid ((iterR (textR 40) n1 s1).1.length = n1) := hide (iterR_len _ _ _)
          clear HGX HRL HKP HT' HX' HB' HR' HNO HGO HO0'
          obtain ⟨A1, hA1⟩ : ∃ A', A' = A := ⟨_, rfl⟩
          obtain ⟨c1, hc1⟩ : ∃ c', c' = c := ⟨_, rfl⟩
          subst hA1 hc1
          obtain ⟨wu, rfl⟩ : ∃ wu : World, wu = wr := ⟨_, rfl⟩
          have HT1 : Hid (secR (textR 40) 16384 t1 = ((iterR (textR 40) n1 s1).1, (iterR (textR 40) n1 s1).2)) := HS1
          clear HS1
          generalize (iterR (textR 40) n1 s1).1 = L1 at *
          generalize (iterR (textR 40) n1 s1).2 = t2 at *
          have HM := hide (rmany16 g t2 wu HR.out)
          go_wp2_with (first | fail)
          refine HM.out.mono ?_
          rintro e wo2 ⟨rfl, h, k⟩
          have HT' := hide (HT.out.keep k (fun e => HNG.out e.symm))
          have HX' := hide (HX.out.keep k (fun e => HGQ.out e.symm))
          have HB' := hide (HB.out.trans k)
          have HR' := hide h
          have HO0' := hide (own_keep HO0.out k (fun i hi e => by have := own_base HO0.out hi; have := HGN.out; omega))
          have HO1' := hide (own_keep HO1.out k (fun i hi e => by have := own_base HO1.out hi; have := HGN.out; omega))
          have HS2 : Hid (secR tyR 16384 t2 = iterR tyR (manyR 16384 t2).1 (manyR 16384 t2).2) := hide rfl
          have hn2 := manyR_le 16384 t2
          clear HM HT HX HB HR h k HO0 HO1
          generalize (manyR 16384 t2).1 = n2 at *
          generalize (manyR 16384 t2).2 = s2 at *
          have HNO : Hid (N ≤ wo2.heap.size) := hide (by have := HT'.out.lt; omega)
          have HGO : Hid (g < wo2.heap.size) := hide HR'.out.lt
          go_wp2_with fail
          go_loopw [33] (fun i wr => ∃ (k : Nat) (A : Option Addr) (c : Nat), k ≤ n2 ∧ i = .int .i64 k ∧ Hid (Gx wr q 33 [.slice A0 n0 c0, .slice A1 n1 c1, .slice A k c, .slice none 0 0, .slice none 0 0] 2 wo2.heap.size 49 2 k ((iterR tyR k s2).1.flatMap Ty.cells) (.slice A k c)) ∧ Hid (Rl wr g (iterR tyR k s2).2) ∧ Hid (Keep (fun i => i = g ∨ i = q) wo2 wr)) (fun i _ => n2 - (intOf i).toNat)
          case atStart => exact ⟨0, none, 0, Nat.zero_le _, rfl, hide ⟨HX'.out, rfl, World.ownsRow_nil _ _ _ _, by decide⟩, HR', hide (Keep.refl _ _)⟩
          case round =>
            obtain ⟨k, A, c, hk, rfl, HGX, HRL, HKP⟩ := hrel
            by_cases hlt : k < n2
            · skip
              have HK2 : Hid (k < 16384) := hide (by omega)
              have HGL : Hid (g < wr.heap.size) := hide HRL.out.lt
              have HGB : Hid (wo2.heap.size ≤ wr.heap.size) := hide HKP.out.size
              have HGV : Hid ((Value.slice A k c).ownBlock ≠ some g) := hide (fun e => by have := own_base HGX.out.own e; have := HGO.out; omega)
              have HXX : Hid ((iterR tyR (k + 1) s2).1 = (iterR tyR k s2).1 ++ [(tyR (iterR tyR k s2).2).1] ∧ (iterR tyR (k + 1) s2).2 = (tyR (iterR tyR k s2).2).2) := hide ⟨rfl, rfl⟩
              generalize (iterR tyR k s2).2 = X at HRL HXX
              go_upto_region 12 with fail
              refine region_app (q := q) (j := 2) (B := wo2.heap.size) (sz := 2) (n := k) (T := 33) (e := 49) (cs := [.slice A0 n0 c0, .slice A1 n1 c1, .slice A k c, .slice none 0 0, .slice none 0 0]) (xs := (iterR tyR k s2).1.flatMap Ty.cells) (news := [S (tyR X).1.n, .bool (tyR X).1.a]) (v := .slice A k c) (by kernel_rfl) [⟨0, some 35, false, [0, 1, 2, 3], []⟩, ⟨1, some 36, false, [0, 1], [35]⟩, ⟨2, some 37, false, [0, 1, 2, 3], []⟩, ⟨3, some 38, true, [0], [37]⟩, ⟨4, some 39, false, [0, 1], [38]⟩, ⟨5, some 40, true, [1], [36, 39]⟩, ⟨6, some 41, false, [0, 1, 2, 3], []⟩, ⟨7, none, true, [2], [41, 40]⟩] [3, 5, 7] (fun d => match d with | 35 => .is (.pointer (some ⟨q, 2, none⟩)) | 36 => .is (.slice A k c) | 37 => .is (.pointer (some ⟨g, 0, none⟩)) | 38 => .is ((tyR X).1.val) | 39 => .lit 1 49 ([S (tyR X).1.n, .bool (tyR X).1.a]).toArray | 40 => .app (wo2.heap.size) 49 2 (k + 1) ((iterR tyR k s2).1.flatMap Ty.cells ++ [S (tyR X).1.n, .bool (tyR X).1.a]) | 41 => .is (.pointer (some ⟨q, 2, none⟩)) | _ => .any) (fun i => i = g) 1 (RlX g (fun k => match k with | 0 => X | _ => (tyR X).2)) (RlX.ok HGQ.out HGV.out) (by kernel_rfl) rfl HRL.out ?obs ?hend
              case obs =>
                refine List.forall_mem_cons.2 ⟨?_, ?_⟩
                · refine ObA.pure (by rfl) (.pointer (some ⟨q, 2, none⟩)) rfl ?_
                  intro z w' k hz G hG
                  simp only [putsAt, List.foldl]
                  unfold Runs
                  go_simp
                  exact hG
                refine List.forall_mem_cons.2 ⟨?_, ?_⟩
                · refine ObA.load (by rfl) (by decide) (.slice A k c) rfl ?_
                  intro z w' k hkp hz G hG
                  have e35 : z 35 = .pointer (some ⟨q, 2, none⟩) := hz 35 (by simp)
                  have hc := (HGX.out.keep hkp (fun e => HGQ.out e.symm) (fun k hk e => HGV.out (by rw [hk, e]))).cell
                  simp only [putsAt, List.foldl, e35]
                  unfold Runs
                  go_simp
                  exact hG
                refine List.forall_mem_cons.2 ⟨?_, ?_⟩
                · refine ObA.pure (by rfl) (.pointer (some ⟨g, 0, none⟩)) rfl ?_
                  intro z w' k hz G hG
                  simp only [putsAt, List.foldl]
                  unfold Runs
                  go_simp
                  exact hG
                refine List.forall_mem_cons.2 ⟨?_, ?_⟩
                · refine ObA.read (by rfl) (by decide) (fun i h => by have := HGL.out; omega) ((tyR X).1.val) rfl ?_
                  intro z w' hr0 hz G hG
                  have hr : Rl w' g (X) := hr0
                  clear hr0
                  have e37 : z 37 = .pointer (some ⟨g, 0, none⟩) := hz 37 (by simp)
                  simp only [putsAt, List.foldl, e37]
                  unfold Runs
                  go_simp
                  refine (rtype_any g X w' hr).mono ?_
                  rintro e w2 ⟨rfl, h1, h2⟩
                  exact ⟨_, rfl, hG _ h1 h2⟩
                refine List.forall_mem_cons.2 ⟨?_, ?_⟩
                · refine ObA.lit (by rfl) (by decide) rfl (fun i h => by have := HGL.out; omega) (RlX.ok HGQ.out HGV.out) ?_
                  intro z w' k hz G hG
                  have e38 : z 38 = (tyR X).1.val := hz 38 (by simp)
                  simp only [putsAt, List.foldl, e38]
                  unfold Runs
                  go_simp
                  exact hG
                refine List.forall_mem_cons.2 ⟨?_, ?_⟩
                · refine ObA.app (by rfl) rfl 29 rfl Tryd.underlying29 (.agg #[S [], .bool false]) 24 ty_info rfl (by decide) HGX.out (fun e => HGQ.out e.symm) (fun k hk e => HGV.out (by rw [hk, e])) HGB.out rfl rfl rfl ?_ rfl (by intro u hu; simp only [List.mem_cons, List.not_mem_nil, or_false] at hu; rcases hu with rfl | rfl <;> rfl) (by unfold maxLen; have := HK2.out; omega) (by have := HK2.out; omega) (by simp) (by simp)
                  intro d' hd' B e sz n xs
                  split <;> first | (intro h; cases h; done) | exact absurd rfl hd'
                refine List.forall_mem_cons.2 ⟨?_, ?_⟩
                · refine ObA.pure (by rfl) (.pointer (some ⟨q, 2, none⟩)) rfl ?_
                  intro z w' k hz G hG
                  simp only [putsAt, List.foldl]
                  unfold Runs
                  go_simp
                  exact hG
                refine List.forall_mem_cons.2 ⟨?_, ?_⟩
                · refine ObA.store (by rfl) rfl HGX.out (fun e => HGQ.out e.symm) (fun k hk e => HGV.out (by rw [hk, e])) (RlX.ok HGQ.out HGV.out) rfl rfl ?_
                  intro z w' ep hc hf A c ex G hG
                  simp only [putsAt, List.foldl, ep, ex]
                  unfold Runs
                  go_simp
                  exact hG
                exact List.forall_mem_nil _
              case hend =>
                intro z w' A2 c2 hg2 hr20 hk20
                have hk2 : Keep (fun i => i = g ∨ i = q ∨ some i = (Value.slice A k c).ownBlock) _ w' := hk20
                clear hk20
                have hr2 : Rl w' g ((tyR X).2) := hr20
                clear hr20
                simp only [putsAt, List.foldl, dstsOf, List.filterMap, Act.put, List.setIfInBounds_toArray, List.set_cons_zero, List.set_cons_succ]
                simp only [List.set_cons_zero, List.set_cons_succ] at hg2
                generalize z 35 = y35
                generalize z 36 = y36
                generalize z 37 = y37
                generalize z 38 = y38
                generalize z 39 = y39
                generalize z 40 = y40
                generalize z 41 = y41
                have HG5 : Hid (Gx w' q 33 [.slice A0 n0 c0, .slice A1 n1 c1, .slice A2 (k + 1) c2, .slice none 0 0, .slice none 0 0] 2 wo2.heap.size 49 2 (k + 1) ((iterR tyR (k + 1) s2).1.flatMap Ty.cells) (.slice A2 (k + 1) c2)) := hide (by rw [HXX.out.1, List.flatMap_append, List.flatMap_singleton]; exact hg2)
                have HR5 : Hid (Rl w' g (iterR tyR (k + 1) s2).2) := hide (by rw [HXX.out.2]; exact hr2)
                have HK5 : Hid (Keep (fun i => i = g ∨ i = q) wo2 w') := hide (HKP.out.trans' hk2 (fun i hi h => by
                  rcases h with h | h | h
                  · exact .inl h
                  · exact .inr h
                  · have := own_base HGX.out.own h.symm; omega))
                clear hg2 hr2 hk2 HGX HRL HKP HXX
                go_wp2_with fail
                go_roundw
                case rel => exact ⟨k + 1, A2, c2, by omega, by go_num, HG5, HR5, HK5⟩
                case measure => simp [intOf]; omega
            · skip
              obtain rfl : n2 = k := by omega
              have HT := hide (HT'.out.keep HKP.out (fun h => h.elim (fun h => HNG.out h.symm) HNQ.out))
              have HB := hide (HB'.out.trans' HKP.out (fun i hi h => h.elim id (fun h => by have := HNN.out; have := HQN.out; omega)))
              have HO0 := hide (own_gq HO0'.out HGN.out HX'.out (by decide) HKP.out)
              have HO1 := hide (own_gq HO1'.out HGN.out HX'.out (by decide) HKP.out)
              have HO2 : Hid (wr.ownsRow N 49 2 (.slice A n2 c) n2 ((iterR tyR n2 s2).1.flatMap Ty.cells)) := hide (own_base_mono HGX.out.own HNO.out)
              have HX := hide HGX.out.blk
              have HR := HRL
              have HW2 := hide (iterR_all (p := Ty.ok) tyR_ok n2 s2)
              have HL2 : Hid ((iterR tyR n2 s2).1.length = n2) := hide (iterR_len _ _ _)
              clear HGX HRL HKP HT' HX' HB' HR' HNO HGO HO0' HO1'
              obtain ⟨A2, hA2⟩ : ∃ A', A' = A := ⟨_, rfl⟩
              obtain ⟨c2, hc2⟩ : ∃ c', c' = c := ⟨_, rfl⟩
              subst hA2 hc2
              obtain ⟨wu, rfl⟩ : ∃ wu : World, wu = wr := ⟨_, rfl⟩
              have HT2 : Hid (secR tyR 16384 t2 = ((iterR tyR n2 s2).1, (iterR tyR n2 s2).2)) := HS2
              clear HS2
              generalize (iterR tyR n2 s2).1 = L2 at *
              generalize (iterR tyR n2 s2).2 = t3 at *
              have HM := hide (rmany16 g t3 wu HR.out)
              go_wp2_with (first | fail)
              refine HM.out.mono ?_
              rintro e wo3 ⟨rfl, h, k⟩
              have HT' := hide (HT.out.keep k (fun e => HNG.out e.symm))
              have HX' := hide (HX.out.keep k (fun e => HGQ.out e.symm))
              have HB' := hide (HB.out.trans k)
              have HR' := hide h
              have HO0' := hide (own_keep HO0.out k (fun i hi e => by have := own_base HO0.out hi; have := HGN.out; omega))
              have HO1' := hide (own_keep HO1.out k (fun i hi e => by have := own_base HO1.out hi; have := HGN.out; omega))
              have HO2' := hide (own_keep HO2.out k (fun i hi e => by have := own_base HO2.out hi; have := HGN.out; omega))
              have HS3 : Hid (secR fdR 16384 t3 = iterR fdR (manyR 16384 t3).1 (manyR 16384 t3).2) := hide rfl
              have hn3 := manyR_le 16384 t3
              clear HM HT HX HB HR h k HO0 HO1 HO2
              generalize (manyR 16384 t3).1 = n3 at *
              generalize (manyR 16384 t3).2 = s3 at *
              have HNO : Hid (N ≤ wo3.heap.size) := hide (by have := HT'.out.lt; omega)
              have HGO : Hid (g < wo3.heap.size) := hide HR'.out.lt
              go_wp2_with fail
              go_loopw [45] (fun i wr => ∃ (k : Nat) (A : Option Addr) (c : Nat), k ≤ n3 ∧ i = .int .i64 k ∧ Hid (Gx wr q 33 [.slice A0 n0 c0, .slice A1 n1 c1, .slice A2 n2 c2, .slice A k c, .slice none 0 0] 3 wo3.heap.size 92 4 k ((iterR fdR k s3).1.flatMap FdP.cells) (.slice A k c)) ∧ Hid (Rl wr g (iterR fdR k s3).2) ∧ Hid (Keep (fun i => i = g ∨ i = q) wo3 wr)) (fun i _ => n3 - (intOf i).toNat)
              case atStart => exact ⟨0, none, 0, Nat.zero_le _, rfl, hide ⟨HX'.out, rfl, World.ownsRow_nil _ _ _ _, by decide⟩, HR', hide (Keep.refl _ _)⟩
              case round =>
                obtain ⟨k, A, c, hk, rfl, HGX, HRL, HKP⟩ := hrel
                obtain ⟨wu, rfl⟩ : ∃ wu : World, wu = wr := ⟨_, rfl⟩
                by_cases hlt : k < n3
                · skip
                  have HXX : Hid ((iterR fdR (k + 1) s3).1 = (iterR fdR k s3).1 ++ [(fdR (iterR fdR k s3).2).1] ∧ (iterR fdR (k + 1) s3).2 = (fdR (iterR fdR k s3).2).2) := hide ⟨rfl, rfl⟩
                  generalize (iterR fdR k s3).2 = X at HRL HXX
                  have HFD : Hid (fdR X = (⟨⟨(textR 40 (textR 40 X).2).1, (tyR (textR 40 (textR 40 X).2).2).1⟩, (textR 40 X).1⟩, (tyR (textR 40 (textR 40 X).2).2).2)) := hide rfl
                  have HLR : Hid (g < wu.heap.size) := hide HRL.out.lt
                  have HMR : Hid (wo3.heap.size ≤ wu.heap.size) := hide HKP.out.size
                  have H1 := hide (rtext40 g X wu HRL.out)
                  go_upto_region 17 with (go_at_call 37; refine H1.out.mono ?_; rintro e w1 ⟨rfl, h1, k1⟩)
                  refine name_world ?_
                  intro w2 hw2
                  have HR2 : Hid (Rl w2 g (textR 40 X).2) := hide (by rw [hw2]; exact h1.alloc _)
                  have HF2 : Hid (Blk w2 w1.heap.size 92 #[S [], S [], .bool false, S (textR 40 X).1]) := hide (by rw [hw2]; exact Blk.new _ _ _)
                  have HB2 : Hid (Keep (fun k => k = g) wu w2) := hide (by rw [hw2]; exact k1.alloc _)
                  have HQ5 : Hid (wu.heap.size ≤ w1.heap.size) := hide k1.size
                  obtain ⟨q5, hq5⟩ : ∃ q5, q5 = w1.heap.size := ⟨_, rfl⟩
                  rw [← hq5] at HF2 HQ5 ⊢
                  clear hw2 hq5 h1 k1 H1
                  have HGQ5 : Hid (g ≠ q5) := hide (by have := HLR.out; have := HQ5.out; omega)
                  generalize (textR 40 X).1 = fc at *
                  generalize (textR 40 X).2 = X1 at *
                  have H2 := hide (rtext40 g X1 w2 HR2.out)
                  go_wp2_with (first | fail)
                  refine H2.out.mono ?_
                  rintro e w3 ⟨rfl, h3, k3⟩
                  have HF3 : Hid (Blk w3 q5 92 #[S [], S [], .bool false, S fc]) := hide (HF2.out.keep k3 (fun e => HGQ5.out e.symm))
                  have d0 := HF3.out.cell 0
                  have f0 := HF3.out.frozen 0
                  simp at d0
                  go_upto_region 18 with fail
                  refine name_world ?_
                  intro w4 hw4
                  have hw4' : w4 = w3.setCell ⟨q5, 0, none⟩ (S (textR 40 X1).1) := hw4
                  have HR4 : Hid (Rl w4 g (textR 40 X1).2) := hide (by rw [hw4']; exact ⟨h3.rs.far HGQ5.out _, h3.len⟩)
                  have HF4 : Hid (Blk w4 q5 92 #[S (textR 40 X1).1, S [], .bool false, S fc]) := hide (by rw [hw4']; have := HF3.out.set_ 0 (S (textR 40 X1).1); simpa using this)
                  have HB4 : Hid (Keep (fun i => i = g ∨ i = q5) wu w4) := hide (by rw [hw4']; exact ((HB2.out.trans k3).mono (fun _ _ h => .inl h)).setCell (fun _ => .inr rfl) _)
                  clear hw4 hw4' h3 k3 H2 HF3 HF2 HB2 d0 f0
                  generalize (textR 40 X1).1 = fn at *
                  generalize (textR 40 X1).2 = X2 at *
                  have H3 := hide (rtype_any g X2 w4 HR4.out)
                  generalize (tyR X2).1 = ft at *
                  generalize (tyR X2).2 = X3 at *
                  obtain ⟨tn, ta⟩ := ft
                  go_wp2_with (first | fail)
                  refine H3.out.mono ?_
                  rintro e w5 ⟨rfl, h5, k5⟩
                  have HF5 : Hid (Blk w5 q5 92 #[S fn, S [], .bool false, S fc]) := hide (HF4.out.keep k5 (fun e => HGQ5.out e.symm))
                  have d1 := HF5.out.cell 1
                  have d2 := HF5.out.cell 2
                  have f1 := HF5.out.frozen 1
                  have f2 := HF5.out.frozen 2
                  simp at d1 d2
                  go_upto_region 19 with fail
                  refine name_world ?_
                  intro w6 hw6
                  have hw6' : w6 = (w5.setCell ⟨q5, 1, none⟩ (S tn)).setCell ⟨q5, 2, none⟩ (.bool ta) := hw6
                  have HR6 : Hid (Rl w6 g X3) := hide (by rw [hw6']; exact ⟨(h5.rs.far HGQ5.out _).far HGQ5.out _, h5.len⟩)
                  have HF6 : Hid (Blk w6 q5 92 #[S fn, S tn, .bool ta, S fc]) := hide (by rw [hw6']; have := (HF5.out.set_ 1 (S tn)).set_ 2 (.bool ta); simpa using this)
                  have HB6 : Hid (Keep (fun i => i = g ∨ i = q5) wu w6) := hide (by rw [hw6']; exact ((HB4.out.trans (k5.mono (fun _ _ h => .inl h))).setCell (fun _ => .inr rfl) _).setCell (fun _ => .inr rfl) _)
                  clear hw6 hw6' h5 k5 H3 HF5 HF4 HB4 HR4 d1 d2 f1 f2
                  have HG7 : Hid (Gx w6 q 33 [.slice A0 n0 c0, .slice A1 n1 c1, .slice A2 n2 c2, .slice A k c, .slice none 0 0] 3 wo3.heap.size 92 4 k ((iterR fdR k s3).1.flatMap FdP.cells) (.slice A k c)) := hide (HGX.out.keep HB6.out (fun h => by have := HQ5.out; have := HGX.out.blk.lt; exact h.elim (fun h => HGQ.out h.symm) (fun h => by omega)) (fun i hi h => by have := (HGX.out.own.lt i hi).2; have := own_base HGX.out.own hi; have := HGO.out; have := HQ5.out; rcases h with h | h <;> omega))
                  have HK7 : Hid (Keep (fun i => i = g ∨ i = q) wo3 w6) := hide (HKP.out.trans' HB6.out (fun i hi h => by have := HQ5.out; have := HMR.out; exact h.elim .inl (fun h => by omega)))
                  have HMW : Hid (wo3.heap.size ≤ w6.heap.size) := hide HK7.out.size
                  have c3' : w6.cell? ⟨q, 3, none⟩ = some (.slice A k c) := HG7.out.cell
                  have m0 := HF6.out.cell 0
                  have m1 := HF6.out.cell 1
                  have m2 := HF6.out.cell 2
                  have m3 := HF6.out.cell 3
                  simp at m0 m1 m2 m3
                  clear HGX HB6 HQ5 HKP
                  go_wp2_with (at_builtin; refine wpList_appB rfl (.tmp 59) (.tmp 61) 30 rfl wo3.heap.size 92 (.agg #[S [], S [], .bool false, S []]) 4 56 Tryd.underlying30 fld_info rfl (by decide) (.slice A k c) k ((iterR fdR k s3).1.flatMap FdP.cells) rfl (HG7.out.own.alloc _) w6.heap.size [S fn, S tn, .bool ta, S fc] rfl rfl (Blk.new _ _ _) (by intro u hu; simp only [List.mem_cons, List.not_mem_nil, or_false] at hu; rcases hu with rfl | rfl | rfl | rfl <;> rfl) (by unfold maxLen; omega) (by omega) (by have := HMW.out; simp; omega) ?_)
                  intro A4 c4 w9 hown9 hg9
                  obtain ⟨hn9, hc9, hf9⟩ := (HG7.out.alloc _).next hown9 hg9
                  simp only [List.set_cons_zero, List.set_cons_succ] at hn9
                  have HG9 := hide hn9
                  have HGV9 : Hid ((Value.slice A k c).ownBlock ≠ some g) := hide (fun e => by have := own_base HG7.out.own e; have := HGO.out; omega)
                  have HR9 : Hid (Rl (w9.setCell ⟨q, 3, none⟩ (.slice A4 (k + 1) c4)) g (iterR fdR (k + 1) s3).2) := hide (by
                    rw [HXX.out.2, HFD.out]
                    have h1 : Rl w9 g X3 := ⟨(HR6.out.alloc _).rs.grown hg9 (fun e => HGV9.out e.symm), HR6.out.len⟩
                    exact ⟨h1.rs.far HGQ.out _, h1.len⟩)
                  have HK9 : Hid (Keep (fun i => i = g ∨ i = q) wo3 (w9.setCell ⟨q, 3, none⟩ (.slice A4 (k + 1) c4))) := hide (by
                    have h1 : Keep (fun i => i = g ∨ i = q) wo3 w9 := (HK7.out.alloc _).grown hg9 (fun i hi hlt => by have := own_base HG7.out.own hi; omega)
                    exact h1.setCell (fun _ => .inr rfl) _)
                  have HZZ : Hid ((iterR fdR (k + 1) s3).1.flatMap FdP.cells = (iterR fdR k s3).1.flatMap FdP.cells ++ [S fn, S tn, .bool ta, S fc]) := hide (by rw [HXX.out.1, List.flatMap_append, List.flatMap_singleton, HFD.out])
                  rw [← HZZ.out] at HG9
                  clear hn9 hown9 hg9 m0 m1 m2 m3 c3'
                  go_wp2_with fail
                  go_roundw
                  case rel => first | exact ⟨k + 1, A4, c4, by omega, by go_num, HG9, HR9, HK9⟩ | ((repeat apply Exists.intro); exact ⟨⟨k + 1, A4, c4, by omega, by go_num, HG9, HR9, HK9⟩, rfl⟩)
                  case measure => simp [intOf]; omega
                · skip
                  obtain rfl : n3 = k := by omega
                  have HT := hide (HT'.out.keep HKP.out (fun h => h.elim (fun h => HNG.out h.symm) HNQ.out))
                  have HB := hide (HB'.out.trans' HKP.out (fun i hi h => h.elim id (fun h => by have := HNN.out; have := HQN.out; omega)))
                  have HO0 := hide (own_gq HO0'.out HGN.out HX'.out (by decide) HKP.out)
                  have HO1 := hide (own_gq HO1'.out HGN.out HX'.out (by decide) HKP.out)
                  have HO2 := hide (own_gq HO2'.out HGN.out HX'.out (by decide) HKP.out)
                  have HO3 : Hid (wu.ownsRow N 92 4 (.slice A n3 c) n3 ((iterR fdR n3 s3).1.flatMap FdP.cells)) := hide (own_base_mono HGX.out.own HNO.out)
                  have HX := hide HGX.out.blk
                  have HR := HRL
                  have HW3 := hide (iterR_all (p := FdP.ok) fdR_ok n3 s3)
                  have HL3 : Hid ((iterR fdR n3 s3).1.length = n3) := hide (iterR_len _ _ _)
                  clear HGX HRL HKP HT' HX' HB' HR' HNO HGO HO0' HO1' HO2'
                  obtain ⟨A3, hA3⟩ : ∃ A', A' = A := ⟨_, rfl⟩
                  obtain ⟨c3, hc3⟩ : ∃ c', c' = c := ⟨_, rfl⟩
                  subst hA3 hc3
                  have HT3 : Hid (secR fdR 16384 t3 = ((iterR fdR n3 s3).1, (iterR fdR n3 s3).2)) := HS3
                  clear HS3
                  generalize (iterR fdR n3 s3).1 = L3 at *
                  generalize (iterR fdR n3 s3).2 = t4 at *
                  have HM := hide (rmany16 g t4 wu HR.out)
                  go_wp2_with (first | fail)
                  refine HM.out.mono ?_
                  rintro e wo4 ⟨rfl, h, k⟩
                  have HT' := hide (HT.out.keep k (fun e => HNG.out e.symm))
                  have HX' := hide (HX.out.keep k (fun e => HGQ.out e.symm))
                  have HB' := hide (HB.out.trans k)
                  have HR' := hide h
                  have HO0' := hide (own_keep HO0.out k (fun i hi e => by have := own_base HO0.out hi; have := HGN.out; omega))
                  have HO1' := hide (own_keep HO1.out k (fun i hi e => by have := own_base HO1.out hi; have := HGN.out; omega))
                  have HO2' := hide (own_keep HO2.out k (fun i hi e => by have := own_base HO2.out hi; have := HGN.out; omega))
                  have HO3' := hide (own_keep HO3.out k (fun i hi e => by have := own_base HO3.out hi; have := HGN.out; omega))
                  have HS4 : Hid (secR fcR 16384 t4 = iterR fcR (manyR 16384 t4).1 (manyR 16384 t4).2) := hide rfl
                  have hn4 := manyR_le 16384 t4
                  clear HM HT HX HB HR h k HO0 HO1 HO2 HO3
                  generalize (manyR 16384 t4).1 = n4 at *
                  generalize (manyR 16384 t4).2 = s4 at *
                  have HNO : Hid (N ≤ wo4.heap.size) := hide (by have := HT'.out.lt; omega)
                  have HGO : Hid (g < wo4.heap.size) := hide HR'.out.lt
                  go_wp2_with fail
                  have HPO : Hid (poR t0 = ((⟨L0, L1, L2, L3, (iterR fcR n4 s4).1.map toMt⟩, (iterR fcR n4 s4).1), (iterR fcR n4 s4).2)) := hide (by
                    have e1 : poR1 t0 = ((L0, L1), t2) := by unfold poR1; simp only [HT0.out, HT1.out]
                    have e2 : poR2 t2 = ((L2, L3), t4) := by unfold poR2; simp only [HT2.out, HT3.out]
                    rw [poR_eq, e1]
                    simp only
                    rw [e2]
                    simp only
                    rw [HS4.out])
                  clear HT0 HT1 HT2 HT3 HS4
                  go_loopw [67] (fun i wr => ∃ (k : Nat) (A : Option Addr) (c : Nat) (mts : List Mt), k ≤ n4 ∧ i = .int .i64 k ∧ Hid (Gx wr q 33 [.slice A0 n0 c0, .slice A1 n1 c1, .slice A2 n2 c2, .slice A3 n3 c3, .slice A k c] 4 wo4.heap.size 94 6 k (mts.flatMap Mt.cells) (.slice A k c)) ∧ Hid (MtsOwn wr wo4.heap.size mts) ∧ Hid ((iterR fcR k s4).1.all isMt = true ∧ mts.map Mt.pl = (iterR fcR k s4).1.map toMt ∧ mts.length = k) ∧ Hid (Rl wr g (iterR fcR k s4).2) ∧ Hid (Keep (fun i => i = g ∨ i = q) wo4 wr)) (fun i _ => n4 - (intOf i).toNat)
                  case atStart => exact ⟨0, none, 0, [], Nat.zero_le _, rfl, hide ⟨HX'.out, rfl, World.ownsRow_nil _ _ _ _, by decide⟩, hide (fun m hm => by cases hm), hide ⟨rfl, rfl, rfl⟩, HR', hide (Keep.refl _ _)⟩
                  case round =>
                    obtain ⟨k, A, c, mts, hk, rfl, HGX, HMO, HPL, HRL, HKP⟩ := hrel
                    obtain ⟨wu, rfl⟩ : ∃ wu : World, wu = wr := ⟨_, rfl⟩
                    clear HR'
                    have HTU := hide (HT'.out.keep HKP.out (fun h => h.elim (fun h => HNG.out h.symm) HNQ.out))
                    have HBU : Hid (Keep (fun i => i = g) w wu) := hide (HB'.out.trans' HKP.out (fun i hi h => h.elim id (fun h => by have := HNN.out; have := HQN.out; omega)))
                    have HOU0 := hide (own_gq HO0'.out HGN.out HX'.out (by decide) HKP.out)
                    have HOU1 := hide (own_gq HO1'.out HGN.out HX'.out (by decide) HKP.out)
                    have HOU2 := hide (own_gq HO2'.out HGN.out HX'.out (by decide) HKP.out)
                    have HOU3 := hide (own_gq HO3'.out HGN.out HX'.out (by decide) HKP.out)
                    have HMR : Hid (wo4.heap.size ≤ wu.heap.size) := hide HKP.out.size
                    by_cases hlt : k < n4
                    · skip
                      have HXX : Hid ((iterR fcR (k + 1) s4).1 = (iterR fcR k s4).1 ++ [(fcR (iterR fcR k s4).2).1] ∧ (iterR fcR (k + 1) s4).2 = (fcR (iterR fcR k s4).2).2 ∧ (fcR (iterR fcR k s4).2).1 ∈ (iterR fcR n4 s4).1) := hide ⟨rfl, rfl, iterR_sub fcR n4 k s4 hlt⟩
                      generalize (iterR fcR k s4).2 = X at HRL HXX
                      have HLR : Hid (g < wu.heap.size) := hide HRL.out.lt
                      have H1 := hide (fread_any g X wu HRL.out)
                      go_upto_region 24 with (go_at_call 26; refine H1.out.mono ?_; rintro e w1 ⟨F, rfl, hpl, hat, hso, hr1, hk1⟩; obtain ⟨fn, fsu, fA, nf, fcap, fs, mA, nm, mcap, ms⟩ := F)
                      obtain ⟨⟨_, hfsl, hnf, _⟩, ⟨hmr, hmsl, hnm, _⟩, hfn, _⟩ := hat
                      (try simp only at hfsl hnf hmr hmsl hnm hfn)
                      (try simp only at hso)
                      refine name_world ?_
                      intro w2 hw2
                      have HRW : Hid (Rl w2 g (fcR X).2) := hide (by rw [hw2]; exact hr1.alloc _)
                      have HF2 : Hid (Blk w2 w1.heap.size 26 #[S fn, S fsu, .slice fA nf fcap, .slice mA nm mcap]) := hide (by rw [hw2]; exact Blk.new _ _ _)
                      have HK2 : Hid (Keep (fun i => i = g) wu w2) := hide (by rw [hw2]; exact hk1.alloc _)
                      have HSO : Hid (SgsOwn w2 wu.heap.size ms) := hide (by rw [hw2]; exact fun m hm => ⟨(hso m hm).1.alloc _, (hso m hm).2⟩)
                      have HMD : Hid (Rd w2 (fun k => k < wu.heap.size) 5 mA nm (ms.flatMap Sg.cells)) := hide (by rw [hw2]; exact hmr.keep ((Keep.refl _ w1).alloc _))
                      have HQ6 : Hid (wu.heap.size ≤ w1.heap.size) := hide hk1.size
                      have HIS : Hid (∀ _ : Unit, isMt (fcR X).1 = (fsu == [] && nf == 0 && nm == 1)) := hide (by
                        intro _
                        rw [← hpl]
                        simp only [isMt, Fc.pl, List.length_map, hmsl]
                        congr 1
                        congr 1
                        rw [← hfsl]
                        cases fs <;> rfl)
                      have HPLX : Hid (∀ m, ms = [m] → toMt (fcR X).1 = ⟨m.pl, fn⟩) := hide (by
                        rintro m rfl
                        rw [← hpl]
                        rfl)
                      have HMSL := hide hmsl
                      have HFN := hide hfn
                      obtain ⟨q6, hq6⟩ : ∃ q6, q6 = w1.heap.size := ⟨_, rfl⟩
                      rw [← hq6] at HF2 HQ6 ⊢
                      clear hw2 hq6 hpl hso hr1 hk1 hmr hfsl hmsl hfn H1
                      have HGW : Hid (Gx w2 q 33 [.slice A0 n0 c0, .slice A1 n1 c1, .slice A2 n2 c2, .slice A3 n3 c3, .slice A k c] 4 wo4.heap.size 94 6 k (mts.flatMap Mt.cells) (.slice A k c)) := hide (HGX.out.keep HK2.out (fun h => HGQ.out h.symm) (fun i hi h => by have := own_base HGX.out.own hi; have := HGO.out; omega))
                      have HTW := hide (HTU.out.keep HK2.out (fun h => HNG.out h.symm))
                      have HBW := hide (HBU.out.trans HK2.out)
                      have HMW : Hid (MtsOwn w2 wo4.heap.size mts) := hide (HMO.out.keep HK2.out (fun m hm i hi h => by have := own_base (HMO.out m hm).1 hi; have := HGO.out; omega))
                      have HOW0 := hide (own_keep HOU0.out HK2.out (fun i hi e => by have := own_base HOU0.out hi; have := HGN.out; omega))
                      have HOW1 := hide (own_keep HOU1.out HK2.out (fun i hi e => by have := own_base HOU1.out hi; have := HGN.out; omega))
                      have HOW2 := hide (own_keep HOU2.out HK2.out (fun i hi e => by have := own_base HOU2.out hi; have := HGN.out; omega))
                      have HOW3 := hide (own_keep HOU3.out HK2.out (fun i hi e => by have := own_base HOU3.out hi; have := HGN.out; omega))
                      have HPW : Hid (POwn w2 N ⟨⟨[], [], none, 0, 0, [], none, 0, 0, []⟩, A0, n0, c0, L0, A1, n1, c1, L1, A2, n2, c2, L2, A3, n3, c3, L3, A, k, c, mts, none, 0, 0, []⟩) := hide { nr := HOW0.out, cr := HOW1.out, tr := HOW2.out, dr := HOW3.out, mr := own_base_mono HGW.out.own HNO.out, mW := fun x hx => ⟨own_base_mono (HMW.out x hx).1 HNO.out, (HMW.out x hx).2⟩, L := ⟨HL0.out, HL1.out, HL2.out, HL3.out, HPL.out.2.2⟩, D := ⟨hn0, hn1, hn2, hn3, by show k ≤ 16384; omega⟩, W := ⟨HW0.out, HW1.out, HW2.out, HW3.out⟩ }
                      clear HTU HBU HGX HMO HOU0 HOU1 HOU2 HOU3 HOW0 HOW1 HOW2 HOW3
                      have k1 := HF2.out.cell 1
                      have k2 := HF2.out.cell 2
                      have k3 := HF2.out.cell 3
                      simp at k1 k2 k3
                      by_cases hsu : fsu = []
                      · subst hsu
                        by_cases hnf0 : nf = 0
                        · subst hnf0
                          by_cases hnm1 : nm = 1
                          · subst hnm1
                            obtain ⟨m, hm⟩ := List.length_eq_one_iff.1 HMSL.out
                            obtain ⟨mb, mo, hmA, _, _, hmc⟩ := Rd.rec_ (f := Sg.cells) (fun _ => rfl) HMD.out HMSL.out 0 (by omega)
                            have hmm : ms[0]'(by have := HMSL.out; omega) = m := by simp [hm]
                            rw [hmm] at hmc
                            have HSM := HSO.out m (by rw [hm]; exact List.mem_singleton.2 rfl)
                            have HTM := HPLX.out m hm
                            subst hmA
                            have m0 := hmc 0 _ rfl
                            have m1 := hmc 1 _ rfl
                            have m2 := hmc 2 _ rfl
                            have m3 := hmc 3 _ rfl
                            have m4 := hmc 4 _ rfl
                            simp only [Nat.zero_mul, Nat.add_zero] at m0 m1 m2 m3 m4
                            have HMB : Hid (mb < w2.heap.size ∧ mb ≠ g) := hide ⟨World.block_lt_of_cell? _ _ m0, by rename_i h1 h2; have := HLR.out; simp only at h1; omega⟩
                            have HCM := hide (And.intro m0 (And.intro m1 (And.intro m2 (And.intro m3 m4))))
                            have HSM2 := hide HSM
                            have HTM2 := hide HTM
                            clear hmc hmm m0 m1 m2 m3 m4 HSM HTM
                            obtain ⟨xn, xst, xA, xk, xcp, xps, ⟨xrn, xra⟩⟩ := m
                            (try simp only at HCM HSM2 HTM2)
                            have HISM : Hid (∀ _ : Unit, isMt (fcR X).1 = true) := hide (by intro _; rw [HIS.out ()]; rfl)
                            have HGL : Hid (g < w2.heap.size) := hide HRW.out.lt
                            have HGB : Hid (wo4.heap.size ≤ w2.heap.size) := hide (Nat.le_trans HMR.out HK2.out.size)
                            have HGV : Hid ((Value.slice A k c).ownBlock ≠ some g) := hide (fun e => by have := own_base HGW.out.own e; have := HGO.out; omega)
                            have HGQ6 : Hid (g ≠ q6) := hide (by have := HLR.out; have := HQ6.out; omega)
                            go_upto_region 26 with fail
                            clear k1 k2 k3
                            refine region_app (q := q) (j := 4) (B := wo4.heap.size) (sz := 6) (n := k) (T := 33) (e := 94) (cs := [.slice A0 n0 c0, .slice A1 n1 c1, .slice A2 n2 c2, .slice A3 n3 c3, .slice A k c]) (xs := mts.flatMap Mt.cells) (news := [S xn, .bool xst, .slice xA xk xcp, S xrn, .bool xra, S fn]) (v := .slice A k c) (by kernel_rfl) [⟨0, some 87, false, [0, 1, 2], []⟩, ⟨1, some 88, false, [0], [87]⟩, ⟨2, some 89, false, [0, 1, 2], []⟩, ⟨3, some 90, false, [0], [89]⟩, ⟨4, some 91, false, [0, 1, 2], [90]⟩, ⟨5, some 92, false, [0], [91]⟩, ⟨6, some 93, false, [0, 1, 2], []⟩, ⟨7, some 94, false, [0], [93]⟩, ⟨8, some 95, false, [0, 1, 2], [92, 94]⟩, ⟨9, some 96, false, [0], [95]⟩, ⟨10, some 97, true, [0], [88, 96]⟩, ⟨11, some 98, false, [0, 1, 2], []⟩, ⟨12, none, true, [1], [98, 97]⟩] [10, 12] (fun d => match d with | 87 => .is (.pointer (some ⟨q, 4, none⟩)) | 88 => .is (.slice A k c) | 89 => .is (.pointer (some ⟨q6, 3, none⟩)) | 90 => .is (.slice (some ⟨mb, mo, none⟩) 1 mcap) | 91 => .is (.pointer (some ⟨mb, mo, none⟩)) | 92 => .is (.agg #[S xn, .bool xst, .slice xA xk xcp, S xrn, .bool xra]) | 93 => .is (.pointer (some ⟨q6, 0, none⟩)) | 94 => .is (S fn) | 95 => .is (.agg #[S xn, .bool xst, .slice xA xk xcp, S xrn, .bool xra, S fn]) | 96 => .lit 1 94 ([S xn, .bool xst, .slice xA xk xcp, S xrn, .bool xra, S fn]).toArray | 97 => .app (wo4.heap.size) 94 6 (k + 1) (mts.flatMap Mt.cells ++ [S xn, .bool xst, .slice xA xk xcp, S xrn, .bool xra, S fn]) | 98 => .is (.pointer (some ⟨q, 4, none⟩)) | _ => .any) (fun i => i = g) 0 (RlX g (fun k => match k with | _ => (fcR X).2)) (RlX.ok HGQ.out HGV.out) (by kernel_rfl) rfl HRW.out ?obs ?hend
                            case obs =>
                              refine List.forall_mem_cons.2 ⟨?_, ?_⟩
                              · refine ObA.pure (by rfl) (.pointer (some ⟨q, 4, none⟩)) rfl ?_
                                intro z w' k hz G hG
                                simp only [putsAt, List.foldl]
                                unfold Runs
                                go_simp
                                exact hG
                              refine List.forall_mem_cons.2 ⟨?_, ?_⟩
                              · refine ObA.load (by rfl) (by decide) (.slice A k c) rfl ?_
                                intro z w' k hkp hz G hG
                                have e87 : z 87 = .pointer (some ⟨q, 4, none⟩) := hz 87 (by simp)
                                have hc := (HGW.out.keep hkp (fun e => HGQ.out e.symm) (fun k hk e => HGV.out (by rw [hk, e]))).cell
                                simp only [putsAt, List.foldl, e87]
                                unfold Runs
                                go_simp
                                exact hG
                              refine List.forall_mem_cons.2 ⟨?_, ?_⟩
                              · refine ObA.pure (by rfl) (.pointer (some ⟨q6, 3, none⟩)) rfl ?_
                                intro z w' k hz G hG
                                simp only [putsAt, List.foldl]
                                unfold Runs
                                go_simp
                                exact hG
                              refine List.forall_mem_cons.2 ⟨?_, ?_⟩
                              · refine ObA.load (by rfl) (by decide) (.slice (some ⟨mb, mo, none⟩) 1 mcap) rfl ?_
                                intro z w' k hkp hz G hG
                                have e89 : z 89 = .pointer (some ⟨q6, 3, none⟩) := hz 89 (by simp)
                                have hc := (HF2.out.keep hkp (fun e => HGQ6.out e.symm)).cell 3
                                simp at hc
                                simp only [putsAt, List.foldl, e89]
                                unfold Runs
                                go_simp
                                exact hG
                              refine List.forall_mem_cons.2 ⟨?_, ?_⟩
                              · refine ObA.pure (by rfl) (.pointer (some ⟨mb, mo, none⟩)) rfl ?_
                                intro z w' k hz G hG
                                have e90 : z 90 = .slice (some ⟨mb, mo, none⟩) 1 mcap := hz 90 (by simp)
                                simp only [putsAt, List.foldl, e90]
                                unfold Runs
                                go_simp
                                exact hG
                              refine List.forall_mem_cons.2 ⟨?_, ?_⟩
                              · refine ObA.load (by rfl) (by decide) (.agg #[S xn, .bool xst, .slice xA xk xcp, S xrn, .bool xra]) rfl ?_
                                intro z w' k hkp hz G hG
                                have e91 : z 91 = .pointer (some ⟨mb, mo, none⟩) := hz 91 (by simp)
                                have hmk : ∀ j, w'.cell? ⟨mb, j, none⟩ = w2.cell? ⟨mb, j, none⟩ := fun j => hkp.cell (p := ⟨mb, j, none⟩) HMB.out.1 HMB.out.2
                                obtain ⟨a0, a1, a2, a3, a4⟩ := HCM.out
                                rw [← hmk] at a0 a1 a2 a3 a4
                                clear hmk
                                simp only [putsAt, List.foldl, e91]
                                unfold Runs
                                go_simp
                                exact hG
                              refine List.forall_mem_cons.2 ⟨?_, ?_⟩
                              · refine ObA.pure (by rfl) (.pointer (some ⟨q6, 0, none⟩)) rfl ?_
                                intro z w' k hz G hG
                                simp only [putsAt, List.foldl]
                                unfold Runs
                                go_simp
                                exact hG
                              refine List.forall_mem_cons.2 ⟨?_, ?_⟩
                              · refine ObA.load (by rfl) (by decide) (S fn) rfl ?_
                                intro z w' k hkp hz G hG
                                have e93 : z 93 = .pointer (some ⟨q6, 0, none⟩) := hz 93 (by simp)
                                have hc := (HF2.out.keep hkp (fun e => HGQ6.out e.symm)).cell 0
                                simp at hc
                                simp only [putsAt, List.foldl, e93]
                                unfold Runs
                                go_simp
                                exact hG
                              refine List.forall_mem_cons.2 ⟨?_, ?_⟩
                              · refine ObA.pure (by rfl) (.agg #[S xn, .bool xst, .slice xA xk xcp, S xrn, .bool xra, S fn]) rfl ?_
                                intro z w' k hz G hG
                                have e92 : z 92 = .agg #[S xn, .bool xst, .slice xA xk xcp, S xrn, .bool xra] := hz 92 (by simp)
                                have e94 : z 94 = S fn := hz 94 (by simp)
                                simp only [putsAt, List.foldl, e92, e94]
                                unfold Runs
                                go_simp
                                exact hG
                              refine List.forall_mem_cons.2 ⟨?_, ?_⟩
                              · refine ObA.lit (by rfl) (by decide) rfl (fun i h => by have := HGL.out; omega) (RlX.ok HGQ.out HGV.out) ?_
                                intro z w' k hz G hG
                                have e95 : z 95 = .agg #[S xn, .bool xst, .slice xA xk xcp, S xrn, .bool xra, S fn] := hz 95 (by simp)
                                simp only [putsAt, List.foldl, e95]
                                unfold Runs
                                go_simp
                                exact hG
                              refine List.forall_mem_cons.2 ⟨?_, ?_⟩
                              · refine ObA.app (by rfl) rfl 31 rfl Tryd.underlying31 (.agg #[S [], .bool false, .slice none 0 0, S [], .bool false, S []]) 88 mtd_info rfl (by decide) HGW.out (fun e => HGQ.out e.symm) (fun k hk e => HGV.out (by rw [hk, e])) HGB.out rfl rfl rfl ?_ rfl (by intro u hu; simp only [List.mem_cons, List.not_mem_nil, or_false] at hu; rcases hu with rfl | rfl | rfl | rfl | rfl | rfl <;> rfl) (by unfold maxLen; omega) (by omega) (by simp) (by simp)
                                intro d' hd' B e sz n xs
                                split <;> first | (intro h; cases h; done) | exact absurd rfl hd'
                              refine List.forall_mem_cons.2 ⟨?_, ?_⟩
                              · refine ObA.pure (by rfl) (.pointer (some ⟨q, 4, none⟩)) rfl ?_
                                intro z w' k hz G hG
                                simp only [putsAt, List.foldl]
                                unfold Runs
                                go_simp
                                exact hG
                              refine List.forall_mem_cons.2 ⟨?_, ?_⟩
                              · refine ObA.store (by rfl) rfl HGW.out (fun e => HGQ.out e.symm) (fun k hk e => HGV.out (by rw [hk, e])) (RlX.ok HGQ.out HGV.out) rfl rfl ?_
                                intro z w' ep hc hf A c ex G hG
                                simp only [putsAt, List.foldl, ep, ex]
                                unfold Runs
                                go_simp
                                exact hG
                              exact List.forall_mem_nil _
                            case hend =>
                              intro z w' A2 c2 hg2 hr20 hk20
                              have hk2 : Keep (fun i => i = g ∨ i = q ∨ some i = (Value.slice A k c).ownBlock) _ w' := hk20
                              clear hk20
                              have hr2 : Rl w' g ((fcR X).2) := hr20
                              clear hr20
                              simp only [putsAt, List.foldl, dstsOf, List.filterMap, Act.put, List.setIfInBounds_toArray, List.set_cons_zero, List.set_cons_succ]
                              simp only [List.set_cons_zero, List.set_cons_succ] at hg2
                              generalize z 87 = y87
                              generalize z 88 = y88
                              generalize z 89 = y89
                              generalize z 90 = y90
                              generalize z 91 = y91
                              generalize z 92 = y92
                              generalize z 93 = y93
                              generalize z 94 = y94
                              generalize z 95 = y95
                              generalize z 96 = y96
                              generalize z 97 = y97
                              generalize z 98 = y98
                              have HXC : Hid ((mts ++ [(⟨⟨xn, xst, xA, xk, xcp, xps, ⟨xrn, xra⟩⟩, fn⟩ : Mt)]).flatMap Mt.cells = mts.flatMap Mt.cells ++ [S xn, .bool xst, .slice xA xk xcp, S xrn, .bool xra, S fn]) := hide (by rw [List.flatMap_append, List.flatMap_singleton])
                              rw [← HXC.out] at hg2
                              have HG5 := hide hg2
                              have HR5 : Hid (Rl w' g (iterR fcR (k + 1) s4).2) := hide (by rw [HXX.out.2.1]; exact hr2)
                              have HKQ : Hid (Keep (fun i => i = g ∨ i = q) wo4 w2) := hide (HKP.out.trans (HK2.out.mono (fun _ _ h => .inl h)))
                              have HK5 : Hid (Keep (fun i => i = g ∨ i = q) wo4 w') := hide (HKQ.out.trans' hk2 (fun i hi h => by
                                rcases h with h | h | h
                                · exact .inl h
                                · exact .inr h
                                · have := own_base HGW.out.own h.symm; omega))
                              have HP5 : Hid ((iterR fcR (k + 1) s4).1.all isMt = true ∧ (mts ++ [(⟨⟨xn, xst, xA, xk, xcp, xps, ⟨xrn, xra⟩⟩, fn⟩ : Mt)]).map Mt.pl = (iterR fcR (k + 1) s4).1.map toMt ∧ (mts ++ [(⟨⟨xn, xst, xA, xk, xcp, xps, ⟨xrn, xra⟩⟩, fn⟩ : Mt)]).length = k + 1) := hide (by
                                rw [HXX.out.1]
                                refine ⟨?_, ?_, ?_⟩
                                · rw [List.all_append, HPL.out.1]; simp [HISM.out ()]
                                · rw [List.map_append, List.map_append, HPL.out.2.1, List.map_singleton, List.map_singleton, HTM2.out]; rfl
                                · rw [List.length_append, HPL.out.2.2]; rfl)
                              have HM5 : Hid (MtsOwn w' wo4.heap.size (mts ++ [(⟨⟨xn, xst, xA, xk, xcp, xps, ⟨xrn, xra⟩⟩, fn⟩ : Mt)])) := hide (by
                                have hko : ∀ (B n' : Nat) (v' : Value) (xs' : List Value), g < B → w2.ownsRow B 49 2 v' n' xs' → w'.ownsRow B 49 2 v' n' xs' := by
                                  intro B n' v' xs' hgB ho
                                  refine own_keep ho hk2 (fun i hi h => ?_)
                                  rcases h with h | h | h
                                  · have := own_base ho hi; omega
                                  · exact own_blk_ne ho HGW.out.blk (by decide) (by rw [hi, h])
                                  · exact own_own_ne ho HGW.out.own (by decide) i hi h.symm
                                intro x hx
                                rcases List.mem_append.1 hx with hx | hx
                                · exact ⟨hko _ _ _ _ HGO.out (HMW.out x hx).1, (HMW.out x hx).2⟩
                                · obtain rfl := List.mem_singleton.1 hx
                                  obtain ⟨s1, s2, s3, s4', s5, s6⟩ := HSM2.out
                                  exact ⟨hko _ _ _ _ HGO.out (own_base_mono s1 HMR.out), s2, s3, s4', s5, s6, HFN.out⟩)
                              clear hg2 hr2 hk2 HGW HMW HPL HRW HKP HXX HCM HSM2 HTM2 HSO HMD HPW HTW HBW HF2
                              go_wp2_with fail
                              go_roundw
                              case rel => first | exact ⟨k + 1, A2, c2, _, by omega, by go_num, HG5, HM5, HP5, HR5, HK5⟩ | ((repeat apply Exists.intro); exact ⟨⟨k + 1, A2, c2, _, by omega, by go_num, HG5, HM5, HP5, HR5, HK5⟩, rfl⟩)
                              case measure => simp [intOf]; omega
                          · skip
                            have hb : (((nm : Nat) : Int) == 1) = false := by simp; omega
                            have hb2 : (nm == 1) = false := by simpa using hnm1
                            go_upto_region 25 with fail
                            clear k1 k2 k3
                            have HOKV := hide (fun _ : Unit => show false = ((poR t0).1.2.all isMt && (poR t0).2.isSome) from by
                              rw [HPO.out]
                              have hm := HXX.out.2.2
                              have : (iterR fcR n4 s4).1.all isMt = false := List.all_eq_false.2 ⟨_, hm, by rw [HIS.out ()]; simp [hb2]⟩
                              rw [this]
                              rfl)
                            have q0 := HGW.out.blk.cell 0
                            have d0 := HTW.out.cell 0
                            have f0 := HTW.out.frozen 0
                            have q1 := HGW.out.blk.cell 1
                            have d1 := HTW.out.cell 1
                            have f1 := HTW.out.frozen 1
                            have q2 := HGW.out.blk.cell 2
                            have d2 := HTW.out.cell 2
                            have f2 := HTW.out.frozen 2
                            have q3 := HGW.out.blk.cell 3
                            have d3 := HTW.out.cell 3
                            have f3 := HTW.out.frozen 3
                            have q4 := HGW.out.blk.cell 4
                            have d4 := HTW.out.cell 4
                            have f4 := HTW.out.frozen 4
                            simp at q0 q1 q2 q3 q4 d0 d1 d2 d3 d4
                            obtain ⟨wF, hwF⟩ : ∃ wF, wF = (((((w2.setCell ⟨N, 0, none⟩ (.slice A0 n0 c0)).setCell ⟨N, 1, none⟩ (.slice A1 n1 c1)).setCell ⟨N, 2, none⟩ (.slice A2 n2 c2)).setCell ⟨N, 3, none⟩ (.slice A3 n3 c3)).setCell ⟨N, 4, none⟩ (.slice A k c)) := ⟨_, rfl⟩
                            have HKF : Hid (Keep (fun i => i = N) w2 wF) := hide (by rw [hwF]; exact ((((((Keep.refl (fun i => i = N) w2).setCell (p := ⟨N, 0, none⟩) (fun _ => rfl) _).setCell (p := ⟨N, 1, none⟩) (fun _ => rfl) _).setCell (p := ⟨N, 2, none⟩) (fun _ => rfl) _).setCell (p := ⟨N, 3, none⟩) (fun _ => rfl) _).setCell (p := ⟨N, 4, none⟩) (fun _ => rfl) _))
                            have HBN : Hid (Blk wF N 33 #[.slice A0 n0 c0, .slice A1 n1 c1, .slice A2 n2 c2, .slice A3 n3 c3, .slice A k c]) := hide (by rw [hwF]; have := (((((HTW.out.set_ 0 (.slice A0 n0 c0)).set_ 1 (.slice A1 n1 c1)).set_ 2 (.slice A2 n2 c2)).set_ 3 (.slice A3 n3 c3)).set_ 4 (.slice A k c)); simpa using this)
                            have HPF : Hid (POwn wF N ⟨⟨[], [], none, 0, 0, [], none, 0, 0, []⟩, A0, n0, c0, L0, A1, n1, c1, L1, A2, n2, c2, L2, A3, n3, c3, L3, A, k, c, mts, none, 0, 0, []⟩) := hide (HPW.out.keep HTW.out HKF.out)
                            have HRF : Hid (Rl wF g ((fcR X).2)) := hide (HRW.out.keep HKF.out HNG.out)
                            have HKW : Hid (Keep (fun k => k = g) w wF) := hide (HBW.out.trans' HKF.out (fun i hi h => by have := HNN.out; omega))
                            have r0 := HBN.out.cell 0
                            have r1 := HBN.out.cell 1
                            have r2 := HBN.out.cell 2
                            have r3 := HBN.out.cell 3
                            have r4 := HBN.out.cell 4
                            simp at r0 r1 r2 r3 r4
                            rw [hwF] at r0 r1 r2 r3 r4 HPF HRF HKW
                            clear HKF HBN hwF HGW HTW HPW HBW HMW HPL HKP HSO HMD
                            go_wp2_with fail
                            refine bodyPost_ret (v := .tuple #[.agg #[.slice A0 n0 c0, .slice A1 n1 c1, .slice A2 n2 c2, .slice A3 n3 c3, .slice A k c], .bool false]) ?_ rfl ?_
                            · simp [results, Tryd.results27, go_sem, r0, r1, r2, r3, r4]
                            exact ⟨_, false, _, rfl, by rw [HNN.out]; exact HPF.out, HRF.out, HKW.out, HOKV.out (), fun h => by cases h⟩
                        · skip
                          have hb : (((nf : Nat) : Int) == 0) = false := by simp; omega
                          have hb2 : (nf == 0) = false := by simpa using hnf0
                          go_upto_region 25 with fail
                          clear k1 k2 k3
                          have HOKV := hide (fun _ : Unit => show false = ((poR t0).1.2.all isMt && (poR t0).2.isSome) from by
                            rw [HPO.out]
                            have hm := HXX.out.2.2
                            have : (iterR fcR n4 s4).1.all isMt = false := List.all_eq_false.2 ⟨_, hm, by rw [HIS.out ()]; simp [hb2]⟩
                            rw [this]
                            rfl)
                          have q0 := HGW.out.blk.cell 0
                          have d0 := HTW.out.cell 0
                          have f0 := HTW.out.frozen 0
                          have q1 := HGW.out.blk.cell 1
                          have d1 := HTW.out.cell 1
                          have f1 := HTW.out.frozen 1
                          have q2 := HGW.out.blk.cell 2
                          have d2 := HTW.out.cell 2
                          have f2 := HTW.out.frozen 2
                          have q3 := HGW.out.blk.cell 3
                          have d3 := HTW.out.cell 3
                          have f3 := HTW.out.frozen 3
                          have q4 := HGW.out.blk.cell 4
                          have d4 := HTW.out.cell 4
                          have f4 := HTW.out.frozen 4
                          simp at q0 q1 q2 q3 q4 d0 d1 d2 d3 d4
                          obtain ⟨wF, hwF⟩ : ∃ wF, wF = (((((w2.setCell ⟨N, 0, none⟩ (.slice A0 n0 c0)).setCell ⟨N, 1, none⟩ (.slice A1 n1 c1)).setCell ⟨N, 2, none⟩ (.slice A2 n2 c2)).setCell ⟨N, 3, none⟩ (.slice A3 n3 c3)).setCell ⟨N, 4, none⟩ (.slice A k c)) := ⟨_, rfl⟩
                          have HKF : Hid (Keep (fun i => i = N) w2 wF) := hide (by rw [hwF]; exact ((((((Keep.refl (fun i => i = N) w2).setCell (p := ⟨N, 0, none⟩) (fun _ => rfl) _).setCell (p := ⟨N, 1, none⟩) (fun _ => rfl) _).setCell (p := ⟨N, 2, none⟩) (fun _ => rfl) _).setCell (p := ⟨N, 3, none⟩) (fun _ => rfl) _).setCell (p := ⟨N, 4, none⟩) (fun _ => rfl) _))
                          have HBN : Hid (Blk wF N 33 #[.slice A0 n0 c0, .slice A1 n1 c1, .slice A2 n2 c2, .slice A3 n3 c3, .slice A k c]) := hide (by rw [hwF]; have := (((((HTW.out.set_ 0 (.slice A0 n0 c0)).set_ 1 (.slice A1 n1 c1)).set_ 2 (.slice A2 n2 c2)).set_ 3 (.slice A3 n3 c3)).set_ 4 (.slice A k c)); simpa using this)
                          have HPF : Hid (POwn wF N ⟨⟨[], [], none, 0, 0, [], none, 0, 0, []⟩, A0, n0, c0, L0, A1, n1, c1, L1, A2, n2, c2, L2, A3, n3, c3, L3, A, k, c, mts, none, 0, 0, []⟩) := hide (HPW.out.keep HTW.out HKF.out)
                          have HRF : Hid (Rl wF g ((fcR X).2)) := hide (HRW.out.keep HKF.out HNG.out)
                          have HKW : Hid (Keep (fun k => k = g) w wF) := hide (HBW.out.trans' HKF.out (fun i hi h => by have := HNN.out; omega))
                          have r0 := HBN.out.cell 0
                          have r1 := HBN.out.cell 1
                          have r2 := HBN.out.cell 2
                          have r3 := HBN.out.cell 3
                          have r4 := HBN.out.cell 4
                          simp at r0 r1 r2 r3 r4
                          rw [hwF] at r0 r1 r2 r3 r4 HPF HRF HKW
                          clear HKF HBN hwF HGW HTW HPW HBW HMW HPL HKP HSO HMD
                          go_wp2_with fail
                          refine bodyPost_ret (v := .tuple #[.agg #[.slice A0 n0 c0, .slice A1 n1 c1, .slice A2 n2 c2, .slice A3 n3 c3, .slice A k c], .bool false]) ?_ rfl ?_
                          · simp [results, Tryd.results27, go_sem, r0, r1, r2, r3, r4]
                          exact ⟨_, false, _, rfl, by rw [HNN.out]; exact HPF.out, HRF.out, HKW.out, HOKV.out (), fun h => by cases h⟩
                      · skip
                        have hb : (fsu == []) = false := by simpa using hsu
                        go_upto_region 25 with fail
                        clear k1 k2 k3
                        have HOKV := hide (fun _ : Unit => show false = ((poR t0).1.2.all isMt && (poR t0).2.isSome) from by
                          rw [HPO.out]
                          have hm := HXX.out.2.2
                          have : (iterR fcR n4 s4).1.all isMt = false := List.all_eq_false.2 ⟨_, hm, by rw [HIS.out ()]; simp [hb]⟩
                          rw [this]
                          rfl)
                        have q0 := HGW.out.blk.cell 0
                        have d0 := HTW.out.cell 0
                        have f0 := HTW.out.frozen 0
                        have q1 := HGW.out.blk.cell 1
                        have d1 := HTW.out.cell 1
                        have f1 := HTW.out.frozen 1
                        have q2 := HGW.out.blk.cell 2
                        have d2 := HTW.out.cell 2
                        have f2 := HTW.out.frozen 2
                        have q3 := HGW.out.blk.cell 3
                        have d3 := HTW.out.cell 3
                        have f3 := HTW.out.frozen 3
                        have q4 := HGW.out.blk.cell 4
                        have d4 := HTW.out.cell 4
                        have f4 := HTW.out.frozen 4
                        simp at q0 q1 q2 q3 q4 d0 d1 d2 d3 d4
                        obtain ⟨wF, hwF⟩ : ∃ wF, wF = (((((w2.setCell ⟨N, 0, none⟩ (.slice A0 n0 c0)).setCell ⟨N, 1, none⟩ (.slice A1 n1 c1)).setCell ⟨N, 2, none⟩ (.slice A2 n2 c2)).setCell ⟨N, 3, none⟩ (.slice A3 n3 c3)).setCell ⟨N, 4, none⟩ (.slice A k c)) := ⟨_, rfl⟩
                        have HKF : Hid (Keep (fun i => i = N) w2 wF) := hide (by rw [hwF]; exact ((((((Keep.refl (fun i => i = N) w2).setCell (p := ⟨N, 0, none⟩) (fun _ => rfl) _).setCell (p := ⟨N, 1, none⟩) (fun _ => rfl) _).setCell (p := ⟨N, 2, none⟩) (fun _ => rfl) _).setCell (p := ⟨N, 3, none⟩) (fun _ => rfl) _).setCell (p := ⟨N, 4, none⟩) (fun _ => rfl) _))
                        have HBN : Hid (Blk wF N 33 #[.slice A0 n0 c0, .slice A1 n1 c1, .slice A2 n2 c2, .slice A3 n3 c3, .slice A k c]) := hide (by rw [hwF]; have := (((((HTW.out.set_ 0 (.slice A0 n0 c0)).set_ 1 (.slice A1 n1 c1)).set_ 2 (.slice A2 n2 c2)).set_ 3 (.slice A3 n3 c3)).set_ 4 (.slice A k c)); simpa using this)
                        have HPF : Hid (POwn wF N ⟨⟨[], [], none, 0, 0, [], none, 0, 0, []⟩, A0, n0, c0, L0, A1, n1, c1, L1, A2, n2, c2, L2, A3, n3, c3, L3, A, k, c, mts, none, 0, 0, []⟩) := hide (HPW.out.keep HTW.out HKF.out)
                        have HRF : Hid (Rl wF g ((fcR X).2)) := hide (HRW.out.keep HKF.out HNG.out)
                        have HKW : Hid (Keep (fun k => k = g) w wF) := hide (HBW.out.trans' HKF.out (fun i hi h => by have := HNN.out; omega))
                        have r0 := HBN.out.cell 0
                        have r1 := HBN.out.cell 1
                        have r2 := HBN.out.cell 2
                        have r3 := HBN.out.cell 3
                        have r4 := HBN.out.cell 4
                        simp at r0 r1 r2 r3 r4
                        rw [hwF] at r0 r1 r2 r3 r4 HPF HRF HKW
                        clear HKF HBN hwF HGW HTW HPW HBW HMW HPL HKP HSO HMD
                        go_wp2_with fail
                        refine bodyPost_ret (v := .tuple #[.agg #[.slice A0 n0 c0, .slice A1 n1 c1, .slice A2 n2 c2, .slice A3 n3 c3, .slice A k c], .bool false]) ?_ rfl ?_
                        · simp [results, Tryd.results27, go_sem, r0, r1, r2, r3, r4]
                        exact ⟨_, false, _, rfl, by rw [HNN.out]; exact HPF.out, HRF.out, HKW.out, HOKV.out (), fun h => by cases h⟩
                    · skip
                      obtain rfl : n4 = k := by omega
                      have HPW : Hid (POwn wu N ⟨⟨[], [], none, 0, 0, [], none, 0, 0, []⟩, A0, n0, c0, L0, A1, n1, c1, L1, A2, n2, c2, L2, A3, n3, c3, L3, A, n4, c, mts, none, 0, 0, []⟩) := hide { nr := HOU0.out, cr := HOU1.out, tr := HOU2.out, dr := HOU3.out, mr := own_base_mono HGX.out.own HNO.out, mW := fun x hx => ⟨own_base_mono (HMO.out x hx).1 HNO.out, (HMO.out x hx).2⟩, L := ⟨HL0.out, HL1.out, HL2.out, HL3.out, HPL.out.2.2⟩, D := ⟨hn0, hn1, hn2, hn3, hn4⟩, W := ⟨HW0.out, HW1.out, HW2.out, HW3.out⟩ }
                      have HLAST : Hid (∀ _ : Unit, (poR t0).1.2.all isMt = true ∧ (poR t0).2 = (iterR fcR n4 s4).2 ∧ (poR t0).1.1 = Fl.ppl ⟨⟨[], [], none, 0, 0, [], none, 0, 0, []⟩, A0, n0, c0, L0, A1, n1, c1, L1, A2, n2, c2, L2, A3, n3, c3, L3, A, n4, c, mts, none, 0, 0, []⟩) := hide (by
                        intro _
                        rw [HPO.out]
                        refine ⟨HPL.out.1, rfl, ?_⟩
                        simp only [Fl.ppl]
                        rw [HPL.out.2.1])
                      have HRW := HRL
                      generalize (iterR fcR n4 s4).2 = t5 at *
                      clear HPO HPL HOU0 HOU1 HOU2 HOU3 HMO HKP HO0' HO1' HO2' HO3' HT' HX' HB' HRL
                      go_upto_region 28 with fail
                      have q0 := HGX.out.blk.cell 0
                      have d0 := HTU.out.cell 0
                      have f0 := HTU.out.frozen 0
                      have q1 := HGX.out.blk.cell 1
                      have d1 := HTU.out.cell 1
                      have f1 := HTU.out.frozen 1
                      have q2 := HGX.out.blk.cell 2
                      have d2 := HTU.out.cell 2
                      have f2 := HTU.out.frozen 2
                      have q3 := HGX.out.blk.cell 3
                      have d3 := HTU.out.cell 3
                      have f3 := HTU.out.frozen 3
                      have q4 := HGX.out.blk.cell 4
                      have d4 := HTU.out.cell 4
                      have f4 := HTU.out.frozen 4
                      simp at q0 q1 q2 q3 q4 d0 d1 d2 d3 d4
                      obtain ⟨wF, hwF⟩ : ∃ wF, wF = (((((wu.drew.setCell ⟨N, 0, none⟩ (.slice A0 n0 c0)).setCell ⟨N, 1, none⟩ (.slice A1 n1 c1)).setCell ⟨N, 2, none⟩ (.slice A2 n2 c2)).setCell ⟨N, 3, none⟩ (.slice A3 n3 c3)).setCell ⟨N, 4, none⟩ (.slice A n4 c)) := ⟨_, rfl⟩
                      have HKF : Hid (Keep (fun i => i = N) wu wF) := hide (by rw [hwF]; exact ((((((Keep.refl (fun i => i = N) wu).drew.setCell (p := ⟨N, 0, none⟩) (fun _ => rfl) _).setCell (p := ⟨N, 1, none⟩) (fun _ => rfl) _).setCell (p := ⟨N, 2, none⟩) (fun _ => rfl) _).setCell (p := ⟨N, 3, none⟩) (fun _ => rfl) _).setCell (p := ⟨N, 4, none⟩) (fun _ => rfl) _))
                      have HBN : Hid (Blk wF N 33 #[.slice A0 n0 c0, .slice A1 n1 c1, .slice A2 n2 c2, .slice A3 n3 c3, .slice A n4 c]) := hide (by rw [hwF]; have := (((((HTU.out.drew.set_ 0 (.slice A0 n0 c0)).set_ 1 (.slice A1 n1 c1)).set_ 2 (.slice A2 n2 c2)).set_ 3 (.slice A3 n3 c3)).set_ 4 (.slice A n4 c)); simpa using this)
                      have HPF : Hid (POwn wF N ⟨⟨[], [], none, 0, 0, [], none, 0, 0, []⟩, A0, n0, c0, L0, A1, n1, c1, L1, A2, n2, c2, L2, A3, n3, c3, L3, A, n4, c, mts, none, 0, 0, []⟩) := hide (HPW.out.keep HTU.out HKF.out)
                      have HRF : Hid (Rl wF g t5) := hide (HRW.out.keep HKF.out HNG.out)
                      have HKW : Hid (Keep (fun k => k = g) w wF) := hide (HBU.out.trans' HKF.out (fun i hi h => by have := HNN.out; omega))
                      have HROK : Hid (∀ w', w' = wu.drew → Calls Tryd.prog 50 #[.pointer (some ⟨g, 0, none⟩)] w' fun e w'' => e = .returned (.bool t5.isSome) ∧ w' = w'') := hide (by rintro w' rfl; exact rok_any g t5 wu.drew ⟨HRW.out.rs.drew, HRW.out.len⟩)
                      obtain ⟨bb, hbb⟩ : ∃ b, b = t5.isSome := ⟨_, rfl⟩
                      rw [← hbb] at HROK
                      have HBB := hide (fun _ : Unit => hbb)
                      clear hbb
                      refine region_chain (by kernel_rfl) [⟨0, some 100, false, [0], []⟩, ⟨1, some 101, false, [0, 1], []⟩, ⟨2, some 102, false, [0], [101]⟩, ⟨3, none, true, [0], [100]⟩, ⟨4, some 3, false, [0, 1], [102]⟩] [3] (fun d u _ _ => match d with | 100 => u = .agg #[.slice A0 n0 c0, .slice A1 n1 c1, .slice A2 n2 c2, .slice A3 n3 c3, .slice A n4 c] | 101 => u = .pointer (some ⟨g, 0, none⟩) | 102 => u = .bool bb | 3 => u = .bool bb | _ => True) (fun k w' => (k = 0 → w' = wu.drew) ∧ (k = 1 → w' = wF)) (by kernel_rfl) ⟨fun _ => rfl, fun e => by cases e⟩ ?obs ?hend
                      case obs =>
                        refine List.forall_mem_cons.2 ⟨?_, ?_⟩
                        · refine Ob.mk (by rfl) ?_
                          intro z w' k hk hph hz G hG
                          obtain rfl := List.mem_singleton.1 hk
                          obtain rfl := hph.1 rfl
                          simp only [putsAt, List.foldl]
                          unfold Runs
                          go_simp
                          exact hG _ _ (fun d' e => by cases e; rfl) (fun _ _ _ h => h) hph
                        refine List.forall_mem_cons.2 ⟨?_, ?_⟩
                        · refine Ob.mk (by rfl) ?_
                          intro z w' k hk hph hz G hG
                          simp only [putsAt, List.foldl]
                          unfold Runs
                          go_simp
                          exact hG _ _ (fun d' e => by cases e; rfl) (fun _ _ _ h => h) hph
                        refine List.forall_mem_cons.2 ⟨?_, ?_⟩
                        · refine Ob.mk (by rfl) ?_
                          intro z w' k hk hph hz G hG
                          obtain rfl := List.mem_singleton.1 hk
                          obtain rfl := hph.1 rfl
                          have e101 : z 101 = .pointer (some ⟨g, 0, none⟩) := hz 101 (by simp)
                          simp only [putsAt, List.foldl, e101]
                          unfold Runs
                          go_simp
                          refine (HROK.out _ rfl).mono ?_
                          rintro e w2 ⟨rfl, rfl⟩
                          exact ⟨_, rfl, hG _ _ (fun d' e => by cases e; rfl) (fun _ _ _ h => h) hph⟩
                        refine List.forall_mem_cons.2 ⟨?_, ?_⟩
                        · refine Ob.mk (by rfl) ?_
                          intro z w' k hk hph hz G hG
                          obtain rfl := List.mem_singleton.1 hk
                          obtain rfl := hph.1 rfl
                          have e100 : z 100 = .agg #[.slice A0 n0 c0, .slice A1 n1 c1, .slice A2 n2 c2, .slice A3 n3 c3, .slice A n4 c] := hz 100 (by simp)
                          simp only [putsAt, List.foldl, e100]
                          unfold Runs
                          go_simp
                          exact hG _ _ (fun d' e => by cases e) (fun _ _ _ h => h) ⟨fun e => by simp at e, fun _ => hwF.symm⟩
                        refine List.forall_mem_cons.2 ⟨?_, ?_⟩
                        · refine Ob.mk (by rfl) ?_
                          intro z w' k hk hph hz G hG
                          have e102 : z 102 = .bool bb := hz 102 (by simp)
                          simp only [putsAt, List.foldl, e102]
                          unfold Runs
                          go_simp
                          exact hG _ _ (fun d' e => by cases e; rfl) (fun _ _ _ h => h) hph
                        exact List.forall_mem_nil _
                      case hend =>
                        intro z w' hz hph
                        obtain rfl := hph.2 rfl
                        have e3 : z 3 = .bool bb := hz 3 (by simp [dstsOf])
                        simp only [putsAt, List.foldl, dstsOf, List.filterMap, Act.put, List.setIfInBounds_toArray, List.set_cons_zero, List.set_cons_succ, e3]
                        generalize z 100 = y100
                        generalize z 101 = y101
                        generalize z 102 = y102
                        have r0 := HBN.out.cell 0
                        have r1 := HBN.out.cell 1
                        have r2 := HBN.out.cell 2
                        have r3 := HBN.out.cell 3
                        have r4 := HBN.out.cell 4
                        simp at r0 r1 r2 r3 r4
                        clear hz hph hwF HKF HBN HGX HTU HPW HBU HRW HROK q0 q1 q2 q3 q4 d0 d1 d2 d3 d4 f0 f1 f2 f3 f4
                        go_wp2_with fail
                        refine bodyPost_ret (v := .tuple #[.agg #[.slice A0 n0 c0, .slice A1 n1 c1, .slice A2 n2 c2, .slice A3 n3 c3, .slice A n4 c], .bool bb]) ?_ rfl ?_
                        · simp [results, Tryd.results27, go_sem, r0, r1, r2, r3, r4]
                        exact ⟨_, bb, _, rfl, by rw [HNN.out]; exact HPF.out, HRF.out, HKW.out, by rw [(HLAST.out ()).1, (HLAST.out ()).2.1, HBB.out ()]; rfl, fun _ => ⟨(HLAST.out ()).2.2.symm, (HLAST.out ()).2.1.symm⟩⟩
end Go.Proofs.YtkldfbacagnhoaaDoor
