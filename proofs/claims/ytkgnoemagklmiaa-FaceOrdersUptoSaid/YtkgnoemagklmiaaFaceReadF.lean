/- How a face is read, walked; no statement of the seat is proved here. -/
import Derived.Test.YtkgnoemagklmiaaReadsF
import Derived.Test.YtkgnoemagklmiaaFaceM
import Derived.Test.YtkgnoemagklmiaaFaceDataC
import Derived.Deep.DeepCutAuto
namespace Go.Proofs.Ytkgnoemagklmiaa
open Go.RowKit

theorem var_info : (Try.prog.info? 45).map (fun i => (i.zero, i.size, i.bytes)) = some (some (.agg #[S [], S [], .bool false]), 3, 40) := by kernel_rfl
theorem ty_info : (Try.prog.info? 43).map (fun i => (i.zero, i.size, i.bytes)) = some (some (.agg #[S [], .bool false]), 2, 24) := by kernel_rfl
theorem sig_info : (Try.prog.info? 58).map (fun i => (i.zero, i.size, i.bytes)) = some (some (.agg #[S [], .bool false, .slice none 0 0, S [], .bool false]), 5, 72) := by kernel_rfl
theorem textR_len (m : Nat) (st : St) : (textR m st).1.length ≤ m := by
  unfold textR
  have h := numR_le m st
  generalize numR m st = p at h ⊢
  obtain ⟨x, _ | l⟩ := p
  · simp
  · simp only
    split
    · simp
    · simp only [List.length_take]
      omega
theorem manyR_le (m : Nat) (st : St) : (manyR m st).1 ≤ m := by
  unfold manyR
  split
  · exact Nat.zero_le _
  · exact numR_le m st

theorem rtext40 (g : Nat) (st : St) (w : World) (h : Rl w g st) : Calls Try.prog 42 #[.pointer (some ⟨g, 0, none⟩), .int .i64 40] w (ReadsTo g (S (textR 40 st).1) (textR 40 st).2 w) := rtext_any g 40 st w h (by omega)
theorem rmany200 (g : Nat) (st : St) (w : World) (h : Rl w g st) : Calls Try.prog 43 #[.pointer (some ⟨g, 0, none⟩), .int .i64 200] w (ReadsTo g (.int .i64 ((manyR 200 st).1 : Int)) (manyR 200 st).2 w) := rmany_any g 200 st w h (by omega)

set_option maxRecDepth 100000 in
theorem rtype_any (g : Nat) (st : St) (w : World) (h : Rl w g st) :
    Calls Try.prog 23 #[.pointer (some ⟨g, 0, none⟩)] w (ReadsTo g (tyR st).1.val (tyR st).2 w) := by
  have HR := hide h
  clear h
  go_enter Try.func23, Try.ntmps23
  go_upto_region 1 with fail
  refine name_world ?_
  intro wA hwA
  have HRA : Hid (Rl wA g st) := hide (by rw [hwA]; exact HR.out.alloc _)
  have HT : Hid (Blk wA w.heap.size 43 #[S [], .bool false]) := hide (by rw [hwA]; exact Blk.new _ _ _)
  have HB : Hid (Keep (fun k => k = g) w wA) := hide (by rw [hwA]; exact (Keep.refl _ w).alloc _)
  have HGE : Hid (w.heap.size ≠ g) := hide (by have := HR.out.lt; omega)
  obtain ⟨N, hN⟩ : ∃ N, N = w.heap.size := ⟨_, rfl⟩
  rw [← hN] at HT HGE ⊢
  have HN : Hid (w.heap.size ≤ N) := hide (by omega)
  clear hwA hN
  have H1 := hide (rtext40 g st wA HRA.out)
  go_wp2_with (go_at_call 42; refine H1.out.mono ?_; rintro e w1 ⟨rfl, h1, k1⟩)
  have HT1 : Hid (Blk w1 N 43 #[S [], .bool false]) := hide (HT.out.keep k1 HGE.out)
  have HB1 := hide (HB.out.trans k1)
  have H2 := hide (rflag_any g (textR 40 st).2 w1 h1)
  clear h1 k1 H1
  have HV : Hid ((tyR st).1.val = .agg #[S (textR 40 st).1, .bool (flagR (textR 40 st).2).1]) := hide rfl
  have HS : Hid ((tyR st).2 = (flagR (textR 40 st).2).2) := hide rfl
  generalize (textR 40 st).1 = n at *
  generalize (flagR (textR 40 st).2) = R at *
  refine H2.out.mono ?_
  rintro e w2 ⟨rfl, h2, k2⟩
  have HT2 : Hid (Blk w2 N 43 #[S [], .bool false]) := hide (HT1.out.keep k2 HGE.out)
  have c0 := HT2.out.cell 0
  have c1 := HT2.out.cell 1
  have f0 := HT2.out.frozen 0
  have f1 := HT2.out.frozen 1
  simp at c0 c1
  have HRF : Hid (Rl ((w2.setCell ⟨N, 0, none⟩ (S n)).setCell ⟨N, 1, none⟩ (.bool R.1)) g R.2) := hide ⟨(h2.rs.far HGE.out.symm _).far HGE.out.symm _, h2.len⟩
  have HKF : Hid (Keep (fun k => k = g) w ((w2.setCell ⟨N, 0, none⟩ (S n)).setCell ⟨N, 1, none⟩ (.bool R.1))) := hide (((HB1.out.trans k2).setCell (p := ⟨N, 0, none⟩) (fun h => by have := HN.out; simp at h; omega) _).setCell (p := ⟨N, 1, none⟩) (fun h => by have := HN.out; simp at h; omega) _)
  have HBK : Hid (Blk ((w2.setCell ⟨N, 0, none⟩ (S n)).setCell ⟨N, 1, none⟩ (.bool R.1)) N 43 #[S n, .bool R.1]) := hide (by have := (HT2.out.set_ 0 (S n)).set_ 1 (.bool R.1); simpa using this)
  have r0 := HBK.out.cell 0
  have r1 := HBK.out.cell 1
  simp at r0 r1
  clear h2 k2 HT2 HT1 HT HB HB1 H2
  go_wp2_with fail
  refine bodyPost_ret (v := .agg #[S n, .bool R.1]) ?_ rfl ?_
  · simp [results, Try.results23, go_sem, r0, r1]
  exact ⟨by rw [HV.out], by rw [HS.out]; exact HRF.out, HKF.out⟩

theorem Rd.of_ownB {w : World} {B n size : Nat} {e : TypeId} {A : Option Addr} {c : Nat} {xs : List Value} (h : w.ownsRow B e size (.slice A n c) n xs) : Rd w (fun k => k < B) size A n xs := by
  refine ⟨h.1, fun hn => ?_⟩
  obtain ⟨g, cap, hv, hb, hlt⟩ := h.form hn
  have hA : A = some ⟨g, 0, none⟩ := by injection hv
  subst hA
  refine ⟨g, 0, rfl, by omega, hlt, fun j u hu => ?_⟩
  have := h.cells (g := g) rfl j u hu
  unfold Addr.add at this
  split at this
  · rename_i h0; rw [h0]; simpa using this
  · simpa using this
theorem own_own_ne {w : World} {B B' s s' n n' : Nat} {e e' : TypeId} {v v' : Value} {xs xs' : List Value} (h : w.ownsRow B e s v n xs) (h' : w.ownsRow B' e' s' v' n' xs') (hne : e ≠ e') : ∀ k, v.ownBlock = some k → v'.ownBlock ≠ some k := by
  intro k hk hk'
  rcases h.2 with ⟨rfl, _⟩ | ⟨g, cap, cur, rfl, _, hh, _⟩
  · cases hk
  · rcases h'.2 with ⟨rfl, _⟩ | ⟨g', cap', cur', rfl, _, hh', _⟩
    · cases hk'
    · simp only [Value.ownBlock, Option.some.injEq] at hk hk'
      subst hk
      subst hk'
      rw [hh] at hh'
      injection hh' with h1
      injection h1 with _ h2
      exact hne h2
theorem own_base {w : World} {B s n k : Nat} {e : TypeId} {v : Value} {xs : List Value} (h : w.ownsRow B e s v n xs) (hk : v.ownBlock = some k) : B ≤ k := (h.lt k hk).1

theorem own_base_mono {w : World} {B B' s n : Nat} {e : TypeId} {v : Value} {xs : List Value} (h : w.ownsRow B e s v n xs) (hB : B' ≤ B) : w.ownsRow B' e s v n xs := by
  refine ⟨h.1, ?_⟩
  rcases h.2 with h2 | ⟨g, cap, cur, hv, hb, r⟩
  · exact .inl h2
  · exact .inr ⟨g, cap, cur, hv, Nat.le_trans hB hb, r⟩
/-- 'append(v, e)', the element in a block of its own, onto what the call owns. -/
theorem wpList_appB {P : Program} {w : World} {ops : Array Oper} {rest : List Oper} {o : Oper} {a : Act} {Q : Exit → Act → World → Prop} (hgd : o.guard = none) (s x : Operand) (t : TypeId)
    (ho : o.op = .call { callee := .builtin .append, args := #[s, x], argTypes := #[t, t] })
    (base : Nat) (e : TypeId) (z : Value) (size bytes : Nat) (ht : P.underlying t = some (.slice e)) (hinfo : (P.info? e).map (fun i => (i.zero, i.size, i.bytes)) = some (some z, size, bytes)) (hzs : z.cells.size = size) (hsz : 0 < size)
    (v : Value) (n : Nat) (xs : List Value) (hs : a.eval s = v) (hown : w.ownsRow base e size v n xs) (b : Nat) (news : List Value) (hx : a.eval x = .slice (some ⟨b, 0, none⟩) 1 1) (hl : news.length = size) (hb : Blk w b e news.toArray) (h1 : ∀ u ∈ news, u.oneCell' = true)
    (h63 : n + 1 ≤ maxLen) (hbytes : (n + 1) * bytes ≤ 140737488355328) (hbase : base ≤ w.heap.size)
    (h : ∀ A c w', w'.ownsRow base e size (.slice A (n + 1) c) (n + 1) (xs ++ news) → w.grownBy w' v.ownBlock → wpList P ops Q rest (a.put o.dst (.slice A (n + 1) c)) w') :
    wpList P ops Q (o :: rest) a w := by
  obtain ⟨i, hi, hz, hz1, hz2⟩ := info_parts hinfo
  refine wpList_append_own_at _ hgd s x t ho base e i z size bytes ht hi hz hz1 hz2 hzs hsz v n xs hs hown ⟨b, 0, none⟩ 1 1 news hx (by omega) (fun j u hu => World.news_of_block hb j u (by simpa using hu)) h1 h63 hbytes hbase ?_
  intro v' w' hown' hg _ _
  obtain ⟨A, c, rfl⟩ := own_slice hown'
  exact h A c w' hown' hg

/-- Methods whose parameters lie in blocks of their own. -/
def SgsOwn (w : World) (B : Nat) (ms : List Sg) : Prop := ∀ m ∈ ms, w.ownsRow B 43 2 (.slice m.A m.k m.c) m.k (m.ps.flatMap Ty.cells) ∧ m.ps.length = m.k ∧ m.k ≤ 200 ∧ short m.n ∧ m.r.ok ∧ ∀ p ∈ m.ps, p.ok
theorem SgsOwn.keep {w w' : World} {B : Nat} {ms : List Sg} {F : Nat → Prop} (h : SgsOwn w B ms) (hk : Keep F w w') (hF : ∀ m ∈ ms, ∀ k, (Value.slice m.A m.k m.c).ownBlock = some k → ¬ F k) : SgsOwn w' B ms :=
  fun m hm => ⟨own_keep (h m hm).1 hk (hF m hm), (h m hm).2⟩
theorem iterR_ps_ok (k : Nat) (st : St) : ∀ p ∈ (iterR tyR k st).1, p.ok := by
  induction k generalizing st with
  | zero => intro p hp; cases hp
  | succ k ih =>
    intro p hp
    rw [iterR_cons] at hp
    rcases List.mem_cons.1 hp with rfl | hp
    · have := textR_len 40 st
      show short (textR 40 st).1
      unfold short
      omega
    · exact ih _ p hp
theorem iterR_vr_ok (k : Nat) (st : St) : ∀ p ∈ (iterR vrR k st).1, p.ok := by
  induction k generalizing st with
  | zero => intro p hp; cases hp
  | succ k ih =>
    intro p hp
    rw [iterR_cons] at hp
    rcases List.mem_cons.1 hp with rfl | hp
    · have := textR_len 40 st
      have h2 := textR_len 40 (textR 40 st).2
      exact ⟨by show short (textR 40 st).1; unfold short; omega, by show short (textR 40 (textR 40 st).2).1; unfold short; omega⟩
    · exact ih _ p hp

/-- A face that was read: new blocks hold it; nothing but the reader has turned. -/
def FaceRead (g : Nat) (st : St) (w : World) (e : Ending) (w' : World) : Prop :=
  ∃ f : Fc, e = .returned f.val ∧ f.pl = (fcR st).1 ∧ f.at_ w' (fun k => k < w.heap.size) ∧ SgsOwn w' w.heap.size f.ms ∧ Rl w' g (fcR st).2 ∧ Keep (fun k => k = g) w w'

set_option maxRecDepth 100000 in
set_option maxHeartbeats 8000000 in
theorem fread_any (g : Nat) (st : St) (w : World) (h : Rl w g st) : Calls Try.prog 21 #[.pointer (some ⟨g, 0, none⟩)] w (FaceRead g st w) := by
  have HR := hide h
  clear h
  go_enter Try.func21, Try.ntmps21
  go_upto_region 1 with fail
  refine name_world ?_
  intro wA hwA
  have HRA : Hid (Rl wA g st) := hide (by rw [hwA]; exact HR.out.alloc _)
  have HT : Hid (Blk wA w.heap.size 25 #[S [], S [], .slice none 0 0, .slice none 0 0]) := hide (by rw [hwA]; exact Blk.new _ _ _)
  have HB : Hid (Keep (fun k => k = g) w wA) := hide (by rw [hwA]; exact (Keep.refl _ w).alloc _)
  have HG0 : Hid (g < w.heap.size) := hide HR.out.lt
  obtain ⟨N, hN⟩ : ∃ N, N = w.heap.size := ⟨_, rfl⟩
  have HN : Hid (w.heap.size = N) := hide hN.symm
  rw [← hN] at HT ⊢
  clear hwA hN
  have H1 := hide (rtext40 g st wA HRA.out)
  go_wp2_with (first | fail)
  refine H1.out.mono ?_
  rintro e w1 ⟨rfl, h1, k1⟩
  have H2 := hide (rtext40 g (textR 40 st).2 w1 h1)
  have HT1 : Hid (Blk w1 N 25 #[S [], S [], .slice none 0 0, .slice none 0 0]) := hide (HT.out.keep k1 (by have := HN.out; have := HG0.out; omega))
  have HB1 := hide (HB.out.trans k1)
  clear h1 k1 H1 HT HB
  go_wp2_with (first | fail)
  refine H2.out.mono ?_
  rintro e w2 ⟨rfl, h2, k2⟩
  have HT2 : Hid (Blk w2 N 25 #[S [], S [], .slice none 0 0, .slice none 0 0]) := hide (HT1.out.keep k2 (by have := HN.out; have := HG0.out; omega))
  have HB2 := hide (HB1.out.trans k2)
  have HL : Hid (short (textR 40 st).1 ∧ short (textR 40 (textR 40 st).2).1) := hide ⟨by have := textR_len 40 st; unfold short; omega, by have := textR_len 40 (textR 40 st).2; unfold short; omega⟩
  have HFC := hide (fcR_eq st)
  clear H2 HT1 HB1
  generalize (textR 40 st).1 = n at *
  generalize (textR 40 (textR 40 st).2).1 = su at *
  generalize (textR 40 (textR 40 st).2).2 = s2 at *
  go_upto_region 2 with fail
  refine name_world ?_
  intro w3 hw3
  have HR3 : Hid (Rl w3 g s2) := hide (by rw [hw3]; exact h2.alloc _)
  have HT3 : Hid (Blk w3 N 25 #[S [], S [], .slice none 0 0, .slice none 0 0]) := hide (by rw [hw3]; exact HT2.out.alloc _)
  have HX3 : Hid (Blk w3 w2.heap.size 25 #[S n, S su, .slice none 0 0, .slice none 0 0]) := hide (by rw [hw3]; exact Blk.new _ _ _)
  have HB3 : Hid (Keep (fun k => k = g) w w3) := hide (by rw [hw3]; exact HB2.out.alloc _)
  have HQ : Hid (N < w2.heap.size) := hide HT2.out.lt
  obtain ⟨q, hq⟩ : ∃ q, q = w2.heap.size := ⟨_, rfl⟩
  rw [← hq] at HX3 HQ ⊢
  clear hw3 hq h2 k2 HT2 HB2
  have HGQ : Hid (g ≠ q) := hide (by have := HG0.out; have := HN.out; have := HQ.out; omega)
  have H3 := hide (rmany200 g s2 w3 HR3.out)
  go_wp2_with (first | fail)
  refine H3.out.mono ?_
  rintro e wo ⟨rfl, h4, k4⟩
  have HT4 : Hid (Blk wo N 25 #[S [], S [], .slice none 0 0, .slice none 0 0]) := hide (HT3.out.keep k4 (by have := HN.out; have := HG0.out; omega))
  have HX4 : Hid (Blk wo q 25 #[S n, S su, .slice none 0 0, .slice none 0 0]) := hide (HX3.out.keep k4 (fun e => HGQ.out e.symm))
  have HB4 := hide (HB3.out.trans k4)
  have HR4 := hide h4
  have hN1 := manyR_le 200 s2
  have HF2 : Hid (fcR2 s2 = (((iterR vrR (manyR 200 s2).1 (manyR 200 s2).2).1, (secR sgR 200 (iterR vrR (manyR 200 s2).1 (manyR 200 s2).2).2).1), (secR sgR 200 (iterR vrR (manyR 200 s2).1 (manyR 200 s2).2).2).2)) := hide rfl
  clear H3 HT3 HX3 HB3 HR3 h4 k4
  generalize (manyR 200 s2).1 = N1 at *
  generalize (manyR 200 s2).2 = s3 at *
  have HGO : Hid (g < wo.heap.size) := hide HR4.out.lt
  have HNO : Hid (N < wo.heap.size) := hide HT4.out.lt
  go_wp2_with fail
  go_loopw [12] (fun i wr => ∃ (k : Nat) (A : Option Addr) (c : Nat), k ≤ N1 ∧ i = .int .i64 k ∧ Hid (Gx wr q 25 [S n, S su, .slice A k c, .slice none 0 0] 2 wo.heap.size 45 3 k ((iterR vrR k s3).1.flatMap Vr.cells) (.slice A k c)) ∧ Hid (Rl wr g (iterR vrR k s3).2) ∧ Hid (Keep (fun i => i = g ∨ i = q) wo wr)) (fun i _ => N1 - (intOf i).toNat)
  case atStart => exact ⟨0, none, 0, Nat.zero_le _, rfl, hide ⟨HX4.out, rfl, World.ownsRow_nil _ _ _ _, by decide⟩, HR4, hide (Keep.refl _ _)⟩
  case round =>
    obtain ⟨k, A, c, hk, rfl, HGX, HRL, HKP⟩ := hrel
    by_cases hlt : k < N1
    · have HK2 : Hid (k < 200) := hide (by omega)
      have HGL : Hid (g < wr.heap.size) := hide HRL.out.lt
      have HGB : Hid (wo.heap.size ≤ wr.heap.size) := hide HKP.out.size
      have HGV : Hid ((Value.slice A k c).ownBlock ≠ some g) := hide (fun e => by have := own_base HGX.out.own e; have := HGO.out; omega)
      have HX : Hid ((iterR vrR (k + 1) s3).1 = (iterR vrR k s3).1 ++ [(vrR (iterR vrR k s3).2).1] ∧ (iterR vrR (k + 1) s3).2 = (vrR (iterR vrR k s3).2).2) := hide ⟨rfl, rfl⟩
      generalize (iterR vrR k s3).2 = X at HRL HX
      go_upto_region 4 with fail
      refine region_app (q := q) (j := 2) (B := wo.heap.size) (sz := 3) (n := k) (T := 25) (e := 45) (cs := [S n, S su, .slice A k c, .slice none 0 0]) (xs := (iterR vrR k s3).1.flatMap Vr.cells) (news := [S (textR 40 X).1, S (tyR (textR 40 X).2).1.n, .bool (tyR (textR 40 X).2).1.a]) (v := .slice A k c) (by kernel_rfl) [⟨0, some 14, false, [0, 1, 2, 3, 4], []⟩, ⟨1, some 15, false, [0, 1, 2], [14]⟩, ⟨2, some 16, false, [0, 1, 2, 3, 4], []⟩, ⟨3, some 17, true, [0], [16]⟩, ⟨4, some 18, false, [0, 1, 2, 3, 4], []⟩, ⟨5, some 19, true, [1], [18]⟩, ⟨6, some 20, false, [0, 1, 2, 3, 4], [17, 19]⟩, ⟨7, some 21, false, [0, 1, 2], [20]⟩, ⟨8, some 22, true, [2], [15, 21]⟩, ⟨9, some 23, false, [0, 1, 2, 3, 4], []⟩, ⟨10, none, true, [3], [23, 22]⟩] [3, 5, 8, 10] (fun d => match d with | 14 => .is (.pointer (some ⟨q, 2, none⟩)) | 15 => .is (.slice A k c) | 16 => .is (.pointer (some ⟨g, 0, none⟩)) | 17 => .is (S (textR 40 X).1) | 18 => .is (.pointer (some ⟨g, 0, none⟩)) | 19 => .is ((tyR (textR 40 X).2).1.val) | 20 => .is (.agg #[S (textR 40 X).1, S (tyR (textR 40 X).2).1.n, .bool (tyR (textR 40 X).2).1.a]) | 21 => .lit 1 45 ([S (textR 40 X).1, S (tyR (textR 40 X).2).1.n, .bool (tyR (textR 40 X).2).1.a]).toArray | 22 => .app (wo.heap.size) 45 3 (k + 1) ((iterR vrR k s3).1.flatMap Vr.cells ++ [S (textR 40 X).1, S (tyR (textR 40 X).2).1.n, .bool (tyR (textR 40 X).2).1.a]) | 23 => .is (.pointer (some ⟨q, 2, none⟩)) | _ => .any) (fun i => i = g) 2 (RlX g (fun k => match k with | 0 => X | 1 => (textR 40 X).2 | _ => (tyR (textR 40 X).2).2)) (RlX.ok HGQ.out HGV.out) (by kernel_rfl) rfl HRL.out ?obs ?hend
      case obs =>
        refine List.forall_mem_cons.2 ⟨?_, ?_⟩
        · refine ObA.pure (by rfl) (.pointer (some ⟨q, 2, none⟩)) rfl ?_
          intro z w' k hz G hG
          simp only [putsAt, List.foldl]
          unfold Runs
          go_simp
          exact hG
        refine List.forall_mem_cons.2 ⟨?_, ?_⟩
        · refine ObA.load (by rfl) (by decide) (.slice A k c) rfl ?_
          intro z w' k hkp hz G hG
          have e14 : z 14 = .pointer (some ⟨q, 2, none⟩) := hz 14 (by simp)
          have hc := (HGX.out.keep hkp (fun e => HGQ.out e.symm) (fun k hk e => HGV.out (by rw [hk, e]))).cell
          simp only [putsAt, List.foldl, e14]
          unfold Runs
          go_simp
          exact hG
        refine List.forall_mem_cons.2 ⟨?_, ?_⟩
        · refine ObA.pure (by rfl) (.pointer (some ⟨g, 0, none⟩)) rfl ?_
          intro z w' k hz G hG
          simp only [putsAt, List.foldl]
          unfold Runs
          go_simp
          exact hG
        refine List.forall_mem_cons.2 ⟨?_, ?_⟩
        · refine ObA.read (by rfl) (by decide) (fun i h => by have := HGL.out; omega) (S (textR 40 X).1) rfl ?_
          intro z w' hr0 hz G hG
          have hr : Rl w' g (X) := hr0
          clear hr0
          have e16 : z 16 = .pointer (some ⟨g, 0, none⟩) := hz 16 (by simp)
          simp only [putsAt, List.foldl, e16]
          unfold Runs
          go_simp
          refine (rtext40 g X w' hr).mono ?_
          rintro e w2 ⟨rfl, h1, h2⟩
          exact ⟨_, rfl, hG _ h1 h2⟩
        refine List.forall_mem_cons.2 ⟨?_, ?_⟩
        · refine ObA.pure (by rfl) (.pointer (some ⟨g, 0, none⟩)) rfl ?_
          intro z w' k hz G hG
          simp only [putsAt, List.foldl]
          unfold Runs
          go_simp
          exact hG
        refine List.forall_mem_cons.2 ⟨?_, ?_⟩
        · refine ObA.read (by rfl) (by decide) (fun i h => by have := HGL.out; omega) ((tyR (textR 40 X).2).1.val) rfl ?_
          intro z w' hr0 hz G hG
          have hr : Rl w' g ((textR 40 X).2) := hr0
          clear hr0
          have e18 : z 18 = .pointer (some ⟨g, 0, none⟩) := hz 18 (by simp)
          simp only [putsAt, List.foldl, e18]
          unfold Runs
          go_simp
          refine (rtype_any g (textR 40 X).2 w' hr).mono ?_
          rintro e w2 ⟨rfl, h1, h2⟩
          exact ⟨_, rfl, hG _ h1 h2⟩
        refine List.forall_mem_cons.2 ⟨?_, ?_⟩
        · refine ObA.pure (by rfl) (.agg #[S (textR 40 X).1, S (tyR (textR 40 X).2).1.n, .bool (tyR (textR 40 X).2).1.a]) rfl ?_
          intro z w' k hz G hG
          have e17 : z 17 = S (textR 40 X).1 := hz 17 (by simp)
          have e19 : z 19 = (tyR (textR 40 X).2).1.val := hz 19 (by simp)
          simp only [putsAt, List.foldl, e17, e19]
          unfold Runs
          go_simp
          exact hG
        refine List.forall_mem_cons.2 ⟨?_, ?_⟩
        · refine ObA.lit (by rfl) (by decide) rfl (fun i h => by have := HGL.out; omega) (RlX.ok HGQ.out HGV.out) ?_
          intro z w' k hz G hG
          have e20 : z 20 = .agg #[S (textR 40 X).1, S (tyR (textR 40 X).2).1.n, .bool (tyR (textR 40 X).2).1.a] := hz 20 (by simp)
          simp only [putsAt, List.foldl, e20]
          unfold Runs
          go_simp
          exact hG
        refine List.forall_mem_cons.2 ⟨?_, ?_⟩
        · refine ObA.app (by rfl) rfl 22 rfl Try.underlying22 (.agg #[S [], S [], .bool false]) 40 var_info rfl (by decide) HGX.out (fun e => HGQ.out e.symm) (fun k hk e => HGV.out (by rw [hk, e])) HGB.out rfl rfl rfl ?_ rfl (by intro u hu; simp only [List.mem_cons, List.not_mem_nil, or_false] at hu; rcases hu with rfl | rfl | rfl <;> rfl) (by unfold maxLen; have := HK2.out; omega) (by have := HK2.out; omega) (by simp) (by simp)
          intro d' hd' B e sz n xs
          split <;> first | (intro h; cases h; done) | exact absurd rfl hd'
        refine List.forall_mem_cons.2 ⟨?_, ?_⟩
        · refine ObA.pure (by rfl) (.pointer (some ⟨q, 2, none⟩)) rfl ?_
          intro z w' k hz G hG
          simp only [putsAt, List.foldl]
          unfold Runs
          go_simp
          exact hG
        refine List.forall_mem_cons.2 ⟨?_, ?_⟩
        · refine ObA.store (by rfl) rfl HGX.out (fun e => HGQ.out e.symm) (fun k hk e => HGV.out (by rw [hk, e])) (RlX.ok HGQ.out HGV.out) rfl rfl ?_
          intro z w' ep hc hf A c ex G hG
          simp only [putsAt, List.foldl, ep, ex]
          unfold Runs
          go_simp
          exact hG
        exact List.forall_mem_nil _
      case hend =>
        intro z w' A2 c2 hg2 hr20 hk20
        have hk2 : Keep (fun i => i = g ∨ i = q ∨ some i = (Value.slice A k c).ownBlock) _ w' := hk20
        clear hk20
        have hr2 : Rl w' g ((tyR (textR 40 X).2).2) := hr20
        clear hr20
        simp only [putsAt, List.foldl, dstsOf, List.filterMap, Act.put, List.setIfInBounds_toArray, List.set_cons_zero, List.set_cons_succ]
        simp only [List.set_cons_zero, List.set_cons_succ] at hg2
        generalize z 14 = y14
        generalize z 15 = y15
        generalize z 16 = y16
        generalize z 17 = y17
        generalize z 18 = y18
        generalize z 19 = y19
        generalize z 20 = y20
        generalize z 21 = y21
        generalize z 22 = y22
        generalize z 23 = y23
        have HG5 : Hid (Gx w' q 25 [S n, S su, .slice A2 (k + 1) c2, .slice none 0 0] 2 wo.heap.size 45 3 (k + 1) ((iterR vrR (k + 1) s3).1.flatMap Vr.cells) (.slice A2 (k + 1) c2)) := hide (by rw [HX.out.1, List.flatMap_append, List.flatMap_singleton]; exact hg2)
        have HR5 : Hid (Rl w' g (iterR vrR (k + 1) s3).2) := hide (by rw [HX.out.2]; exact hr2)
        have HK5 : Hid (Keep (fun i => i = g ∨ i = q) wo w') := hide (HKP.out.trans' hk2 (fun i hi h => by
          rcases h with h | h | h
          · exact .inl h
          · exact .inr h
          · have := own_base HGX.out.own h.symm; omega))
        clear hg2 hr2 hk2 HGX HRL HKP HX
        go_wp2_with fail
        go_roundw
        case rel => exact ⟨k + 1, A2, c2, by omega, by go_num, HG5, HR5, HK5⟩
        case measure => simp [intOf]; omega
    · obtain rfl : k = N1 := by omega
      have HVS : Hid (∀ x ∈ (iterR vrR k s3).1, x.ok) := hide (iterR_vr_ok k s3)
      have HVL : Hid ((iterR vrR k s3).1.length = k) := hide (iterR_len _ _ _)
      generalize (iterR vrR k s3).1 = Vs at *
      generalize (iterR vrR k s3).2 = s4 at *
      have HT5 : Hid (Blk wr N 25 #[S [], S [], .slice none 0 0, .slice none 0 0]) := hide (HT4.out.keep HKP.out (fun h => by have := HN.out; have := HG0.out; have := HQ.out; rcases h with h | h <;> omega))
      have HB5 : Hid (Keep (fun k => k = g) w wr) := hide (HB4.out.trans' HKP.out (fun i hi h => by have := HN.out; have := HQ.out; rcases h with h | h <;> omega))
      have H5 := hide (rmany200 g s4 wr HRL.out)
      have HOW : Hid (w.heap.size ≤ wo.heap.size) := hide HB4.out.size
      clear HT4 HB4 HX4 HR4
      go_wp2_with (first | fail)
      refine H5.out.mono ?_
      rintro e wm ⟨rfl, h6, k6⟩
      have HT6 : Hid (Blk wm N 25 #[S [], S [], .slice none 0 0, .slice none 0 0]) := hide (HT5.out.keep k6 (by have := HN.out; have := HG0.out; omega))
      have HG6 := hide (HGX.out.keep k6 (fun e => HGQ.out e.symm) (fun i hi e => by have := own_base HGX.out.own hi; have := HGO.out; omega))
      have HB6 := hide (HB5.out.trans k6)
      have HR6 := hide h6
      have hN2 := manyR_le 200 s4
      have HF3 : Hid (secR sgR 200 s4 = iterR sgR (manyR 200 s4).1 (manyR 200 s4).2) := hide rfl
      clear H5 HT5 HB5 HGX HRL HKP h6 k6
      generalize (manyR 200 s4).1 = N2 at *
      generalize (manyR 200 s4).2 = s5 at *
      have HGM : Hid (g < wm.heap.size) := hide HR6.out.lt
      have HWM : Hid (w.heap.size ≤ wm.heap.size) := hide HB6.out.size
      go_wp2_with fail
      go_loopw [27] (fun i wr => ∃ (t : Nat) (A3 : Option Addr) (c3 : Nat) (ms : List Sg), t ≤ N2 ∧ i = .int .i64 t ∧ Hid (Gx wr q 25 [S n, S su, .slice A k c, .slice A3 t c3] 3 wm.heap.size 58 5 t (ms.flatMap Sg.cells) (.slice A3 t c3)) ∧ Hid (SgsOwn wr wm.heap.size ms) ∧ Hid (ms.map Sg.pl = (iterR sgR t s5).1) ∧ Hid (Rl wr g (iterR sgR t s5).2) ∧ Hid (Keep (fun i => i = g ∨ i = q) wm wr)) (fun i _ => N2 - (intOf i).toNat)
      case atStart => exact ⟨0, none, 0, [], Nat.zero_le _, rfl, hide ⟨HG6.out.blk, rfl, World.ownsRow_nil _ _ _ _, by decide⟩, hide (fun m hm => by cases hm), hide rfl, HR6, hide (Keep.refl _ _)⟩
      case round =>
        obtain ⟨t, A3, c3, ms, ht, rfl, HGX, HSO, HPL, HRL, HKP⟩ := hrel
        obtain ⟨wu, rfl⟩ : ∃ wu : World, wu = wr := ⟨_, rfl⟩
        by_cases hlt : t < N2
        · have HX : Hid ((iterR sgR (t + 1) s5).1 = (iterR sgR t s5).1 ++ [(sgR (iterR sgR t s5).2).1] ∧ (iterR sgR (t + 1) s5).2 = (sgR (iterR sgR t s5).2).2) := hide ⟨rfl, rfl⟩
          generalize (iterR sgR t s5).2 = X at HRL HX
          have HSG := hide (sgR_eq X)
          have HLR : Hid (g < wu.heap.size) := hide HRL.out.lt
          have HMR : Hid (wm.heap.size ≤ wu.heap.size) := hide HKP.out.size
          have H1 := hide (rtext40 g X wu HRL.out)
          go_wp2_with (first | fail)
          refine H1.out.mono ?_
          rintro e w1 ⟨rfl, h1, k1⟩
          have H2 := hide (rflag_any g (textR 40 X).2 w1 h1)
          clear h1 H1
          go_wp2_with (first | fail)
          refine H2.out.mono ?_
          rintro e w2 ⟨rfl, h2, k2⟩
          have H3 := hide (rtype_any g (flagR (textR 40 X).2).2 w2 h2)
          have hln := textR_len 40 X
          have hlr := textR_len 40 (flagR (textR 40 X).2).2
          have HLL : Hid (short (textR 40 X).1 ∧ (tyR (flagR (textR 40 X).2).2).1.ok) := hide ⟨by unfold short; omega, by show short (textR 40 (flagR (textR 40 X).2).2).1; unfold short; omega⟩
          clear h2 H2 hln hlr
          generalize (textR 40 X).1 = mn at *
          generalize (flagR (textR 40 X).2).1 = mst at *
          generalize (tyR (flagR (textR 40 X).2).2).1 = rt at *
          generalize (tyR (flagR (textR 40 X).2).2).2 = s6 at *
          obtain ⟨rn, ra⟩ := rt
          have HK12 := hide (k1.trans k2)
          clear k1 k2
          go_upto_region 9 with (first | (go_at_call 23; refine H3.out.mono ?_; rintro e w3 ⟨rfl, h3, k3⟩))
          refine name_world ?_
          intro w4 hw4
          have HR4 : Hid (Rl w4 g s6) := hide (by rw [hw4]; exact h3.alloc _)
          have HX4 : Hid (Blk w4 w3.heap.size 58 #[S mn, .bool mst, .slice none 0 0, S rn, .bool ra]) := hide (by rw [hw4]; exact Blk.new _ _ _)
          have HB4 : Hid (Keep (fun k => k = g) wu w4) := hide (by rw [hw4]; exact (HK12.out.trans k3).alloc _)
          have HQ4 : Hid (wu.heap.size ≤ w3.heap.size) := hide (HK12.out.trans k3).size
          obtain ⟨q4, hq4⟩ : ∃ q4, q4 = w3.heap.size := ⟨_, rfl⟩
          rw [← hq4] at HX4 HQ4 ⊢
          clear hw4 hq4 h3 k3 HK12 H3
          have HGQ4 : Hid (g ≠ q4) := hide (by have := HLR.out; have := HQ4.out; omega)
          have H5 := hide (rmany200 g s6 w4 HR4.out)
          go_wp2_with (first | fail)
          refine H5.out.mono ?_
          rintro e wi ⟨rfl, h5, k5⟩
          have HX5 : Hid (Blk wi q4 58 #[S mn, .bool mst, .slice none 0 0, S rn, .bool ra]) := hide (HX4.out.keep k5 (fun e => HGQ4.out e.symm))
          have HB5 := hide (HB4.out.trans k5)
          have HR5 := hide h5
          have hN3 := manyR_le 200 s6
          have HSEC : Hid (secR tyR 200 s6 = iterR tyR (manyR 200 s6).1 (manyR 200 s6).2) := hide rfl
          clear H5 HX4 HB4 HR4 h5 k5
          generalize (manyR 200 s6).1 = N3 at *
          generalize (manyR 200 s6).2 = s7 at *
          have HGO : Hid (g < wi.heap.size) := hide HR5.out.lt
          have HMI : Hid (wm.heap.size ≤ wi.heap.size) := hide (Nat.le_trans HMR.out HB5.out.size)
          go_wp2_with fail
          go_loopw [38] (fun i wp => ∃ (j : Nat) (A : Option Addr) (c : Nat), j ≤ N3 ∧ i = .int .i64 j ∧ Hid (Gx wp q4 58 [S mn, .bool mst, .slice A j c, S rn, .bool ra] 2 wi.heap.size 43 2 j ((iterR tyR j s7).1.flatMap Ty.cells) (.slice A j c)) ∧ Hid (Rl wp g (iterR tyR j s7).2) ∧ Hid (Keep (fun i => i = g ∨ i = q4) wi wp)) (fun i _ => N3 - (intOf i).toNat)
          case atStart => exact ⟨0, none, 0, Nat.zero_le _, rfl, hide ⟨HX5.out, rfl, World.ownsRow_nil _ _ _ _, by decide⟩, HR5, hide (Keep.refl _ _)⟩
          case round =>
            obtain ⟨j, Aj, cj, hj, rfl, HGP, HRP, HKJ⟩ := hrel
            clear HX5 HR5
            by_cases hlt3 : j < N3
            · have HK2 : Hid (j < 200) := hide (by omega)
              have HGL : Hid (g < wr.heap.size) := hide HRP.out.lt
              have HGB : Hid (wi.heap.size ≤ wr.heap.size) := hide HKJ.out.size
              have HGV : Hid ((Value.slice Aj j cj).ownBlock ≠ some g) := hide (fun e => by have := own_base HGP.out.own e; have := HGO.out; omega)
              have HXJ : Hid ((iterR tyR (j + 1) s7).1 = (iterR tyR j s7).1 ++ [(tyR (iterR tyR j s7).2).1] ∧ (iterR tyR (j + 1) s7).2 = (tyR (iterR tyR j s7).2).2) := hide ⟨rfl, rfl⟩
              generalize (iterR tyR j s7).2 = X at HRP HXJ
              go_upto_region 11 with fail
              refine region_app (q := q4) (j := 2) (B := wi.heap.size) (sz := 2) (n := j) (T := 58) (e := 43) (cs := [S mn, .bool mst, .slice Aj j cj, S rn, .bool ra]) (xs := (iterR tyR j s7).1.flatMap Ty.cells) (news := [S (tyR X).1.n, .bool (tyR X).1.a]) (v := .slice Aj j cj) (by kernel_rfl) [⟨0, some 40, false, [0, 1, 2, 3], []⟩, ⟨1, some 41, false, [0, 1], [40]⟩, ⟨2, some 42, false, [0, 1, 2, 3], []⟩, ⟨3, some 43, true, [0], [42]⟩, ⟨4, some 44, false, [0, 1], [43]⟩, ⟨5, some 45, true, [1], [41, 44]⟩, ⟨6, some 46, false, [0, 1, 2, 3], []⟩, ⟨7, none, true, [2], [46, 45]⟩] [3, 5, 7] (fun d => match d with | 40 => .is (.pointer (some ⟨q4, 2, none⟩)) | 41 => .is (.slice Aj j cj) | 42 => .is (.pointer (some ⟨g, 0, none⟩)) | 43 => .is ((tyR X).1.val) | 44 => .lit 1 43 ([S (tyR X).1.n, .bool (tyR X).1.a]).toArray | 45 => .app (wi.heap.size) 43 2 (j + 1) ((iterR tyR j s7).1.flatMap Ty.cells ++ [S (tyR X).1.n, .bool (tyR X).1.a]) | 46 => .is (.pointer (some ⟨q4, 2, none⟩)) | _ => .any) (fun i => i = g) 1 (RlX g (fun k => match k with | 0 => X | _ => (tyR X).2)) (RlX.ok HGQ4.out HGV.out) (by kernel_rfl) rfl HRP.out ?obs ?hend
              case obs =>
                refine List.forall_mem_cons.2 ⟨?_, ?_⟩
                · refine ObA.pure (by rfl) (.pointer (some ⟨q4, 2, none⟩)) rfl ?_
                  intro z w' k hz G hG
                  simp only [putsAt, List.foldl]
                  unfold Runs
                  go_simp
                  exact hG
                refine List.forall_mem_cons.2 ⟨?_, ?_⟩
                · refine ObA.load (by rfl) (by decide) (.slice Aj j cj) rfl ?_
                  intro z w' k hkp hz G hG
                  have e40 : z 40 = .pointer (some ⟨q4, 2, none⟩) := hz 40 (by simp)
                  have hc := (HGP.out.keep hkp (fun e => HGQ4.out e.symm) (fun k hk e => HGV.out (by rw [hk, e]))).cell
                  simp only [putsAt, List.foldl, e40]
                  unfold Runs
                  go_simp
                  exact hG
                refine List.forall_mem_cons.2 ⟨?_, ?_⟩
                · refine ObA.pure (by rfl) (.pointer (some ⟨g, 0, none⟩)) rfl ?_
                  intro z w' k hz G hG
                  simp only [putsAt, List.foldl]
                  unfold Runs
                  go_simp
                  exact hG
                refine List.forall_mem_cons.2 ⟨?_, ?_⟩
                · refine ObA.read (by rfl) (by decide) (fun i h => by have := HGL.out; omega) ((tyR X).1.val) rfl ?_
                  intro z w' hr0 hz G hG
                  have hr : Rl w' g (X) := hr0
                  clear hr0
                  have e42 : z 42 = .pointer (some ⟨g, 0, none⟩) := hz 42 (by simp)
                  simp only [putsAt, List.foldl, e42]
                  unfold Runs
                  go_simp
                  refine (rtype_any g X w' hr).mono ?_
                  rintro e w2 ⟨rfl, h1, h2⟩
                  exact ⟨_, rfl, hG _ h1 h2⟩
                refine List.forall_mem_cons.2 ⟨?_, ?_⟩
                · refine ObA.lit (by rfl) (by decide) rfl (fun i h => by have := HGL.out; omega) (RlX.ok HGQ4.out HGV.out) ?_
                  intro z w' k hz G hG
                  have e43 : z 43 = (tyR X).1.val := hz 43 (by simp)
                  simp only [putsAt, List.foldl, e43]
                  unfold Runs
                  go_simp
                  exact hG
                refine List.forall_mem_cons.2 ⟨?_, ?_⟩
                · refine ObA.app (by rfl) rfl 56 rfl Try.underlying56 (.agg #[S [], .bool false]) 24 ty_info rfl (by decide) HGP.out (fun e => HGQ4.out e.symm) (fun k hk e => HGV.out (by rw [hk, e])) HGB.out rfl rfl rfl ?_ rfl (by intro u hu; simp only [List.mem_cons, List.not_mem_nil, or_false] at hu; rcases hu with rfl | rfl <;> rfl) (by unfold maxLen; have := HK2.out; omega) (by have := HK2.out; omega) (by simp) (by simp)
                  intro d' hd' B e sz n xs
                  split <;> first | (intro h; cases h; done) | exact absurd rfl hd'
                refine List.forall_mem_cons.2 ⟨?_, ?_⟩
                · refine ObA.pure (by rfl) (.pointer (some ⟨q4, 2, none⟩)) rfl ?_
                  intro z w' k hz G hG
                  simp only [putsAt, List.foldl]
                  unfold Runs
                  go_simp
                  exact hG
                refine List.forall_mem_cons.2 ⟨?_, ?_⟩
                · refine ObA.store (by rfl) rfl HGP.out (fun e => HGQ4.out e.symm) (fun k hk e => HGV.out (by rw [hk, e])) (RlX.ok HGQ4.out HGV.out) rfl rfl ?_
                  intro z w' ep hc hf A c ex G hG
                  simp only [putsAt, List.foldl, ep, ex]
                  unfold Runs
                  go_simp
                  exact hG
                exact List.forall_mem_nil _
              case hend =>
                intro z w' A2 c2 hg2 hr20 hk20
                have hk2 : Keep (fun i => i = g ∨ i = q4 ∨ some i = (Value.slice Aj j cj).ownBlock) _ w' := hk20
                clear hk20
                have hr2 : Rl w' g ((tyR X).2) := hr20
                clear hr20
                simp only [putsAt, List.foldl, dstsOf, List.filterMap, Act.put, List.setIfInBounds_toArray, List.set_cons_zero, List.set_cons_succ]
                simp only [List.set_cons_zero, List.set_cons_succ] at hg2
                generalize z 40 = y40
                generalize z 41 = y41
                generalize z 42 = y42
                generalize z 43 = y43
                generalize z 44 = y44
                generalize z 45 = y45
                generalize z 46 = y46
                have HG5 : Hid (Gx w' q4 58 [S mn, .bool mst, .slice A2 (j + 1) c2, S rn, .bool ra] 2 wi.heap.size 43 2 (j + 1) ((iterR tyR (j + 1) s7).1.flatMap Ty.cells) (.slice A2 (j + 1) c2)) := hide (by rw [HXJ.out.1, List.flatMap_append, List.flatMap_singleton]; exact hg2)
                have HR5 : Hid (Rl w' g (iterR tyR (j + 1) s7).2) := hide (by rw [HXJ.out.2]; exact hr2)
                have HK5 : Hid (Keep (fun i => i = g ∨ i = q4) wi w') := hide (HKJ.out.trans' hk2 (fun i hi h => by
                  rcases h with h | h | h
                  · exact .inl h
                  · exact .inr h
                  · have := own_base HGP.out.own h.symm; omega))
                clear hg2 hr2 hk2 HGP HRP HKJ HXJ
                go_wp2_with fail
                go_roundw
                case rel => exact ⟨j + 1, A2, c2, by omega, by go_num, HG5, HR5, HK5⟩
                case measure => simp [intOf]; omega
            · obtain rfl : j = N3 := by omega
              have HPO : Hid (∀ x ∈ (iterR tyR j s7).1, x.ok) := hide (iterR_ps_ok j s7)
              have HPN : Hid ((iterR tyR j s7).1.length = j) := hide (iterR_len _ _ _)
              have HNW : Hid ((sgR X).1 = ⟨mn, mst, (iterR tyR j s7).1, ⟨rn, ra⟩⟩ ∧ (sgR X).2 = (iterR tyR j s7).2) := hide (by rw [HSG.out, HSEC.out]; exact ⟨rfl, rfl⟩)
              generalize (iterR tyR j s7).1 = ps at *
              have HKW : Hid (Keep (fun i => i = g ∨ i = q4) wu wr) := hide ((HB5.out.mono (fun _ _ h => .inl h)).trans HKJ.out)
              have HQW : Hid (wu.heap.size ≤ q4) := HQ4
              have hfar : ∀ i, i < wu.heap.size → wm.heap.size ≤ i → ¬ (i = g ∨ i = q4) := fun i h1 h2 h => by have := HGM.out; have := HQW.out; rcases h with h | h <;> omega
              have HG7 : Hid (Gx wr q 25 [S n, S su, .slice A k c, .slice A3 t c3] 3 wm.heap.size 58 5 t (ms.flatMap Sg.cells) (.slice A3 t c3)) := hide (HGX.out.keep HKW.out (fun h => by have := HQW.out; have := HGX.out.blk.lt; exact h.elim (fun h => HGQ.out h.symm) (fun h => by omega)) (fun i hi => hfar i (HGX.out.own.lt i hi).2 (own_base HGX.out.own hi)))
              have HS7 : Hid (SgsOwn wr wm.heap.size ms) := hide (HSO.out.keep HKW.out (fun m hm i hi => hfar i ((HSO.out m hm).1.lt i hi).2 (own_base (HSO.out m hm).1 hi)))
              have HK7 : Hid (Keep (fun i => i = g ∨ i = q) wm wr) := hide (HKP.out.trans' HKW.out (fun i hi h => by have := HQW.out; have := HMR.out; exact h.elim .inl (fun h => by omega)))
              have HMW : Hid (wm.heap.size ≤ wr.heap.size) := hide HK7.out.size
              have HQQ : Hid (q ≠ q4) := hide (by have := HQW.out; have := HGX.out.blk.lt; omega)
              have c3' : wr.cell? ⟨q, 3, none⟩ = some (.slice A3 t c3) := HG7.out.cell
              have m0 := HGP.out.blk.cell 0
              have m1 := HGP.out.blk.cell 1
              have m2 := HGP.out.blk.cell 2
              have m3 := HGP.out.blk.cell 3
              have m4 := HGP.out.blk.cell 4
              simp at m0 m1 m2 m3 m4
              have HRW : Hid (Rl wr g (iterR tyR j s7).2) := HRP
              clear hfar HGX HSO HKW HKJ HB5 HQ4 HKP
              go_wp2_with (at_builtin; refine wpList_appB rfl (.tmp 49) (.tmp 51) 23 rfl wm.heap.size 58 (.agg #[S [], .bool false, .slice none 0 0, S [], .bool false]) 5 72 Try.underlying23 sig_info rfl (by decide) (.slice A3 t c3) t (ms.flatMap Sg.cells) rfl (HG7.out.own.alloc _) wr.heap.size [S mn, .bool mst, .slice Aj j cj, S rn, .bool ra] rfl rfl (Blk.new _ _ _) (by intro u hu; simp only [List.mem_cons, List.not_mem_nil, or_false] at hu; rcases hu with rfl | rfl | rfl | rfl | rfl <;> rfl) (by unfold maxLen; omega) (by omega) (by have := HMW.out; simp; omega) ?_)
              intro A4 c4 w9 hown9 hg9
              obtain ⟨hn9, hc9, hf9⟩ := (HG7.out.alloc _).next hown9 hg9
              simp only [List.set_cons_zero, List.set_cons_succ] at hn9
              have HG9 := hide hn9
              have HGV9 : Hid ((Value.slice A3 t c3).ownBlock ≠ some g) := hide (fun e => by have := own_base HG7.out.own e; have := HGM.out; omega)
              have HR9 : Hid (Rl (w9.setCell ⟨q, 3, none⟩ (.slice A4 (t + 1) c4)) g (iterR sgR (t + 1) s5).2) := hide (by
                rw [HX.out.2, HNW.out.2]
                have h1 : Rl w9 g (iterR tyR j s7).2 := ⟨(HRW.out.alloc _).rs.grown hg9 (fun e => HGV9.out e.symm), HRW.out.len⟩
                exact ⟨h1.rs.far HGQ.out _, h1.len⟩)
              have HK9 : Hid (Keep (fun i => i = g ∨ i = q) wm (w9.setCell ⟨q, 3, none⟩ (.slice A4 (t + 1) c4))) := hide (by
                have h1 : Keep (fun i => i = g ∨ i = q) wm w9 := (HK7.out.alloc _).grown hg9 (fun i hi hlt => by have := own_base HG7.out.own hi; omega)
                exact h1.setCell (fun _ => .inr rfl) _)
              have HP9 : Hid ((ms ++ [(⟨mn, mst, Aj, j, cj, ps, ⟨rn, ra⟩⟩ : Sg)]).map Sg.pl = (iterR sgR (t + 1) s5).1) := hide (by
                rw [HX.out.1, HNW.out.1, List.map_append, HPL.out]; rfl)
              have HS9 : Hid (SgsOwn (w9.setCell ⟨q, 3, none⟩ (.slice A4 (t + 1) c4)) wm.heap.size (ms ++ [(⟨mn, mst, Aj, j, cj, ps, ⟨rn, ra⟩⟩ : Sg)])) := hide (by
                have hko : ∀ (B n' : Nat) (v' : Value) (xs' : List Value), wr.ownsRow B 43 2 v' n' xs' → (w9.setCell ⟨q, 3, none⟩ (.slice A4 (t + 1) c4)).ownsRow B 43 2 v' n' xs' := by
                  intro B n' v' xs' ho
                  have hkk : Keep (fun i => some i = (Value.slice A3 t c3).ownBlock ∨ i = q) wr (w9.setCell ⟨q, 3, none⟩ (.slice A4 (t + 1) c4)) := ((((Keep.refl (fun i => some i = (Value.slice A3 t c3).ownBlock ∨ i = q) wr).alloc _).grown hg9 (fun i hi _ => .inl hi.symm)).setCell (fun _ => .inr rfl) _)
                  refine own_keep ho hkk (fun i hi h => ?_)
                  rcases h with h | h
                  · exact own_own_ne ho HG7.out.own (by decide) i hi h.symm
                  · exact own_blk_ne ho HG7.out.blk (by decide) (by rw [hi, h])
                intro m hm
                rcases List.mem_append.1 hm with hm | hm
                · exact ⟨hko _ _ _ _ (HS7.out m hm).1, (HS7.out m hm).2⟩
                · obtain rfl := List.mem_singleton.1 hm
                  have hbase : wr.ownsRow wm.heap.size 43 2 (.slice Aj j cj) j (ps.flatMap Ty.cells) := own_base_mono HGP.out.own (by have := HMI.out; omega)
                  exact ⟨hko _ _ _ _ hbase, HPN.out, hN3, HLL.out.1, HLL.out.2, HPO.out⟩)
              have HXX : Hid ((ms ++ [(⟨mn, mst, Aj, j, cj, ps, ⟨rn, ra⟩⟩ : Sg)]).flatMap Sg.cells = ms.flatMap Sg.cells ++ [S mn, .bool mst, .slice Aj j cj, S rn, .bool ra]) := hide (by rw [List.flatMap_append, List.flatMap_singleton])
              rw [← HXX.out] at HG9
              clear hn9 hown9 hg9 m0 m1 m2 m3 m4 c3'
              go_wp2_with fail
              go_roundw
              case rel => first | exact ⟨t + 1, A4, c4, _, by omega, by go_num, HG9, HS9, HP9, HR9, HK9⟩ | ((repeat apply Exists.intro); exact ⟨⟨t + 1, A4, c4, _, by omega, by go_num, HG9, HS9, HP9, HR9, HK9⟩, rfl⟩)
              case measure => simp [intOf]; omega
        · obtain rfl : t = N2 := by omega
          have hNw := HN.out
          have HNG : Hid (g ≠ N) := hide (by have := HG0.out; omega)
          have HNQ : Hid (N ≠ q) := hide (by have := HQ.out; omega)
          have HTF : Hid (Blk wu N 25 #[S [], S [], .slice none 0 0, .slice none 0 0]) := hide (HT6.out.keep HKP.out (fun h => h.elim (fun h => HNG.out h.symm) HNQ.out))
          have HNM : Hid (N < wm.heap.size) := hide HT6.out.lt
          have HOF : Hid (wu.ownsRow wo.heap.size 45 3 (.slice A k c) k (Vs.flatMap Vr.cells)) := hide (own_keep HG6.out.own HKP.out (fun i hi h => h.elim (fun h => by have := own_base HG6.out.own hi; have := HGO.out; omega) (fun h => own_blk_ne HG6.out.own HG6.out.blk (by decide) (by rw [hi, h]))))
          have HBF : Hid (Keep (fun k => k = g) w wu) := hide (HB6.out.trans' HKP.out (fun i hi h => h.elim id (fun h => by have := HQ.out; omega)))
          have c0 := HGX.out.blk.cell 0
          have c1 := HGX.out.blk.cell 1
          have c2 := HGX.out.blk.cell 2
          have c3' := HGX.out.blk.cell 3
          have d0 := HTF.out.cell 0
          have d1 := HTF.out.cell 1
          have d2 := HTF.out.cell 2
          have d3 := HTF.out.cell 3
          have f0 := HTF.out.frozen 0
          have f1 := HTF.out.frozen 1
          have f2 := HTF.out.frozen 2
          have f3 := HTF.out.frozen 3
          simp at c0 c1 c2 c3' d0 d1 d2 d3
          obtain ⟨wF, hwF⟩ : ∃ wF, wF = (((wu.setCell ⟨N, 0, none⟩ (S n)).setCell ⟨N, 1, none⟩ (S su)).setCell ⟨N, 2, none⟩ (.slice A k c)).setCell ⟨N, 3, none⟩ (.slice A3 t c3) := ⟨_, rfl⟩
          have HKF : Hid (Keep (fun i => i = N) wu wF) := hide (by rw [hwF]; exact (((((Keep.refl (fun i => i = N) wu).setCell (p := ⟨N, 0, none⟩) (fun _ => rfl) _).setCell (p := ⟨N, 1, none⟩) (fun _ => rfl) _).setCell (p := ⟨N, 2, none⟩) (fun _ => rfl) _).setCell (p := ⟨N, 3, none⟩) (fun _ => rfl) _))
          have HBN : Hid (Blk wF N 25 #[S n, S su, .slice A k c, .slice A3 t c3]) := hide (by rw [hwF]; have := (((HTF.out.set_ 0 (S n)).set_ 1 (S su)).set_ 2 (.slice A k c)).set_ 3 (.slice A3 t c3); simpa using this)
          have HAT : Hid ((⟨n, su, A, k, c, Vs, A3, t, c3, ms⟩ : Fc).at_ wF (fun i => i < w.heap.size)) := hide (by
            have hf := own_keep HOF.out HKF.out (fun i hi h => by have := own_base HOF.out hi; have := HNO.out; omega)
            have hm := own_keep HGX.out.own HKF.out (fun i hi h => by have := own_base HGX.out.own hi; have := HNM.out; omega)
            refine ⟨⟨(Rd.of_ownB hf).weak (fun i _ h => by have := HOW.out; omega), HVL.out, by show k ≤ 9223372036854775807; omega, HVS.out⟩, ⟨(Rd.of_ownB hm).weak (fun i _ h => by have := HWM.out; omega), ?_, by show t ≤ 9223372036854775807; omega, fun m hm => ?_⟩, HL.out.1, HL.out.2⟩
            · have := congrArg List.length HPL.out
              rw [List.length_map, iterR_len] at this
              exact this
            · obtain ⟨h1, h2, h3, h4⟩ := HSO.out m hm
              have h5 := own_keep h1 HKF.out (fun i hi h => by have := own_base h1 hi; have := HNM.out; omega)
              exact ⟨(Rd.of_ownB h5).weak (fun i _ h => by have := HWM.out; omega), h2, by omega, h4⟩)
          have HSF : Hid (SgsOwn wF w.heap.size ms) := hide (fun m hm => ⟨own_base_mono (own_keep (HSO.out m hm).1 HKF.out (fun i hi h => by have := own_base (HSO.out m hm).1 hi; have := HNM.out; omega)) HWM.out, (HSO.out m hm).2⟩)
          have HRF : Hid (Rl wF g (fcR st).2) := hide (by rw [HFC.out, HF2.out, HF3.out]; exact HRL.out.keep HKF.out HNG.out)
          have HPF : Hid ((⟨n, su, A, k, c, Vs, A3, t, c3, ms⟩ : Fc).pl = (fcR st).1) := hide (by rw [HFC.out, HF2.out, HF3.out]; simp only [Fc.pl]; rw [HPL.out])
          have HKW : Hid (Keep (fun k => k = g) w wF) := hide (HBF.out.trans' HKF.out (fun i hi h => by omega))
          have r0 := HBN.out.cell 0
          have r1 := HBN.out.cell 1
          have r2 := HBN.out.cell 2
          have r3 := HBN.out.cell 3
          simp at r0 r1 r2 r3
          rw [hwF] at r0 r1 r2 r3 HRF HAT HKW HSF
          clear HKF HBN HTF HOF HBF hwF HGX HSO HPL HRL HKP
          go_wp2_with fail
          refine bodyPost_ret (v := .agg #[S n, S su, .slice A k c, .slice A3 t c3]) ?_ rfl ?_
          · simp [results, Try.results21, go_sem, r0, r1, r2, r3]
          exact ⟨_, rfl, HPF.out, HAT.out, HSF.out, HRF.out, HKW.out⟩
end Go.Proofs.Ytkgnoemagklmiaa
