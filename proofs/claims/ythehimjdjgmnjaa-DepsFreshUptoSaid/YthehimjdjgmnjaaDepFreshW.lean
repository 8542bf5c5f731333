/- DepsFresh, walked; no statement of the seat is proved here. (Written by gen/depfresh.py out of gen/depfresh.src.) -/
import Derived.Test.YthehimjdjgmnjaaDepOps
import Derived.BigQuiet
import Derived.Deep.DeepCutAuto
import Derived.Deep.RegionHeld3
import Derived.Laws.OwnMore
namespace Go.Proofs.Ythehimjdjgmnjaa
open Go.RowKit Go.Maps Go.Sort
set_option linter.unusedVariables false
set_option linter.unusedSimpArgs false

theorem tx_le' (s : List UInt8) (B : Nat) (h : s.length ≤ B) (hB : B ≤ 1000000) : (tx s).length ≤ B + 9 := by
  have := vi_len_9 s.length (by omega)
  unfold tx
  rw [List.length_append]
  omega
/-- A face that is few, its super's name a little longer. -/
theorem lite_le' {f : Fc} {w : World} {F : Nat → Prop} (h : f.at_ w F) (hn : f.n.length ≤ 60) (hs : f.su.length ≤ 200) (hfl : f.fl ≤ 12) (hml : f.ml ≤ 12) (hf : ∀ v ∈ f.fs, v.few) (hm : ∀ m ∈ f.ms, m.few) : (fcL f.pl).length ≤ 1099511627000 := by
  have tyle : ∀ t : Ty, t.n.length ≤ 60 → (tyL t).length ≤ 70 := fun t ht => by
    have := tx_le' t.n 60 ht (by omega)
    have h1 : (fl t.a).length = 1 := by cases t.a <;> rfl
    unfold tyL
    rw [List.length_append]
    omega
  have h1 := tx_le' f.n 60 hn (by omega)
  have h2 := tx_le' f.su 200 hs (by omega)
  have h3 : f.fs.length ≤ 12 := by rw [h.1.2.1]; exact hfl
  have h4 : f.ms.length ≤ 12 := by rw [h.2.1.2.1]; exact hml
  have h5 := vi_len_9 f.fs.length (by omega)
  have h6 := vi_len_9 f.ms.length (by omega)
  have h7 := catAll_len (f := vrL) (l := f.fs) 139 (fun v hv => by
    have a := hf v hv
    have b := tx_le' v.n 60 a.1 (by omega)
    have c := tyle v.t a.2
    unfold vrL
    rw [List.length_append]
    omega)
  have h8 := catAll_len (f := sgL) (l := f.ms.map Sg.pl) 1000 (fun q hq => by
    obtain ⟨m, hmm, rfl⟩ := List.mem_map.1 hq
    have a := hm m hmm
    have b := tx_le' m.n 60 a.1 (by omega)
    have c := tyle m.r a.2.1
    have hl : m.ps.length ≤ 10 := by rw [(h.2.1.2.2.2 m hmm).2.1]; exact a.2.2.1
    have d := vi_len_9 m.ps.length (by omega)
    have e := catAll_len (f := tyL) (l := m.ps) 70 (fun p hp => tyle p (a.2.2.2 p hp))
    have h1 : (fl m.st).length = 1 := by cases m.st <;> rfl
    have e2 : 70 * m.ps.length ≤ 700 := by omega
    show (tx m.n ++ (fl m.st ++ (tyL m.r ++ (vi m.ps.length ++ catAll tyL m.ps)))).length ≤ 1000
    simp only [List.length_append]
    omega)
  rw [List.length_map] at h8
  show (tx f.n ++ (tx f.su ++ (vi f.fs.length ++ (catAll vrL f.fs ++ (vi (f.ms.map Sg.pl).length ++ catAll sgL (f.ms.map Sg.pl)))))).length ≤ _
  simp only [List.length_append, List.length_map]
  omega
theorem few_le3 {f : Fc} {w : World} {F : Nat → Prop} (h : f.at_ w F) (hf : f.few) : (fcL f.pl).length ≤ 1099511627000 := lite_le' h hf.2.2.1 (by have := hf.2.2.2.1; omega) hf.1 hf.2.1 hf.2.2.2.2.1 hf.2.2.2.2.2


/-- All that DepsFresh holds: a table, the entry, the other face. -/
structure Fx (w : World) (N q0 q g m s : Nat) (T : List Fc) (n : Nat) (e : Enq) (ev : Array Value) (f : Fc) (w' : World) : Prop where
  t : Tab w' g m s T n
  be : Blk w' q 39 ev
  bf : Blk w' q0 47 #[S f.n, S f.su, .slice f.fA f.fl f.fc, .slice f.mA f.ml f.mc]
  r : Rd w' (fun b => b = s ∨ N ≤ b) 33 e.A e.k (e.rs.flatMap Rdq.cells)
  bw : Below w.heap.size w w'
  ws : w.heap.size ≤ s
  lt : g < N ∧ m < N ∧ s < N ∧ q < N ∧ q0 < N ∧ w.heap.size ≤ N ∧ N ≤ w'.heap.size
section
variable {w w' w'' : World} {N q0 q g m s n : Nat} {T : List Fc} {ev : Array Value} {e : Enq} {f : Fc}
theorem Fx.keep {F : Nat → Prop} (h : Fx w N q0 q g m s T n e ev f w') (hk : Keep F w' w'') (hF : ∀ k, F k → N ≤ k) : Fx w N q0 q g m s T n e ev f w'' :=
  { h with
    t := h.t.keep hk (fun x => by have := hF _ x; have := h.lt; omega) (fun x => by have := hF _ x; have := h.lt; omega) (fun x => by have := hF _ x; have := h.lt; omega)
    be := h.be.keep hk (fun x => by have := hF _ x; have := h.lt; omega)
    bf := h.bf.keep hk (fun x => by have := hF _ x; have := h.lt; omega)
    r := h.r.keep ((Keep.refl _ w').trans' hk (fun k _ x => .inr (hF k x)))
    bw := h.bw.trans (hk.below h.bw.size (fun k x => by have := hF k x; have := h.lt; omega))
    lt := by have := h.lt; have := hk.size; omega }
theorem Fx.below_ (h : Fx w N q0 q g m s T n e ev f w') (hb : Below w'.heap.size w' w'') : Fx w N q0 q g m s T n e ev f w'' := h.keep (Keep.of_below (F := fun _ => False) hb (fun k h1 h2 => by omega)) (fun _ x => x.elim)
theorem Fx.fresh (h : Fx w N q0 q g m s T n e ev f w') {src : List UInt8} {dz : Array Value} (hn : n + e.k ≤ 1000000) (hrk : e.rs.length = e.k) (hok : RdsOk e.rs) (hes : e.s.length = 32) (hsr : src.length = 32) (hT : FcsOk w T) (hev : ev = e.cells.toArray) (hdz : dz = darr src) :
    Calls Try.prog 12 #[.pointer (some ⟨g, 0, none⟩), .agg ev, .agg dz] w' (fun x w'' => x = .returned (.bool (freshM T e src)) ∧ Fx w N q0 q g m s T (n + e.k) e ev f w'') := by
  refine (fresh_any w g m s n T e src ev dz w' h.t hn hrk hok hes hsr (h.r.weak (fun k _ hk => .inl hk)) hT h.bw h.ws hev hdz).mono ?_
  rintro x w'' ⟨rfl, ht, hkp⟩
  obtain ⟨D1, hD1⟩ := h.t.seen
  exact ⟨rfl, { h with
    t := ht
    be := h.be.keep hkp (blk_map_ne h.be hD1)
    bf := h.bf.keep hkp (blk_map_ne h.bf hD1)
    r := h.r.keep ((Keep.refl _ w').trans' hkp (fun _ _ h => .inl h))
    bw := h.bw.trans (hkp.below h.bw.size (fun k hk => by rw [hk]; exact h.ws))
    lt := by have := h.lt; have := hkp.size; omega }⟩
end
/-- What is left where the table is of no more use. -/
structure Fy (w : World) (N q0 q s : Nat) (e : Enq) (ev fv : Array Value) (w' : World) : Prop where
  be : Blk w' q 39 ev
  bf : Blk w' q0 47 fv
  r : Rd w' (fun b => b = s ∨ N ≤ b) 33 e.A e.k (e.rs.flatMap Rdq.cells)
  bw : Below w.heap.size w w'
  lt : q < N ∧ q0 < N ∧ w.heap.size ≤ N ∧ N ≤ w'.heap.size
section
variable {w w' w'' : World} {N q0 q s : Nat} {ev fv : Array Value} {e : Enq}
theorem Fy.below_ (h : Fy w N q0 q s e ev fv w') (hb : Below w'.heap.size w' w'') : Fy w N q0 q s e ev fv w'' :=
  ⟨h.be.below hb h.be.lt, h.bf.below hb h.bf.lt, h.r.keep (Keep.of_below hb (fun k h1 h2 => by omega)), h.bw.trans (hb.mono h.bw.size), by have := h.lt; have := hb.size; omega⟩
theorem Fx.fy {g m n : Nat} {T : List Fc} {f : Fc} (h : Fx w N q0 q g m s T n e ev f w') (hk : Keep (fun b => b = s) w' w'') : Fy w N q0 q s e ev #[S f.n, S f.su, .slice f.fA f.fl f.fc, .slice f.mA f.ml f.mc] w'' := by
  obtain ⟨D1, hD1⟩ := h.t.seen
  exact ⟨h.be.keep hk (blk_map_ne h.be hD1), h.bf.keep hk (blk_map_ne h.bf hD1), h.r.keep ((Keep.refl _ w').trans' hk (fun _ _ h => .inl h)), h.bw.trans (hk.below h.bw.size (fun k hk => by rw [hk]; exact h.ws)), by have := h.lt; have := hk.size; omega⟩
end
theorem Fy.keep {w w' w'' : World} {N q0 q s : Nat} {ev fv : Array Value} {e : Enq} {F : Nat → Prop} (h : Fy w N q0 q s e ev fv w') (hk : Keep F w' w'') (hF : ∀ k, F k → N ≤ k) : Fy w N q0 q s e ev fv w'' :=
  ⟨h.be.keep hk (fun x => by have := hF _ x; have := h.lt; omega), h.bf.keep hk (fun x => by have := hF _ x; have := h.lt; omega), h.r.keep ((Keep.refl _ w').trans' hk (fun k _ x => .inr (hF k x))), h.bw.trans (hk.below h.bw.size (fun k x => by have := hF k x; have := h.lt; omega)), by have := h.lt; have := hk.size; omega⟩
theorem fc_info' : (Try.prog.info? 47).map (fun i => (i.zero, i.size, i.bytes)) = some (some (.agg #[.string ⟨#[]⟩, .string ⟨#[]⟩, .slice none 0 0, .slice none 0 0]), 4, 80) := by kernel_rfl
theorem fcs_one' (T : List Fc) : ∀ u ∈ T.flatMap Fc.cells, u.oneCell' = true := by
  intro u hu
  obtain ⟨m, _, hu⟩ := List.mem_flatMap.1 hu
  simp [Fc.cells] at hu
  rcases hu with rfl | rfl | rfl | rfl <;> rfl
/-- What the law asks, in plain words. -/
theorem fresh_t (T : List Fc) (l : List (List UInt8)) : (l.map (rdOf T)).any (othr T) = false := by
  rw [fresh_rd]
  simp
theorem fresh_snoc (T : List Fc) (f : Fc) (l : List (List UInt8)) : (!((l.map (rdOf T)).any (othr (T ++ [f])))) = (!(l.any (fun r => r == f.n)) || (digM T f.n == digF f.pl)) := by
  rw [fresh_rd]
  induction l with
  | nil => rfl
  | cons a l ih =>
    simp only [List.any_cons, Bool.not_or]
    rw [ih, digM_snoc]
    by_cases h : f.n = a
    · subst h
      rw [if_pos rfl]
      simp only [beq_self_eq_true, bne]
      cases (digM T f.n == digF f.pl) <;> cases l.any (fun r => r == f.n) <;> rfl
    · rw [if_neg h]
      have h2 : (a == f.n) = false := by simpa using fun e => h e.symm
      rw [h2]
      simp

set_option maxRecDepth 100000 in
set_option maxHeartbeats 8000000 in
theorem freshw_any (A : Option Addr) (n c : Nat) (T : List Fc) (A1 : Option Addr) (n1 c1 : Nat) (l1 : List (List UInt8)) (f : Fc) (tx : List UInt8) (w : World)
    (h : FcsAt w (fun k => w.heap.size ≤ k) A n T) (hr : Rd w (fun k => w.heap.size ≤ k) 1 A1 n1 (l1.map S)) (hl : l1.length = n1) (hs : ∀ x ∈ l1, short x) (hn1 : n1 ≤ 9223372036854775807)
    (hf : f.at_ w (fun k => w.heap.size ≤ k)) (hfb : (fcL f.pl).length ≤ 1099511627000) (ht : short tx) :
    Calls Try.prog 4 #[.slice A n c, .slice A1 n1 c1, f.val, S tx] w (Gives w (.bool true)) := by
  have HF := hide h
  have hAb := h.2.2.1
  have HR := hide hr
  have HRL := hide hl
  have HRS := hide hs
  have HFF := hide hf
  have HFB := hide hfb
  have hfn := hf.2.2.1
  have hfl := hf.1.2.2.1
  have hml := hf.2.1.2.2.1
  clear h hr hl hs hf hfb
  unfold short at ht hfn
  have hmm := @run_makeMap Try.prog
  obtain ⟨q0, hq0⟩ : ∃ q, q = w.heap.size := ⟨_, rfl⟩
  obtain ⟨wB, hwB⟩ : ∃ wB, wB = w.alloc (.cells #[S f.n, S f.su, .slice f.fA f.fl f.fc, .slice f.mA f.ml f.mc] 47) := ⟨_, rfl⟩
  have HQ0 : Hid (Blk wB q0 47 #[S f.n, S f.su, .slice f.fA f.fl f.fc, .slice f.mA f.ml f.mc]) := hide (by rw [hwB, hq0]; exact Blk.new _ _ _)
  have HB0 : Hid (Below w.heap.size w wB) := hide (by rw [hwB]; exact (Below.refl _ w).alloc (Nat.le_refl _) _)
  unfold Fc.val
  go_enter Try.func4, Try.ntmps4
  go_wp2_with fail
  rw [← hwB, ← hq0]
  clear hwB hq0
  refine (head_any wB).mono ?_
  rintro e w1 ⟨rfl, hb1⟩
  have HB1 := hide (HB0.out.trans (hb1.mono HB0.out.size))
  have HQ1 := hide (HQ0.out.below hb1 HQ0.out.lt)
  clear hb1 HB0 HQ0
  go_wp2_with fail
  refine (fewlist_any A n c T w1 ((HF.out.below HB1.out).weak (fun k hk => Nat.le_trans HB1.out.size hk))).mono ?_
  rintro e w2 ⟨B, rfl, hb2, hB⟩
  have HB2 := hide (HB1.out.trans (hb2.mono HB1.out.size))
  have HQ2 := hide (HQ1.out.below hb2 HQ1.out.lt)
  clear hb2 HB1 HQ1
  cases B with
  | false =>
    go_wp2_with fail
    go_ret
    exact ⟨rfl, HB2.out⟩
  | true =>
    have HFW := hide (hB rfl)
    clear hB
    have p0 := HQ2.out.cell 0
    have p2 := HQ2.out.cell 2
    have p3 := HQ2.out.cell 3
    simp at p0 p2 p3
    by_cases h1 : n1 ≤ 10
    case neg =>
      have hd : ((10 : Int) < (n1 : Int)) := by omega
      go_wp2_with fail
      go_ret
      exact ⟨rfl, HB2.out⟩
    by_cases h2 : tx.length ≤ 100
    case neg =>
      have hd : ((100 : Int) < (tx.length : Int)) := by omega
      go_wp2_with fail
      go_ret
      exact ⟨rfl, HB2.out⟩
    by_cases h3 : f.n.length ≤ 60
    case neg =>
      have hd : ((60 : Int) < (f.n.length : Int)) := by omega
      go_wp2_with fail
      go_ret
      exact ⟨rfl, HB2.out⟩
    by_cases h4 : f.fl ≤ 10
    case neg =>
      have hd : ((10 : Int) < (f.fl : Int)) := by omega
      go_wp2_with fail
      go_ret
      exact ⟨rfl, HB2.out⟩
    by_cases h5 : f.ml ≤ 10
    case neg =>
      have hd : ((10 : Int) < (f.ml : Int)) := by omega
      go_wp2_with fail
      go_ret
      exact ⟨rfl, HB2.out⟩
    have HFF2 : Hid (FcsAt w2 (fun k => w2.heap.size ≤ k) A n T) := hide ((HF.out.below HB2.out).weak (fun k hk => Nat.le_trans HB2.out.size hk))
    have hn8 := HFW.out.1
    go_upto_region 5 with fail
    clear p0 p2 p3
    go_upto_region 6 with (go_at_call 7; go_loud (refine (new_any A n c T w2 HFF2.out (by omega)).mono ?_); rintro e w3 ⟨g, m, s, rfl, hT3, hb3, hg, hm, hs⟩; have HT3 := hide hT3; have HS0 : Hid (w.heap.size ≤ s) := hide (Nat.le_trans HB2.out.size hs); have HB3 : Hid (Below w.heap.size w w3) := hide (HB2.out.trans (hb3.mono HB2.out.size)); have HQ3 := hide (HQ2.out.below hb3 HQ2.out.lt); clear hT3 hb3 hg hm hs)
    clear HFF2 HB2 HQ2
    have HOK : Hid (FcsOk w T) := hide (fun f hf => ⟨HF.out.2.2.2 f hf, few_le3 (HF.out.2.2.2 f hf) (HFW.out.2 f hf)⟩)
    obtain ⟨ze, hze⟩ : ∃ z, z = ZE := ⟨_, rfl⟩
    have hzero : ∀ w, (zeroValue 39).run Try.prog w = .ok (.agg ze) w := fun w => by rw [hze]; exact zero_en w
    have HZS : Hid (ze.size = 66) := hide (by rw [hze]; rfl)
    clear hze
    obtain ⟨src, hsrc⟩ : ∃ x, x = sumM tx := ⟨_, rfl⟩
    have HSRL : Hid (src.length = 32) := hide (by rw [hsrc]; exact sumM_len _)
    obtain ⟨dz, hdz⟩ : ∃ z, z = darr src := ⟨_, rfl⟩
    have HDZ : Hid (∀ _ : Unit, dz = darr src) := hide (fun _ => hdz)
    have HSU : Hid (∀ W, Calls Try.prog 8 #[.slice (some ⟨W.heap.size, 0, none⟩) 1 1] (W.alloc (.cells #[S tx] 9)) fun e w' => e = .returned (.agg dz) ∧ Below W.heap.size W w') := hide (fun W => by rw [hdz, hsrc]; exact sum_lit W tx (by omega))
    have HSRC : Hid (∀ _ : Unit, src = sumM tx) := hide (fun _ => hsrc)
    clear hdz hsrc
    have HRB : Hid (∀ W, Below w.heap.size w W → Rd W (fun b => b = s ∨ W.heap.size ≤ b) 1 A1 n1 (l1.map S)) := hide (fun W hb => (HR.out.below hb).weak (fun k h1 h2 => by have := HS0.out; have := hb.size; omega))
    go_wp2_with fail
    refine (HSU.out w3).mono ?_
    rintro e w4 ⟨rfl, hb4⟩
    have HT4 := hide (HT3.out.below hb4)
    have HB4 := hide (HB3.out.trans (hb4.mono HB3.out.size))
    have HQ4 := hide (HQ3.out.below hb4 HQ3.out.lt)
    clear hb4 HT3 HB3 HQ3
    go_wp2_with fail
    refine (reads_any w g m s 0 T A1 n1 c1 l1 w4 HT4.out (by omega) (by omega) HRL.out HRS.out (HRB.out w4 HB4.out) HOK.out HB4.out HS0.out).mono ?_
    rintro e w5 ⟨A2, c2, rfl, hown, hT5, hk5⟩
    obtain ⟨en, hen⟩ : ∃ e : Enq, e = ⟨[65], src, A2, n1, c2, l1.map (rdOf T), []⟩ := ⟨_, rfl⟩
    have HEN : Hid (∀ _ : Unit, en = ⟨[65], src, A2, n1, c2, l1.map (rdOf T), []⟩) := hide (fun _ => hen)
    obtain ⟨ev, hev⟩ : ∃ v, v = en.cells.toArray := ⟨_, rfl⟩
    have HEV : Hid (∀ _ : Unit, ev = en.cells.toArray) := hide (fun _ => hev)
    have HV := hide (EnV.mk_ en)
    rw [← hev] at HV
    clear hev
    have HE1 : Hid (en.k = n1 ∧ en.n = [65]) := hide (by rw [hen]; exact ⟨rfl, rfl⟩)
    have HE2 : Hid (en.rs.length = en.k) := hide (by rw [hen]; show (l1.map (rdOf T)).length = n1; rw [List.length_map, HRL.out])
    have HE3 : Hid (en.s.length = 32 ∧ en.s = src) := hide (by rw [hen]; exact ⟨HSRL.out, rfl⟩)
    have HE4 : Hid (RdsOk en.rs) := hide (by
      rw [hen]
      intro r hr
      obtain ⟨y, hy, rfl⟩ := List.mem_map.1 hr
      exact ⟨HRS.out y hy, digM_len _ _⟩)
    have HE5 : Hid (freshM T en src = true) := hide (by
      rw [hen]
      show ((src == src) && !((l1.map (rdOf T)).any (othr T))) = true
      rw [fresh_t]
      simp)
    have HE6 : Hid (freshM (T ++ [f]) en src = (!(l1.any (fun r => r == f.n)) || (digM T f.n == digF f.pl))) := hide (by
      rw [hen]
      show ((src == src) && !((l1.map (rdOf T)).any (othr (T ++ [f])))) = _
      rw [fresh_snoc]
      simp)
    have HE8 : Hid (en.A = A2 ∧ en.rs = l1.map (rdOf T)) := hide (by rw [hen]; exact ⟨rfl, rfl⟩)
    clear hen
    have HT5 := hide hT5
    have HQ5 : Hid (Blk w5 q0 47 #[S f.n, S f.su, .slice f.fA f.fl f.fc, .slice f.mA f.ml f.mc]) := hide (HQ4.out.keep hk5 (by obtain ⟨D, hD⟩ := HT4.out.seen; exact blk_map_ne HQ4.out hD))
    obtain ⟨q, hq⟩ : ∃ q, q = w5.heap.size := ⟨_, rfl⟩
    have HRD : Hid (Rd w5 (fun b => b = s ∨ q + 1 ≤ b) 33 A2 n1 ((l1.map (rdOf T)).flatMap Rdq.cells)) := hide ((Rd.of_ownB hown).weak (fun k h1 h2 => by have := HT4.out.slt; omega))
    have HB5 : Hid (Below w.heap.size w w5) := hide (HB4.out.trans (hk5.below HB4.out.size (fun k hk => by rw [hk]; exact HS0.out)))
    clear hown hT5 hk5 HT4 HB4 HQ4 HRB
    have HBX := hide (box_any w5 39 ze ev (by rw [HV.out.size, HZS.out]))
    obtain ⟨w6, hw6⟩ : ∃ w6, w6 = (w5.alloc (.cells ze 39)).setCells w5.heap.size 0 ev.toList := ⟨_, rfl⟩
    rw [← hw6] at HBX
    have HZT : Hid ((w5.alloc (.cells ze 39)).there w5.heap.size 0 ev.size) := hide ((Blk.new w5 39 ze).there_ (by rw [HV.out.size, HZS.out]))
    go_upto_region 7 with (first
      | (refine wpList_enOf3 rfl (.const (.string { data := #[65] })) (.tmp 52) (.tmp 55) rfl [65] src dz A2 n1 c2 (l1.map (rdOf T)) rfl rfl rfl (HDZ.out ()) HSRL.out ev (by rw [HEV.out (), HEN.out ()]) ?_)
      | (refine wpList_store_mid rfl 39 (.tmp 10) (.tmp 56) rfl w5.heap.size 0 ev rfl rfl HZT.out (by rw [HV.out.size]; exact en_info) HV.out.one ?_))
    rw [← hw6]
    have HX6 : Hid (Fx w (q + 1) q0 q g m s T (0 + n1) en ev f w6) := hide (by
      have hb := HBX.out.2
      have hT6 := HT5.out.below hb
      exact ⟨hT6, by rw [hq]; exact HBX.out.1, HQ5.out.below hb HQ5.out.lt, by rw [HE8.out.1, HE1.out.1, HE8.out.2]; exact HRD.out.keep (Keep.of_below hb (fun k h1 h2 => by omega)), HB5.out.trans (hb.mono HB5.out.size), HS0.out, by have := HT5.out.blk.lt; have := HT5.out.faces.lt; have := HT5.out.slt; have := HQ5.out.lt; have := HBX.out.1.lt; have := HB5.out.size; omega⟩)
    rw [← hq]
    clear hw6 HBX HZT HQ5 HRD HB5 HT5 hzero HZS hq HSU
    have HSB : Hid (∀ W b, Blk W b 9 #[S tx] → Calls Try.prog 8 #[.slice (some ⟨b, 0, none⟩) 1 1] W fun e w' => e = .returned (.agg dz) ∧ Below W.heap.size W w') := hide (fun W b hb => by rw [HDZ.out (), HSRC.out ()]; exact sum_blk W b tx (by omega) hb)
    have HXF : Hid (∀ nn W, nn ≤ 1000 → Fx w (q + 1) q0 q g m s T nn en ev f W → Calls Try.prog 12 #[.pointer (some ⟨g, 0, none⟩), .agg ev, .agg dz] W (fun x w'' => x = .returned (.bool true) ∧ Fx w (q + 1) q0 q g m s T (nn + n1) en ev f w'')) := hide (fun nn W hnn h => by
      have h0 := h.fresh (src := src) (by rw [HE1.out.1]; omega) HE2.out HE4.out HE3.out.1 HSRL.out HOK.out (HEV.out ()) (HDZ.out ())
      rw [HE5.out, HE1.out.1] at h0
      exact h0)
    have HXS : Hid (∀ nn W b bm, nn ≤ 1000 → Fx w (q + 1) q0 q g m s T nn en ev f W → Blk W b 39 ev → DgIs W bm 1 (Fd.set (fun _ => none) [65] src) → q + 1 ≤ b → q + 1 ≤ bm → Calls Try.prog 11 #[.pointer (some ⟨g, 0, none⟩), .slice (some ⟨b, 0, none⟩) 1 1, .map (some bm)] W (fun x w'' => ∃ A9 c9, x = .returned (.slice A9 0 c9) ∧ Keep (fun b => b = s) W w'')) := hide (fun nn W b bm hnn h hb hm hqb hqm => by
      have hsN := h.lt.2.2.1
      have hk := HE1.out.1
      refine (stale_any w g m s nn bm 1 T (some ⟨b, 0, none⟩) 1 1 [en] (Fd.set (fun _ => none) [65] src) W h.t (by omega) (by omega) (by omega) rfl ?_ ?_ hm (by omega) ?_ HOK.out h.bw h.ws).mono ?_
      · have h1 := Rd.of_blk (F := fun b => b = s) (size := 66) (n := 1) hb (by omega) (by rw [HV.out.size])
        rw [HEV.out ()] at h1
        simpa using h1
      · intro e he
        obtain rfl := List.mem_singleton.1 he
        exact ⟨HE3.out.1, HE4.out, HE2.out, by omega, h.r.weak (fun k _ hk => .inl hk)⟩
      · intro k d hd
        unfold Fd.set at hd
        by_cases e : k = [65]
        · rw [if_pos e] at hd
          injection hd with hd
          rw [← hd, e]
          exact ⟨HSRL.out, by simp [short]⟩
        · rw [if_neg e] at hd
          cases hd
      · rintro x w'' ⟨A9, c9, l9, rfl, hN, _, hK⟩
        have he : l9.filter (staleM T [en] (Fd.set (fun _ => none) [65] src)) = [] := by
          rw [List.filter_eq_nil_iff]
          intro k hk
          have h1 := (hN.2 k).1 hk
          have h2 : k = [65] := by
            unfold Fd.set at h1
            by_cases e : k = [65]
            · exact e
            · rw [if_neg e] at h1; cases h1
          subst h2
          have h3 : findM [en] [65] = some en := by simp [findM, HE1.out.2]
          have h4 : (Fd.set (fun _ => none) [65] src [65]).getD Z32 = src := by simp [Fd.set]
          unfold staleM
          rw [h3]
          simp only [h4, HE5.out]
          simp
        rw [he]
        exact ⟨A9, c9, rfl, hK⟩)
    have hDS : ∀ W b, DgIs W b 0 (fun _ => none) → ∃ D, W.ownsMap Try.prog 9 heldR b 0 D ∧ ReadsD D (fun _ => none) := fun W b h => h
    have hkA := key_S (show short [65] by simp [short])
    simp only [show ∀ (x : Act), x.put none undef = x from fun _ => rfl]
    go_cut [76] (fun v wx => v = .bool false ∧ Hid (Fy w (q + 1) q0 q s en ev #[S f.n, S f.su, .slice f.fA f.fl f.fc, .slice f.mA f.ml f.mc] wx))
    case first =>
      have hdu := Try.underlying39
      have hdi : (Try.prog.info? 39).map (·.size) = some ev.toList.length := by rw [Array.length_toList, HV.out.size]; exact en_info
      refine wp_region_noPanic ?_
      have HX7 : Hid (Fx w (q + 1) q0 q g m s T (0 + n1) en ev f w6.drew) := hide (HX6.out.below_ (Below.refl _ _).drew)
      refine wp_region_held_drew (S := fun w' => w'.rangeAt q 0 ev.toList) (by kernel_rfl) HX7.out.be.range (fun hHeld => ?_)
      obtain ⟨w7, hw7⟩ : ∃ x, x = w6.drew := ⟨_, rfl⟩
      rw [← hw7] at HX7 hHeld ⊢
      clear hw7 HX6
      refine wpAnyH_take (i := 0) (v := ?_) (by simp only [List.getElem?_toArray, List.getElem?_cons_zero]; rfl) (by kernel_rfl) (by kernel_rfl) (by kernel_rfl) (fun _ _ _ h => h) (Or.inl ⟨by rfl, ?_⟩) (by assumption) ?_
      rotate_left
      · (intro wS hSw; go_simp; try with_reducible rfl)
      try simp only [Act.put, List.setIfInBounds_toArray, List.set_cons_zero, List.set_cons_succ]
      refine wpAnyH_take (i := 1) (by simp only [List.getElem?_toArray, List.getElem?_cons_zero, List.getElem?_cons_succ]; rfl) (by kernel_rfl) (by kernel_rfl) (by kernel_rfl) (fun _ _ _ h => h) (yieldsIf_load_mid (by rfl) _ _ rfl q 0 rfl ev.toList _ (fun _ h => h) hdu rfl hdi) (by assumption) ?_
      simp only [Act.put, List.setIfInBounds_toArray, List.set_cons_zero, List.set_cons_succ, Array.toArray_toList]
      refine wpAnyH_take (i := 2) (v := ?_) (by simp only [List.getElem?_toArray, List.getElem?_cons_zero, List.getElem?_cons_succ]; rfl) (by kernel_rfl) (by kernel_rfl) (by kernel_rfl) (fun _ _ _ h => h) (Or.inl ⟨by rfl, ?_⟩) (by assumption) ?_
      rotate_left
      · (intro wS hSw; go_simp; try with_reducible rfl)
      try simp only [Act.put, List.setIfInBounds_toArray, List.set_cons_zero, List.set_cons_succ]
      refine wpAnyH_ready (rs := [3]) (by kernel_rfl) (by simp) ?_
      refine AllReadyH.cons (by simp only [List.getElem?_toArray, List.getElem?_cons_zero, List.getElem?_cons_succ]; rfl) (fun K hK => ?_) AllReadyH.nil
      try rw [if_pos (by rfl)]
      go_simp
      try go_wp2_with fail
      refine hK.out _ _ ((HX7.out.be.alloc (.cells #[S tx] 9)).range) (fun hHeld => ?_)
      clear hK K
      try simp only [Act.put, List.setIfInBounds_toArray, List.set_cons_zero, List.set_cons_succ]
      obtain ⟨w8, hw8⟩ : ∃ x, x = w7.alloc (.cells #[S tx] 9) := ⟨_, rfl⟩
      have hb8 : Below w7.heap.size w7 w8 := by rw [hw8]; exact (Below.refl _ _).alloc (Nat.le_refl _) _
      have HC8 : Hid (Blk w8 w7.heap.size 9 #[S tx]) := hide (by rw [hw8]; exact Blk.new _ _ _)
      rw [← hw8] at hHeld ⊢
      have HX8 := hide (HX7.out.below_ hb8)
      obtain ⟨c8, hc8⟩ : ∃ x, x = w7.heap.size := ⟨_, rfl⟩
      rw [← hc8] at HC8 ⊢
      clear hc8 hw8 hb8 HX7
      refine wpAnyH_ready (rs := [4]) (by kernel_rfl) (by simp) ?_
      refine AllReadyH.cons (by simp only [List.getElem?_toArray, List.getElem?_cons_zero, List.getElem?_cons_succ]; rfl) (fun K hK => ?_) AllReadyH.nil
      try rw [if_pos (by rfl)]
      go_simp
      go_at_call 8
      refine (HSB.out w8 c8 HC8.out).mono ?_
      rintro e w9 ⟨rfl, hb9⟩
      have HX9 := hide (HX8.out.below_ hb9)
      clear hb9 HX8
      try go_wp2_with fail
      refine hK.out _ _ HX9.out.be.range (fun hHeld => ?_)
      clear hK K
      try simp only [Act.put, List.setIfInBounds_toArray, List.set_cons_zero, List.set_cons_succ]
      refine wpAnyH_ready (rs := [5]) (by kernel_rfl) (by simp) ?_
      refine AllReadyH.cons (by simp only [List.getElem?_toArray, List.getElem?_cons_zero, List.getElem?_cons_succ]; rfl) (fun K hK => ?_) AllReadyH.nil
      try rw [if_pos (by rfl)]
      go_simp
      go_at_call 12
      refine (HXF.out _ w9 (by omega) HX9.out).mono ?_
      rintro e w10 ⟨rfl, hx10⟩
      have HX10 := hide hx10
      clear hx10
      try go_wp2_with fail
      refine hK.out _ _ HX10.out.be.range (fun hHeld => ?_)
      clear hK K
      try simp only [Act.put, List.setIfInBounds_toArray, List.set_cons_zero, List.set_cons_succ]
      refine wpAnyH_take (i := 6) (v := ?_) (by simp only [List.getElem?_toArray, List.getElem?_cons_zero, List.getElem?_cons_succ]; rfl) (by kernel_rfl) (by kernel_rfl) (by kernel_rfl) (fun _ _ _ h => h) (Or.inl ⟨by rfl, ?_⟩) (by assumption) ?_
      rotate_left
      · (intro wS hSw; go_simp; try with_reducible rfl)
      try simp only [Act.put, List.setIfInBounds_toArray, List.set_cons_zero, List.set_cons_succ]
      refine wpAnyH_take (i := 7) (v := ?_) (by simp only [List.getElem?_toArray, List.getElem?_cons_zero, List.getElem?_cons_succ]; rfl) (by kernel_rfl) (by kernel_rfl) (by kernel_rfl) (fun _ _ _ h => h) (Or.inl ⟨by rfl, ?_⟩) (by assumption) ?_
      rotate_left
      · (intro wS hSw; go_simp; try with_reducible rfl)
      try simp only [Act.put, List.setIfInBounds_toArray, List.set_cons_zero, List.set_cons_succ]
      refine wpAnyH_take (i := 8) (v := ?_) (by simp only [List.getElem?_toArray, List.getElem?_cons_zero, List.getElem?_cons_succ]; rfl) (by kernel_rfl) (by kernel_rfl) (by kernel_rfl) (fun _ _ _ h => h) (Or.inl ⟨by rfl, ?_⟩) (by assumption) ?_
      rotate_left
      · (intro wS hSw; go_simp; try with_reducible rfl)
      try simp only [Act.put, List.setIfInBounds_toArray, List.set_cons_zero, List.set_cons_succ]
      refine wpAnyH_take (i := 9) (by simp only [List.getElem?_toArray, List.getElem?_cons_zero, List.getElem?_cons_succ]; rfl) (by kernel_rfl) (by kernel_rfl) (by kernel_rfl) (fun _ _ _ h => h) (yieldsIf_load_mid (by rfl) _ _ rfl q 0 rfl ev.toList _ (fun _ h => h) hdu rfl hdi) (by assumption) ?_
      simp only [Act.put, List.setIfInBounds_toArray, List.set_cons_zero, List.set_cons_succ, Array.toArray_toList]
      refine wpAnyH_take (i := 12) (v := ?_) (by simp only [List.getElem?_toArray, List.getElem?_cons_zero, List.getElem?_cons_succ]; rfl) (by kernel_rfl) (by kernel_rfl) (by kernel_rfl) (fun _ _ _ h => h) (Or.inl ⟨by rfl, ?_⟩) (by assumption) ?_
      rotate_left
      · (intro wS hSw; go_simp; try with_reducible rfl)
      try simp only [Act.put, List.setIfInBounds_toArray, List.set_cons_zero, List.set_cons_succ]
      refine wpAnyH_ready (rs := [10, 11, 13]) (by kernel_rfl) (by simp) ?_
      refine AllReadyH.cons (by simp only [List.getElem?_toArray, List.getElem?_cons_zero, List.getElem?_cons_succ]; rfl) (fun K hK => ?_) ?_
      · try rw [if_pos (by rfl)]
        refine wp_part 31 39 (.tmp 66) rfl 66 ev rfl HV.out.size (by decide) (by decide) Try.underlying31 en_info2 ?_
        intro a11 w11 ha11 hA11 hb11
        have HX11 := hide (HX10.out.below_ hb11)
        have HA11 := hide hA11
        have HN10 : Hid (q + 1 ≤ a11) := hide (by rw [ha11]; exact HX10.out.lt.2.2.2.2.2.2)
        clear hA11 hb11 ha11 HX10
        refine hK.out _ _ HX11.out.be.range (fun hHeld => ?_)
        clear hK K
        try simp only [Act.put, List.setIfInBounds_toArray, List.set_cons_zero, List.set_cons_succ]
        refine wpAnyH_ready (rs := [11, 13]) (by kernel_rfl) (by simp) ?_
        refine AllReadyH.cons (by simp only [List.getElem?_toArray, List.getElem?_cons_zero, List.getElem?_cons_succ]; rfl) (fun K hK => ?_) ?_
        · try rw [if_pos (by rfl)]
          refine wp_map 32 rfl (@run_makeMap Try.prog _) ?_
          intro m12 w12 hm12 hw12
          have hb12 : Below w11.heap.size w11 w12 := by rw [hw12]; exact (Below.refl _ _).alloc (Nat.le_refl _) _
          have HX12 := hide (HX11.out.below_ hb12)
          have HA12 := hide (HA11.out.below hb12 HA11.out.lt)
          have HM12 : Hid (DgIs w12 m12 0 (fun _ => none)) := hide (by rw [hw12, hm12]; exact DgIs.made _)
          have HN11 : Hid (q + 1 ≤ m12) := hide (by rw [hm12]; exact HX11.out.lt.2.2.2.2.2.2)
          clear hm12 hw12 hb12 HX11
          refine hK.out _ _ HX12.out.be.range (fun hHeld => ?_)
          clear hK K
          try simp only [Act.put, List.setIfInBounds_toArray, List.set_cons_zero, List.set_cons_succ]
          refine wpAnyH_ready (rs := [13]) (by kernel_rfl) (by simp) ?_
          refine AllReadyH.cons (by simp only [List.getElem?_toArray, List.getElem?_cons_zero, List.getElem?_cons_succ]; rfl) (fun K hK => ?_) AllReadyH.nil
          try rw [if_pos (by rfl)]
          go_simp
          try go_wp2_with fail
          refine hK.out _ _ ((HX12.out.be.alloc (.cells #[S tx] 9)).range) (fun hHeld => ?_)
          clear hK K
          try simp only [Act.put, List.setIfInBounds_toArray, List.set_cons_zero, List.set_cons_succ]
          obtain ⟨w13, hw13⟩ : ∃ x, x = w12.alloc (.cells #[S tx] 9) := ⟨_, rfl⟩
          have hb13 : Below w12.heap.size w12 w13 := by rw [hw13]; exact (Below.refl _ _).alloc (Nat.le_refl _) _
          have HC13 : Hid (Blk w13 w12.heap.size 9 #[S tx]) := hide (by rw [hw13]; exact Blk.new _ _ _)
          rw [← hw13] at hHeld ⊢
          have HX13 := hide (HX12.out.below_ hb13)
          have HA13 := hide (HA12.out.below hb13 HA12.out.lt)
          have HM13 := hide (HM12.out.below hb13)
          obtain ⟨c13, hc13⟩ : ∃ x, x = w12.heap.size := ⟨_, rfl⟩
          rw [← hc13] at HC13 ⊢
          clear hc13 hw13 hb13 HX12
          refine wpAnyH_ready (rs := [14]) (by kernel_rfl) (by simp) ?_
          refine AllReadyH.cons (by simp only [List.getElem?_toArray, List.getElem?_cons_zero, List.getElem?_cons_succ]; rfl) (fun K hK => ?_) AllReadyH.nil
          try rw [if_pos (by rfl)]
          go_simp
          go_at_call 8
          refine (HSB.out w13 c13 HC13.out).mono ?_
          rintro e w14 ⟨rfl, hb14⟩
          have HX14 := hide (HX13.out.below_ hb14)
          have HA14 := hide (HA13.out.below hb14 HA13.out.lt)
          have HM14 := hide (HM13.out.below hb14)
          clear hb14 HX13
          try go_wp2_with fail
          refine hK.out _ _ HX14.out.be.range (fun hHeld => ?_)
          clear hK K
          try simp only [Act.put, List.setIfInBounds_toArray, List.set_cons_zero, List.set_cons_succ]
          refine wpAnyH_ready (rs := [15]) (by kernel_rfl) (by simp) ?_
          refine AllReadyH.cons (by simp only [List.getElem?_toArray, List.getElem?_cons_zero, List.getElem?_cons_succ]; rfl) (fun K hK => ?_) AllReadyH.nil
          try rw [if_pos (by rfl)]
          obtain ⟨D, hD1, hD2⟩ := HM14.out
          refine wp_insert (.tmp 68) (.const (.string { data := #[65] })) (.tmp 71) 32 rfl 9 35 klaw Try.underlying32 heldR m12 0 D rfl hD1 (by unfold maxLen; omega) _ _ _ rfl rfl hkA (.held (.agg dz)) [] rfl ?_
          intro w15 hown15 hg15
          have hkm15 : Keep (fun b => b = m12) w14 w15 := (Keep.refl _ w14).grown hg15 (fun k hk _ => by injection hk with hk; exact hk.symm)
          have HX15 := hide (HX14.out.keep hkm15 (fun k hk => by rw [hk]; exact HN11.out))
          have HA15 := hide (HA14.out.keep hkm15 (dg_ne_blk ⟨D, hD1, hD2⟩ HA14.out))
          have HM15 : Hid (DgIs w15 m12 1 (Fd.set (fun _ => none) [65] src)) := hide ⟨_, hown15, by have h9 := hD2.set [65] src; rw [dgV, ← HDZ.out ()] at h9; exact h9⟩
          clear hown15 hg15 hkm15 hD1 hD2 HX14
          refine hK.out _ _ HX15.out.be.range (fun hHeld => ?_)
          clear hK K
          try simp only [Act.put, List.setIfInBounds_toArray, List.set_cons_zero, List.set_cons_succ]
          refine wpAnyH_take (i := 16) (v := ?_) (by simp only [List.getElem?_toArray, List.getElem?_cons_zero, List.getElem?_cons_succ]; rfl) (by kernel_rfl) (by kernel_rfl) (by kernel_rfl) (fun _ _ _ h => h) (Or.inl ⟨by rfl, ?_⟩) (by assumption) ?_
          rotate_left
          · (intro wS hSw; go_simp; try with_reducible rfl)
          try simp only [Act.put, List.setIfInBounds_toArray, List.set_cons_zero, List.set_cons_succ]
          refine wpAnyH_ready (rs := [17]) (by kernel_rfl) (by simp) ?_
          refine AllReadyH.cons (by simp only [List.getElem?_toArray, List.getElem?_cons_zero, List.getElem?_cons_succ]; rfl) (fun K hK => ?_) AllReadyH.nil
          try rw [if_pos (by rfl)]
          go_simp
          go_at_call 11
          refine (HXS.out _ w15 a11 m12 (by omega) HX15.out HA15.out HM15.out HN10.out HN11.out).mono ?_
          rintro e wZ ⟨A9, c9, rfl, hkZ⟩
          have HY := hide (HX15.out.fy hkZ)
          clear hkZ
          try go_wp2_with fail
          refine hK.out _ _ HY.out.be.range (fun hHeld => ?_)
          clear hK K
          try simp only [Act.put, List.setIfInBounds_toArray, List.set_cons_zero, List.set_cons_succ]
          refine wpAnyH_take (i := 18) (v := ?_) (by simp only [List.getElem?_toArray, List.getElem?_cons_zero, List.getElem?_cons_succ]; rfl) (by kernel_rfl) (by kernel_rfl) (by kernel_rfl) (fun _ _ _ h => h) (Or.inl ⟨by rfl, ?_⟩) (by assumption) ?_
          rotate_left
          · (intro wS hSw; go_simp; try with_reducible rfl)
          try simp only [Act.put, List.setIfInBounds_toArray, List.set_cons_zero, List.set_cons_succ]
          refine wpAnyH_take (i := 19) (v := ?_) (by simp only [List.getElem?_toArray, List.getElem?_cons_zero, List.getElem?_cons_succ]; rfl) (by kernel_rfl) (by kernel_rfl) (by kernel_rfl) (fun _ _ _ h => h) (Or.inl ⟨by rfl, ?_⟩) (by assumption) ?_
          rotate_left
          · (intro wS hSw; go_simp; try with_reducible rfl)
          try simp only [Act.put, List.setIfInBounds_toArray, List.set_cons_zero, List.set_cons_succ]
          refine wpAnyH_take (i := 20) (v := ?_) (by simp only [List.getElem?_toArray, List.getElem?_cons_zero, List.getElem?_cons_succ]; rfl) (by kernel_rfl) (by kernel_rfl) (by kernel_rfl) (fun _ _ _ h => h) (Or.inl ⟨by rfl, ?_⟩) (by assumption) ?_
          rotate_left
          · (intro wS hSw; go_simp; try with_reducible rfl)
          try simp only [Act.put, List.setIfInBounds_toArray, List.set_cons_zero, List.set_cons_succ]
          refine wpAnyH_done (by kernel_rfl) ?_ _
          refine NoPanic.normal ?_
          go_wp2_with fail
          go_meet
          exact ⟨rfl, HY⟩
        refine AllReadyH.cons (by simp only [List.getElem?_toArray, List.getElem?_cons_zero, List.getElem?_cons_succ]; rfl) (fun K hK => ?_) ?_
        · try rw [if_pos (by rfl)]
          go_simp
          try go_wp2_with fail
          refine hK.out _ _ ((HX11.out.be.alloc (.cells #[S tx] 9)).range) (fun hHeld => ?_)
          clear hK K
          try simp only [Act.put, List.setIfInBounds_toArray, List.set_cons_zero, List.set_cons_succ]
          obtain ⟨w12, hw12⟩ : ∃ x, x = w11.alloc (.cells #[S tx] 9) := ⟨_, rfl⟩
          have hb12 : Below w11.heap.size w11 w12 := by rw [hw12]; exact (Below.refl _ _).alloc (Nat.le_refl _) _
          have HC12 : Hid (Blk w12 w11.heap.size 9 #[S tx]) := hide (by rw [hw12]; exact Blk.new _ _ _)
          rw [← hw12] at hHeld ⊢
          have HX12 := hide (HX11.out.below_ hb12)
          have HA12 := hide (HA11.out.below hb12 HA11.out.lt)
          obtain ⟨c12, hc12⟩ : ∃ x, x = w11.heap.size := ⟨_, rfl⟩
          rw [← hc12] at HC12 ⊢
          clear hc12 hw12 hb12 HX11
          refine wpAnyH_ready (rs := [11, 14]) (by kernel_rfl) (by simp) ?_
          refine AllReadyH.cons (by simp only [List.getElem?_toArray, List.getElem?_cons_zero, List.getElem?_cons_succ]; rfl) (fun K hK => ?_) ?_
          · try rw [if_pos (by rfl)]
            refine wp_map 32 rfl (@run_makeMap Try.prog _) ?_
            intro m13 w13 hm13 hw13
            have hb13 : Below w12.heap.size w12 w13 := by rw [hw13]; exact (Below.refl _ _).alloc (Nat.le_refl _) _
            have HX13 := hide (HX12.out.below_ hb13)
            have HA13 := hide (HA12.out.below hb13 HA12.out.lt)
            have HC13 := hide (HC12.out.below hb13 HC12.out.lt)
            have HM13 : Hid (DgIs w13 m13 0 (fun _ => none)) := hide (by rw [hw13, hm13]; exact DgIs.made _)
            have HN11 : Hid (q + 1 ≤ m13) := hide (by rw [hm13]; exact HX12.out.lt.2.2.2.2.2.2)
            clear hm13 hw13 hb13 HX12
            refine hK.out _ _ HX13.out.be.range (fun hHeld => ?_)
            clear hK K
            try simp only [Act.put, List.setIfInBounds_toArray, List.set_cons_zero, List.set_cons_succ]
            refine wpAnyH_ready (rs := [14]) (by kernel_rfl) (by simp) ?_
            refine AllReadyH.cons (by simp only [List.getElem?_toArray, List.getElem?_cons_zero, List.getElem?_cons_succ]; rfl) (fun K hK => ?_) AllReadyH.nil
            try rw [if_pos (by rfl)]
            go_simp
            go_at_call 8
            refine (HSB.out w13 c12 HC13.out).mono ?_
            rintro e w14 ⟨rfl, hb14⟩
            have HX14 := hide (HX13.out.below_ hb14)
            have HA14 := hide (HA13.out.below hb14 HA13.out.lt)
            have HM14 := hide (HM13.out.below hb14)
            clear hb14 HX13
            try go_wp2_with fail
            refine hK.out _ _ HX14.out.be.range (fun hHeld => ?_)
            clear hK K
            try simp only [Act.put, List.setIfInBounds_toArray, List.set_cons_zero, List.set_cons_succ]
            refine wpAnyH_ready (rs := [15]) (by kernel_rfl) (by simp) ?_
            refine AllReadyH.cons (by simp only [List.getElem?_toArray, List.getElem?_cons_zero, List.getElem?_cons_succ]; rfl) (fun K hK => ?_) AllReadyH.nil
            try rw [if_pos (by rfl)]
            obtain ⟨D, hD1, hD2⟩ := HM14.out
            refine wp_insert (.tmp 68) (.const (.string { data := #[65] })) (.tmp 71) 32 rfl 9 35 klaw Try.underlying32 heldR m13 0 D rfl hD1 (by unfold maxLen; omega) _ _ _ rfl rfl hkA (.held (.agg dz)) [] rfl ?_
            intro w15 hown15 hg15
            have hkm15 : Keep (fun b => b = m13) w14 w15 := (Keep.refl _ w14).grown hg15 (fun k hk _ => by injection hk with hk; exact hk.symm)
            have HX15 := hide (HX14.out.keep hkm15 (fun k hk => by rw [hk]; exact HN11.out))
            have HA15 := hide (HA14.out.keep hkm15 (dg_ne_blk ⟨D, hD1, hD2⟩ HA14.out))
            have HM15 : Hid (DgIs w15 m13 1 (Fd.set (fun _ => none) [65] src)) := hide ⟨_, hown15, by have h9 := hD2.set [65] src; rw [dgV, ← HDZ.out ()] at h9; exact h9⟩
            clear hown15 hg15 hkm15 hD1 hD2 HX14
            refine hK.out _ _ HX15.out.be.range (fun hHeld => ?_)
            clear hK K
            try simp only [Act.put, List.setIfInBounds_toArray, List.set_cons_zero, List.set_cons_succ]
            refine wpAnyH_take (i := 16) (v := ?_) (by simp only [List.getElem?_toArray, List.getElem?_cons_zero, List.getElem?_cons_succ]; rfl) (by kernel_rfl) (by kernel_rfl) (by kernel_rfl) (fun _ _ _ h => h) (Or.inl ⟨by rfl, ?_⟩) (by assumption) ?_
            rotate_left
            · (intro wS hSw; go_simp; try with_reducible rfl)
            try simp only [Act.put, List.setIfInBounds_toArray, List.set_cons_zero, List.set_cons_succ]
            refine wpAnyH_ready (rs := [17]) (by kernel_rfl) (by simp) ?_
            refine AllReadyH.cons (by simp only [List.getElem?_toArray, List.getElem?_cons_zero, List.getElem?_cons_succ]; rfl) (fun K hK => ?_) AllReadyH.nil
            try rw [if_pos (by rfl)]
            go_simp
            go_at_call 11
            refine (HXS.out _ w15 a11 m13 (by omega) HX15.out HA15.out HM15.out HN10.out HN11.out).mono ?_
            rintro e wZ ⟨A9, c9, rfl, hkZ⟩
            have HY := hide (HX15.out.fy hkZ)
            clear hkZ
            try go_wp2_with fail
            refine hK.out _ _ HY.out.be.range (fun hHeld => ?_)
            clear hK K
            try simp only [Act.put, List.setIfInBounds_toArray, List.set_cons_zero, List.set_cons_succ]
            refine wpAnyH_take (i := 18) (v := ?_) (by simp only [List.getElem?_toArray, List.getElem?_cons_zero, List.getElem?_cons_succ]; rfl) (by kernel_rfl) (by kernel_rfl) (by kernel_rfl) (fun _ _ _ h => h) (Or.inl ⟨by rfl, ?_⟩) (by assumption) ?_
            rotate_left
            · (intro wS hSw; go_simp; try with_reducible rfl)
            try simp only [Act.put, List.setIfInBounds_toArray, List.set_cons_zero, List.set_cons_succ]
            refine wpAnyH_take (i := 19) (v := ?_) (by simp only [List.getElem?_toArray, List.getElem?_cons_zero, List.getElem?_cons_succ]; rfl) (by kernel_rfl) (by kernel_rfl) (by kernel_rfl) (fun _ _ _ h => h) (Or.inl ⟨by rfl, ?_⟩) (by assumption) ?_
            rotate_left
            · (intro wS hSw; go_simp; try with_reducible rfl)
            try simp only [Act.put, List.setIfInBounds_toArray, List.set_cons_zero, List.set_cons_succ]
            refine wpAnyH_take (i := 20) (v := ?_) (by simp only [List.getElem?_toArray, List.getElem?_cons_zero, List.getElem?_cons_succ]; rfl) (by kernel_rfl) (by kernel_rfl) (by kernel_rfl) (fun _ _ _ h => h) (Or.inl ⟨by rfl, ?_⟩) (by assumption) ?_
            rotate_left
            · (intro wS hSw; go_simp; try with_reducible rfl)
            try simp only [Act.put, List.setIfInBounds_toArray, List.set_cons_zero, List.set_cons_succ]
            refine wpAnyH_done (by kernel_rfl) ?_ _
            refine NoPanic.normal ?_
            go_wp2_with fail
            go_meet
            exact ⟨rfl, HY⟩
          refine AllReadyH.cons (by simp only [List.getElem?_toArray, List.getElem?_cons_zero, List.getElem?_cons_succ]; rfl) (fun K hK => ?_) ?_
          · try rw [if_pos (by rfl)]
            go_simp
            go_at_call 8
            refine (HSB.out w12 c12 HC12.out).mono ?_
            rintro e w13 ⟨rfl, hb13⟩
            have HX13 := hide (HX12.out.below_ hb13)
            have HA13 := hide (HA12.out.below hb13 HA12.out.lt)
            clear hb13 HX12
            try go_wp2_with fail
            refine hK.out _ _ HX13.out.be.range (fun hHeld => ?_)
            clear hK K
            try simp only [Act.put, List.setIfInBounds_toArray, List.set_cons_zero, List.set_cons_succ]
            refine wpAnyH_ready (rs := [11]) (by kernel_rfl) (by simp) ?_
            refine AllReadyH.cons (by simp only [List.getElem?_toArray, List.getElem?_cons_zero, List.getElem?_cons_succ]; rfl) (fun K hK => ?_) AllReadyH.nil
            try rw [if_pos (by rfl)]
            refine wp_map 32 rfl (@run_makeMap Try.prog _) ?_
            intro m14 w14 hm14 hw14
            have hb14 : Below w13.heap.size w13 w14 := by rw [hw14]; exact (Below.refl _ _).alloc (Nat.le_refl _) _
            have HX14 := hide (HX13.out.below_ hb14)
            have HA14 := hide (HA13.out.below hb14 HA13.out.lt)
            have HM14 : Hid (DgIs w14 m14 0 (fun _ => none)) := hide (by rw [hw14, hm14]; exact DgIs.made _)
            have HN11 : Hid (q + 1 ≤ m14) := hide (by rw [hm14]; exact HX13.out.lt.2.2.2.2.2.2)
            clear hm14 hw14 hb14 HX13
            refine hK.out _ _ HX14.out.be.range (fun hHeld => ?_)
            clear hK K
            try simp only [Act.put, List.setIfInBounds_toArray, List.set_cons_zero, List.set_cons_succ]
            refine wpAnyH_ready (rs := [15]) (by kernel_rfl) (by simp) ?_
            refine AllReadyH.cons (by simp only [List.getElem?_toArray, List.getElem?_cons_zero, List.getElem?_cons_succ]; rfl) (fun K hK => ?_) AllReadyH.nil
            try rw [if_pos (by rfl)]
            obtain ⟨D, hD1, hD2⟩ := HM14.out
            refine wp_insert (.tmp 68) (.const (.string { data := #[65] })) (.tmp 71) 32 rfl 9 35 klaw Try.underlying32 heldR m14 0 D rfl hD1 (by unfold maxLen; omega) _ _ _ rfl rfl hkA (.held (.agg dz)) [] rfl ?_
            intro w15 hown15 hg15
            have hkm15 : Keep (fun b => b = m14) w14 w15 := (Keep.refl _ w14).grown hg15 (fun k hk _ => by injection hk with hk; exact hk.symm)
            have HX15 := hide (HX14.out.keep hkm15 (fun k hk => by rw [hk]; exact HN11.out))
            have HA15 := hide (HA14.out.keep hkm15 (dg_ne_blk ⟨D, hD1, hD2⟩ HA14.out))
            have HM15 : Hid (DgIs w15 m14 1 (Fd.set (fun _ => none) [65] src)) := hide ⟨_, hown15, by have h9 := hD2.set [65] src; rw [dgV, ← HDZ.out ()] at h9; exact h9⟩
            clear hown15 hg15 hkm15 hD1 hD2 HX14
            refine hK.out _ _ HX15.out.be.range (fun hHeld => ?_)
            clear hK K
            try simp only [Act.put, List.setIfInBounds_toArray, List.set_cons_zero, List.set_cons_succ]
            refine wpAnyH_take (i := 16) (v := ?_) (by simp only [List.getElem?_toArray, List.getElem?_cons_zero, List.getElem?_cons_succ]; rfl) (by kernel_rfl) (by kernel_rfl) (by kernel_rfl) (fun _ _ _ h => h) (Or.inl ⟨by rfl, ?_⟩) (by assumption) ?_
            rotate_left
            · (intro wS hSw; go_simp; try with_reducible rfl)
            try simp only [Act.put, List.setIfInBounds_toArray, List.set_cons_zero, List.set_cons_succ]
            refine wpAnyH_ready (rs := [17]) (by kernel_rfl) (by simp) ?_
            refine AllReadyH.cons (by simp only [List.getElem?_toArray, List.getElem?_cons_zero, List.getElem?_cons_succ]; rfl) (fun K hK => ?_) AllReadyH.nil
            try rw [if_pos (by rfl)]
            go_simp
            go_at_call 11
            refine (HXS.out _ w15 a11 m14 (by omega) HX15.out HA15.out HM15.out HN10.out HN11.out).mono ?_
            rintro e wZ ⟨A9, c9, rfl, hkZ⟩
            have HY := hide (HX15.out.fy hkZ)
            clear hkZ
            try go_wp2_with fail
            refine hK.out _ _ HY.out.be.range (fun hHeld => ?_)
            clear hK K
            try simp only [Act.put, List.setIfInBounds_toArray, List.set_cons_zero, List.set_cons_succ]
            refine wpAnyH_take (i := 18) (v := ?_) (by simp only [List.getElem?_toArray, List.getElem?_cons_zero, List.getElem?_cons_succ]; rfl) (by kernel_rfl) (by kernel_rfl) (by kernel_rfl) (fun _ _ _ h => h) (Or.inl ⟨by rfl, ?_⟩) (by assumption) ?_
            rotate_left
            · (intro wS hSw; go_simp; try with_reducible rfl)
            try simp only [Act.put, List.setIfInBounds_toArray, List.set_cons_zero, List.set_cons_succ]
            refine wpAnyH_take (i := 19) (v := ?_) (by simp only [List.getElem?_toArray, List.getElem?_cons_zero, List.getElem?_cons_succ]; rfl) (by kernel_rfl) (by kernel_rfl) (by kernel_rfl) (fun _ _ _ h => h) (Or.inl ⟨by rfl, ?_⟩) (by assumption) ?_
            rotate_left
            · (intro wS hSw; go_simp; try with_reducible rfl)
            try simp only [Act.put, List.setIfInBounds_toArray, List.set_cons_zero, List.set_cons_succ]
            refine wpAnyH_take (i := 20) (v := ?_) (by simp only [List.getElem?_toArray, List.getElem?_cons_zero, List.getElem?_cons_succ]; rfl) (by kernel_rfl) (by kernel_rfl) (by kernel_rfl) (fun _ _ _ h => h) (Or.inl ⟨by rfl, ?_⟩) (by assumption) ?_
            rotate_left
            · (intro wS hSw; go_simp; try with_reducible rfl)
            try simp only [Act.put, List.setIfInBounds_toArray, List.set_cons_zero, List.set_cons_succ]
            refine wpAnyH_done (by kernel_rfl) ?_ _
            refine NoPanic.normal ?_
            go_wp2_with fail
            go_meet
            exact ⟨rfl, HY⟩
          exact AllReadyH.nil
        exact AllReadyH.nil
      refine AllReadyH.cons (by simp only [List.getElem?_toArray, List.getElem?_cons_zero, List.getElem?_cons_succ]; rfl) (fun K hK => ?_) ?_
      · try rw [if_pos (by rfl)]
        refine wp_map 32 rfl (@run_makeMap Try.prog _) ?_
        intro m11 w11 hm11 hw11
        have hb11 : Below w10.heap.size w10 w11 := by rw [hw11]; exact (Below.refl _ _).alloc (Nat.le_refl _) _
        have HX11 := hide (HX10.out.below_ hb11)
        have HM11 : Hid (DgIs w11 m11 0 (fun _ => none)) := hide (by rw [hw11, hm11]; exact DgIs.made _)
        have HN11 : Hid (q + 1 ≤ m11) := hide (by rw [hm11]; exact HX10.out.lt.2.2.2.2.2.2)
        clear hm11 hw11 hb11 HX10
        refine hK.out _ _ HX11.out.be.range (fun hHeld => ?_)
        clear hK K
        try simp only [Act.put, List.setIfInBounds_toArray, List.set_cons_zero, List.set_cons_succ]
        refine wpAnyH_ready (rs := [10, 13]) (by kernel_rfl) (by simp) ?_
        refine AllReadyH.cons (by simp only [List.getElem?_toArray, List.getElem?_cons_zero, List.getElem?_cons_succ]; rfl) (fun K hK => ?_) ?_
        · try rw [if_pos (by rfl)]
          refine wp_part 31 39 (.tmp 66) rfl 66 ev rfl HV.out.size (by decide) (by decide) Try.underlying31 en_info2 ?_
          intro a12 w12 ha12 hA12 hb12
          have HX12 := hide (HX11.out.below_ hb12)
          have HM12 := hide (HM11.out.below hb12)
          have HA12 := hide hA12
          have HN10 : Hid (q + 1 ≤ a12) := hide (by rw [ha12]; exact HX11.out.lt.2.2.2.2.2.2)
          clear hA12 hb12 ha12 HX11
          refine hK.out _ _ HX12.out.be.range (fun hHeld => ?_)
          clear hK K
          try simp only [Act.put, List.setIfInBounds_toArray, List.set_cons_zero, List.set_cons_succ]
          refine wpAnyH_ready (rs := [13]) (by kernel_rfl) (by simp) ?_
          refine AllReadyH.cons (by simp only [List.getElem?_toArray, List.getElem?_cons_zero, List.getElem?_cons_succ]; rfl) (fun K hK => ?_) AllReadyH.nil
          try rw [if_pos (by rfl)]
          go_simp
          try go_wp2_with fail
          refine hK.out _ _ ((HX12.out.be.alloc (.cells #[S tx] 9)).range) (fun hHeld => ?_)
          clear hK K
          try simp only [Act.put, List.setIfInBounds_toArray, List.set_cons_zero, List.set_cons_succ]
          obtain ⟨w13, hw13⟩ : ∃ x, x = w12.alloc (.cells #[S tx] 9) := ⟨_, rfl⟩
          have hb13 : Below w12.heap.size w12 w13 := by rw [hw13]; exact (Below.refl _ _).alloc (Nat.le_refl _) _
          have HC13 : Hid (Blk w13 w12.heap.size 9 #[S tx]) := hide (by rw [hw13]; exact Blk.new _ _ _)
          rw [← hw13] at hHeld ⊢
          have HX13 := hide (HX12.out.below_ hb13)
          have HA13 := hide (HA12.out.below hb13 HA12.out.lt)
          have HM13 := hide (HM12.out.below hb13)
          obtain ⟨c13, hc13⟩ : ∃ x, x = w12.heap.size := ⟨_, rfl⟩
          rw [← hc13] at HC13 ⊢
          clear hc13 hw13 hb13 HX12
          refine wpAnyH_ready (rs := [14]) (by kernel_rfl) (by simp) ?_
          refine AllReadyH.cons (by simp only [List.getElem?_toArray, List.getElem?_cons_zero, List.getElem?_cons_succ]; rfl) (fun K hK => ?_) AllReadyH.nil
          try rw [if_pos (by rfl)]
          go_simp
          go_at_call 8
          refine (HSB.out w13 c13 HC13.out).mono ?_
          rintro e w14 ⟨rfl, hb14⟩
          have HX14 := hide (HX13.out.below_ hb14)
          have HA14 := hide (HA13.out.below hb14 HA13.out.lt)
          have HM14 := hide (HM13.out.below hb14)
          clear hb14 HX13
          try go_wp2_with fail
          refine hK.out _ _ HX14.out.be.range (fun hHeld => ?_)
          clear hK K
          try simp only [Act.put, List.setIfInBounds_toArray, List.set_cons_zero, List.set_cons_succ]
          refine wpAnyH_ready (rs := [15]) (by kernel_rfl) (by simp) ?_
          refine AllReadyH.cons (by simp only [List.getElem?_toArray, List.getElem?_cons_zero, List.getElem?_cons_succ]; rfl) (fun K hK => ?_) AllReadyH.nil
          try rw [if_pos (by rfl)]
          obtain ⟨D, hD1, hD2⟩ := HM14.out
          refine wp_insert (.tmp 68) (.const (.string { data := #[65] })) (.tmp 71) 32 rfl 9 35 klaw Try.underlying32 heldR m11 0 D rfl hD1 (by unfold maxLen; omega) _ _ _ rfl rfl hkA (.held (.agg dz)) [] rfl ?_
          intro w15 hown15 hg15
          have hkm15 : Keep (fun b => b = m11) w14 w15 := (Keep.refl _ w14).grown hg15 (fun k hk _ => by injection hk with hk; exact hk.symm)
          have HX15 := hide (HX14.out.keep hkm15 (fun k hk => by rw [hk]; exact HN11.out))
          have HA15 := hide (HA14.out.keep hkm15 (dg_ne_blk ⟨D, hD1, hD2⟩ HA14.out))
          have HM15 : Hid (DgIs w15 m11 1 (Fd.set (fun _ => none) [65] src)) := hide ⟨_, hown15, by have h9 := hD2.set [65] src; rw [dgV, ← HDZ.out ()] at h9; exact h9⟩
          clear hown15 hg15 hkm15 hD1 hD2 HX14
          refine hK.out _ _ HX15.out.be.range (fun hHeld => ?_)
          clear hK K
          try simp only [Act.put, List.setIfInBounds_toArray, List.set_cons_zero, List.set_cons_succ]
          refine wpAnyH_take (i := 16) (v := ?_) (by simp only [List.getElem?_toArray, List.getElem?_cons_zero, List.getElem?_cons_succ]; rfl) (by kernel_rfl) (by kernel_rfl) (by kernel_rfl) (fun _ _ _ h => h) (Or.inl ⟨by rfl, ?_⟩) (by assumption) ?_
          rotate_left
          · (intro wS hSw; go_simp; try with_reducible rfl)
          try simp only [Act.put, List.setIfInBounds_toArray, List.set_cons_zero, List.set_cons_succ]
          refine wpAnyH_ready (rs := [17]) (by kernel_rfl) (by simp) ?_
          refine AllReadyH.cons (by simp only [List.getElem?_toArray, List.getElem?_cons_zero, List.getElem?_cons_succ]; rfl) (fun K hK => ?_) AllReadyH.nil
          try rw [if_pos (by rfl)]
          go_simp
          go_at_call 11
          refine (HXS.out _ w15 a12 m11 (by omega) HX15.out HA15.out HM15.out HN10.out HN11.out).mono ?_
          rintro e wZ ⟨A9, c9, rfl, hkZ⟩
          have HY := hide (HX15.out.fy hkZ)
          clear hkZ
          try go_wp2_with fail
          refine hK.out _ _ HY.out.be.range (fun hHeld => ?_)
          clear hK K
          try simp only [Act.put, List.setIfInBounds_toArray, List.set_cons_zero, List.set_cons_succ]
          refine wpAnyH_take (i := 18) (v := ?_) (by simp only [List.getElem?_toArray, List.getElem?_cons_zero, List.getElem?_cons_succ]; rfl) (by kernel_rfl) (by kernel_rfl) (by kernel_rfl) (fun _ _ _ h => h) (Or.inl ⟨by rfl, ?_⟩) (by assumption) ?_
          rotate_left
          · (intro wS hSw; go_simp; try with_reducible rfl)
          try simp only [Act.put, List.setIfInBounds_toArray, List.set_cons_zero, List.set_cons_succ]
          refine wpAnyH_take (i := 19) (v := ?_) (by simp only [List.getElem?_toArray, List.getElem?_cons_zero, List.getElem?_cons_succ]; rfl) (by kernel_rfl) (by kernel_rfl) (by kernel_rfl) (fun _ _ _ h => h) (Or.inl ⟨by rfl, ?_⟩) (by assumption) ?_
          rotate_left
          · (intro wS hSw; go_simp; try with_reducible rfl)
          try simp only [Act.put, List.setIfInBounds_toArray, List.set_cons_zero, List.set_cons_succ]
          refine wpAnyH_take (i := 20) (v := ?_) (by simp only [List.getElem?_toArray, List.getElem?_cons_zero, List.getElem?_cons_succ]; rfl) (by kernel_rfl) (by kernel_rfl) (by kernel_rfl) (fun _ _ _ h => h) (Or.inl ⟨by rfl, ?_⟩) (by assumption) ?_
          rotate_left
          · (intro wS hSw; go_simp; try with_reducible rfl)
          try simp only [Act.put, List.setIfInBounds_toArray, List.set_cons_zero, List.set_cons_succ]
          refine wpAnyH_done (by kernel_rfl) ?_ _
          refine NoPanic.normal ?_
          go_wp2_with fail
          go_meet
          exact ⟨rfl, HY⟩
        refine AllReadyH.cons (by simp only [List.getElem?_toArray, List.getElem?_cons_zero, List.getElem?_cons_succ]; rfl) (fun K hK => ?_) ?_
        · try rw [if_pos (by rfl)]
          go_simp
          try go_wp2_with fail
          refine hK.out _ _ ((HX11.out.be.alloc (.cells #[S tx] 9)).range) (fun hHeld => ?_)
          clear hK K
          try simp only [Act.put, List.setIfInBounds_toArray, List.set_cons_zero, List.set_cons_succ]
          obtain ⟨w12, hw12⟩ : ∃ x, x = w11.alloc (.cells #[S tx] 9) := ⟨_, rfl⟩
          have hb12 : Below w11.heap.size w11 w12 := by rw [hw12]; exact (Below.refl _ _).alloc (Nat.le_refl _) _
          have HC12 : Hid (Blk w12 w11.heap.size 9 #[S tx]) := hide (by rw [hw12]; exact Blk.new _ _ _)
          rw [← hw12] at hHeld ⊢
          have HX12 := hide (HX11.out.below_ hb12)
          have HM12 := hide (HM11.out.below hb12)
          obtain ⟨c12, hc12⟩ : ∃ x, x = w11.heap.size := ⟨_, rfl⟩
          rw [← hc12] at HC12 ⊢
          clear hc12 hw12 hb12 HX11
          refine wpAnyH_ready (rs := [10, 14]) (by kernel_rfl) (by simp) ?_
          refine AllReadyH.cons (by simp only [List.getElem?_toArray, List.getElem?_cons_zero, List.getElem?_cons_succ]; rfl) (fun K hK => ?_) ?_
          · try rw [if_pos (by rfl)]
            refine wp_part 31 39 (.tmp 66) rfl 66 ev rfl HV.out.size (by decide) (by decide) Try.underlying31 en_info2 ?_
            intro a13 w13 ha13 hA13 hb13
            have HX13 := hide (HX12.out.below_ hb13)
            have HM13 := hide (HM12.out.below hb13)
            have HC13 := hide (HC12.out.below hb13 HC12.out.lt)
            have HA13 := hide hA13
            have HN10 : Hid (q + 1 ≤ a13) := hide (by rw [ha13]; exact HX12.out.lt.2.2.2.2.2.2)
            clear hA13 hb13 ha13 HX12
            refine hK.out _ _ HX13.out.be.range (fun hHeld => ?_)
            clear hK K
            try simp only [Act.put, List.setIfInBounds_toArray, List.set_cons_zero, List.set_cons_succ]
            refine wpAnyH_ready (rs := [14]) (by kernel_rfl) (by simp) ?_
            refine AllReadyH.cons (by simp only [List.getElem?_toArray, List.getElem?_cons_zero, List.getElem?_cons_succ]; rfl) (fun K hK => ?_) AllReadyH.nil
            try rw [if_pos (by rfl)]
            go_simp
            go_at_call 8
            refine (HSB.out w13 c12 HC13.out).mono ?_
            rintro e w14 ⟨rfl, hb14⟩
            have HX14 := hide (HX13.out.below_ hb14)
            have HA14 := hide (HA13.out.below hb14 HA13.out.lt)
            have HM14 := hide (HM13.out.below hb14)
            clear hb14 HX13
            try go_wp2_with fail
            refine hK.out _ _ HX14.out.be.range (fun hHeld => ?_)
            clear hK K
            try simp only [Act.put, List.setIfInBounds_toArray, List.set_cons_zero, List.set_cons_succ]
            refine wpAnyH_ready (rs := [15]) (by kernel_rfl) (by simp) ?_
            refine AllReadyH.cons (by simp only [List.getElem?_toArray, List.getElem?_cons_zero, List.getElem?_cons_succ]; rfl) (fun K hK => ?_) AllReadyH.nil
            try rw [if_pos (by rfl)]
            obtain ⟨D, hD1, hD2⟩ := HM14.out
            refine wp_insert (.tmp 68) (.const (.string { data := #[65] })) (.tmp 71) 32 rfl 9 35 klaw Try.underlying32 heldR m11 0 D rfl hD1 (by unfold maxLen; omega) _ _ _ rfl rfl hkA (.held (.agg dz)) [] rfl ?_
            intro w15 hown15 hg15
            have hkm15 : Keep (fun b => b = m11) w14 w15 := (Keep.refl _ w14).grown hg15 (fun k hk _ => by injection hk with hk; exact hk.symm)
            have HX15 := hide (HX14.out.keep hkm15 (fun k hk => by rw [hk]; exact HN11.out))
            have HA15 := hide (HA14.out.keep hkm15 (dg_ne_blk ⟨D, hD1, hD2⟩ HA14.out))
            have HM15 : Hid (DgIs w15 m11 1 (Fd.set (fun _ => none) [65] src)) := hide ⟨_, hown15, by have h9 := hD2.set [65] src; rw [dgV, ← HDZ.out ()] at h9; exact h9⟩
            clear hown15 hg15 hkm15 hD1 hD2 HX14
            refine hK.out _ _ HX15.out.be.range (fun hHeld => ?_)
            clear hK K
            try simp only [Act.put, List.setIfInBounds_toArray, List.set_cons_zero, List.set_cons_succ]
            refine wpAnyH_take (i := 16) (v := ?_) (by simp only [List.getElem?_toArray, List.getElem?_cons_zero, List.getElem?_cons_succ]; rfl) (by kernel_rfl) (by kernel_rfl) (by kernel_rfl) (fun _ _ _ h => h) (Or.inl ⟨by rfl, ?_⟩) (by assumption) ?_
            rotate_left
            · (intro wS hSw; go_simp; try with_reducible rfl)
            try simp only [Act.put, List.setIfInBounds_toArray, List.set_cons_zero, List.set_cons_succ]
            refine wpAnyH_ready (rs := [17]) (by kernel_rfl) (by simp) ?_
            refine AllReadyH.cons (by simp only [List.getElem?_toArray, List.getElem?_cons_zero, List.getElem?_cons_succ]; rfl) (fun K hK => ?_) AllReadyH.nil
            try rw [if_pos (by rfl)]
            go_simp
            go_at_call 11
            refine (HXS.out _ w15 a13 m11 (by omega) HX15.out HA15.out HM15.out HN10.out HN11.out).mono ?_
            rintro e wZ ⟨A9, c9, rfl, hkZ⟩
            have HY := hide (HX15.out.fy hkZ)
            clear hkZ
            try go_wp2_with fail
            refine hK.out _ _ HY.out.be.range (fun hHeld => ?_)
            clear hK K
            try simp only [Act.put, List.setIfInBounds_toArray, List.set_cons_zero, List.set_cons_succ]
            refine wpAnyH_take (i := 18) (v := ?_) (by simp only [List.getElem?_toArray, List.getElem?_cons_zero, List.getElem?_cons_succ]; rfl) (by kernel_rfl) (by kernel_rfl) (by kernel_rfl) (fun _ _ _ h => h) (Or.inl ⟨by rfl, ?_⟩) (by assumption) ?_
            rotate_left
            · (intro wS hSw; go_simp; try with_reducible rfl)
            try simp only [Act.put, List.setIfInBounds_toArray, List.set_cons_zero, List.set_cons_succ]
            refine wpAnyH_take (i := 19) (v := ?_) (by simp only [List.getElem?_toArray, List.getElem?_cons_zero, List.getElem?_cons_succ]; rfl) (by kernel_rfl) (by kernel_rfl) (by kernel_rfl) (fun _ _ _ h => h) (Or.inl ⟨by rfl, ?_⟩) (by assumption) ?_
            rotate_left
            · (intro wS hSw; go_simp; try with_reducible rfl)
            try simp only [Act.put, List.setIfInBounds_toArray, List.set_cons_zero, List.set_cons_succ]
            refine wpAnyH_take (i := 20) (v := ?_) (by simp only [List.getElem?_toArray, List.getElem?_cons_zero, List.getElem?_cons_succ]; rfl) (by kernel_rfl) (by kernel_rfl) (by kernel_rfl) (fun _ _ _ h => h) (Or.inl ⟨by rfl, ?_⟩) (by assumption) ?_
            rotate_left
            · (intro wS hSw; go_simp; try with_reducible rfl)
            try simp only [Act.put, List.setIfInBounds_toArray, List.set_cons_zero, List.set_cons_succ]
            refine wpAnyH_done (by kernel_rfl) ?_ _
            refine NoPanic.normal ?_
            go_wp2_with fail
            go_meet
            exact ⟨rfl, HY⟩
          refine AllReadyH.cons (by simp only [List.getElem?_toArray, List.getElem?_cons_zero, List.getElem?_cons_succ]; rfl) (fun K hK => ?_) ?_
          · try rw [if_pos (by rfl)]
            go_simp
            go_at_call 8
            refine (HSB.out w12 c12 HC12.out).mono ?_
            rintro e w13 ⟨rfl, hb13⟩
            have HX13 := hide (HX12.out.below_ hb13)
            have HM13 := hide (HM12.out.below hb13)
            clear hb13 HX12
            try go_wp2_with fail
            refine hK.out _ _ HX13.out.be.range (fun hHeld => ?_)
            clear hK K
            try simp only [Act.put, List.setIfInBounds_toArray, List.set_cons_zero, List.set_cons_succ]
            refine wpAnyH_ready (rs := [10, 15]) (by kernel_rfl) (by simp) ?_
            refine AllReadyH.cons (by simp only [List.getElem?_toArray, List.getElem?_cons_zero, List.getElem?_cons_succ]; rfl) (fun K hK => ?_) ?_
            · try rw [if_pos (by rfl)]
              refine wp_part 31 39 (.tmp 66) rfl 66 ev rfl HV.out.size (by decide) (by decide) Try.underlying31 en_info2 ?_
              intro a14 w14 ha14 hA14 hb14
              have HX14 := hide (HX13.out.below_ hb14)
              have HM14 := hide (HM13.out.below hb14)
              have HA14 := hide hA14
              have HN10 : Hid (q + 1 ≤ a14) := hide (by rw [ha14]; exact HX13.out.lt.2.2.2.2.2.2)
              clear hA14 hb14 ha14 HX13
              refine hK.out _ _ HX14.out.be.range (fun hHeld => ?_)
              clear hK K
              try simp only [Act.put, List.setIfInBounds_toArray, List.set_cons_zero, List.set_cons_succ]
              refine wpAnyH_ready (rs := [15]) (by kernel_rfl) (by simp) ?_
              refine AllReadyH.cons (by simp only [List.getElem?_toArray, List.getElem?_cons_zero, List.getElem?_cons_succ]; rfl) (fun K hK => ?_) AllReadyH.nil
              try rw [if_pos (by rfl)]
              obtain ⟨D, hD1, hD2⟩ := HM14.out
              refine wp_insert (.tmp 68) (.const (.string { data := #[65] })) (.tmp 71) 32 rfl 9 35 klaw Try.underlying32 heldR m11 0 D rfl hD1 (by unfold maxLen; omega) _ _ _ rfl rfl hkA (.held (.agg dz)) [] rfl ?_
              intro w15 hown15 hg15
              have hkm15 : Keep (fun b => b = m11) w14 w15 := (Keep.refl _ w14).grown hg15 (fun k hk _ => by injection hk with hk; exact hk.symm)
              have HX15 := hide (HX14.out.keep hkm15 (fun k hk => by rw [hk]; exact HN11.out))
              have HA15 := hide (HA14.out.keep hkm15 (dg_ne_blk ⟨D, hD1, hD2⟩ HA14.out))
              have HM15 : Hid (DgIs w15 m11 1 (Fd.set (fun _ => none) [65] src)) := hide ⟨_, hown15, by have h9 := hD2.set [65] src; rw [dgV, ← HDZ.out ()] at h9; exact h9⟩
              clear hown15 hg15 hkm15 hD1 hD2 HX14
              refine hK.out _ _ HX15.out.be.range (fun hHeld => ?_)
              clear hK K
              try simp only [Act.put, List.setIfInBounds_toArray, List.set_cons_zero, List.set_cons_succ]
              refine wpAnyH_take (i := 16) (v := ?_) (by simp only [List.getElem?_toArray, List.getElem?_cons_zero, List.getElem?_cons_succ]; rfl) (by kernel_rfl) (by kernel_rfl) (by kernel_rfl) (fun _ _ _ h => h) (Or.inl ⟨by rfl, ?_⟩) (by assumption) ?_
              rotate_left
              · (intro wS hSw; go_simp; try with_reducible rfl)
              try simp only [Act.put, List.setIfInBounds_toArray, List.set_cons_zero, List.set_cons_succ]
              refine wpAnyH_ready (rs := [17]) (by kernel_rfl) (by simp) ?_
              refine AllReadyH.cons (by simp only [List.getElem?_toArray, List.getElem?_cons_zero, List.getElem?_cons_succ]; rfl) (fun K hK => ?_) AllReadyH.nil
              try rw [if_pos (by rfl)]
              go_simp
              go_at_call 11
              refine (HXS.out _ w15 a14 m11 (by omega) HX15.out HA15.out HM15.out HN10.out HN11.out).mono ?_
              rintro e wZ ⟨A9, c9, rfl, hkZ⟩
              have HY := hide (HX15.out.fy hkZ)
              clear hkZ
              try go_wp2_with fail
              refine hK.out _ _ HY.out.be.range (fun hHeld => ?_)
              clear hK K
              try simp only [Act.put, List.setIfInBounds_toArray, List.set_cons_zero, List.set_cons_succ]
              refine wpAnyH_take (i := 18) (v := ?_) (by simp only [List.getElem?_toArray, List.getElem?_cons_zero, List.getElem?_cons_succ]; rfl) (by kernel_rfl) (by kernel_rfl) (by kernel_rfl) (fun _ _ _ h => h) (Or.inl ⟨by rfl, ?_⟩) (by assumption) ?_
              rotate_left
              · (intro wS hSw; go_simp; try with_reducible rfl)
              try simp only [Act.put, List.setIfInBounds_toArray, List.set_cons_zero, List.set_cons_succ]
              refine wpAnyH_take (i := 19) (v := ?_) (by simp only [List.getElem?_toArray, List.getElem?_cons_zero, List.getElem?_cons_succ]; rfl) (by kernel_rfl) (by kernel_rfl) (by kernel_rfl) (fun _ _ _ h => h) (Or.inl ⟨by rfl, ?_⟩) (by assumption) ?_
              rotate_left
              · (intro wS hSw; go_simp; try with_reducible rfl)
              try simp only [Act.put, List.setIfInBounds_toArray, List.set_cons_zero, List.set_cons_succ]
              refine wpAnyH_take (i := 20) (v := ?_) (by simp only [List.getElem?_toArray, List.getElem?_cons_zero, List.getElem?_cons_succ]; rfl) (by kernel_rfl) (by kernel_rfl) (by kernel_rfl) (fun _ _ _ h => h) (Or.inl ⟨by rfl, ?_⟩) (by assumption) ?_
              rotate_left
              · (intro wS hSw; go_simp; try with_reducible rfl)
              try simp only [Act.put, List.setIfInBounds_toArray, List.set_cons_zero, List.set_cons_succ]
              refine wpAnyH_done (by kernel_rfl) ?_ _
              refine NoPanic.normal ?_
              go_wp2_with fail
              go_meet
              exact ⟨rfl, HY⟩
            refine AllReadyH.cons (by simp only [List.getElem?_toArray, List.getElem?_cons_zero, List.getElem?_cons_succ]; rfl) (fun K hK => ?_) ?_
            · try rw [if_pos (by rfl)]
              obtain ⟨D, hD1, hD2⟩ := HM13.out
              refine wp_insert (.tmp 68) (.const (.string { data := #[65] })) (.tmp 71) 32 rfl 9 35 klaw Try.underlying32 heldR m11 0 D rfl hD1 (by unfold maxLen; omega) _ _ _ rfl rfl hkA (.held (.agg dz)) [] rfl ?_
              intro w14 hown14 hg14
              have hkm14 : Keep (fun b => b = m11) w13 w14 := (Keep.refl _ w13).grown hg14 (fun k hk _ => by injection hk with hk; exact hk.symm)
              have HX14 := hide (HX13.out.keep hkm14 (fun k hk => by rw [hk]; exact HN11.out))
              have HM14 : Hid (DgIs w14 m11 1 (Fd.set (fun _ => none) [65] src)) := hide ⟨_, hown14, by have h9 := hD2.set [65] src; rw [dgV, ← HDZ.out ()] at h9; exact h9⟩
              clear hown14 hg14 hkm14 hD1 hD2 HX13
              refine hK.out _ _ HX14.out.be.range (fun hHeld => ?_)
              clear hK K
              try simp only [Act.put, List.setIfInBounds_toArray, List.set_cons_zero, List.set_cons_succ]
              refine wpAnyH_take (i := 16) (v := ?_) (by simp only [List.getElem?_toArray, List.getElem?_cons_zero, List.getElem?_cons_succ]; rfl) (by kernel_rfl) (by kernel_rfl) (by kernel_rfl) (fun _ _ _ h => h) (Or.inl ⟨by rfl, ?_⟩) (by assumption) ?_
              rotate_left
              · (intro wS hSw; go_simp; try with_reducible rfl)
              try simp only [Act.put, List.setIfInBounds_toArray, List.set_cons_zero, List.set_cons_succ]
              refine wpAnyH_ready (rs := [10]) (by kernel_rfl) (by simp) ?_
              refine AllReadyH.cons (by simp only [List.getElem?_toArray, List.getElem?_cons_zero, List.getElem?_cons_succ]; rfl) (fun K hK => ?_) AllReadyH.nil
              try rw [if_pos (by rfl)]
              refine wp_part 31 39 (.tmp 66) rfl 66 ev rfl HV.out.size (by decide) (by decide) Try.underlying31 en_info2 ?_
              intro a15 w15 ha15 hA15 hb15
              have HX15 := hide (HX14.out.below_ hb15)
              have HM15 := hide (HM14.out.below hb15)
              have HA15 := hide hA15
              have HN10 : Hid (q + 1 ≤ a15) := hide (by rw [ha15]; exact HX14.out.lt.2.2.2.2.2.2)
              clear hA15 hb15 ha15 HX14
              refine hK.out _ _ HX15.out.be.range (fun hHeld => ?_)
              clear hK K
              try simp only [Act.put, List.setIfInBounds_toArray, List.set_cons_zero, List.set_cons_succ]
              refine wpAnyH_ready (rs := [17]) (by kernel_rfl) (by simp) ?_
              refine AllReadyH.cons (by simp only [List.getElem?_toArray, List.getElem?_cons_zero, List.getElem?_cons_succ]; rfl) (fun K hK => ?_) AllReadyH.nil
              try rw [if_pos (by rfl)]
              go_simp
              go_at_call 11
              refine (HXS.out _ w15 a15 m11 (by omega) HX15.out HA15.out HM15.out HN10.out HN11.out).mono ?_
              rintro e wZ ⟨A9, c9, rfl, hkZ⟩
              have HY := hide (HX15.out.fy hkZ)
              clear hkZ
              try go_wp2_with fail
              refine hK.out _ _ HY.out.be.range (fun hHeld => ?_)
              clear hK K
              try simp only [Act.put, List.setIfInBounds_toArray, List.set_cons_zero, List.set_cons_succ]
              refine wpAnyH_take (i := 18) (v := ?_) (by simp only [List.getElem?_toArray, List.getElem?_cons_zero, List.getElem?_cons_succ]; rfl) (by kernel_rfl) (by kernel_rfl) (by kernel_rfl) (fun _ _ _ h => h) (Or.inl ⟨by rfl, ?_⟩) (by assumption) ?_
              rotate_left
              · (intro wS hSw; go_simp; try with_reducible rfl)
              try simp only [Act.put, List.setIfInBounds_toArray, List.set_cons_zero, List.set_cons_succ]
              refine wpAnyH_take (i := 19) (v := ?_) (by simp only [List.getElem?_toArray, List.getElem?_cons_zero, List.getElem?_cons_succ]; rfl) (by kernel_rfl) (by kernel_rfl) (by kernel_rfl) (fun _ _ _ h => h) (Or.inl ⟨by rfl, ?_⟩) (by assumption) ?_
              rotate_left
              · (intro wS hSw; go_simp; try with_reducible rfl)
              try simp only [Act.put, List.setIfInBounds_toArray, List.set_cons_zero, List.set_cons_succ]
              refine wpAnyH_take (i := 20) (v := ?_) (by simp only [List.getElem?_toArray, List.getElem?_cons_zero, List.getElem?_cons_succ]; rfl) (by kernel_rfl) (by kernel_rfl) (by kernel_rfl) (fun _ _ _ h => h) (Or.inl ⟨by rfl, ?_⟩) (by assumption) ?_
              rotate_left
              · (intro wS hSw; go_simp; try with_reducible rfl)
              try simp only [Act.put, List.setIfInBounds_toArray, List.set_cons_zero, List.set_cons_succ]
              refine wpAnyH_done (by kernel_rfl) ?_ _
              refine NoPanic.normal ?_
              go_wp2_with fail
              go_meet
              exact ⟨rfl, HY⟩
            exact AllReadyH.nil
          exact AllReadyH.nil
        exact AllReadyH.nil
      refine AllReadyH.cons (by simp only [List.getElem?_toArray, List.getElem?_cons_zero, List.getElem?_cons_succ]; rfl) (fun K hK => ?_) ?_
      · try rw [if_pos (by rfl)]
        go_simp
        try go_wp2_with fail
        refine hK.out _ _ ((HX10.out.be.alloc (.cells #[S tx] 9)).range) (fun hHeld => ?_)
        clear hK K
        try simp only [Act.put, List.setIfInBounds_toArray, List.set_cons_zero, List.set_cons_succ]
        obtain ⟨w11, hw11⟩ : ∃ x, x = w10.alloc (.cells #[S tx] 9) := ⟨_, rfl⟩
        have hb11 : Below w10.heap.size w10 w11 := by rw [hw11]; exact (Below.refl _ _).alloc (Nat.le_refl _) _
        have HC11 : Hid (Blk w11 w10.heap.size 9 #[S tx]) := hide (by rw [hw11]; exact Blk.new _ _ _)
        rw [← hw11] at hHeld ⊢
        have HX11 := hide (HX10.out.below_ hb11)
        obtain ⟨c11, hc11⟩ : ∃ x, x = w10.heap.size := ⟨_, rfl⟩
        rw [← hc11] at HC11 ⊢
        clear hc11 hw11 hb11 HX10
        refine wpAnyH_ready (rs := [10, 11, 14]) (by kernel_rfl) (by simp) ?_
        refine AllReadyH.cons (by simp only [List.getElem?_toArray, List.getElem?_cons_zero, List.getElem?_cons_succ]; rfl) (fun K hK => ?_) ?_
        · try rw [if_pos (by rfl)]
          refine wp_part 31 39 (.tmp 66) rfl 66 ev rfl HV.out.size (by decide) (by decide) Try.underlying31 en_info2 ?_
          intro a12 w12 ha12 hA12 hb12
          have HX12 := hide (HX11.out.below_ hb12)
          have HC12 := hide (HC11.out.below hb12 HC11.out.lt)
          have HA12 := hide hA12
          have HN10 : Hid (q + 1 ≤ a12) := hide (by rw [ha12]; exact HX11.out.lt.2.2.2.2.2.2)
          clear hA12 hb12 ha12 HX11
          refine hK.out _ _ HX12.out.be.range (fun hHeld => ?_)
          clear hK K
          try simp only [Act.put, List.setIfInBounds_toArray, List.set_cons_zero, List.set_cons_succ]
          refine wpAnyH_ready (rs := [11, 14]) (by kernel_rfl) (by simp) ?_
          refine AllReadyH.cons (by simp only [List.getElem?_toArray, List.getElem?_cons_zero, List.getElem?_cons_succ]; rfl) (fun K hK => ?_) ?_
          · try rw [if_pos (by rfl)]
            refine wp_map 32 rfl (@run_makeMap Try.prog _) ?_
            intro m13 w13 hm13 hw13
            have hb13 : Below w12.heap.size w12 w13 := by rw [hw13]; exact (Below.refl _ _).alloc (Nat.le_refl _) _
            have HX13 := hide (HX12.out.below_ hb13)
            have HA13 := hide (HA12.out.below hb13 HA12.out.lt)
            have HC13 := hide (HC12.out.below hb13 HC12.out.lt)
            have HM13 : Hid (DgIs w13 m13 0 (fun _ => none)) := hide (by rw [hw13, hm13]; exact DgIs.made _)
            have HN11 : Hid (q + 1 ≤ m13) := hide (by rw [hm13]; exact HX12.out.lt.2.2.2.2.2.2)
            clear hm13 hw13 hb13 HX12
            refine hK.out _ _ HX13.out.be.range (fun hHeld => ?_)
            clear hK K
            try simp only [Act.put, List.setIfInBounds_toArray, List.set_cons_zero, List.set_cons_succ]
            refine wpAnyH_ready (rs := [14]) (by kernel_rfl) (by simp) ?_
            refine AllReadyH.cons (by simp only [List.getElem?_toArray, List.getElem?_cons_zero, List.getElem?_cons_succ]; rfl) (fun K hK => ?_) AllReadyH.nil
            try rw [if_pos (by rfl)]
            go_simp
            go_at_call 8
            refine (HSB.out w13 c11 HC13.out).mono ?_
            rintro e w14 ⟨rfl, hb14⟩
            have HX14 := hide (HX13.out.below_ hb14)
            have HA14 := hide (HA13.out.below hb14 HA13.out.lt)
            have HM14 := hide (HM13.out.below hb14)
            clear hb14 HX13
            try go_wp2_with fail
            refine hK.out _ _ HX14.out.be.range (fun hHeld => ?_)
            clear hK K
            try simp only [Act.put, List.setIfInBounds_toArray, List.set_cons_zero, List.set_cons_succ]
            refine wpAnyH_ready (rs := [15]) (by kernel_rfl) (by simp) ?_
            refine AllReadyH.cons (by simp only [List.getElem?_toArray, List.getElem?_cons_zero, List.getElem?_cons_succ]; rfl) (fun K hK => ?_) AllReadyH.nil
            try rw [if_pos (by rfl)]
            obtain ⟨D, hD1, hD2⟩ := HM14.out
            refine wp_insert (.tmp 68) (.const (.string { data := #[65] })) (.tmp 71) 32 rfl 9 35 klaw Try.underlying32 heldR m13 0 D rfl hD1 (by unfold maxLen; omega) _ _ _ rfl rfl hkA (.held (.agg dz)) [] rfl ?_
            intro w15 hown15 hg15
            have hkm15 : Keep (fun b => b = m13) w14 w15 := (Keep.refl _ w14).grown hg15 (fun k hk _ => by injection hk with hk; exact hk.symm)
            have HX15 := hide (HX14.out.keep hkm15 (fun k hk => by rw [hk]; exact HN11.out))
            have HA15 := hide (HA14.out.keep hkm15 (dg_ne_blk ⟨D, hD1, hD2⟩ HA14.out))
            have HM15 : Hid (DgIs w15 m13 1 (Fd.set (fun _ => none) [65] src)) := hide ⟨_, hown15, by have h9 := hD2.set [65] src; rw [dgV, ← HDZ.out ()] at h9; exact h9⟩
            clear hown15 hg15 hkm15 hD1 hD2 HX14
            refine hK.out _ _ HX15.out.be.range (fun hHeld => ?_)
            clear hK K
            try simp only [Act.put, List.setIfInBounds_toArray, List.set_cons_zero, List.set_cons_succ]
            refine wpAnyH_take (i := 16) (v := ?_) (by simp only [List.getElem?_toArray, List.getElem?_cons_zero, List.getElem?_cons_succ]; rfl) (by kernel_rfl) (by kernel_rfl) (by kernel_rfl) (fun _ _ _ h => h) (Or.inl ⟨by rfl, ?_⟩) (by assumption) ?_
            rotate_left
            · (intro wS hSw; go_simp; try with_reducible rfl)
            try simp only [Act.put, List.setIfInBounds_toArray, List.set_cons_zero, List.set_cons_succ]
            refine wpAnyH_ready (rs := [17]) (by kernel_rfl) (by simp) ?_
            refine AllReadyH.cons (by simp only [List.getElem?_toArray, List.getElem?_cons_zero, List.getElem?_cons_succ]; rfl) (fun K hK => ?_) AllReadyH.nil
            try rw [if_pos (by rfl)]
            go_simp
            go_at_call 11
            refine (HXS.out _ w15 a12 m13 (by omega) HX15.out HA15.out HM15.out HN10.out HN11.out).mono ?_
            rintro e wZ ⟨A9, c9, rfl, hkZ⟩
            have HY := hide (HX15.out.fy hkZ)
            clear hkZ
            try go_wp2_with fail
            refine hK.out _ _ HY.out.be.range (fun hHeld => ?_)
            clear hK K
            try simp only [Act.put, List.setIfInBounds_toArray, List.set_cons_zero, List.set_cons_succ]
            refine wpAnyH_take (i := 18) (v := ?_) (by simp only [List.getElem?_toArray, List.getElem?_cons_zero, List.getElem?_cons_succ]; rfl) (by kernel_rfl) (by kernel_rfl) (by kernel_rfl) (fun _ _ _ h => h) (Or.inl ⟨by rfl, ?_⟩) (by assumption) ?_
            rotate_left
            · (intro wS hSw; go_simp; try with_reducible rfl)
            try simp only [Act.put, List.setIfInBounds_toArray, List.set_cons_zero, List.set_cons_succ]
            refine wpAnyH_take (i := 19) (v := ?_) (by simp only [List.getElem?_toArray, List.getElem?_cons_zero, List.getElem?_cons_succ]; rfl) (by kernel_rfl) (by kernel_rfl) (by kernel_rfl) (fun _ _ _ h => h) (Or.inl ⟨by rfl, ?_⟩) (by assumption) ?_
            rotate_left
            · (intro wS hSw; go_simp; try with_reducible rfl)
            try simp only [Act.put, List.setIfInBounds_toArray, List.set_cons_zero, List.set_cons_succ]
            refine wpAnyH_take (i := 20) (v := ?_) (by simp only [List.getElem?_toArray, List.getElem?_cons_zero, List.getElem?_cons_succ]; rfl) (by kernel_rfl) (by kernel_rfl) (by kernel_rfl) (fun _ _ _ h => h) (Or.inl ⟨by rfl, ?_⟩) (by assumption) ?_
            rotate_left
            · (intro wS hSw; go_simp; try with_reducible rfl)
            try simp only [Act.put, List.setIfInBounds_toArray, List.set_cons_zero, List.set_cons_succ]
            refine wpAnyH_done (by kernel_rfl) ?_ _
            refine NoPanic.normal ?_
            go_wp2_with fail
            go_meet
            exact ⟨rfl, HY⟩
          refine AllReadyH.cons (by simp only [List.getElem?_toArray, List.getElem?_cons_zero, List.getElem?_cons_succ]; rfl) (fun K hK => ?_) ?_
          · try rw [if_pos (by rfl)]
            go_simp
            go_at_call 8
            refine (HSB.out w12 c11 HC12.out).mono ?_
            rintro e w13 ⟨rfl, hb13⟩
            have HX13 := hide (HX12.out.below_ hb13)
            have HA13 := hide (HA12.out.below hb13 HA12.out.lt)
            clear hb13 HX12
            try go_wp2_with fail
            refine hK.out _ _ HX13.out.be.range (fun hHeld => ?_)
            clear hK K
            try simp only [Act.put, List.setIfInBounds_toArray, List.set_cons_zero, List.set_cons_succ]
            refine wpAnyH_ready (rs := [11]) (by kernel_rfl) (by simp) ?_
            refine AllReadyH.cons (by simp only [List.getElem?_toArray, List.getElem?_cons_zero, List.getElem?_cons_succ]; rfl) (fun K hK => ?_) AllReadyH.nil
            try rw [if_pos (by rfl)]
            refine wp_map 32 rfl (@run_makeMap Try.prog _) ?_
            intro m14 w14 hm14 hw14
            have hb14 : Below w13.heap.size w13 w14 := by rw [hw14]; exact (Below.refl _ _).alloc (Nat.le_refl _) _
            have HX14 := hide (HX13.out.below_ hb14)
            have HA14 := hide (HA13.out.below hb14 HA13.out.lt)
            have HM14 : Hid (DgIs w14 m14 0 (fun _ => none)) := hide (by rw [hw14, hm14]; exact DgIs.made _)
            have HN11 : Hid (q + 1 ≤ m14) := hide (by rw [hm14]; exact HX13.out.lt.2.2.2.2.2.2)
            clear hm14 hw14 hb14 HX13
            refine hK.out _ _ HX14.out.be.range (fun hHeld => ?_)
            clear hK K
            try simp only [Act.put, List.setIfInBounds_toArray, List.set_cons_zero, List.set_cons_succ]
            refine wpAnyH_ready (rs := [15]) (by kernel_rfl) (by simp) ?_
            refine AllReadyH.cons (by simp only [List.getElem?_toArray, List.getElem?_cons_zero, List.getElem?_cons_succ]; rfl) (fun K hK => ?_) AllReadyH.nil
            try rw [if_pos (by rfl)]
            obtain ⟨D, hD1, hD2⟩ := HM14.out
            refine wp_insert (.tmp 68) (.const (.string { data := #[65] })) (.tmp 71) 32 rfl 9 35 klaw Try.underlying32 heldR m14 0 D rfl hD1 (by unfold maxLen; omega) _ _ _ rfl rfl hkA (.held (.agg dz)) [] rfl ?_
            intro w15 hown15 hg15
            have hkm15 : Keep (fun b => b = m14) w14 w15 := (Keep.refl _ w14).grown hg15 (fun k hk _ => by injection hk with hk; exact hk.symm)
            have HX15 := hide (HX14.out.keep hkm15 (fun k hk => by rw [hk]; exact HN11.out))
            have HA15 := hide (HA14.out.keep hkm15 (dg_ne_blk ⟨D, hD1, hD2⟩ HA14.out))
            have HM15 : Hid (DgIs w15 m14 1 (Fd.set (fun _ => none) [65] src)) := hide ⟨_, hown15, by have h9 := hD2.set [65] src; rw [dgV, ← HDZ.out ()] at h9; exact h9⟩
            clear hown15 hg15 hkm15 hD1 hD2 HX14
            refine hK.out _ _ HX15.out.be.range (fun hHeld => ?_)
            clear hK K
            try simp only [Act.put, List.setIfInBounds_toArray, List.set_cons_zero, List.set_cons_succ]
            refine wpAnyH_take (i := 16) (v := ?_) (by simp only [List.getElem?_toArray, List.getElem?_cons_zero, List.getElem?_cons_succ]; rfl) (by kernel_rfl) (by kernel_rfl) (by kernel_rfl) (fun _ _ _ h => h) (Or.inl ⟨by rfl, ?_⟩) (by assumption) ?_
            rotate_left
            · (intro wS hSw; go_simp; try with_reducible rfl)
            try simp only [Act.put, List.setIfInBounds_toArray, List.set_cons_zero, List.set_cons_succ]
            refine wpAnyH_ready (rs := [17]) (by kernel_rfl) (by simp) ?_
            refine AllReadyH.cons (by simp only [List.getElem?_toArray, List.getElem?_cons_zero, List.getElem?_cons_succ]; rfl) (fun K hK => ?_) AllReadyH.nil
            try rw [if_pos (by rfl)]
            go_simp
            go_at_call 11
            refine (HXS.out _ w15 a12 m14 (by omega) HX15.out HA15.out HM15.out HN10.out HN11.out).mono ?_
            rintro e wZ ⟨A9, c9, rfl, hkZ⟩
            have HY := hide (HX15.out.fy hkZ)
            clear hkZ
            try go_wp2_with fail
            refine hK.out _ _ HY.out.be.range (fun hHeld => ?_)
            clear hK K
            try simp only [Act.put, List.setIfInBounds_toArray, List.set_cons_zero, List.set_cons_succ]
            refine wpAnyH_take (i := 18) (v := ?_) (by simp only [List.getElem?_toArray, List.getElem?_cons_zero, List.getElem?_cons_succ]; rfl) (by kernel_rfl) (by kernel_rfl) (by kernel_rfl) (fun _ _ _ h => h) (Or.inl ⟨by rfl, ?_⟩) (by assumption) ?_
            rotate_left
            · (intro wS hSw; go_simp; try with_reducible rfl)
            try simp only [Act.put, List.setIfInBounds_toArray, List.set_cons_zero, List.set_cons_succ]
            refine wpAnyH_take (i := 19) (v := ?_) (by simp only [List.getElem?_toArray, List.getElem?_cons_zero, List.getElem?_cons_succ]; rfl) (by kernel_rfl) (by kernel_rfl) (by kernel_rfl) (fun _ _ _ h => h) (Or.inl ⟨by rfl, ?_⟩) (by assumption) ?_
            rotate_left
            · (intro wS hSw; go_simp; try with_reducible rfl)
            try simp only [Act.put, List.setIfInBounds_toArray, List.set_cons_zero, List.set_cons_succ]
            refine wpAnyH_take (i := 20) (v := ?_) (by simp only [List.getElem?_toArray, List.getElem?_cons_zero, List.getElem?_cons_succ]; rfl) (by kernel_rfl) (by kernel_rfl) (by kernel_rfl) (fun _ _ _ h => h) (Or.inl ⟨by rfl, ?_⟩) (by assumption) ?_
            rotate_left
            · (intro wS hSw; go_simp; try with_reducible rfl)
            try simp only [Act.put, List.setIfInBounds_toArray, List.set_cons_zero, List.set_cons_succ]
            refine wpAnyH_done (by kernel_rfl) ?_ _
            refine NoPanic.normal ?_
            go_wp2_with fail
            go_meet
            exact ⟨rfl, HY⟩
          exact AllReadyH.nil
        refine AllReadyH.cons (by simp only [List.getElem?_toArray, List.getElem?_cons_zero, List.getElem?_cons_succ]; rfl) (fun K hK => ?_) ?_
        · try rw [if_pos (by rfl)]
          refine wp_map 32 rfl (@run_makeMap Try.prog _) ?_
          intro m12 w12 hm12 hw12
          have hb12 : Below w11.heap.size w11 w12 := by rw [hw12]; exact (Below.refl _ _).alloc (Nat.le_refl _) _
          have HX12 := hide (HX11.out.below_ hb12)
          have HC12 := hide (HC11.out.below hb12 HC11.out.lt)
          have HM12 : Hid (DgIs w12 m12 0 (fun _ => none)) := hide (by rw [hw12, hm12]; exact DgIs.made _)
          have HN11 : Hid (q + 1 ≤ m12) := hide (by rw [hm12]; exact HX11.out.lt.2.2.2.2.2.2)
          clear hm12 hw12 hb12 HX11
          refine hK.out _ _ HX12.out.be.range (fun hHeld => ?_)
          clear hK K
          try simp only [Act.put, List.setIfInBounds_toArray, List.set_cons_zero, List.set_cons_succ]
          refine wpAnyH_ready (rs := [10, 14]) (by kernel_rfl) (by simp) ?_
          refine AllReadyH.cons (by simp only [List.getElem?_toArray, List.getElem?_cons_zero, List.getElem?_cons_succ]; rfl) (fun K hK => ?_) ?_
          · try rw [if_pos (by rfl)]
            refine wp_part 31 39 (.tmp 66) rfl 66 ev rfl HV.out.size (by decide) (by decide) Try.underlying31 en_info2 ?_
            intro a13 w13 ha13 hA13 hb13
            have HX13 := hide (HX12.out.below_ hb13)
            have HM13 := hide (HM12.out.below hb13)
            have HC13 := hide (HC12.out.below hb13 HC12.out.lt)
            have HA13 := hide hA13
            have HN10 : Hid (q + 1 ≤ a13) := hide (by rw [ha13]; exact HX12.out.lt.2.2.2.2.2.2)
            clear hA13 hb13 ha13 HX12
            refine hK.out _ _ HX13.out.be.range (fun hHeld => ?_)
            clear hK K
            try simp only [Act.put, List.setIfInBounds_toArray, List.set_cons_zero, List.set_cons_succ]
            refine wpAnyH_ready (rs := [14]) (by kernel_rfl) (by simp) ?_
            refine AllReadyH.cons (by simp only [List.getElem?_toArray, List.getElem?_cons_zero, List.getElem?_cons_succ]; rfl) (fun K hK => ?_) AllReadyH.nil
            try rw [if_pos (by rfl)]
            go_simp
            go_at_call 8
            refine (HSB.out w13 c11 HC13.out).mono ?_
            rintro e w14 ⟨rfl, hb14⟩
            have HX14 := hide (HX13.out.below_ hb14)
            have HA14 := hide (HA13.out.below hb14 HA13.out.lt)
            have HM14 := hide (HM13.out.below hb14)
            clear hb14 HX13
            try go_wp2_with fail
            refine hK.out _ _ HX14.out.be.range (fun hHeld => ?_)
            clear hK K
            try simp only [Act.put, List.setIfInBounds_toArray, List.set_cons_zero, List.set_cons_succ]
            refine wpAnyH_ready (rs := [15]) (by kernel_rfl) (by simp) ?_
            refine AllReadyH.cons (by simp only [List.getElem?_toArray, List.getElem?_cons_zero, List.getElem?_cons_succ]; rfl) (fun K hK => ?_) AllReadyH.nil
            try rw [if_pos (by rfl)]
            obtain ⟨D, hD1, hD2⟩ := HM14.out
            refine wp_insert (.tmp 68) (.const (.string { data := #[65] })) (.tmp 71) 32 rfl 9 35 klaw Try.underlying32 heldR m12 0 D rfl hD1 (by unfold maxLen; omega) _ _ _ rfl rfl hkA (.held (.agg dz)) [] rfl ?_
            intro w15 hown15 hg15
            have hkm15 : Keep (fun b => b = m12) w14 w15 := (Keep.refl _ w14).grown hg15 (fun k hk _ => by injection hk with hk; exact hk.symm)
            have HX15 := hide (HX14.out.keep hkm15 (fun k hk => by rw [hk]; exact HN11.out))
            have HA15 := hide (HA14.out.keep hkm15 (dg_ne_blk ⟨D, hD1, hD2⟩ HA14.out))
            have HM15 : Hid (DgIs w15 m12 1 (Fd.set (fun _ => none) [65] src)) := hide ⟨_, hown15, by have h9 := hD2.set [65] src; rw [dgV, ← HDZ.out ()] at h9; exact h9⟩
            clear hown15 hg15 hkm15 hD1 hD2 HX14
            refine hK.out _ _ HX15.out.be.range (fun hHeld => ?_)
            clear hK K
            try simp only [Act.put, List.setIfInBounds_toArray, List.set_cons_zero, List.set_cons_succ]
            refine wpAnyH_take (i := 16) (v := ?_) (by simp only [List.getElem?_toArray, List.getElem?_cons_zero, List.getElem?_cons_succ]; rfl) (by kernel_rfl) (by kernel_rfl) (by kernel_rfl) (fun _ _ _ h => h) (Or.inl ⟨by rfl, ?_⟩) (by assumption) ?_
            rotate_left
            · (intro wS hSw; go_simp; try with_reducible rfl)
            try simp only [Act.put, List.setIfInBounds_toArray, List.set_cons_zero, List.set_cons_succ]
            refine wpAnyH_ready (rs := [17]) (by kernel_rfl) (by simp) ?_
            refine AllReadyH.cons (by simp only [List.getElem?_toArray, List.getElem?_cons_zero, List.getElem?_cons_succ]; rfl) (fun K hK => ?_) AllReadyH.nil
            try rw [if_pos (by rfl)]
            go_simp
            go_at_call 11
            refine (HXS.out _ w15 a13 m12 (by omega) HX15.out HA15.out HM15.out HN10.out HN11.out).mono ?_
            rintro e wZ ⟨A9, c9, rfl, hkZ⟩
            have HY := hide (HX15.out.fy hkZ)
            clear hkZ
            try go_wp2_with fail
            refine hK.out _ _ HY.out.be.range (fun hHeld => ?_)
            clear hK K
            try simp only [Act.put, List.setIfInBounds_toArray, List.set_cons_zero, List.set_cons_succ]
            refine wpAnyH_take (i := 18) (v := ?_) (by simp only [List.getElem?_toArray, List.getElem?_cons_zero, List.getElem?_cons_succ]; rfl) (by kernel_rfl) (by kernel_rfl) (by kernel_rfl) (fun _ _ _ h => h) (Or.inl ⟨by rfl, ?_⟩) (by assumption) ?_
            rotate_left
            · (intro wS hSw; go_simp; try with_reducible rfl)
            try simp only [Act.put, List.setIfInBounds_toArray, List.set_cons_zero, List.set_cons_succ]
            refine wpAnyH_take (i := 19) (v := ?_) (by simp only [List.getElem?_toArray, List.getElem?_cons_zero, List.getElem?_cons_succ]; rfl) (by kernel_rfl) (by kernel_rfl) (by kernel_rfl) (fun _ _ _ h => h) (Or.inl ⟨by rfl, ?_⟩) (by assumption) ?_
            rotate_left
            · (intro wS hSw; go_simp; try with_reducible rfl)
            try simp only [Act.put, List.setIfInBounds_toArray, List.set_cons_zero, List.set_cons_succ]
            refine wpAnyH_take (i := 20) (v := ?_) (by simp only [List.getElem?_toArray, List.getElem?_cons_zero, List.getElem?_cons_succ]; rfl) (by kernel_rfl) (by kernel_rfl) (by kernel_rfl) (fun _ _ _ h => h) (Or.inl ⟨by rfl, ?_⟩) (by assumption) ?_
            rotate_left
            · (intro wS hSw; go_simp; try with_reducible rfl)
            try simp only [Act.put, List.setIfInBounds_toArray, List.set_cons_zero, List.set_cons_succ]
            refine wpAnyH_done (by kernel_rfl) ?_ _
            refine NoPanic.normal ?_
            go_wp2_with fail
            go_meet
            exact ⟨rfl, HY⟩
          refine AllReadyH.cons (by simp only [List.getElem?_toArray, List.getElem?_cons_zero, List.getElem?_cons_succ]; rfl) (fun K hK => ?_) ?_
          · try rw [if_pos (by rfl)]
            go_simp
            go_at_call 8
            refine (HSB.out w12 c11 HC12.out).mono ?_
            rintro e w13 ⟨rfl, hb13⟩
            have HX13 := hide (HX12.out.below_ hb13)
            have HM13 := hide (HM12.out.below hb13)
            clear hb13 HX12
            try go_wp2_with fail
            refine hK.out _ _ HX13.out.be.range (fun hHeld => ?_)
            clear hK K
            try simp only [Act.put, List.setIfInBounds_toArray, List.set_cons_zero, List.set_cons_succ]
            refine wpAnyH_ready (rs := [10, 15]) (by kernel_rfl) (by simp) ?_
            refine AllReadyH.cons (by simp only [List.getElem?_toArray, List.getElem?_cons_zero, List.getElem?_cons_succ]; rfl) (fun K hK => ?_) ?_
            · try rw [if_pos (by rfl)]
              refine wp_part 31 39 (.tmp 66) rfl 66 ev rfl HV.out.size (by decide) (by decide) Try.underlying31 en_info2 ?_
              intro a14 w14 ha14 hA14 hb14
              have HX14 := hide (HX13.out.below_ hb14)
              have HM14 := hide (HM13.out.below hb14)
              have HA14 := hide hA14
              have HN10 : Hid (q + 1 ≤ a14) := hide (by rw [ha14]; exact HX13.out.lt.2.2.2.2.2.2)
              clear hA14 hb14 ha14 HX13
              refine hK.out _ _ HX14.out.be.range (fun hHeld => ?_)
              clear hK K
              try simp only [Act.put, List.setIfInBounds_toArray, List.set_cons_zero, List.set_cons_succ]
              refine wpAnyH_ready (rs := [15]) (by kernel_rfl) (by simp) ?_
              refine AllReadyH.cons (by simp only [List.getElem?_toArray, List.getElem?_cons_zero, List.getElem?_cons_succ]; rfl) (fun K hK => ?_) AllReadyH.nil
              try rw [if_pos (by rfl)]
              obtain ⟨D, hD1, hD2⟩ := HM14.out
              refine wp_insert (.tmp 68) (.const (.string { data := #[65] })) (.tmp 71) 32 rfl 9 35 klaw Try.underlying32 heldR m12 0 D rfl hD1 (by unfold maxLen; omega) _ _ _ rfl rfl hkA (.held (.agg dz)) [] rfl ?_
              intro w15 hown15 hg15
              have hkm15 : Keep (fun b => b = m12) w14 w15 := (Keep.refl _ w14).grown hg15 (fun k hk _ => by injection hk with hk; exact hk.symm)
              have HX15 := hide (HX14.out.keep hkm15 (fun k hk => by rw [hk]; exact HN11.out))
              have HA15 := hide (HA14.out.keep hkm15 (dg_ne_blk ⟨D, hD1, hD2⟩ HA14.out))
              have HM15 : Hid (DgIs w15 m12 1 (Fd.set (fun _ => none) [65] src)) := hide ⟨_, hown15, by have h9 := hD2.set [65] src; rw [dgV, ← HDZ.out ()] at h9; exact h9⟩
              clear hown15 hg15 hkm15 hD1 hD2 HX14
              refine hK.out _ _ HX15.out.be.range (fun hHeld => ?_)
              clear hK K
              try simp only [Act.put, List.setIfInBounds_toArray, List.set_cons_zero, List.set_cons_succ]
              refine wpAnyH_take (i := 16) (v := ?_) (by simp only [List.getElem?_toArray, List.getElem?_cons_zero, List.getElem?_cons_succ]; rfl) (by kernel_rfl) (by kernel_rfl) (by kernel_rfl) (fun _ _ _ h => h) (Or.inl ⟨by rfl, ?_⟩) (by assumption) ?_
              rotate_left
              · (intro wS hSw; go_simp; try with_reducible rfl)
              try simp only [Act.put, List.setIfInBounds_toArray, List.set_cons_zero, List.set_cons_succ]
              refine wpAnyH_ready (rs := [17]) (by kernel_rfl) (by simp) ?_
              refine AllReadyH.cons (by simp only [List.getElem?_toArray, List.getElem?_cons_zero, List.getElem?_cons_succ]; rfl) (fun K hK => ?_) AllReadyH.nil
              try rw [if_pos (by rfl)]
              go_simp
              go_at_call 11
              refine (HXS.out _ w15 a14 m12 (by omega) HX15.out HA15.out HM15.out HN10.out HN11.out).mono ?_
              rintro e wZ ⟨A9, c9, rfl, hkZ⟩
              have HY := hide (HX15.out.fy hkZ)
              clear hkZ
              try go_wp2_with fail
              refine hK.out _ _ HY.out.be.range (fun hHeld => ?_)
              clear hK K
              try simp only [Act.put, List.setIfInBounds_toArray, List.set_cons_zero, List.set_cons_succ]
              refine wpAnyH_take (i := 18) (v := ?_) (by simp only [List.getElem?_toArray, List.getElem?_cons_zero, List.getElem?_cons_succ]; rfl) (by kernel_rfl) (by kernel_rfl) (by kernel_rfl) (fun _ _ _ h => h) (Or.inl ⟨by rfl, ?_⟩) (by assumption) ?_
              rotate_left
              · (intro wS hSw; go_simp; try with_reducible rfl)
              try simp only [Act.put, List.setIfInBounds_toArray, List.set_cons_zero, List.set_cons_succ]
              refine wpAnyH_take (i := 19) (v := ?_) (by simp only [List.getElem?_toArray, List.getElem?_cons_zero, List.getElem?_cons_succ]; rfl) (by kernel_rfl) (by kernel_rfl) (by kernel_rfl) (fun _ _ _ h => h) (Or.inl ⟨by rfl, ?_⟩) (by assumption) ?_
              rotate_left
              · (intro wS hSw; go_simp; try with_reducible rfl)
              try simp only [Act.put, List.setIfInBounds_toArray, List.set_cons_zero, List.set_cons_succ]
              refine wpAnyH_take (i := 20) (v := ?_) (by simp only [List.getElem?_toArray, List.getElem?_cons_zero, List.getElem?_cons_succ]; rfl) (by kernel_rfl) (by kernel_rfl) (by kernel_rfl) (fun _ _ _ h => h) (Or.inl ⟨by rfl, ?_⟩) (by assumption) ?_
              rotate_left
              · (intro wS hSw; go_simp; try with_reducible rfl)
              try simp only [Act.put, List.setIfInBounds_toArray, List.set_cons_zero, List.set_cons_succ]
              refine wpAnyH_done (by kernel_rfl) ?_ _
              refine NoPanic.normal ?_
              go_wp2_with fail
              go_meet
              exact ⟨rfl, HY⟩
            refine AllReadyH.cons (by simp only [List.getElem?_toArray, List.getElem?_cons_zero, List.getElem?_cons_succ]; rfl) (fun K hK => ?_) ?_
            · try rw [if_pos (by rfl)]
              obtain ⟨D, hD1, hD2⟩ := HM13.out
              refine wp_insert (.tmp 68) (.const (.string { data := #[65] })) (.tmp 71) 32 rfl 9 35 klaw Try.underlying32 heldR m12 0 D rfl hD1 (by unfold maxLen; omega) _ _ _ rfl rfl hkA (.held (.agg dz)) [] rfl ?_
              intro w14 hown14 hg14
              have hkm14 : Keep (fun b => b = m12) w13 w14 := (Keep.refl _ w13).grown hg14 (fun k hk _ => by injection hk with hk; exact hk.symm)
              have HX14 := hide (HX13.out.keep hkm14 (fun k hk => by rw [hk]; exact HN11.out))
              have HM14 : Hid (DgIs w14 m12 1 (Fd.set (fun _ => none) [65] src)) := hide ⟨_, hown14, by have h9 := hD2.set [65] src; rw [dgV, ← HDZ.out ()] at h9; exact h9⟩
              clear hown14 hg14 hkm14 hD1 hD2 HX13
              refine hK.out _ _ HX14.out.be.range (fun hHeld => ?_)
              clear hK K
              try simp only [Act.put, List.setIfInBounds_toArray, List.set_cons_zero, List.set_cons_succ]
              refine wpAnyH_take (i := 16) (v := ?_) (by simp only [List.getElem?_toArray, List.getElem?_cons_zero, List.getElem?_cons_succ]; rfl) (by kernel_rfl) (by kernel_rfl) (by kernel_rfl) (fun _ _ _ h => h) (Or.inl ⟨by rfl, ?_⟩) (by assumption) ?_
              rotate_left
              · (intro wS hSw; go_simp; try with_reducible rfl)
              try simp only [Act.put, List.setIfInBounds_toArray, List.set_cons_zero, List.set_cons_succ]
              refine wpAnyH_ready (rs := [10]) (by kernel_rfl) (by simp) ?_
              refine AllReadyH.cons (by simp only [List.getElem?_toArray, List.getElem?_cons_zero, List.getElem?_cons_succ]; rfl) (fun K hK => ?_) AllReadyH.nil
              try rw [if_pos (by rfl)]
              refine wp_part 31 39 (.tmp 66) rfl 66 ev rfl HV.out.size (by decide) (by decide) Try.underlying31 en_info2 ?_
              intro a15 w15 ha15 hA15 hb15
              have HX15 := hide (HX14.out.below_ hb15)
              have HM15 := hide (HM14.out.below hb15)
              have HA15 := hide hA15
              have HN10 : Hid (q + 1 ≤ a15) := hide (by rw [ha15]; exact HX14.out.lt.2.2.2.2.2.2)
              clear hA15 hb15 ha15 HX14
              refine hK.out _ _ HX15.out.be.range (fun hHeld => ?_)
              clear hK K
              try simp only [Act.put, List.setIfInBounds_toArray, List.set_cons_zero, List.set_cons_succ]
              refine wpAnyH_ready (rs := [17]) (by kernel_rfl) (by simp) ?_
              refine AllReadyH.cons (by simp only [List.getElem?_toArray, List.getElem?_cons_zero, List.getElem?_cons_succ]; rfl) (fun K hK => ?_) AllReadyH.nil
              try rw [if_pos (by rfl)]
              go_simp
              go_at_call 11
              refine (HXS.out _ w15 a15 m12 (by omega) HX15.out HA15.out HM15.out HN10.out HN11.out).mono ?_
              rintro e wZ ⟨A9, c9, rfl, hkZ⟩
              have HY := hide (HX15.out.fy hkZ)
              clear hkZ
              try go_wp2_with fail
              refine hK.out _ _ HY.out.be.range (fun hHeld => ?_)
              clear hK K
              try simp only [Act.put, List.setIfInBounds_toArray, List.set_cons_zero, List.set_cons_succ]
              refine wpAnyH_take (i := 18) (v := ?_) (by simp only [List.getElem?_toArray, List.getElem?_cons_zero, List.getElem?_cons_succ]; rfl) (by kernel_rfl) (by kernel_rfl) (by kernel_rfl) (fun _ _ _ h => h) (Or.inl ⟨by rfl, ?_⟩) (by assumption) ?_
              rotate_left
              · (intro wS hSw; go_simp; try with_reducible rfl)
              try simp only [Act.put, List.setIfInBounds_toArray, List.set_cons_zero, List.set_cons_succ]
              refine wpAnyH_take (i := 19) (v := ?_) (by simp only [List.getElem?_toArray, List.getElem?_cons_zero, List.getElem?_cons_succ]; rfl) (by kernel_rfl) (by kernel_rfl) (by kernel_rfl) (fun _ _ _ h => h) (Or.inl ⟨by rfl, ?_⟩) (by assumption) ?_
              rotate_left
              · (intro wS hSw; go_simp; try with_reducible rfl)
              try simp only [Act.put, List.setIfInBounds_toArray, List.set_cons_zero, List.set_cons_succ]
              refine wpAnyH_take (i := 20) (v := ?_) (by simp only [List.getElem?_toArray, List.getElem?_cons_zero, List.getElem?_cons_succ]; rfl) (by kernel_rfl) (by kernel_rfl) (by kernel_rfl) (fun _ _ _ h => h) (Or.inl ⟨by rfl, ?_⟩) (by assumption) ?_
              rotate_left
              · (intro wS hSw; go_simp; try with_reducible rfl)
              try simp only [Act.put, List.setIfInBounds_toArray, List.set_cons_zero, List.set_cons_succ]
              refine wpAnyH_done (by kernel_rfl) ?_ _
              refine NoPanic.normal ?_
              go_wp2_with fail
              go_meet
              exact ⟨rfl, HY⟩
            exact AllReadyH.nil
          exact AllReadyH.nil
        refine AllReadyH.cons (by simp only [List.getElem?_toArray, List.getElem?_cons_zero, List.getElem?_cons_succ]; rfl) (fun K hK => ?_) ?_
        · try rw [if_pos (by rfl)]
          go_simp
          go_at_call 8
          refine (HSB.out w11 c11 HC11.out).mono ?_
          rintro e w12 ⟨rfl, hb12⟩
          have HX12 := hide (HX11.out.below_ hb12)
          clear hb12 HX11
          try go_wp2_with fail
          refine hK.out _ _ HX12.out.be.range (fun hHeld => ?_)
          clear hK K
          try simp only [Act.put, List.setIfInBounds_toArray, List.set_cons_zero, List.set_cons_succ]
          refine wpAnyH_ready (rs := [10, 11]) (by kernel_rfl) (by simp) ?_
          refine AllReadyH.cons (by simp only [List.getElem?_toArray, List.getElem?_cons_zero, List.getElem?_cons_succ]; rfl) (fun K hK => ?_) ?_
          · try rw [if_pos (by rfl)]
            refine wp_part 31 39 (.tmp 66) rfl 66 ev rfl HV.out.size (by decide) (by decide) Try.underlying31 en_info2 ?_
            intro a13 w13 ha13 hA13 hb13
            have HX13 := hide (HX12.out.below_ hb13)
            have HA13 := hide hA13
            have HN10 : Hid (q + 1 ≤ a13) := hide (by rw [ha13]; exact HX12.out.lt.2.2.2.2.2.2)
            clear hA13 hb13 ha13 HX12
            refine hK.out _ _ HX13.out.be.range (fun hHeld => ?_)
            clear hK K
            try simp only [Act.put, List.setIfInBounds_toArray, List.set_cons_zero, List.set_cons_succ]
            refine wpAnyH_ready (rs := [11]) (by kernel_rfl) (by simp) ?_
            refine AllReadyH.cons (by simp only [List.getElem?_toArray, List.getElem?_cons_zero, List.getElem?_cons_succ]; rfl) (fun K hK => ?_) AllReadyH.nil
            try rw [if_pos (by rfl)]
            refine wp_map 32 rfl (@run_makeMap Try.prog _) ?_
            intro m14 w14 hm14 hw14
            have hb14 : Below w13.heap.size w13 w14 := by rw [hw14]; exact (Below.refl _ _).alloc (Nat.le_refl _) _
            have HX14 := hide (HX13.out.below_ hb14)
            have HA14 := hide (HA13.out.below hb14 HA13.out.lt)
            have HM14 : Hid (DgIs w14 m14 0 (fun _ => none)) := hide (by rw [hw14, hm14]; exact DgIs.made _)
            have HN11 : Hid (q + 1 ≤ m14) := hide (by rw [hm14]; exact HX13.out.lt.2.2.2.2.2.2)
            clear hm14 hw14 hb14 HX13
            refine hK.out _ _ HX14.out.be.range (fun hHeld => ?_)
            clear hK K
            try simp only [Act.put, List.setIfInBounds_toArray, List.set_cons_zero, List.set_cons_succ]
            refine wpAnyH_ready (rs := [15]) (by kernel_rfl) (by simp) ?_
            refine AllReadyH.cons (by simp only [List.getElem?_toArray, List.getElem?_cons_zero, List.getElem?_cons_succ]; rfl) (fun K hK => ?_) AllReadyH.nil
            try rw [if_pos (by rfl)]
            obtain ⟨D, hD1, hD2⟩ := HM14.out
            refine wp_insert (.tmp 68) (.const (.string { data := #[65] })) (.tmp 71) 32 rfl 9 35 klaw Try.underlying32 heldR m14 0 D rfl hD1 (by unfold maxLen; omega) _ _ _ rfl rfl hkA (.held (.agg dz)) [] rfl ?_
            intro w15 hown15 hg15
            have hkm15 : Keep (fun b => b = m14) w14 w15 := (Keep.refl _ w14).grown hg15 (fun k hk _ => by injection hk with hk; exact hk.symm)
            have HX15 := hide (HX14.out.keep hkm15 (fun k hk => by rw [hk]; exact HN11.out))
            have HA15 := hide (HA14.out.keep hkm15 (dg_ne_blk ⟨D, hD1, hD2⟩ HA14.out))
            have HM15 : Hid (DgIs w15 m14 1 (Fd.set (fun _ => none) [65] src)) := hide ⟨_, hown15, by have h9 := hD2.set [65] src; rw [dgV, ← HDZ.out ()] at h9; exact h9⟩
            clear hown15 hg15 hkm15 hD1 hD2 HX14
            refine hK.out _ _ HX15.out.be.range (fun hHeld => ?_)
            clear hK K
            try simp only [Act.put, List.setIfInBounds_toArray, List.set_cons_zero, List.set_cons_succ]
            refine wpAnyH_take (i := 16) (v := ?_) (by simp only [List.getElem?_toArray, List.getElem?_cons_zero, List.getElem?_cons_succ]; rfl) (by kernel_rfl) (by kernel_rfl) (by kernel_rfl) (fun _ _ _ h => h) (Or.inl ⟨by rfl, ?_⟩) (by assumption) ?_
            rotate_left
            · (intro wS hSw; go_simp; try with_reducible rfl)
            try simp only [Act.put, List.setIfInBounds_toArray, List.set_cons_zero, List.set_cons_succ]
            refine wpAnyH_ready (rs := [17]) (by kernel_rfl) (by simp) ?_
            refine AllReadyH.cons (by simp only [List.getElem?_toArray, List.getElem?_cons_zero, List.getElem?_cons_succ]; rfl) (fun K hK => ?_) AllReadyH.nil
            try rw [if_pos (by rfl)]
            go_simp
            go_at_call 11
            refine (HXS.out _ w15 a13 m14 (by omega) HX15.out HA15.out HM15.out HN10.out HN11.out).mono ?_
            rintro e wZ ⟨A9, c9, rfl, hkZ⟩
            have HY := hide (HX15.out.fy hkZ)
            clear hkZ
            try go_wp2_with fail
            refine hK.out _ _ HY.out.be.range (fun hHeld => ?_)
            clear hK K
            try simp only [Act.put, List.setIfInBounds_toArray, List.set_cons_zero, List.set_cons_succ]
            refine wpAnyH_take (i := 18) (v := ?_) (by simp only [List.getElem?_toArray, List.getElem?_cons_zero, List.getElem?_cons_succ]; rfl) (by kernel_rfl) (by kernel_rfl) (by kernel_rfl) (fun _ _ _ h => h) (Or.inl ⟨by rfl, ?_⟩) (by assumption) ?_
            rotate_left
            · (intro wS hSw; go_simp; try with_reducible rfl)
            try simp only [Act.put, List.setIfInBounds_toArray, List.set_cons_zero, List.set_cons_succ]
            refine wpAnyH_take (i := 19) (v := ?_) (by simp only [List.getElem?_toArray, List.getElem?_cons_zero, List.getElem?_cons_succ]; rfl) (by kernel_rfl) (by kernel_rfl) (by kernel_rfl) (fun _ _ _ h => h) (Or.inl ⟨by rfl, ?_⟩) (by assumption) ?_
            rotate_left
            · (intro wS hSw; go_simp; try with_reducible rfl)
            try simp only [Act.put, List.setIfInBounds_toArray, List.set_cons_zero, List.set_cons_succ]
            refine wpAnyH_take (i := 20) (v := ?_) (by simp only [List.getElem?_toArray, List.getElem?_cons_zero, List.getElem?_cons_succ]; rfl) (by kernel_rfl) (by kernel_rfl) (by kernel_rfl) (fun _ _ _ h => h) (Or.inl ⟨by rfl, ?_⟩) (by assumption) ?_
            rotate_left
            · (intro wS hSw; go_simp; try with_reducible rfl)
            try simp only [Act.put, List.setIfInBounds_toArray, List.set_cons_zero, List.set_cons_succ]
            refine wpAnyH_done (by kernel_rfl) ?_ _
            refine NoPanic.normal ?_
            go_wp2_with fail
            go_meet
            exact ⟨rfl, HY⟩
          refine AllReadyH.cons (by simp only [List.getElem?_toArray, List.getElem?_cons_zero, List.getElem?_cons_succ]; rfl) (fun K hK => ?_) ?_
          · try rw [if_pos (by rfl)]
            refine wp_map 32 rfl (@run_makeMap Try.prog _) ?_
            intro m13 w13 hm13 hw13
            have hb13 : Below w12.heap.size w12 w13 := by rw [hw13]; exact (Below.refl _ _).alloc (Nat.le_refl _) _
            have HX13 := hide (HX12.out.below_ hb13)
            have HM13 : Hid (DgIs w13 m13 0 (fun _ => none)) := hide (by rw [hw13, hm13]; exact DgIs.made _)
            have HN11 : Hid (q + 1 ≤ m13) := hide (by rw [hm13]; exact HX12.out.lt.2.2.2.2.2.2)
            clear hm13 hw13 hb13 HX12
            refine hK.out _ _ HX13.out.be.range (fun hHeld => ?_)
            clear hK K
            try simp only [Act.put, List.setIfInBounds_toArray, List.set_cons_zero, List.set_cons_succ]
            refine wpAnyH_ready (rs := [10, 15]) (by kernel_rfl) (by simp) ?_
            refine AllReadyH.cons (by simp only [List.getElem?_toArray, List.getElem?_cons_zero, List.getElem?_cons_succ]; rfl) (fun K hK => ?_) ?_
            · try rw [if_pos (by rfl)]
              refine wp_part 31 39 (.tmp 66) rfl 66 ev rfl HV.out.size (by decide) (by decide) Try.underlying31 en_info2 ?_
              intro a14 w14 ha14 hA14 hb14
              have HX14 := hide (HX13.out.below_ hb14)
              have HM14 := hide (HM13.out.below hb14)
              have HA14 := hide hA14
              have HN10 : Hid (q + 1 ≤ a14) := hide (by rw [ha14]; exact HX13.out.lt.2.2.2.2.2.2)
              clear hA14 hb14 ha14 HX13
              refine hK.out _ _ HX14.out.be.range (fun hHeld => ?_)
              clear hK K
              try simp only [Act.put, List.setIfInBounds_toArray, List.set_cons_zero, List.set_cons_succ]
              refine wpAnyH_ready (rs := [15]) (by kernel_rfl) (by simp) ?_
              refine AllReadyH.cons (by simp only [List.getElem?_toArray, List.getElem?_cons_zero, List.getElem?_cons_succ]; rfl) (fun K hK => ?_) AllReadyH.nil
              try rw [if_pos (by rfl)]
              obtain ⟨D, hD1, hD2⟩ := HM14.out
              refine wp_insert (.tmp 68) (.const (.string { data := #[65] })) (.tmp 71) 32 rfl 9 35 klaw Try.underlying32 heldR m13 0 D rfl hD1 (by unfold maxLen; omega) _ _ _ rfl rfl hkA (.held (.agg dz)) [] rfl ?_
              intro w15 hown15 hg15
              have hkm15 : Keep (fun b => b = m13) w14 w15 := (Keep.refl _ w14).grown hg15 (fun k hk _ => by injection hk with hk; exact hk.symm)
              have HX15 := hide (HX14.out.keep hkm15 (fun k hk => by rw [hk]; exact HN11.out))
              have HA15 := hide (HA14.out.keep hkm15 (dg_ne_blk ⟨D, hD1, hD2⟩ HA14.out))
              have HM15 : Hid (DgIs w15 m13 1 (Fd.set (fun _ => none) [65] src)) := hide ⟨_, hown15, by have h9 := hD2.set [65] src; rw [dgV, ← HDZ.out ()] at h9; exact h9⟩
              clear hown15 hg15 hkm15 hD1 hD2 HX14
              refine hK.out _ _ HX15.out.be.range (fun hHeld => ?_)
              clear hK K
              try simp only [Act.put, List.setIfInBounds_toArray, List.set_cons_zero, List.set_cons_succ]
              refine wpAnyH_take (i := 16) (v := ?_) (by simp only [List.getElem?_toArray, List.getElem?_cons_zero, List.getElem?_cons_succ]; rfl) (by kernel_rfl) (by kernel_rfl) (by kernel_rfl) (fun _ _ _ h => h) (Or.inl ⟨by rfl, ?_⟩) (by assumption) ?_
              rotate_left
              · (intro wS hSw; go_simp; try with_reducible rfl)
              try simp only [Act.put, List.setIfInBounds_toArray, List.set_cons_zero, List.set_cons_succ]
              refine wpAnyH_ready (rs := [17]) (by kernel_rfl) (by simp) ?_
              refine AllReadyH.cons (by simp only [List.getElem?_toArray, List.getElem?_cons_zero, List.getElem?_cons_succ]; rfl) (fun K hK => ?_) AllReadyH.nil
              try rw [if_pos (by rfl)]
              go_simp
              go_at_call 11
              refine (HXS.out _ w15 a14 m13 (by omega) HX15.out HA15.out HM15.out HN10.out HN11.out).mono ?_
              rintro e wZ ⟨A9, c9, rfl, hkZ⟩
              have HY := hide (HX15.out.fy hkZ)
              clear hkZ
              try go_wp2_with fail
              refine hK.out _ _ HY.out.be.range (fun hHeld => ?_)
              clear hK K
              try simp only [Act.put, List.setIfInBounds_toArray, List.set_cons_zero, List.set_cons_succ]
              refine wpAnyH_take (i := 18) (v := ?_) (by simp only [List.getElem?_toArray, List.getElem?_cons_zero, List.getElem?_cons_succ]; rfl) (by kernel_rfl) (by kernel_rfl) (by kernel_rfl) (fun _ _ _ h => h) (Or.inl ⟨by rfl, ?_⟩) (by assumption) ?_
              rotate_left
              · (intro wS hSw; go_simp; try with_reducible rfl)
              try simp only [Act.put, List.setIfInBounds_toArray, List.set_cons_zero, List.set_cons_succ]
              refine wpAnyH_take (i := 19) (v := ?_) (by simp only [List.getElem?_toArray, List.getElem?_cons_zero, List.getElem?_cons_succ]; rfl) (by kernel_rfl) (by kernel_rfl) (by kernel_rfl) (fun _ _ _ h => h) (Or.inl ⟨by rfl, ?_⟩) (by assumption) ?_
              rotate_left
              · (intro wS hSw; go_simp; try with_reducible rfl)
              try simp only [Act.put, List.setIfInBounds_toArray, List.set_cons_zero, List.set_cons_succ]
              refine wpAnyH_take (i := 20) (v := ?_) (by simp only [List.getElem?_toArray, List.getElem?_cons_zero, List.getElem?_cons_succ]; rfl) (by kernel_rfl) (by kernel_rfl) (by kernel_rfl) (fun _ _ _ h => h) (Or.inl ⟨by rfl, ?_⟩) (by assumption) ?_
              rotate_left
              · (intro wS hSw; go_simp; try with_reducible rfl)
              try simp only [Act.put, List.setIfInBounds_toArray, List.set_cons_zero, List.set_cons_succ]
              refine wpAnyH_done (by kernel_rfl) ?_ _
              refine NoPanic.normal ?_
              go_wp2_with fail
              go_meet
              exact ⟨rfl, HY⟩
            refine AllReadyH.cons (by simp only [List.getElem?_toArray, List.getElem?_cons_zero, List.getElem?_cons_succ]; rfl) (fun K hK => ?_) ?_
            · try rw [if_pos (by rfl)]
              obtain ⟨D, hD1, hD2⟩ := HM13.out
              refine wp_insert (.tmp 68) (.const (.string { data := #[65] })) (.tmp 71) 32 rfl 9 35 klaw Try.underlying32 heldR m13 0 D rfl hD1 (by unfold maxLen; omega) _ _ _ rfl rfl hkA (.held (.agg dz)) [] rfl ?_
              intro w14 hown14 hg14
              have hkm14 : Keep (fun b => b = m13) w13 w14 := (Keep.refl _ w13).grown hg14 (fun k hk _ => by injection hk with hk; exact hk.symm)
              have HX14 := hide (HX13.out.keep hkm14 (fun k hk => by rw [hk]; exact HN11.out))
              have HM14 : Hid (DgIs w14 m13 1 (Fd.set (fun _ => none) [65] src)) := hide ⟨_, hown14, by have h9 := hD2.set [65] src; rw [dgV, ← HDZ.out ()] at h9; exact h9⟩
              clear hown14 hg14 hkm14 hD1 hD2 HX13
              refine hK.out _ _ HX14.out.be.range (fun hHeld => ?_)
              clear hK K
              try simp only [Act.put, List.setIfInBounds_toArray, List.set_cons_zero, List.set_cons_succ]
              refine wpAnyH_take (i := 16) (v := ?_) (by simp only [List.getElem?_toArray, List.getElem?_cons_zero, List.getElem?_cons_succ]; rfl) (by kernel_rfl) (by kernel_rfl) (by kernel_rfl) (fun _ _ _ h => h) (Or.inl ⟨by rfl, ?_⟩) (by assumption) ?_
              rotate_left
              · (intro wS hSw; go_simp; try with_reducible rfl)
              try simp only [Act.put, List.setIfInBounds_toArray, List.set_cons_zero, List.set_cons_succ]
              refine wpAnyH_ready (rs := [10]) (by kernel_rfl) (by simp) ?_
              refine AllReadyH.cons (by simp only [List.getElem?_toArray, List.getElem?_cons_zero, List.getElem?_cons_succ]; rfl) (fun K hK => ?_) AllReadyH.nil
              try rw [if_pos (by rfl)]
              refine wp_part 31 39 (.tmp 66) rfl 66 ev rfl HV.out.size (by decide) (by decide) Try.underlying31 en_info2 ?_
              intro a15 w15 ha15 hA15 hb15
              have HX15 := hide (HX14.out.below_ hb15)
              have HM15 := hide (HM14.out.below hb15)
              have HA15 := hide hA15
              have HN10 : Hid (q + 1 ≤ a15) := hide (by rw [ha15]; exact HX14.out.lt.2.2.2.2.2.2)
              clear hA15 hb15 ha15 HX14
              refine hK.out _ _ HX15.out.be.range (fun hHeld => ?_)
              clear hK K
              try simp only [Act.put, List.setIfInBounds_toArray, List.set_cons_zero, List.set_cons_succ]
              refine wpAnyH_ready (rs := [17]) (by kernel_rfl) (by simp) ?_
              refine AllReadyH.cons (by simp only [List.getElem?_toArray, List.getElem?_cons_zero, List.getElem?_cons_succ]; rfl) (fun K hK => ?_) AllReadyH.nil
              try rw [if_pos (by rfl)]
              go_simp
              go_at_call 11
              refine (HXS.out _ w15 a15 m13 (by omega) HX15.out HA15.out HM15.out HN10.out HN11.out).mono ?_
              rintro e wZ ⟨A9, c9, rfl, hkZ⟩
              have HY := hide (HX15.out.fy hkZ)
              clear hkZ
              try go_wp2_with fail
              refine hK.out _ _ HY.out.be.range (fun hHeld => ?_)
              clear hK K
              try simp only [Act.put, List.setIfInBounds_toArray, List.set_cons_zero, List.set_cons_succ]
              refine wpAnyH_take (i := 18) (v := ?_) (by simp only [List.getElem?_toArray, List.getElem?_cons_zero, List.getElem?_cons_succ]; rfl) (by kernel_rfl) (by kernel_rfl) (by kernel_rfl) (fun _ _ _ h => h) (Or.inl ⟨by rfl, ?_⟩) (by assumption) ?_
              rotate_left
              · (intro wS hSw; go_simp; try with_reducible rfl)
              try simp only [Act.put, List.setIfInBounds_toArray, List.set_cons_zero, List.set_cons_succ]
              refine wpAnyH_take (i := 19) (v := ?_) (by simp only [List.getElem?_toArray, List.getElem?_cons_zero, List.getElem?_cons_succ]; rfl) (by kernel_rfl) (by kernel_rfl) (by kernel_rfl) (fun _ _ _ h => h) (Or.inl ⟨by rfl, ?_⟩) (by assumption) ?_
              rotate_left
              · (intro wS hSw; go_simp; try with_reducible rfl)
              try simp only [Act.put, List.setIfInBounds_toArray, List.set_cons_zero, List.set_cons_succ]
              refine wpAnyH_take (i := 20) (v := ?_) (by simp only [List.getElem?_toArray, List.getElem?_cons_zero, List.getElem?_cons_succ]; rfl) (by kernel_rfl) (by kernel_rfl) (by kernel_rfl) (fun _ _ _ h => h) (Or.inl ⟨by rfl, ?_⟩) (by assumption) ?_
              rotate_left
              · (intro wS hSw; go_simp; try with_reducible rfl)
              try simp only [Act.put, List.setIfInBounds_toArray, List.set_cons_zero, List.set_cons_succ]
              refine wpAnyH_done (by kernel_rfl) ?_ _
              refine NoPanic.normal ?_
              go_wp2_with fail
              go_meet
              exact ⟨rfl, HY⟩
            exact AllReadyH.nil
          exact AllReadyH.nil
        exact AllReadyH.nil
      exact AllReadyH.nil
    case rest =>
      obtain ⟨hv, HY⟩ := hcut
      subst hv
      clear HX6 HXF HXS hDS hkA
      obtain ⟨fv, hfv⟩ : ∃ v, v = #[S f.n, S f.su, .slice f.fA f.fl f.fc, .slice f.mA f.ml f.mc] := ⟨_, rfl⟩
      rw [← hfv] at HY
      have HFV : Hid (∀ _ : Unit, fv = #[S f.n, S f.su, .slice f.fA f.fl f.fc, .slice f.mA f.ml f.mc]) := hide (fun _ => hfv)
      have HFZ : Hid (fv.size = 4 ∧ fv[0]? = some (S f.n)) := hide (by rw [hfv]; exact ⟨rfl, rfl⟩)
      clear hfv
      go_wp2_with fail
      go_loopw [79, 11] (fun i b wr => ∃ k : Nat, k ≤ n1 ∧ i = .int .i64 k ∧ b = .bool ((l1.take k).any (fun r => r == f.n)) ∧ Hid (Fy w (q + 1) q0 q s en ev fv wr)) (fun i _ _ => n1 - (intOf i).toNat)
      case atStart => exact ⟨0, Nat.zero_le _, rfl, rfl, HY⟩
      case round =>
        clear HY
        obtain ⟨k, hk, rfl, rfl, HY⟩ := hrel
        obtain ⟨nb, hnb⟩ : ∃ b, b = (l1.take k).any (fun r => r == f.n) := ⟨_, rfl⟩
        rw [← hnb]
        by_cases hlk : k < n1
        case pos =>
          have hkx : k < l1.length := by rw [HRL.out]; exact hlk
          obtain ⟨y1, p1, rfl, _, _, hd1⟩ := Rd.rec_ (f := fun s => [S s]) (l := l1) (size := 1) (fun _ => rfl) (by rw [← List.map_eq_flatMap]; exact HR.out.below HY.out.bw) HRL.out k hlk
          obtain ⟨rn, hrn⟩ : ∃ x, x = l1[k] := ⟨_, rfl⟩
          have qr : wr.cell? ⟨y1, p1 + k, none⟩ = some (S rn) := by have := hd1 0 (S rn) (by rw [hrn]; rfl); simpa using this
          have qf : wr.cell? ⟨q0, 0, none⟩ = some (S f.n) := by rw [HY.out.bf.cell 0, HFZ.out.2]
          have HBN : Hid ((l1.take (k + 1)).any (fun r => r == f.n) = (nb || (rn == f.n))) := hide (by rw [List.take_add_one, List.getElem?_eq_getElem hkx, List.any_append, hnb, hrn]; simp)
          clear hnb hrn hd1
          cases nb with
          | true =>
            go_wp2_with fail
            go_roundw
            · exact ⟨k + 1, by omega, by go_num, by rw [HBN.out]; rfl, HY⟩
            · simp [intOf]; omega
          | false =>
            go_wp2_with fail
            go_roundw
            · exact ⟨k + 1, by omega, by go_num, by rw [HBN.out]; rfl, HY⟩
            · simp [intOf]; omega
        case neg =>
          have HNB : Hid (nb = l1.any (fun r => r == f.n)) := hide (by rw [hnb, List.take_of_length_le (by rw [HRL.out]; omega)])
          clear hnb
          have HRN : Hid (∀ W, Below w.heap.size w W → Rd W (fun k => w.heap.size ≤ k) 4 A n (T.flatMap Fc.cells)) := hide (fun W hb => (HF.out.below hb).1)
          have HNW : Hid (∀ W A' m c', Below w.heap.size w W → W.ownsRow (q + 1) 47 4 (.slice A' m c') (n + 1) ((T ++ [f]).flatMap Fc.cells) → m = n + 1 → Calls Try.prog 7 #[.slice A' m c'] W (fun e w' => ∃ g2 m2 s2, e = .returned (.pointer (some ⟨g2, 0, none⟩)) ∧ Tab w' g2 m2 s2 (T ++ [f]) 0 ∧ Below W.heap.size W w' ∧ W.heap.size ≤ g2 ∧ W.heap.size ≤ m2 ∧ W.heap.size ≤ s2)) := hide (fun W A' m c' hb ho hm => by
            subst hm
            refine new_any A' (n + 1) c' (T ++ [f]) W ⟨(Rd.of_ownB ho).weak (fun k h1 h2 => by omega), by rw [List.length_append, HF.out.2.1]; rfl, by omega, fun x hx => ?_⟩ (by omega)
            rcases List.mem_append.1 hx with hx | hx
            · exact ((HF.out.2.2.2 x hx).below hb).weak (fun k hk => Nat.le_trans hb.size hk)
            · obtain rfl := List.mem_singleton.1 hx
              exact (HFF.out.below hb).weak (fun k hk => Nat.le_trans hb.size hk))
          go_upto_region 15 with fail
          go_cut [14] (fun v wx => ∃ g2 m2 s2, v = .pointer (some ⟨g2, 0, none⟩) ∧ Hid (Tab wx g2 m2 s2 (T ++ [f]) 0) ∧ Hid (w.heap.size ≤ s2 ∧ q + 1 ≤ s2 ∧ q + 1 ≤ g2 ∧ q + 1 ≤ m2) ∧ Hid (Fy w (q + 1) q0 q s en ev fv wx) ∧ Hid (Rd wx (fun b => b = s2) 33 en.A en.k (en.rs.flatMap Rdq.cells)))
          case first =>
            have hdu := Try.underlying47
            have hdi : (Try.prog.info? 47).map (·.size) = some fv.toList.length := by rw [Array.length_toList, HFZ.out.1]; kernel_rfl
            refine wp_region_noPanic ?_
            have HY7 : Hid (Fy w (q + 1) q0 q s en ev fv wr.drew) := hide (HY.out.below_ (Below.refl _ _).drew)
            refine wp_region_held_drew (S := fun w' => w'.rangeAt q0 0 fv.toList) (by kernel_rfl) HY7.out.bf.range (fun hHeld => ?_)
            obtain ⟨w7, hw7⟩ : ∃ x, x = wr.drew := ⟨_, rfl⟩
            rw [← hw7] at HY7 hHeld ⊢
            clear hw7 HY
            refine wpAnyH_take (i := 1) (v := ?_) (by simp only [List.getElem?_toArray, List.getElem?_cons_zero, List.getElem?_cons_succ]; rfl) (by kernel_rfl) (by kernel_rfl) (by kernel_rfl) (fun _ _ _ h => h) (Or.inl ⟨by rfl, ?_⟩) (by assumption) ?_
            rotate_left
            · (intro wS hSw; go_simp; try with_reducible rfl)
            try simp only [Act.put, List.setIfInBounds_toArray, List.set_cons_zero, List.set_cons_succ]
            refine wpAnyH_take (i := 3) (by simp only [List.getElem?_toArray, List.getElem?_cons_zero, List.getElem?_cons_succ]; rfl) (by kernel_rfl) (by kernel_rfl) (by kernel_rfl) (fun _ _ _ h => h) (yieldsIf_load_mid (by rfl) _ _ rfl q0 0 rfl fv.toList _ (fun _ h => h) hdu rfl hdi) (by assumption) ?_
            simp only [Act.put, List.setIfInBounds_toArray, List.set_cons_zero, List.set_cons_succ, Array.toArray_toList]
            refine wpAnyH_ready (rs := [0, 4]) (by kernel_rfl) (by simp) ?_
            refine AllReadyH.cons (by simp only [List.getElem?_toArray, List.getElem?_cons_zero]; rfl) (fun K hK => ?_) ?_
            · go_simp
              try go_wp2_with fail
              refine hK.out _ _ ((HY7.out.bf.alloc (.cells #[] 47)).range) (fun hHeld => ?_)
              clear hK K
              try simp only [Act.put, List.setIfInBounds_toArray, List.set_cons_zero, List.set_cons_succ]
              obtain ⟨w8, hw8⟩ : ∃ x, x = w7.alloc (.cells #[] 47) := ⟨_, rfl⟩
              have hb8 : Below w7.heap.size w7 w8 := by rw [hw8]; exact (Below.refl _ _).alloc (Nat.le_refl _) _
              rw [← hw8] at hHeld ⊢
              have HY8 := hide (HY7.out.below_ hb8)
              have HO8 : Hid (w8.ownsRow (q + 1) 47 4 (.slice (some ⟨w7.heap.size, 0, none⟩) 0 0) 0 []) := hide (by rw [hw8]; exact own_base_mono (World.ownsRow_lit (base := w7.heap.size) w7 #[] 0 (Nat.le_refl _) (by unfold maxLen; omega) rfl) HY7.out.lt.2.2.2)
              obtain ⟨z8, hz8⟩ : ∃ x, x = w7.heap.size := ⟨_, rfl⟩
              rw [← hz8] at HO8 ⊢
              clear hw8 hb8 hz8 HY7
              refine wpAnyH_ready (rs := [2, 4]) (by kernel_rfl) (by simp) ?_
              refine AllReadyH.cons (by simp only [List.getElem?_toArray, List.getElem?_cons_zero, List.getElem?_cons_succ]; rfl) (fun K hK => ?_) ?_
              · have HRX8 := HRN.out w8 HY8.out.bw
                have HON : ∀ u ∈ T.flatMap Fc.cells, u.oneCell' = true := fcs_one' T
                refine wp_app (.tmp 91) (.tmp 92) 22 rfl (q + 1) 47 _ 4 80 Try.underlying22 fc_info' rfl (by decide) (.slice (some ⟨z8, 0, none⟩) 0 0) 0 [] rfl HO8.out A n c (T.flatMap Fc.cells) rfl HRX8 HON (by unfold maxLen; omega) (by omega) HY8.out.lt.2.2.2 ?_
                intro A9 c9 w9 hown9 hg9
                simp only [Nat.zero_add, List.nil_append] at hown9 ⊢
                have hk9 : Keep (fun b => q + 1 ≤ b) w8 w9 := (Keep.refl _ w8).grown hg9 (fun k hk _ => own_base HO8.out hk)
                have HY9 := hide (HY8.out.keep hk9 (fun _ h => h))
                have HO9 := hide hown9
                clear hown9 hg9 hk9 HRX8 HON HY8
                refine hK.out _ _ HY9.out.bf.range (fun hHeld => ?_)
                clear hK K
                try simp only [Act.put, List.setIfInBounds_toArray, List.set_cons_zero, List.set_cons_succ]
                refine wpAnyH_ready (rs := [4]) (by kernel_rfl) (by simp) ?_
                refine AllReadyH.cons (by simp only [List.getElem?_toArray, List.getElem?_cons_zero, List.getElem?_cons_succ]; rfl) (fun K hK => ?_) AllReadyH.nil
                refine wp_part 22 47 (.tmp 94) rfl 4 fv rfl HFZ.out.1 (by decide) (by decide) Try.underlying22 (by kernel_rfl) ?_
                intro a10 w10 ha10 hA10 hb10
                have HY10 := hide (HY9.out.below_ hb10)
                have HO10 := hide (own_keep (F := fun _ => False) HO9.out (Keep.of_below hb10 (fun k h1 h2 => by omega)) (fun _ _ h => h))
                have HP10 := hide hA10
                clear hA10 hb10 ha10 HY9
                refine hK.out _ _ HY10.out.bf.range (fun hHeld => ?_)
                clear hK K
                try simp only [Act.put, List.setIfInBounds_toArray, List.set_cons_zero, List.set_cons_succ]
                refine wpAnyH_ready (rs := [5]) (by kernel_rfl) (by simp) ?_
                refine AllReadyH.cons (by simp only [List.getElem?_toArray, List.getElem?_cons_zero, List.getElem?_cons_succ]; rfl) (fun K hK => ?_) AllReadyH.nil
                have HRX10 := Rd.of_blk (F := fun _ => False) (size := 4) (n := 1) HP10.out (fun h => h) (by rw [HFZ.out.1])
                have HON : ∀ u ∈ fv.toList, u.oneCell' = true := by rw [HFV.out ()]; simp [Value.oneCell']
                refine wp_app (.tmp 93) (.tmp 95) 22 rfl (q + 1) 47 _ 4 80 Try.underlying22 fc_info' rfl (by decide) (.slice A9 n c9) n (T.flatMap Fc.cells) rfl HO10.out (some ⟨a10, 0, none⟩) 1 1 fv.toList rfl HRX10 HON (by unfold maxLen; omega) (by omega) HY10.out.lt.2.2.2 ?_
                intro A11 c11 w11 hown11 hg11
                have hk11 : Keep (fun b => q + 1 ≤ b) w10 w11 := (Keep.refl _ w10).grown hg11 (fun k hk _ => own_base HO10.out hk)
                have HY11 := hide (HY10.out.keep hk11 (fun _ h => h))
                have HO11 := hide hown11
                clear hown11 hg11 hk11 HRX10 HON HY10
                refine hK.out _ _ HY11.out.bf.range (fun hHeld => ?_)
                clear hK K
                try simp only [Act.put, List.setIfInBounds_toArray, List.set_cons_zero, List.set_cons_succ]
                refine wpAnyH_ready (rs := [6]) (by kernel_rfl) (by simp) ?_
                refine AllReadyH.cons (by simp only [List.getElem?_toArray, List.getElem?_cons_zero, List.getElem?_cons_succ]; rfl) (fun K hK => ?_) AllReadyH.nil
                go_simp
                go_at_call 7
                refine (HNW.out w11 A11 (n + 1) c11 HY11.out.bw (by have h := HO11.out; rw [List.flatMap_append]; rw [HFV.out ()] at h; simpa using h) rfl).mono ?_
                rintro e w12 ⟨g2, m2, s2, rfl, hT, hb12, hg2, hm2, hs2⟩
                have HY12 := hide (HY11.out.below_ hb12)
                have HTZ := hide hT
                have HSZ : Hid (w.heap.size ≤ s2 ∧ q + 1 ≤ s2 ∧ q + 1 ≤ g2 ∧ q + 1 ≤ m2) := hide (by have := HY11.out.lt; omega)
                have HRZ : Hid (Rd w12 (fun b => b = s2) 33 en.A en.k (en.rs.flatMap Rdq.cells)) := hide ((HY11.out.r.weak (G := fun b => b = s2) (fun k h1 h2 => .inr (by have := HSZ.out; omega))).keep (Keep.of_below hb12 (fun k h1 h2 => by omega)))
                clear hT hb12 hg2 hm2 hs2 HY11
                try go_wp2_with fail
                refine hK.out _ _ HY12.out.bf.range (fun hHeld => ?_)
                clear hK K
                try simp only [Act.put, List.setIfInBounds_toArray, List.set_cons_zero, List.set_cons_succ]
                refine wpAnyH_take (i := 7) (v := ?_) (by simp only [List.getElem?_toArray, List.getElem?_cons_zero, List.getElem?_cons_succ]; rfl) (by kernel_rfl) (by kernel_rfl) (by kernel_rfl) (fun _ _ _ h => h) (Or.inl ⟨by rfl, ?_⟩) (by assumption) ?_
                rotate_left
                · (intro wS hSw; go_simp; try with_reducible rfl)
                try simp only [Act.put, List.setIfInBounds_toArray, List.set_cons_zero, List.set_cons_succ]
                refine wpAnyH_done (by kernel_rfl) ?_ _
                refine NoPanic.normal ?_
                go_wp2_with fail
                go_meet
                exact ⟨g2, m2, s2, rfl, HTZ, HSZ, HY12, HRZ⟩
              refine AllReadyH.cons (by simp only [List.getElem?_toArray, List.getElem?_cons_zero, List.getElem?_cons_succ]; rfl) (fun K hK => ?_) ?_
              · refine wp_part 22 47 (.tmp 94) rfl 4 fv rfl HFZ.out.1 (by decide) (by decide) Try.underlying22 (by kernel_rfl) ?_
                intro a9 w9 ha9 hA9 hb9
                have HY9 := hide (HY8.out.below_ hb9)
                have HO9 := hide (own_keep (F := fun _ => False) HO8.out (Keep.of_below hb9 (fun k h1 h2 => by omega)) (fun _ _ h => h))
                have HP9 := hide hA9
                have HNE : Hid (a9 ≠ z8) := hide (by have h9 : z8 < w8.heap.size := (HO8.out.lt _ rfl).2; omega)
                clear hA9 hb9 ha9 HY8
                refine hK.out _ _ HY9.out.bf.range (fun hHeld => ?_)
                clear hK K
                try simp only [Act.put, List.setIfInBounds_toArray, List.set_cons_zero, List.set_cons_succ]
                refine wpAnyH_ready (rs := [2]) (by kernel_rfl) (by simp) ?_
                refine AllReadyH.cons (by simp only [List.getElem?_toArray, List.getElem?_cons_zero, List.getElem?_cons_succ]; rfl) (fun K hK => ?_) AllReadyH.nil
                have HRX9 := HRN.out w9 HY9.out.bw
                have HON : ∀ u ∈ T.flatMap Fc.cells, u.oneCell' = true := fcs_one' T
                refine wp_app (.tmp 91) (.tmp 92) 22 rfl (q + 1) 47 _ 4 80 Try.underlying22 fc_info' rfl (by decide) (.slice (some ⟨z8, 0, none⟩) 0 0) 0 [] rfl HO9.out A n c (T.flatMap Fc.cells) rfl HRX9 HON (by unfold maxLen; omega) (by omega) HY9.out.lt.2.2.2 ?_
                intro A10 c10 w10 hown10 hg10
                simp only [Nat.zero_add, List.nil_append] at hown10 ⊢
                have hk10 : Keep (fun b => q + 1 ≤ b) w9 w10 := (Keep.refl _ w9).grown hg10 (fun k hk _ => own_base HO9.out hk)
                have HY10 := hide (HY9.out.keep hk10 (fun _ h => h))
                have HP10 := hide (HP9.out.keep ((Keep.refl (fun i => some i = _) w9).grown hg10 (fun i hi _ => hi.symm)) (fun e => HNE.out (Option.some.inj e)))
                have HO10 := hide hown10
                clear hown10 hg10 hk10 HRX9 HON HY9
                refine hK.out _ _ HY10.out.bf.range (fun hHeld => ?_)
                clear hK K
                try simp only [Act.put, List.setIfInBounds_toArray, List.set_cons_zero, List.set_cons_succ]
                refine wpAnyH_ready (rs := [5]) (by kernel_rfl) (by simp) ?_
                refine AllReadyH.cons (by simp only [List.getElem?_toArray, List.getElem?_cons_zero, List.getElem?_cons_succ]; rfl) (fun K hK => ?_) AllReadyH.nil
                have HRX10 := Rd.of_blk (F := fun _ => False) (size := 4) (n := 1) HP10.out (fun h => h) (by rw [HFZ.out.1])
                have HON : ∀ u ∈ fv.toList, u.oneCell' = true := by rw [HFV.out ()]; simp [Value.oneCell']
                refine wp_app (.tmp 93) (.tmp 95) 22 rfl (q + 1) 47 _ 4 80 Try.underlying22 fc_info' rfl (by decide) (.slice A10 n c10) n (T.flatMap Fc.cells) rfl HO10.out (some ⟨a9, 0, none⟩) 1 1 fv.toList rfl HRX10 HON (by unfold maxLen; omega) (by omega) HY10.out.lt.2.2.2 ?_
                intro A11 c11 w11 hown11 hg11
                have hk11 : Keep (fun b => q + 1 ≤ b) w10 w11 := (Keep.refl _ w10).grown hg11 (fun k hk _ => own_base HO10.out hk)
                have HY11 := hide (HY10.out.keep hk11 (fun _ h => h))
                have HO11 := hide hown11
                clear hown11 hg11 hk11 HRX10 HON HY10
                refine hK.out _ _ HY11.out.bf.range (fun hHeld => ?_)
                clear hK K
                try simp only [Act.put, List.setIfInBounds_toArray, List.set_cons_zero, List.set_cons_succ]
                refine wpAnyH_ready (rs := [6]) (by kernel_rfl) (by simp) ?_
                refine AllReadyH.cons (by simp only [List.getElem?_toArray, List.getElem?_cons_zero, List.getElem?_cons_succ]; rfl) (fun K hK => ?_) AllReadyH.nil
                go_simp
                go_at_call 7
                refine (HNW.out w11 A11 (n + 1) c11 HY11.out.bw (by have h := HO11.out; rw [List.flatMap_append]; rw [HFV.out ()] at h; simpa using h) rfl).mono ?_
                rintro e w12 ⟨g2, m2, s2, rfl, hT, hb12, hg2, hm2, hs2⟩
                have HY12 := hide (HY11.out.below_ hb12)
                have HTZ := hide hT
                have HSZ : Hid (w.heap.size ≤ s2 ∧ q + 1 ≤ s2 ∧ q + 1 ≤ g2 ∧ q + 1 ≤ m2) := hide (by have := HY11.out.lt; omega)
                have HRZ : Hid (Rd w12 (fun b => b = s2) 33 en.A en.k (en.rs.flatMap Rdq.cells)) := hide ((HY11.out.r.weak (G := fun b => b = s2) (fun k h1 h2 => .inr (by have := HSZ.out; omega))).keep (Keep.of_below hb12 (fun k h1 h2 => by omega)))
                clear hT hb12 hg2 hm2 hs2 HY11
                try go_wp2_with fail
                refine hK.out _ _ HY12.out.bf.range (fun hHeld => ?_)
                clear hK K
                try simp only [Act.put, List.setIfInBounds_toArray, List.set_cons_zero, List.set_cons_succ]
                refine wpAnyH_take (i := 7) (v := ?_) (by simp only [List.getElem?_toArray, List.getElem?_cons_zero, List.getElem?_cons_succ]; rfl) (by kernel_rfl) (by kernel_rfl) (by kernel_rfl) (fun _ _ _ h => h) (Or.inl ⟨by rfl, ?_⟩) (by assumption) ?_
                rotate_left
                · (intro wS hSw; go_simp; try with_reducible rfl)
                try simp only [Act.put, List.setIfInBounds_toArray, List.set_cons_zero, List.set_cons_succ]
                refine wpAnyH_done (by kernel_rfl) ?_ _
                refine NoPanic.normal ?_
                go_wp2_with fail
                go_meet
                exact ⟨g2, m2, s2, rfl, HTZ, HSZ, HY12, HRZ⟩
              exact AllReadyH.nil
            refine AllReadyH.cons (by simp only [List.getElem?_toArray, List.getElem?_cons_zero, List.getElem?_cons_succ]; rfl) (fun K hK => ?_) ?_
            · refine wp_part 22 47 (.tmp 94) rfl 4 fv rfl HFZ.out.1 (by decide) (by decide) Try.underlying22 (by kernel_rfl) ?_
              intro a8 w8 ha8 hA8 hb8
              have HY8 := hide (HY7.out.below_ hb8)
              have HP8 := hide hA8
              clear hA8 hb8 ha8 HY7
              refine hK.out _ _ HY8.out.bf.range (fun hHeld => ?_)
              clear hK K
              try simp only [Act.put, List.setIfInBounds_toArray, List.set_cons_zero, List.set_cons_succ]
              refine wpAnyH_ready (rs := [0]) (by kernel_rfl) (by simp) ?_
              refine AllReadyH.cons (by simp only [List.getElem?_toArray, List.getElem?_cons_zero]; rfl) (fun K hK => ?_) AllReadyH.nil
              go_simp
              try go_wp2_with fail
              refine hK.out _ _ ((HY8.out.bf.alloc (.cells #[] 47)).range) (fun hHeld => ?_)
              clear hK K
              try simp only [Act.put, List.setIfInBounds_toArray, List.set_cons_zero, List.set_cons_succ]
              obtain ⟨w9, hw9⟩ : ∃ x, x = w8.alloc (.cells #[] 47) := ⟨_, rfl⟩
              have hb9 : Below w8.heap.size w8 w9 := by rw [hw9]; exact (Below.refl _ _).alloc (Nat.le_refl _) _
              rw [← hw9] at hHeld ⊢
              have HY9 := hide (HY8.out.below_ hb9)
              have HP9 := hide (HP8.out.below hb9 HP8.out.lt)
              have HO9 : Hid (w9.ownsRow (q + 1) 47 4 (.slice (some ⟨w8.heap.size, 0, none⟩) 0 0) 0 []) := hide (by rw [hw9]; exact own_base_mono (World.ownsRow_lit (base := w8.heap.size) w8 #[] 0 (Nat.le_refl _) (by unfold maxLen; omega) rfl) HY8.out.lt.2.2.2)
              obtain ⟨z9, hz9⟩ : ∃ x, x = w8.heap.size := ⟨_, rfl⟩
              rw [← hz9] at HO9 ⊢
              have HNE : Hid (a8 ≠ z9) := hide (by have := HP8.out.lt; omega)
              clear hw9 hb9 hz9 HY8
              refine wpAnyH_ready (rs := [2]) (by kernel_rfl) (by simp) ?_
              refine AllReadyH.cons (by simp only [List.getElem?_toArray, List.getElem?_cons_zero, List.getElem?_cons_succ]; rfl) (fun K hK => ?_) AllReadyH.nil
              have HRX9 := HRN.out w9 HY9.out.bw
              have HON : ∀ u ∈ T.flatMap Fc.cells, u.oneCell' = true := fcs_one' T
              refine wp_app (.tmp 91) (.tmp 92) 22 rfl (q + 1) 47 _ 4 80 Try.underlying22 fc_info' rfl (by decide) (.slice (some ⟨z9, 0, none⟩) 0 0) 0 [] rfl HO9.out A n c (T.flatMap Fc.cells) rfl HRX9 HON (by unfold maxLen; omega) (by omega) HY9.out.lt.2.2.2 ?_
              intro A10 c10 w10 hown10 hg10
              simp only [Nat.zero_add, List.nil_append] at hown10 ⊢
              have hk10 : Keep (fun b => q + 1 ≤ b) w9 w10 := (Keep.refl _ w9).grown hg10 (fun k hk _ => own_base HO9.out hk)
              have HY10 := hide (HY9.out.keep hk10 (fun _ h => h))
              have HP10 := hide (HP9.out.keep ((Keep.refl (fun i => some i = _) w9).grown hg10 (fun i hi _ => hi.symm)) (fun e => HNE.out (Option.some.inj e)))
              have HO10 := hide hown10
              clear hown10 hg10 hk10 HRX9 HON HY9
              refine hK.out _ _ HY10.out.bf.range (fun hHeld => ?_)
              clear hK K
              try simp only [Act.put, List.setIfInBounds_toArray, List.set_cons_zero, List.set_cons_succ]
              refine wpAnyH_ready (rs := [5]) (by kernel_rfl) (by simp) ?_
              refine AllReadyH.cons (by simp only [List.getElem?_toArray, List.getElem?_cons_zero, List.getElem?_cons_succ]; rfl) (fun K hK => ?_) AllReadyH.nil
              have HRX10 := Rd.of_blk (F := fun _ => False) (size := 4) (n := 1) HP10.out (fun h => h) (by rw [HFZ.out.1])
              have HON : ∀ u ∈ fv.toList, u.oneCell' = true := by rw [HFV.out ()]; simp [Value.oneCell']
              refine wp_app (.tmp 93) (.tmp 95) 22 rfl (q + 1) 47 _ 4 80 Try.underlying22 fc_info' rfl (by decide) (.slice A10 n c10) n (T.flatMap Fc.cells) rfl HO10.out (some ⟨a8, 0, none⟩) 1 1 fv.toList rfl HRX10 HON (by unfold maxLen; omega) (by omega) HY10.out.lt.2.2.2 ?_
              intro A11 c11 w11 hown11 hg11
              have hk11 : Keep (fun b => q + 1 ≤ b) w10 w11 := (Keep.refl _ w10).grown hg11 (fun k hk _ => own_base HO10.out hk)
              have HY11 := hide (HY10.out.keep hk11 (fun _ h => h))
              have HO11 := hide hown11
              clear hown11 hg11 hk11 HRX10 HON HY10
              refine hK.out _ _ HY11.out.bf.range (fun hHeld => ?_)
              clear hK K
              try simp only [Act.put, List.setIfInBounds_toArray, List.set_cons_zero, List.set_cons_succ]
              refine wpAnyH_ready (rs := [6]) (by kernel_rfl) (by simp) ?_
              refine AllReadyH.cons (by simp only [List.getElem?_toArray, List.getElem?_cons_zero, List.getElem?_cons_succ]; rfl) (fun K hK => ?_) AllReadyH.nil
              go_simp
              go_at_call 7
              refine (HNW.out w11 A11 (n + 1) c11 HY11.out.bw (by have h := HO11.out; rw [List.flatMap_append]; rw [HFV.out ()] at h; simpa using h) rfl).mono ?_
              rintro e w12 ⟨g2, m2, s2, rfl, hT, hb12, hg2, hm2, hs2⟩
              have HY12 := hide (HY11.out.below_ hb12)
              have HTZ := hide hT
              have HSZ : Hid (w.heap.size ≤ s2 ∧ q + 1 ≤ s2 ∧ q + 1 ≤ g2 ∧ q + 1 ≤ m2) := hide (by have := HY11.out.lt; omega)
              have HRZ : Hid (Rd w12 (fun b => b = s2) 33 en.A en.k (en.rs.flatMap Rdq.cells)) := hide ((HY11.out.r.weak (G := fun b => b = s2) (fun k h1 h2 => .inr (by have := HSZ.out; omega))).keep (Keep.of_below hb12 (fun k h1 h2 => by omega)))
              clear hT hb12 hg2 hm2 hs2 HY11
              try go_wp2_with fail
              refine hK.out _ _ HY12.out.bf.range (fun hHeld => ?_)
              clear hK K
              try simp only [Act.put, List.setIfInBounds_toArray, List.set_cons_zero, List.set_cons_succ]
              refine wpAnyH_take (i := 7) (v := ?_) (by simp only [List.getElem?_toArray, List.getElem?_cons_zero, List.getElem?_cons_succ]; rfl) (by kernel_rfl) (by kernel_rfl) (by kernel_rfl) (fun _ _ _ h => h) (Or.inl ⟨by rfl, ?_⟩) (by assumption) ?_
              rotate_left
              · (intro wS hSw; go_simp; try with_reducible rfl)
              try simp only [Act.put, List.setIfInBounds_toArray, List.set_cons_zero, List.set_cons_succ]
              refine wpAnyH_done (by kernel_rfl) ?_ _
              refine NoPanic.normal ?_
              go_wp2_with fail
              go_meet
              exact ⟨g2, m2, s2, rfl, HTZ, HSZ, HY12, HRZ⟩
            exact AllReadyH.nil
          case rest =>
            obtain ⟨g2, m2, s2, hv, HTU, HSZ, HY, HRZ⟩ := hcut
            subst hv
            clear HRN HNW
            have HOK2 : Hid (FcsOk w (T ++ [f])) := hide (fun x hx => by
              rcases List.mem_append.1 hx with hx | hx
              · exact HOK.out x hx
              · obtain rfl := List.mem_singleton.1 hx
                exact ⟨HFF.out, HFB.out⟩)
            have HSS : Hid (∀ W, Fy w (q + 1) q0 q s en ev fv W → W.rangeAt q 0 ev.toList ∧ W.rangeAt q0 0 fv.toList ∧ W.cell? ⟨q0, 0, none⟩ = some (S f.n)) := hide (fun W h => ⟨h.be.range, h.bf.range, by rw [h.bf.cell 0, HFZ.out.2]⟩)
            have HU7 : Hid (Fy w (q + 1) q0 q s en ev fv wc.drew ∧ Tab wc.drew g2 m2 s2 (T ++ [f]) 0 ∧ Rd wc.drew (fun b => b = s2) 33 en.A en.k (en.rs.flatMap Rdq.cells)) := hide ⟨HY.out.below_ (Below.refl _ _).drew, HTU.out.below (Below.refl _ _).drew, HRZ.out.drew⟩
            have HBU : Hid (∀ W W', (Fy w (q + 1) q0 q s en ev fv W ∧ Tab W g2 m2 s2 (T ++ [f]) 0 ∧ Rd W (fun b => b = s2) 33 en.A en.k (en.rs.flatMap Rdq.cells)) → Below W.heap.size W W' → (Fy w (q + 1) q0 q s en ev fv W' ∧ Tab W' g2 m2 s2 (T ++ [f]) 0 ∧ Rd W' (fun b => b = s2) 33 en.A en.k (en.rs.flatMap Rdq.cells))) := hide (fun W W' h hb => ⟨h.1.below_ hb, h.2.1.below hb, h.2.2.keep (Keep.of_below hb (fun k h1 h2 => by omega))⟩)
            obtain ⟨R, hR⟩ : ∃ R, R = freshM (T ++ [f]) en src := ⟨_, rfl⟩
            have HUF : Hid (∀ W, (Fy w (q + 1) q0 q s en ev fv W ∧ Tab W g2 m2 s2 (T ++ [f]) 0 ∧ Rd W (fun b => b = s2) 33 en.A en.k (en.rs.flatMap Rdq.cells)) → Calls Try.prog 12 #[.pointer (some ⟨g2, 0, none⟩), .agg ev, .agg dz] W (fun x w'' => x = .returned (.bool R) ∧ Fy w (q + 1) q0 q s en ev fv w'')) := hide (fun W h => by
              rw [hR]
              refine (fresh_any w g2 m2 s2 0 (T ++ [f]) en src ev dz W h.2.1 (by rw [HE1.out.1]; omega) HE2.out HE4.out HE3.out.1 HSRL.out h.2.2 HOK2.out h.1.bw HSZ.out.1 (HEV.out ()) (HDZ.out ())).mono ?_
              rintro x w'' ⟨rfl, _, hk⟩
              exact ⟨rfl, h.1.keep hk (fun k hk => by rw [hk]; exact HSZ.out.2.1)⟩)
            obtain ⟨ea, hea⟩ : ∃ z, z = darr (digM T f.n) := ⟨_, rfl⟩
            obtain ⟨eb, heb⟩ : ∃ z, z = darr (digF f.pl) := ⟨_, rfl⟩
            obtain ⟨R2, hR2⟩ : ∃ b, b = (digM T f.n == digF f.pl) := ⟨_, rfl⟩
            have HRR : Hid (R = (!nb || R2)) := hide (by rw [hR, HE6.out, HNB.out, hR2])
            have heq : ∀ w, (binOp .eql 35 (.agg ea) (.agg eb)).run Try.prog w = .ok (.bool R2) w := fun w => by rw [hea, heb, hR2]; exact run_eql_darr _ _ (digM_len _ _) (by simp [digF, sumM_len]) w
            have HPD : Hid (∀ W, Below w.heap.size w W → Calls Try.prog 10 #[.slice A n c, S f.n] W (fun e w' => e = .returned (.agg ea) ∧ Below W.heap.size W w')) := hide (fun W hb => by
              rw [hea]
              exact page_any A n c T f.n W ((HF.out.below hb).weak (fun k hk => Nat.le_trans hb.size hk)) (fun f hf => (HOK.out f hf).2))
            have HDD : Hid (∀ W, Below w.heap.size w W → Calls Try.prog 13 #[.agg fv] W (fun e w' => e = .returned (.agg eb) ∧ Below W.heap.size W w')) := hide (fun W hb => by
              rw [heb, HFV.out ()]
              exact dig_any f W ((HFF.out.below hb).weak (fun k hk => Nat.le_trans hb.size hk)) HFB.out)
            clear hR hea heb hR2 HY HTU HRZ
            go_upto_region 16 with fail
            cases nb with
            | false =>
              obtain rfl : R = true := HRR.out
              have hdu := Try.underlying39
              have hdi : (Try.prog.info? 39).map (·.size) = some ev.toList.length := by rw [Array.length_toList, HV.out.size]; exact en_info
              have hfu := Try.underlying47
              have hfi : (Try.prog.info? 47).map (·.size) = some fv.toList.length := by rw [Array.length_toList, HFZ.out.1]; kernel_rfl
              refine wp_region_noPanic ?_
              refine wp_region_held_drew (S := fun w' => w'.rangeAt q 0 ev.toList ∧ w'.rangeAt q0 0 fv.toList ∧ w'.cell? ⟨q0, 0, none⟩ = some (S f.n)) (by kernel_rfl) (HSS.out _ HU7.out.1) (fun hHeld => ?_)
              obtain ⟨w7, hw7⟩ : ∃ x, x = wc.drew := ⟨_, rfl⟩
              rw [← hw7] at HU7 hHeld ⊢
              clear hw7
              refine wpAnyH_take (i := 0) (v := ?_) (by simp only [List.getElem?_toArray, List.getElem?_cons_zero]; rfl) (by kernel_rfl) (by kernel_rfl) (by kernel_rfl) (fun _ _ _ h => h) (Or.inl ⟨by rfl, ?_⟩) (by assumption) ?_
              rotate_left
              · (intro wS hSw; have c1 := hSw.2.2; go_simp; try with_reducible rfl)
              try simp only [Act.put, List.setIfInBounds_toArray, List.set_cons_zero, List.set_cons_succ]
              refine wpAnyH_take (i := 1) (by simp only [List.getElem?_toArray, List.getElem?_cons_zero, List.getElem?_cons_succ]; rfl) (by kernel_rfl) (by kernel_rfl) (by kernel_rfl) (fun _ _ _ h => h) (yieldsIf_load_mid (by rfl) _ _ rfl q 0 rfl ev.toList _ (fun _ h => h.1) hdu rfl hdi) (by assumption) ?_
              simp only [Act.put, List.setIfInBounds_toArray, List.set_cons_zero, List.set_cons_succ, Array.toArray_toList]
              refine wpAnyH_take (i := 2) (v := ?_) (by simp only [List.getElem?_toArray, List.getElem?_cons_zero, List.getElem?_cons_succ]; rfl) (by kernel_rfl) (by kernel_rfl) (by kernel_rfl) (fun _ _ _ h => h) (Or.inl ⟨by rfl, ?_⟩) (by assumption) ?_
              rotate_left
              · (intro wS hSw; have c1 := hSw.2.2; go_simp; try with_reducible rfl)
              try simp only [Act.put, List.setIfInBounds_toArray, List.set_cons_zero, List.set_cons_succ]
              refine wpAnyH_take (i := 6) (v := ?_) (by simp only [List.getElem?_toArray, List.getElem?_cons_zero, List.getElem?_cons_succ]; rfl) (by kernel_rfl) (by kernel_rfl) (by kernel_rfl) (fun _ _ _ h => h) (Or.inl ⟨by rfl, ?_⟩) (by assumption) ?_
              rotate_left
              · (intro wS hSw; have c1 := hSw.2.2; go_simp; try with_reducible rfl)
              try simp only [Act.put, List.setIfInBounds_toArray, List.set_cons_zero, List.set_cons_succ]
              refine wpAnyH_take (i := 7) (v := ?_) (by simp only [List.getElem?_toArray, List.getElem?_cons_zero, List.getElem?_cons_succ]; rfl) (by kernel_rfl) (by kernel_rfl) (by kernel_rfl) (fun _ _ _ h => h) (Or.inl ⟨by rfl, ?_⟩) (by assumption) ?_
              rotate_left
              · (intro wS hSw; have c1 := hSw.2.2; go_simp; try with_reducible rfl)
              try simp only [Act.put, List.setIfInBounds_toArray, List.set_cons_zero, List.set_cons_succ]
              refine wpAnyH_ready (rs := [3]) (by kernel_rfl) (by simp) ?_
              refine AllReadyH.cons (by simp only [List.getElem?_toArray, List.getElem?_cons_zero, List.getElem?_cons_succ]; rfl) (fun K hK => ?_) AllReadyH.nil
              go_simp
              try go_wp2_with fail
              refine hK.out _ _ (HSS.out _ (HU7.out.1.below_ ((Below.refl _ w7).alloc (Nat.le_refl _) (.cells #[S tx] 9)))) (fun hHeld => ?_)
              clear hK K
              try simp only [Act.put, List.setIfInBounds_toArray, List.set_cons_zero, List.set_cons_succ]
              obtain ⟨w8, hw8⟩ : ∃ x, x = w7.alloc (.cells #[S tx] 9) := ⟨_, rfl⟩
              have HC8 : Hid (Blk w8 w7.heap.size 9 #[S tx]) := hide (by rw [hw8]; exact Blk.new _ _ _)
              have HU8 := hide (HBU.out w7 w8 HU7.out (by rw [hw8]; exact (Below.refl _ _).alloc (Nat.le_refl _) _))
              rw [← hw8] at hHeld ⊢
              obtain ⟨c8, hc8⟩ : ∃ x, x = w7.heap.size := ⟨_, rfl⟩
              rw [← hc8] at HC8 ⊢
              clear hw8 hc8 HU7
              refine wpAnyH_ready (rs := [4]) (by kernel_rfl) (by simp) ?_
              refine AllReadyH.cons (by simp only [List.getElem?_toArray, List.getElem?_cons_zero, List.getElem?_cons_succ]; rfl) (fun K hK => ?_) AllReadyH.nil
              go_simp
              go_at_call 8
              refine (HSB.out w8 c8 HC8.out).mono ?_
              rintro e w9 ⟨rfl, hb9⟩
              have HU9 := hide (HBU.out w8 w9 HU8.out hb9)
              clear hb9 HC8 HU8
              try go_wp2_with fail
              refine hK.out _ _ (HSS.out _ HU9.out.1) (fun hHeld => ?_)
              clear hK K
              try simp only [Act.put, List.setIfInBounds_toArray, List.set_cons_zero, List.set_cons_succ]
              refine wpAnyH_ready (rs := [5]) (by kernel_rfl) (by simp) ?_
              refine AllReadyH.cons (by simp only [List.getElem?_toArray, List.getElem?_cons_zero, List.getElem?_cons_succ]; rfl) (fun K hK => ?_) AllReadyH.nil
              go_simp
              go_at_call 12
              refine (HUF.out w9 HU9.out).mono ?_
              rintro e w10 ⟨rfl, hy10⟩
              have HY10 := hide hy10
              clear hy10 HU9
              try go_wp2_with fail
              refine hK.out _ _ (HSS.out _ HY10.out) (fun hHeld => ?_)
              clear hK K
              try simp only [Act.put, List.setIfInBounds_toArray, List.set_cons_zero, List.set_cons_succ]
              refine wpAnyH_take (i := 8) (v := ?_) (by simp only [List.getElem?_toArray, List.getElem?_cons_zero, List.getElem?_cons_succ]; rfl) (by kernel_rfl) (by kernel_rfl) (by kernel_rfl) (fun _ _ _ h => h) (Or.inl ⟨by rfl, ?_⟩) (by assumption) ?_
              rotate_left
              · (intro wS hSw; have c1 := hSw.2.2; go_simp; try with_reducible rfl)
              try simp only [Act.put, List.setIfInBounds_toArray, List.set_cons_zero, List.set_cons_succ]
              refine wpAnyH_take (i := 9) (v := undef) (by simp only [List.getElem?_toArray, List.getElem?_cons_zero, List.getElem?_cons_succ]; rfl) (by kernel_rfl) (by kernel_rfl) (by kernel_rfl) (fun _ _ _ h => h) (Or.inr ⟨by rfl, rfl⟩) (by assumption) ?_
              try simp only [Act.put, List.setIfInBounds_toArray, List.set_cons_zero, List.set_cons_succ]
              refine wpAnyH_take (i := 10) (v := undef) (by simp only [List.getElem?_toArray, List.getElem?_cons_zero, List.getElem?_cons_succ]; rfl) (by kernel_rfl) (by kernel_rfl) (by kernel_rfl) (fun _ _ _ h => h) (Or.inr ⟨by rfl, rfl⟩) (by assumption) ?_
              try simp only [Act.put, List.setIfInBounds_toArray, List.set_cons_zero, List.set_cons_succ]
              refine wpAnyH_take (i := 11) (v := undef) (by simp only [List.getElem?_toArray, List.getElem?_cons_zero, List.getElem?_cons_succ]; rfl) (by kernel_rfl) (by kernel_rfl) (by kernel_rfl) (fun _ _ _ h => h) (Or.inr ⟨by rfl, rfl⟩) (by assumption) ?_
              try simp only [Act.put, List.setIfInBounds_toArray, List.set_cons_zero, List.set_cons_succ]
              refine wpAnyH_take (i := 12) (v := undef) (by simp only [List.getElem?_toArray, List.getElem?_cons_zero, List.getElem?_cons_succ]; rfl) (by kernel_rfl) (by kernel_rfl) (by kernel_rfl) (fun _ _ _ h => h) (Or.inr ⟨by rfl, rfl⟩) (by assumption) ?_
              try simp only [Act.put, List.setIfInBounds_toArray, List.set_cons_zero, List.set_cons_succ]
              refine wpAnyH_take (i := 13) (v := undef) (by simp only [List.getElem?_toArray, List.getElem?_cons_zero, List.getElem?_cons_succ]; rfl) (by kernel_rfl) (by kernel_rfl) (by kernel_rfl) (fun _ _ _ h => h) (Or.inr ⟨by rfl, rfl⟩) (by assumption) ?_
              try simp only [Act.put, List.setIfInBounds_toArray, List.set_cons_zero, List.set_cons_succ]
              refine wpAnyH_take (i := 14) (v := undef) (by simp only [List.getElem?_toArray, List.getElem?_cons_zero, List.getElem?_cons_succ]; rfl) (by kernel_rfl) (by kernel_rfl) (by kernel_rfl) (fun _ _ _ h => h) (Or.inr ⟨by rfl, rfl⟩) (by assumption) ?_
              try simp only [Act.put, List.setIfInBounds_toArray, List.set_cons_zero, List.set_cons_succ]
              refine wpAnyH_take (i := 15) (v := undef) (by simp only [List.getElem?_toArray, List.getElem?_cons_zero, List.getElem?_cons_succ]; rfl) (by kernel_rfl) (by kernel_rfl) (by kernel_rfl) (fun _ _ _ h => h) (Or.inr ⟨by rfl, rfl⟩) (by assumption) ?_
              try simp only [Act.put, List.setIfInBounds_toArray, List.set_cons_zero, List.set_cons_succ]
              refine wpAnyH_take (i := 16) (v := ?_) (by simp only [List.getElem?_toArray, List.getElem?_cons_zero, List.getElem?_cons_succ]; rfl) (by kernel_rfl) (by kernel_rfl) (by kernel_rfl) (fun _ _ _ h => h) (Or.inl ⟨by rfl, ?_⟩) (by assumption) ?_
              rotate_left
              · (intro wS hSw; have c1 := hSw.2.2; go_simp; try with_reducible rfl)
              try simp only [Act.put, List.setIfInBounds_toArray, List.set_cons_zero, List.set_cons_succ]
              refine wpAnyH_take (i := 17) (v := ?_) (by simp only [List.getElem?_toArray, List.getElem?_cons_zero, List.getElem?_cons_succ]; rfl) (by kernel_rfl) (by kernel_rfl) (by kernel_rfl) (fun _ _ _ h => h) (Or.inl ⟨by rfl, ?_⟩) (by assumption) ?_
              rotate_left
              · (intro wS hSw; have c1 := hSw.2.2; go_simp; try with_reducible rfl)
              try simp only [Act.put, List.setIfInBounds_toArray, List.set_cons_zero, List.set_cons_succ]
              refine wpAnyH_take (i := 18) (v := ?_) (by simp only [List.getElem?_toArray, List.getElem?_cons_zero, List.getElem?_cons_succ]; rfl) (by kernel_rfl) (by kernel_rfl) (by kernel_rfl) (fun _ _ _ h => h) (Or.inl ⟨by rfl, ?_⟩) (by assumption) ?_
              rotate_left
              · (intro wS hSw; have c1 := hSw.2.2; go_simp; try with_reducible rfl)
              try simp only [Act.put, List.setIfInBounds_toArray, List.set_cons_zero, List.set_cons_succ]
              refine wpAnyH_done (by kernel_rfl) ?_ _
              refine NoPanic.normal ?_
              go_wp2_with fail
              go_ret
              exact ⟨rfl, HY10.out.bw⟩
            | true =>
              obtain rfl : R = R2 := HRR.out
              have hdu := Try.underlying39
              have hdi : (Try.prog.info? 39).map (·.size) = some ev.toList.length := by rw [Array.length_toList, HV.out.size]; exact en_info
              have hfu := Try.underlying47
              have hfi : (Try.prog.info? 47).map (·.size) = some fv.toList.length := by rw [Array.length_toList, HFZ.out.1]; kernel_rfl
              refine wp_region_noPanic ?_
              refine wp_region_held_drew (S := fun w' => w'.rangeAt q 0 ev.toList ∧ w'.rangeAt q0 0 fv.toList ∧ w'.cell? ⟨q0, 0, none⟩ = some (S f.n)) (by kernel_rfl) (HSS.out _ HU7.out.1) (fun hHeld => ?_)
              obtain ⟨w7, hw7⟩ : ∃ x, x = wc.drew := ⟨_, rfl⟩
              rw [← hw7] at HU7 hHeld ⊢
              clear hw7
              refine wpAnyH_take (i := 0) (v := ?_) (by simp only [List.getElem?_toArray, List.getElem?_cons_zero]; rfl) (by kernel_rfl) (by kernel_rfl) (by kernel_rfl) (fun _ _ _ h => h) (Or.inl ⟨by rfl, ?_⟩) (by assumption) ?_
              rotate_left
              · (intro wS hSw; have c1 := hSw.2.2; go_simp; try with_reducible rfl)
              try simp only [Act.put, List.setIfInBounds_toArray, List.set_cons_zero, List.set_cons_succ]
              refine wpAnyH_take (i := 1) (by simp only [List.getElem?_toArray, List.getElem?_cons_zero, List.getElem?_cons_succ]; rfl) (by kernel_rfl) (by kernel_rfl) (by kernel_rfl) (fun _ _ _ h => h) (yieldsIf_load_mid (by rfl) _ _ rfl q 0 rfl ev.toList _ (fun _ h => h.1) hdu rfl hdi) (by assumption) ?_
              simp only [Act.put, List.setIfInBounds_toArray, List.set_cons_zero, List.set_cons_succ, Array.toArray_toList]
              refine wpAnyH_take (i := 2) (v := ?_) (by simp only [List.getElem?_toArray, List.getElem?_cons_zero, List.getElem?_cons_succ]; rfl) (by kernel_rfl) (by kernel_rfl) (by kernel_rfl) (fun _ _ _ h => h) (Or.inl ⟨by rfl, ?_⟩) (by assumption) ?_
              rotate_left
              · (intro wS hSw; have c1 := hSw.2.2; go_simp; try with_reducible rfl)
              try simp only [Act.put, List.setIfInBounds_toArray, List.set_cons_zero, List.set_cons_succ]
              refine wpAnyH_take (i := 6) (v := ?_) (by simp only [List.getElem?_toArray, List.getElem?_cons_zero, List.getElem?_cons_succ]; rfl) (by kernel_rfl) (by kernel_rfl) (by kernel_rfl) (fun _ _ _ h => h) (Or.inl ⟨by rfl, ?_⟩) (by assumption) ?_
              rotate_left
              · (intro wS hSw; have c1 := hSw.2.2; go_simp; try with_reducible rfl)
              try simp only [Act.put, List.setIfInBounds_toArray, List.set_cons_zero, List.set_cons_succ]
              refine wpAnyH_take (i := 7) (v := ?_) (by simp only [List.getElem?_toArray, List.getElem?_cons_zero, List.getElem?_cons_succ]; rfl) (by kernel_rfl) (by kernel_rfl) (by kernel_rfl) (fun _ _ _ h => h) (Or.inl ⟨by rfl, ?_⟩) (by assumption) ?_
              rotate_left
              · (intro wS hSw; have c1 := hSw.2.2; go_simp; try with_reducible rfl)
              try simp only [Act.put, List.setIfInBounds_toArray, List.set_cons_zero, List.set_cons_succ]
              refine wpAnyH_ready (rs := [3]) (by kernel_rfl) (by simp) ?_
              refine AllReadyH.cons (by simp only [List.getElem?_toArray, List.getElem?_cons_zero, List.getElem?_cons_succ]; rfl) (fun K hK => ?_) AllReadyH.nil
              go_simp
              try go_wp2_with fail
              refine hK.out _ _ (HSS.out _ (HU7.out.1.below_ ((Below.refl _ w7).alloc (Nat.le_refl _) (.cells #[S tx] 9)))) (fun hHeld => ?_)
              clear hK K
              try simp only [Act.put, List.setIfInBounds_toArray, List.set_cons_zero, List.set_cons_succ]
              obtain ⟨w8, hw8⟩ : ∃ x, x = w7.alloc (.cells #[S tx] 9) := ⟨_, rfl⟩
              have HC8 : Hid (Blk w8 w7.heap.size 9 #[S tx]) := hide (by rw [hw8]; exact Blk.new _ _ _)
              have HU8 := hide (HBU.out w7 w8 HU7.out (by rw [hw8]; exact (Below.refl _ _).alloc (Nat.le_refl _) _))
              rw [← hw8] at hHeld ⊢
              obtain ⟨c8, hc8⟩ : ∃ x, x = w7.heap.size := ⟨_, rfl⟩
              rw [← hc8] at HC8 ⊢
              clear hw8 hc8 HU7
              refine wpAnyH_ready (rs := [4]) (by kernel_rfl) (by simp) ?_
              refine AllReadyH.cons (by simp only [List.getElem?_toArray, List.getElem?_cons_zero, List.getElem?_cons_succ]; rfl) (fun K hK => ?_) AllReadyH.nil
              go_simp
              go_at_call 8
              refine (HSB.out w8 c8 HC8.out).mono ?_
              rintro e w9 ⟨rfl, hb9⟩
              have HU9 := hide (HBU.out w8 w9 HU8.out hb9)
              clear hb9 HC8 HU8
              try go_wp2_with fail
              refine hK.out _ _ (HSS.out _ HU9.out.1) (fun hHeld => ?_)
              clear hK K
              try simp only [Act.put, List.setIfInBounds_toArray, List.set_cons_zero, List.set_cons_succ]
              refine wpAnyH_ready (rs := [5]) (by kernel_rfl) (by simp) ?_
              refine AllReadyH.cons (by simp only [List.getElem?_toArray, List.getElem?_cons_zero, List.getElem?_cons_succ]; rfl) (fun K hK => ?_) AllReadyH.nil
              go_simp
              go_at_call 12
              refine (HUF.out w9 HU9.out).mono ?_
              rintro e w10 ⟨rfl, hy10⟩
              have HY10 := hide hy10
              clear hy10 HU9
              try go_wp2_with fail
              refine hK.out _ _ (HSS.out _ HY10.out) (fun hHeld => ?_)
              clear hK K
              try simp only [Act.put, List.setIfInBounds_toArray, List.set_cons_zero, List.set_cons_succ]
              refine wpAnyH_take (i := 8) (v := ?_) (by simp only [List.getElem?_toArray, List.getElem?_cons_zero, List.getElem?_cons_succ]; rfl) (by kernel_rfl) (by kernel_rfl) (by kernel_rfl) (fun _ _ _ h => h) (Or.inl ⟨by rfl, ?_⟩) (by assumption) ?_
              rotate_left
              · (intro wS hSw; have c1 := hSw.2.2; go_simp; try with_reducible rfl)
              try simp only [Act.put, List.setIfInBounds_toArray, List.set_cons_zero, List.set_cons_succ]
              refine wpAnyH_take (i := 9) (v := ?_) (by simp only [List.getElem?_toArray, List.getElem?_cons_zero, List.getElem?_cons_succ]; rfl) (by kernel_rfl) (by kernel_rfl) (by kernel_rfl) (fun _ _ _ h => h) (Or.inl ⟨by rfl, ?_⟩) (by assumption) ?_
              rotate_left
              · (intro wS hSw; have c1 := hSw.2.2; go_simp; try with_reducible rfl)
              try simp only [Act.put, List.setIfInBounds_toArray, List.set_cons_zero, List.set_cons_succ]
              refine wpAnyH_take (i := 10) (v := ?_) (by simp only [List.getElem?_toArray, List.getElem?_cons_zero, List.getElem?_cons_succ]; rfl) (by kernel_rfl) (by kernel_rfl) (by kernel_rfl) (fun _ _ _ h => h) (Or.inl ⟨by rfl, ?_⟩) (by assumption) ?_
              rotate_left
              · (intro wS hSw; have c1 := hSw.2.2; go_simp; try with_reducible rfl)
              try simp only [Act.put, List.setIfInBounds_toArray, List.set_cons_zero, List.set_cons_succ]
              refine wpAnyH_take (i := 11) (v := ?_) (by simp only [List.getElem?_toArray, List.getElem?_cons_zero, List.getElem?_cons_succ]; rfl) (by kernel_rfl) (by kernel_rfl) (by kernel_rfl) (fun _ _ _ h => h) (Or.inl ⟨by rfl, ?_⟩) (by assumption) ?_
              rotate_left
              · (intro wS hSw; have c1 := hSw.2.2; go_simp; try with_reducible rfl)
              try simp only [Act.put, List.setIfInBounds_toArray, List.set_cons_zero, List.set_cons_succ]
              refine wpAnyH_take (i := 13) (by simp only [List.getElem?_toArray, List.getElem?_cons_zero, List.getElem?_cons_succ]; rfl) (by kernel_rfl) (by kernel_rfl) (by kernel_rfl) (fun _ _ _ h => h) (yieldsIf_load_mid (by rfl) _ _ rfl q0 0 rfl fv.toList _ (fun _ h => h.2.1) hfu rfl hfi) (by assumption) ?_
              simp only [Act.put, List.setIfInBounds_toArray, List.set_cons_zero, List.set_cons_succ, Array.toArray_toList]
              refine wpAnyH_ready (rs := [12]) (by kernel_rfl) (by simp) ?_
              refine AllReadyH.cons (by simp only [List.getElem?_toArray, List.getElem?_cons_zero, List.getElem?_cons_succ]; rfl) (fun K hK => ?_) AllReadyH.nil
              try rw [if_pos (by rfl)]
              go_simp
              go_at_call 10
              refine (HPD.out w10 HY10.out.bw).mono ?_
              rintro e w11 ⟨rfl, hb11⟩
              have HY11 := hide (HY10.out.below_ hb11)
              clear hb11 HY10
              try go_wp2_with fail
              refine hK.out _ _ (HSS.out _ HY11.out) (fun hHeld => ?_)
              clear hK K
              try simp only [Act.put, List.setIfInBounds_toArray, List.set_cons_zero, List.set_cons_succ]
              refine wpAnyH_ready (rs := [14]) (by kernel_rfl) (by simp) ?_
              refine AllReadyH.cons (by simp only [List.getElem?_toArray, List.getElem?_cons_zero, List.getElem?_cons_succ]; rfl) (fun K hK => ?_) AllReadyH.nil
              try rw [if_pos (by rfl)]
              go_simp
              go_at_call 13
              refine (HDD.out w11 HY11.out.bw).mono ?_
              rintro e w12 ⟨rfl, hb12⟩
              have HY12 := hide (HY11.out.below_ hb12)
              clear hb12 HY11
              try go_wp2_with fail
              refine hK.out _ _ (HSS.out _ HY12.out) (fun hHeld => ?_)
              clear hK K
              try simp only [Act.put, List.setIfInBounds_toArray, List.set_cons_zero, List.set_cons_succ]
              refine wpAnyH_take (i := 15) (v := ?_) (by simp only [List.getElem?_toArray, List.getElem?_cons_zero, List.getElem?_cons_succ]; rfl) (by kernel_rfl) (by kernel_rfl) (by kernel_rfl) (fun _ _ _ h => h) (Or.inl ⟨by rfl, ?_⟩) (by assumption) ?_
              rotate_left
              · (intro wS hSw; have c1 := hSw.2.2; go_simp; try with_reducible rfl)
              try simp only [Act.put, List.setIfInBounds_toArray, List.set_cons_zero, List.set_cons_succ]
              refine wpAnyH_take (i := 16) (v := ?_) (by simp only [List.getElem?_toArray, List.getElem?_cons_zero, List.getElem?_cons_succ]; rfl) (by kernel_rfl) (by kernel_rfl) (by kernel_rfl) (fun _ _ _ h => h) (Or.inl ⟨by rfl, ?_⟩) (by assumption) ?_
              rotate_left
              · (intro wS hSw; have c1 := hSw.2.2; go_simp; try with_reducible rfl)
              try simp only [Act.put, List.setIfInBounds_toArray, List.set_cons_zero, List.set_cons_succ]
              refine wpAnyH_take (i := 17) (v := ?_) (by simp only [List.getElem?_toArray, List.getElem?_cons_zero, List.getElem?_cons_succ]; rfl) (by kernel_rfl) (by kernel_rfl) (by kernel_rfl) (fun _ _ _ h => h) (Or.inl ⟨by rfl, ?_⟩) (by assumption) ?_
              rotate_left
              · (intro wS hSw; have c1 := hSw.2.2; go_simp; try with_reducible rfl)
              try simp only [Act.put, List.setIfInBounds_toArray, List.set_cons_zero, List.set_cons_succ]
              refine wpAnyH_take (i := 18) (v := ?_) (by simp only [List.getElem?_toArray, List.getElem?_cons_zero, List.getElem?_cons_succ]; rfl) (by kernel_rfl) (by kernel_rfl) (by kernel_rfl) (fun _ _ _ h => h) (Or.inl ⟨by rfl, ?_⟩) (by assumption) ?_
              rotate_left
              · (intro wS hSw; have c1 := hSw.2.2; go_simp; try with_reducible rfl)
              try simp only [Act.put, List.setIfInBounds_toArray, List.set_cons_zero, List.set_cons_succ]
              refine wpAnyH_done (by kernel_rfl) ?_ _
              refine NoPanic.normal ?_
              go_wp2_with fail
              go_ret
              exact ⟨by simp, HY12.out.bw⟩
end Go.Proofs.Ythehimjdjgmnjaa
