/- Whether two methods, and two faces, are the same, walked; no statement of the seat is proved here. -/
import Derived.Test.YtkgnoemagklmiaaFaceSameC
namespace Go.Proofs.Ytkgnoemagklmiaa
open Go.RowKit

/-- What of a method is compared. -/
abbrev Sg.p (m : Sg) : List UInt8 × Bool × Ty × List Ty := (m.n, m.st, m.r, m.ps)
abbrev SgQ : Type := List UInt8 × Bool × Ty × List Ty
abbrev Fc.p (f : Fc) : List UInt8 × List UInt8 × List Vr × List SgQ := (f.n, f.su, f.fs, f.ms.map Sg.p)
instance : DecidableEq SgQ := inferInstance
instance : DecidableEq (List Vr × List SgQ) := instDecidableEqProd
instance : DecidableEq (List UInt8 × List Vr × List SgQ) := instDecidableEqProd
instance : DecidableEq (List UInt8 × List UInt8 × List Vr × List SgQ) := instDecidableEqProd

set_option maxRecDepth 100000 in
set_option maxHeartbeats 1000000 in
theorem sigsame_any (m m' : Sg) (w : World) (h : m.at_ w (fun k => w.heap.size ≤ k)) (h' : m'.at_ w (fun k => w.heap.size ≤ k)) :
    Calls Try.prog 19 #[m.val, m'.val] w (Gives w (.bool (decide (m.p = m'.p)))) := by
  obtain ⟨B, hB⟩ : ∃ B, B = decide (m.p = m'.p) := ⟨_, rfl⟩
  rw [← hB]
  have HB := hide hB
  clear hB
  obtain ⟨n, st, A, k, c, ps, rn, ra⟩ := m
  obtain ⟨n', st', A', k', c', ps', rn', ra'⟩ := m'
  simp only [Sg.p] at HB
  simp only [Sg.val]
  obtain ⟨wB, hwB⟩ : ∃ wB, wB = (w.alloc (.cells #[S n, .bool st, .slice A k c, S rn, .bool ra] 58)).alloc (.cells #[S n', .bool st', .slice A' k' c', S rn', .bool ra'] 58) := ⟨_, rfl⟩
  have hbB : Below w.heap.size w wB := by rw [hwB]; exact ((Below.refl _ _).alloc (Nat.le_refl _) _).alloc (by simp) _
  have H := hide ((h.below hbB).weak (G := fun k => wB.heap.size ≤ k) (fun k hk => by have := hbB.size; omega))
  have H' := hide ((h'.below hbB).weak (G := fun k => wB.heap.size ≤ k) (fun k hk => by have := hbB.size; omega))
  clear h h'
  by_cases e1 : n = n'
  · subst e1
    by_cases e2 : st = st'
    · subst e2
      by_cases e3 : (⟨rn, ra⟩ : Ty) = ⟨rn', ra'⟩
      · injection e3 with e3 e4
        subst e3 e4
        have hq := equaltys_any A k c ps A' k' c' ps' wB H.out.1 H.out.2.1 H'.out.1 H'.out.2.1 H.out.2.2.1
        have hBB : B = decide (ps = ps') := by rw [HB.out]; simp
        rw [← hBB] at hq
        have HQ := hide hq
        clear hq hBB
        cases st
        all_goals
          go_enter Try.func19, Try.ntmps19
          go_wp2_with fail
          rw [← hwB]
          clear hwB
          refine HQ.out.mono ?_
          rintro e w2 ⟨rfl, hb2⟩
          go_wp2
          go_ret
          exact ⟨rfl, hbB.trans (hb2.mono hbB.size)⟩
      · have HN : Hid (B = false) := hide (by rw [HB.out]; exact decide_eq_false fun hh => e3 (by injection hh with _ hh; injection hh with _ hh; injection hh))
        by_cases e4 : rn = rn'
        · subst e4
          cases st <;> cases ra <;> cases ra'
          all_goals first
            | exact absurd rfl e3
            | skip
          all_goals
            go_enter Try.func19, Try.ntmps19
            go_wp2_with fail
            rw [← hwB]
            go_ret
            exact ⟨by rw [HN.out] <;> rfl, hbB⟩
        · have d4 : (rn == rn') = false := by simpa using e4
          cases st
          all_goals
            go_enter Try.func19, Try.ntmps19
            go_wp2_with fail
            rw [← hwB]
            go_ret
            exact ⟨by rw [HN.out] <;> rfl, hbB⟩
    · have HN : Hid (B = false) := hide (by rw [HB.out]; exact decide_eq_false fun hh => e2 (by injection hh with _ hh; injection hh))
      cases st <;> cases st'
      all_goals first
        | exact absurd rfl e2
        | skip
      all_goals
        go_enter Try.func19, Try.ntmps19
        go_wp2_with fail
        rw [← hwB]
        go_ret
        exact ⟨by rw [HN.out] <;> rfl, hbB⟩
  · have HN : Hid (B = false) := hide (by rw [HB.out]; exact decide_eq_false fun hh => e1 (by injection hh))
    have d1 : (n == n') = false := by simpa using e1
    go_enter Try.func19, Try.ntmps19
    go_wp2_with fail
    rw [← hwB]
    go_ret
    exact ⟨by rw [HN.out] <;> rfl, hbB⟩

set_option maxRecDepth 100000 in
set_option maxHeartbeats 1000000 in
theorem equalsigs_any (A : Option Addr) (n c : Nat) (l : List Sg) (A' : Option Addr) (n' c' : Nat) (l' : List Sg) (w : World) (h : Rd w (fun k => w.heap.size ≤ k) 5 A n (l.flatMap Sg.cells)) (hl : l.length = n)
    (h' : Rd w (fun k => w.heap.size ≤ k) 5 A' n' (l'.flatMap Sg.cells)) (hl' : l'.length = n') (hm : n ≤ 9223372036854775807) (ho : ∀ m ∈ l, m.at_ w (fun k => w.heap.size ≤ k)) (ho' : ∀ m ∈ l', m.at_ w (fun k => w.heap.size ≤ k)) :
    Calls Try.prog 34 #[.slice A n c, .slice A' n' c', .func (.func 19) #[] #[]] w (Gives w (.bool (decide (l.map Sg.p = l'.map Sg.p)))) := by
  have HL := hide hl
  have HL' := hide hl'
  have HO := hide ho
  have HO' := hide ho'
  clear hl hl' ho ho'
  obtain ⟨B, hB⟩ : ∃ B, B = decide (l.map Sg.p = l'.map Sg.p) := ⟨_, rfl⟩
  rw [← hB]
  have HB := hide hB
  clear hB
  by_cases en : n = n'
  · subst en
    go_enter Try.func34, Try.ntmps34
    go_wp2_with fail
    go_loopw [17] (fun i wr => ∃ k : Nat, k ≤ n ∧ i = .int .i64 k ∧ Below w.heap.size w wr ∧ (∀ i (hi : i < l.length) (hi' : i < l'.length), i < k → l[i].p = l'[i].p)) (fun i _ => n - (intOf i).toNat)
    case atStart => exact ⟨0, Nat.zero_le _, rfl, Below.refl _ _, by omega⟩
    case round =>
      obtain ⟨k, hk, rfl, hbr, hall⟩ := hrel
      have HA := hide hall
      clear hall
      by_cases hlt : k < n
      · obtain ⟨x, o, rfl, _, _, hcell⟩ := Rd.rec_ (size := 5) (fun _ => rfl) (h.below hbr) HL.out k hlt
        obtain ⟨x', o', rfl, _, _, hcell'⟩ := Rd.rec_ (size := 5) (fun _ => rfl) (h'.below hbr) HL'.out k hlt
        have hlk : k < l.length := by have := HL.out; omega
        have hlk' : k < l'.length := by have := HL'.out; omega
        have hma := (HO.out _ (List.getElem_mem hlk)).below hbr
        have hma' := (HO'.out _ (List.getElem_mem hlk')).below hbr
        obtain ⟨p, hp⟩ : ∃ p, p = l[k] := ⟨_, rfl⟩
        obtain ⟨p', hp'⟩ : ∃ p', p' = l'[k] := ⟨_, rfl⟩
        rw [← hp] at hcell hma
        rw [← hp'] at hcell' hma'
        have HP := hide (And.intro hp hp')
        clear hp hp'
        have q0 : wr.cell? ⟨x, o + k * 5, none⟩ = some (S p.n) := hcell 0 _ rfl
        have q1 : wr.cell? ⟨x, o + k * 5 + 1, none⟩ = some (.bool p.st) := hcell 1 _ rfl
        have q2 : wr.cell? ⟨x, o + k * 5 + 2, none⟩ = some (.slice p.A p.k p.c) := hcell 2 _ rfl
        have q3 : wr.cell? ⟨x, o + k * 5 + 3, none⟩ = some (S p.r.n) := hcell 3 _ rfl
        have q4 : wr.cell? ⟨x, o + k * 5 + 4, none⟩ = some (.bool p.r.a) := hcell 4 _ rfl
        have q0' : wr.cell? ⟨x', o' + k * 5, none⟩ = some (S p'.n) := hcell' 0 _ rfl
        have q1' : wr.cell? ⟨x', o' + k * 5 + 1, none⟩ = some (.bool p'.st) := hcell' 1 _ rfl
        have q2' : wr.cell? ⟨x', o' + k * 5 + 2, none⟩ = some (.slice p'.A p'.k p'.c) := hcell' 2 _ rfl
        have q3' : wr.cell? ⟨x', o' + k * 5 + 3, none⟩ = some (S p'.r.n) := hcell' 3 _ rfl
        have q4' : wr.cell? ⟨x', o' + k * 5 + 4, none⟩ = some (.bool p'.r.a) := hcell' 4 _ rfl
        have hki : (k : Int) < (n : Int) := by omega
        clear hcell hcell'
        have hbB := (hbr.alloc hbr.size (.cells #[S p.n, .bool p.st, .slice p.A p.k p.c, S p.r.n, .bool p.r.a] 58)).alloc (by have := hbr.size; simp; omega) (.cells #[S p'.n, .bool p'.st, .slice p'.A p'.k p'.c, S p'.r.n, .bool p'.r.a] 58)
        have hbb := (((Below.refl w.heap.size wr).alloc hbr.size (.cells #[S p.n, .bool p.st, .slice p.A p.k p.c, S p.r.n, .bool p.r.a] 58)).alloc (by have := hbr.size; simp; omega) (.cells #[S p'.n, .bool p'.st, .slice p'.A p'.k p'.c, S p'.r.n, .bool p'.r.a] 58))
        have hq := sigsame_any p p' _ ((hma.below hbb).weak (fun k hk => by have := hbB.size; omega)) ((hma'.below hbb).weak (fun k hk => by have := hbB.size; omega))
        have HBB := hide hbB
        obtain ⟨Q, hQ⟩ : ∃ Q, Q = decide (p.p = p'.p) := ⟨_, rfl⟩
        rw [← hQ] at hq
        have HQ := hide hq
        have HQQ := hide hQ
        clear hq hQ hbB hbb hma hma'
        go_wp2_with fail
        refine HQ.out.mono ?_
        rintro e w2 ⟨rfl, hb2⟩
        have HB2 := hide (HBB.out.trans (hb2.mono HBB.out.size))
        clear hb2 q0 q1 q2 q3 q4 q0' q1' q2' q3' q4'
        cases Q with
        | false =>
          have HN : Hid (B = false) := hide (by
            rw [HB.out]
            refine decide_eq_false fun hll => ?_
            have h1 : (l.map Sg.p)[k]? = (l'.map Sg.p)[k]? := by rw [hll]
            rw [List.getElem?_map, List.getElem?_map, List.getElem?_eq_getElem hlk, List.getElem?_eq_getElem hlk', ← HP.out.1, ← HP.out.2] at h1
            have := HQQ.out
            simp only [Option.map_some, Option.some.injEq] at h1
            rw [decide_eq_true h1] at this
            cases this)
          go_wp2
          go_ret
          exact ⟨by rw [HN.out] <;> rfl, HB2.out⟩
        | true =>
          have HE : Hid (p.p = p'.p) := hide (of_decide_eq_true HQQ.out.symm)
          clear HQQ HQ
          go_wp2
          go_roundw
          case rel => exact ⟨k + 1, by omega, by go_num, HB2.out, fun i hi hi' hlt' => by
            rcases Nat.lt_or_ge i k with h2 | h2
            · exact HA.out i hi hi' h2
            · obtain rfl : i = k := by omega
              rw [← HP.out.1, ← HP.out.2]
              exact HE.out⟩
          case measure => simp [intOf]; omega
      · have HY : Hid (B = true) := hide (by
          rw [HB.out]
          refine decide_eq_true (List.ext_getElem (by rw [List.length_map, List.length_map, HL.out, HL'.out]) fun i hi hi' => ?_)
          rw [List.getElem_map, List.getElem_map]
          exact HA.out i _ _ (by have := HL.out; simp at hi; omega))
        go_wp2_with fail
        go_ret
        exact ⟨by rw [HY.out] <;> rfl, hbr⟩
  · have HN : Hid (B = false) := hide (by
      rw [HB.out]
      refine decide_eq_false fun hll => en ?_
      have := congrArg List.length hll
      rw [List.length_map, List.length_map, HL.out, HL'.out] at this
      exact this)
    have d : ((n : Int) == (n' : Int)) = false := by simp; omega
    go_enter Try.func34, Try.ntmps34
    go_wp2_with fail
    go_ret
    exact ⟨by rw [HN.out] <;> rfl, Below.refl _ _⟩

set_option maxRecDepth 100000 in
set_option maxHeartbeats 1000000 in
theorem facesame_any (f f' : Fc) (w : World) (h : f.at_ w (fun k => w.heap.size ≤ k)) (h' : f'.at_ w (fun k => w.heap.size ≤ k)) :
    Calls Try.prog 11 #[f.val, f'.val] w (Gives w (.bool (decide (f.p = f'.p)))) := by
  obtain ⟨B, hB⟩ : ∃ B, B = decide (f.p = f'.p) := ⟨_, rfl⟩
  rw [← hB]
  have HB := hide hB
  clear hB
  obtain ⟨n, su, fA, fl, fc, fs, mA, ml, mc, ms⟩ := f
  obtain ⟨n', su', fA', fl', fc', fs', mA', ml', mc', ms'⟩ := f'
  simp only [Fc.p] at HB
  simp only [Fc.val]
  obtain ⟨wB, hwB⟩ : ∃ wB, wB = (w.alloc (.cells #[S n, S su, .slice fA fl fc, .slice mA ml mc] 25)).alloc (.cells #[S n', S su', .slice fA' fl' fc', .slice mA' ml' mc'] 25) := ⟨_, rfl⟩
  have hbB : Below w.heap.size w wB := by rw [hwB]; exact ((Below.refl _ _).alloc (Nat.le_refl _) _).alloc (by simp) _
  have b1 : Blk wB w.heap.size 25 #[S n, S su, .slice fA fl fc, .slice mA ml mc] := by rw [hwB]; exact (Blk.new _ _ _).alloc _
  have b2 : Blk wB (w.heap.size + 1) 25 #[S n', S su', .slice fA' fl' fc', .slice mA' ml' mc'] := by
    rw [hwB]
    have := Blk.new (w.alloc (.cells #[S n, S su, .slice fA fl fc, .slice mA ml mc] 25)) 25 #[S n', S su', .slice fA' fl' fc', .slice mA' ml' mc']
    rwa [World.size_alloc] at this
  have hsB : wB.heap.size = w.heap.size + 2 := by rw [hwB]; simp
  have H := hide ((h.below hbB).weak (G := fun k => wB.heap.size ≤ k) (fun k hk => by omega))
  have H' := hide ((h'.below hbB).weak (G := fun k => wB.heap.size ≤ k) (fun k hk => by omega))
  clear h h'
  by_cases e1 : n = n'
  · subst e1
    by_cases e2 : su = su'
    · subst e2
      have hq := equalvrs_any fA fl fc fs fA' fl' fc' fs' wB H.out.1.1 H.out.1.2.1 H'.out.1.1 H'.out.1.2.1 H.out.1.2.2.1
      obtain ⟨Q, hQ⟩ : ∃ Q, Q = decide (fs = fs') := ⟨_, rfl⟩
      rw [← hQ] at hq
      have HQ := hide hq
      have HQQ := hide hQ
      clear hq hQ
      go_enter Try.func11, Try.ntmps11
      go_wp2_with fail
      rw [← hwB]
      clear hwB
      refine HQ.out.mono ?_
      rintro e w2 ⟨rfl, hb2⟩
      have hB2 := hbB.trans (hb2.mono hbB.size)
      have c3 : w2.cell? ⟨w.heap.size, 3, none⟩ = some (.slice mA ml mc) := (b1.below hb2 b1.lt).cell 3
      have c3' : w2.cell? ⟨w.heap.size + 1, 3, none⟩ = some (.slice mA' ml' mc') := (b2.below hb2 b2.lt).cell 3
      cases Q with
      | false =>
        have HN : Hid (B = false) := hide (by
          rw [HB.out]
          refine decide_eq_false fun hh => ?_
          injection hh with _ hh
          injection hh with _ hh
          injection hh with hh _
          have := HQQ.out
          rw [decide_eq_true hh] at this
          cases this)
        go_wp2
        go_ret
        exact ⟨by rw [HN.out] <;> rfl, hB2⟩
      | true =>
        have hff : fs = fs' := of_decide_eq_true HQQ.out.symm
        subst hff
        have hBB : B = decide (ms.map Sg.p = ms'.map Sg.p) := by rw [HB.out]; simp
        have hq2 := equalsigs_any mA ml mc ms mA' ml' mc' ms' w2 ((H.out.2.1.1.below hb2).weak (fun k _ hk => by have := hb2.size; omega)) H.out.2.1.2.1 ((H'.out.2.1.1.below hb2).weak (fun k _ hk => by have := hb2.size; omega)) H'.out.2.1.2.1 H.out.2.1.2.2.1
          (fun m hm => ((H.out.2.1.2.2.2 m hm).below hb2).weak (fun k hk => by have := hb2.size; omega)) (fun m hm => ((H'.out.2.1.2.2.2 m hm).below hb2).weak (fun k hk => by have := hb2.size; omega))
        rw [← hBB] at hq2
        have HQ2 := hide hq2
        clear hq2 hBB HQ HQQ
        go_wp2_with fail
        refine HQ2.out.mono ?_
        rintro e w3 ⟨rfl, hb3⟩
        go_wp2
        go_ret
        exact ⟨rfl, hB2.trans (hb3.mono hB2.size)⟩
    · have HN : Hid (B = false) := hide (by rw [HB.out]; exact decide_eq_false fun hh => e2 (by injection hh with _ hh; injection hh))
      have d2 : (su == su') = false := by simpa using e2
      go_enter Try.func11, Try.ntmps11
      go_wp2_with fail
      rw [← hwB]
      go_ret
      exact ⟨by rw [HN.out] <;> rfl, hbB⟩
  · have HN : Hid (B = false) := hide (by rw [HB.out]; exact decide_eq_false fun hh => e1 (by injection hh))
    have d1 : (n == n') = false := by simpa using e1
    go_enter Try.func11, Try.ntmps11
    go_wp2_with fail
    rw [← hwB]
    go_ret
    exact ⟨by rw [HN.out] <;> rfl, hbB⟩
end Go.Proofs.Ytkgnoemagklmiaa
