/- A statement is the same as itself: slices.EqualFunc, Same, walked by the tree; no statement of the seat is proved here. -/
import Derived.Test.YtleccalfcnkklaaDoorExSame
import Derived.Test.YtleccalfcnkklaaDoorStm
namespace Go.Proofs.YtleccalfcnkklaaDoor
open Go.RowKit
set_option maxRecDepth 100000 in
set_option maxHeartbeats 8000000 in
theorem eqfst_any (A1 : Option Addr) (k1 c1 : Nat) (l1 : List St) (A2 : Option Addr) (k2 c2 : Nat) (l2 : List St) (P : St → St → Bool) (w : World)
    (h1 : Rd w (fun b => w.heap.size ≤ b) 9 A1 k1 (l1.flatMap St.cells)) (n1 : l1.length = k1) (m1 : k1 ≤ 9223372036854775807) (h2 : Rd w (fun b => w.heap.size ≤ b) 9 A2 k2 (l2.flatMap St.cells)) (n2 : l2.length = k2) (m2 : k2 ≤ 9223372036854775807)
    (hc : ∀ (i : Nat) (a : i < l1.length) (b : i < l2.length) (w' : World), Below w.heap.size w w' → Calls Tryd.prog 26 #[l1[i].val, l2[i].val] w' (Gives w' (.bool (P l1[i] l2[i])))) :
    Calls Tryd.prog 44 #[.slice A1 k1 c1, .slice A2 k2 c2, .func (.func 26) #[] #[]] w (Gives w (.bool (eqA P l1 l2))) := by
  have H1 := hide h1
  have H2 := hide h2
  have N1 := hide n1
  have N2 := hide n2
  have HC := hide hc
  obtain ⟨R, hR⟩ : ∃ R, R = eqA P l1 l2 := ⟨_, rfl⟩
  rw [← hR]
  have HR := hide (fun _ : Unit => hR)
  clear h1 h2 n1 n2 hc hR
  by_cases hk : k1 = k2
  case neg =>
    have HF : Hid (R = false) := hide (by rw [HR.out ()]; exact eqA_len (by rw [N1.out, N2.out]; exact hk))
    have hk2 : ¬ (k1 : Int) = (k2 : Int) := by omega
    go_enter Tryd.func44, Tryd.ntmps44
    go_wp2_with fail
    go_ret
    exact ⟨by rw [HF.out] <;> rfl, Below.refl _ _⟩
  subst hk
  go_enter Tryd.func44, Tryd.ntmps44
  go_wp2_with fail
  go_loopw [17] (fun i wr => ∃ j : Nat, j ≤ k1 ∧ i = .int .i64 j ∧ Hid (Below w.heap.size w wr) ∧ Hid (∀ i (a : i < l1.length) (b : i < l2.length), i < j → P l1[i] l2[i] = true)) (fun i _ => k1 - (intOf i).toNat)
  case atStart => exact ⟨0, Nat.zero_le _, rfl, hide (Below.refl _ _), hide (by omega)⟩
  case round =>
    obtain ⟨j, hj, rfl, HBR, HALL⟩ := hrel
    by_cases hlt : j < k1
    · obtain ⟨b1, o1, hA1, _, hbl1, hcs1⟩ := Rd.rec_ (f := St.cells) St.cells_len (H1.out.below HBR.out) N1.out j hlt
      obtain ⟨b2, o2, hA2, _, hbl2, hcs2⟩ := Rd.rec_ (f := St.cells) St.cells_len (H2.out.below HBR.out) N2.out j hlt
      have hl1 : j < l1.length := by rw [N1.out]; exact hlt
      have hl2 : j < l2.length := by rw [N2.out]; exact hlt
      have HT := hide (fun w' hb => HC.out j hl1 hl2 w' hb)
      have HYES : Hid (P l1[j] l2[j] = true → ∀ i (a : i < l1.length) (b : i < l2.length), i < j + 1 → P l1[i] l2[i] = true) := hide (fun h i a b hi => by
        rcases Nat.lt_or_ge i j with h3 | h3
        · exact HALL.out i a b h3
        · obtain rfl : i = j := by omega
          exact h)
      have HNO : Hid (P l1[j] l2[j] = false → R = false) := hide (fun h => by rw [HR.out ()]; exact eqA_no hl1 hl2 h)
      generalize l1[j] = x at hcs1 HT HYES HNO
      generalize l2[j] = y at hcs2 HT HYES HNO
      obtain ⟨X, hX⟩ : ∃ X, X = P x y := ⟨_, rfl⟩
      rw [← hX] at HT HYES HNO
      clear hX
      obtain ⟨xd, xl, xo, xn, xt, xa, xE, xek, xec, xes, xT, xtk, xtc, xts, xL, xlk, xlc, xls⟩ := x
      obtain ⟨yd, yl, yo, yn, yt, ya, yE, yek, yec, yes, yT, ytk, ytc, yts, yL, ylk, ylc, yls⟩ := y
      have HQ : Hid (∀ w', Below wr.heap.size wr w' → ∀ j2 u, (St.cells ⟨yd, yl, yo, yn, yt, ya, yE, yek, yec, yes, yT, ytk, ytc, yts, yL, ylk, ylc, yls⟩)[j2]? = some u → w'.cell? ⟨b2, o2 + j * 9 + j2, none⟩ = some u) := hide (fun w' hb j2 u hu => (World.cell?_of_block (w := wr) (hb.block b2 hbl2)).trans (hcs2 j2 u hu))
      have q0 := hcs1 0 (.int .i64 xd) rfl
      have q1 := hcs1 1 (.int .i64 xl) rfl
      have q2 := hcs1 2 (.int .i64 xo) rfl
      have q3 := hcs1 3 (S xn) rfl
      have q4 := hcs1 4 (S xt) rfl
      have q5 := hcs1 5 (.bool xa) rfl
      have q6 := hcs1 6 (.slice xE xek xec) rfl
      have q7 := hcs1 7 (.slice xT xtk xtc) rfl
      have q8 := hcs1 8 (.slice xL xlk xlc) rfl
      simp only [Nat.add_zero] at q0 q1 q2 q3 q4 q5 q6 q7 q8
      clear hcs1 hcs2
      rw [hA1, hA2]
      have hjk : (j : Int) < (k1 : Int) := by omega
      go_upto_region 6 with fail
      refine name_world ?_
      intro wC hwC
      have hbc : Below wr.heap.size wr wC := by rw [hwC]; first | exact (Below.refl _ _).alloc (Nat.le_refl _) _ | exact ((Below.refl _ _).alloc (Nat.le_refl _) _).setCell (Nat.le_refl _) _
      have HV1 : Hid (Blk wC wr.heap.size 53 #[.int .i64 xd, .int .i64 xl, .int .i64 xo, S xn, S xt, .bool xa, .slice xE xek xec, .slice xT xtk xtc, .slice xL xlk xlc]) := hide (by rw [hwC]; exact Blk.new _ _ _)
      have HBC : Hid (Below w.heap.size w wC) := hide (HBR.out.trans (hbc.mono HBR.out.size))
      clear hwC q0 q1 q2 q3 q4 q5 q6 q7 q8
      have r0 := HQ.out wC hbc 0 (.int .i64 yd) rfl
      have r1 := HQ.out wC hbc 1 (.int .i64 yl) rfl
      have r2 := HQ.out wC hbc 2 (.int .i64 yo) rfl
      have r3 := HQ.out wC hbc 3 (S yn) rfl
      have r4 := HQ.out wC hbc 4 (S yt) rfl
      have r5 := HQ.out wC hbc 5 (.bool ya) rfl
      have r6 := HQ.out wC hbc 6 (.slice yE yek yec) rfl
      have r7 := HQ.out wC hbc 7 (.slice yT ytk ytc) rfl
      have r8 := HQ.out wC hbc 8 (.slice yL ylk ylc) rfl
      simp only [Nat.add_zero] at r0 r1 r2 r3 r4 r5 r6 r7 r8
      clear hbc HBR
      generalize wr.heap.size = g1 at HV1 ⊢
      go_upto_region 7 with fail
      refine name_world ?_
      intro wD hwD
      have hbd : Below wC.heap.size wC wD := by rw [hwD]; first | exact (Below.refl _ _).alloc (Nat.le_refl _) _ | exact ((Below.refl _ _).alloc (Nat.le_refl _) _).setCell (Nat.le_refl _) _
      have HV2 : Hid (Blk wD wC.heap.size 53 #[.int .i64 yd, .int .i64 yl, .int .i64 yo, S yn, S yt, .bool ya, .slice yE yek yec, .slice yT ytk ytc, .slice yL ylk ylc]) := hide (by rw [hwD]; exact Blk.new _ _ _)
      have HW1 := hide (HV1.out.below hbd HV1.out.lt)
      have HBD : Hid (Below w.heap.size w wD) := hide (HBC.out.trans (hbd.mono HBC.out.size))
      clear hwD hbd r0 r1 r2 r3 r4 r5 r6 r7 r8 HV1 HBC
      generalize wC.heap.size = g2 at HV2 ⊢
      have q0 := HW1.out.cell 0
      have q1 := HW1.out.cell 1
      have q2 := HW1.out.cell 2
      have q3 := HW1.out.cell 3
      have q4 := HW1.out.cell 4
      have q5 := HW1.out.cell 5
      have q6 := HW1.out.cell 6
      have q7 := HW1.out.cell 7
      have q8 := HW1.out.cell 8
      have r0 := HV2.out.cell 0
      have r1 := HV2.out.cell 1
      have r2 := HV2.out.cell 2
      have r3 := HV2.out.cell 3
      have r4 := HV2.out.cell 4
      have r5 := HV2.out.cell 5
      have r6 := HV2.out.cell 6
      have r7 := HV2.out.cell 7
      have r8 := HV2.out.cell 8
      simp at q0 q1 q2 q3 q4 q5 q6 q7 q8 r0 r1 r2 r3 r4 r5 r6 r7 r8
      go_wp2_with fail
      refine (HT.out _ HBD.out).mono ?_
      rintro e w2 ⟨rfl, hb2⟩
      have HB2 : Hid (Below w.heap.size w w2) := hide (HBD.out.trans (hb2.mono HBD.out.size))
      clear hb2 q0 q1 q2 q3 q4 q5 q6 q7 q8 r0 r1 r2 r3 r4 r5 r6 r7 r8 HBD HV2 HW1
      cases X
      · have HF := hide (HNO.out (by trivial))
        go_wp2_with fail
        go_ret
        exact ⟨by rw [HF.out] <;> rfl, HB2.out⟩
      · have HY := hide (HYES.out (by trivial))
        go_wp2_with fail
        go_roundw
        case rel => exact ⟨j + 1, by omega, by go_num, HB2, HY⟩
        case measure => simp [intOf]; omega
    · obtain rfl : j = k1 := by omega
      have HF : Hid (R = true) := hide (by rw [HR.out ()]; exact eqA_all (by rw [N1.out, N2.out]) (fun i a b => HALL.out i a b (by rw [← N1.out]; exact a)))
      have hjk : ¬ (j : Int) < (j : Int) := by omega
      go_wp2_with fail
      go_ret
      exact ⟨by rw [HF.out] <;> rfl, HBR.out⟩
/-- A statement's parts are the same as themselves. -/
theorem eqfst_self (A : Option Addr) (k c : Nat) (ts : List St) (w : World) (hr : Rd w (fun b => w.heap.size ≤ b) 9 A k (ts.flatMap St.cells)) (hl : ts.length = k) (hk : k ≤ 9223372036854775807)
    (h : ∀ x ∈ ts, ∀ w', Below w.heap.size w w' → Calls Tryd.prog 26 #[x.val, x.val] w' (Gives w' (.bool true))) : Calls Tryd.prog 44 #[.slice A k c, .slice A k c, .func (.func 26) #[] #[]] w (Gives w (.bool true)) := by
  have h := eqfst_any A k c ts A k c ts (fun _ _ => true) w hr hl hk hr hl hk (fun i a b w2 hb2 => h _ (List.getElem_mem a) w2 hb2)
  rwa [eqA_self (fun _ _ => rfl)] at h
theorem eqfex_self (A : Option Addr) (k c : Nat) (es : List Ex) (w : World) (hr : Rd w (fun b => w.heap.size ≤ b) 11 A k (es.flatMap Ex.cells)) (hl : es.length = k) (hk : k ≤ 9223372036854775807)
    (ha : ∀ x ∈ es, x.At w (fun b => w.heap.size ≤ b)) : Calls Tryd.prog 40 #[.slice A k c, .slice A k c, .func (.func 22) #[] #[]] w (Gives w (.bool true)) := by
  have h := eqfex_any A k c es A k c es (fun _ _ => true) w hr hl hk hr hl hk (fun i a b w2 hb2 => esame_any _ w2 ((ha _ (List.getElem_mem a)).on hb2))
  rwa [eqA_self (fun _ _ => rfl)] at h
set_option maxRecDepth 100000 in
set_option maxHeartbeats 8000000 in
theorem ssame_any (s : St) : ∀ (w : World), s.At w (fun b => w.heap.size ≤ b) → Calls Tryd.prog 26 #[s.val, s.val] w (Gives w (.bool true)) := by
  induction s using St.ind with
  | h s iht ihl =>
    intro w hat
    obtain ⟨xd, xl, xo, xn, xt, xa, xE, xek, xec, xes, xT, xtk, xtc, xts, xL, xlk, xlc, xls⟩ := s
    cases hat with
    | mk hr hl hkc hk hea tr tl tkc tk' hta lr ll lkc lk' hla hi hs =>
    have HEE : Hid (∀ w', Below w.heap.size w w' → Calls Tryd.prog 40 #[.slice xE xek xec, .slice xE xek xec, .func (.func 22) #[] #[]] w' (Gives w' (.bool true))) :=
      hide (fun w' hb => eqfex_self _ _ _ xes w' ((hr.below hb).weak fun _ _ h2 => Nat.le_trans hb.size h2) hl (Nat.le_trans hkc hk) (fun x hx => (hea x hx).on hb))
    have HET : Hid (∀ w', Below w.heap.size w w' → Calls Tryd.prog 44 #[.slice xT xtk xtc, .slice xT xtk xtc, .func (.func 26) #[] #[]] w' (Gives w' (.bool true))) :=
      hide (fun w' hb => eqfst_self _ _ _ xts w' ((tr.below hb).weak fun _ _ h2 => Nat.le_trans hb.size h2) tl (Nat.le_trans tkc tk') (fun x hx w2 hb2 => iht x hx w2 ((hta x hx).on (hb.trans (hb2.mono hb.size)))))
    have HEL : Hid (∀ w', Below w.heap.size w w' → Calls Tryd.prog 44 #[.slice xL xlk xlc, .slice xL xlk xlc, .func (.func 26) #[] #[]] w' (Gives w' (.bool true))) :=
      hide (fun w' hb => eqfst_self _ _ _ xls w' ((lr.below hb).weak fun _ _ h2 => Nat.le_trans hb.size h2) ll (Nat.le_trans lkc lk') (fun x hx w2 hb2 => ihl x hx w2 ((hla x hx).on (hb.trans (hb2.mono hb.size)))))
    clear iht ihl hr hl hkc hk hea tr tl tkc tk' hta lr ll lkc lk' hla hi hs
    show Calls Tryd.prog 26 #[.agg #[.int .i64 xd, .int .i64 xl, .int .i64 xo, S xn, S xt, .bool xa, .slice xE xek xec, .slice xT xtk xtc, .slice xL xlk xlc], .agg #[.int .i64 xd, .int .i64 xl, .int .i64 xo, S xn, S xt, .bool xa, .slice xE xek xec, .slice xT xtk xtc, .slice xL xlk xlc]] w _
    go_enter Tryd.func26, Tryd.ntmps26
    go_upto_region 1 with fail
    refine name_world ?_
    intro wA hwA
    have HBA : Hid (Below w.heap.size w wA) := hide (by rw [hwA]; exact ((Below.refl _ _).alloc (Nat.le_refl _) _).alloc (by simp) _)
    have HE : Hid (Blk wA w.heap.size 53 #[.int .i64 xd, .int .i64 xl, .int .i64 xo, S xn, S xt, .bool xa, .slice xE xek xec, .slice xT xtk xtc, .slice xL xlk xlc]) := hide (by rw [hwA]; exact (Blk.new _ _ _).alloc _)
    have HF : Hid (Blk wA (w.heap.size + 1) 53 #[.int .i64 xd, .int .i64 xl, .int .i64 xo, S xn, S xt, .bool xa, .slice xE xek xec, .slice xT xtk xtc, .slice xL xlk xlc]) := hide (by
      rw [hwA]
      have := Blk.new (w.alloc (.cells #[.int .i64 xd, .int .i64 xl, .int .i64 xo, S xn, S xt, .bool xa, .slice xE xek xec, .slice xT xtk xtc, .slice xL xlk xlc] 53)) 53 #[.int .i64 xd, .int .i64 xl, .int .i64 xo, S xn, S xt, .bool xa, .slice xE xek xec, .slice xT xtk xtc, .slice xL xlk xlc]
      rwa [World.size_alloc] at this)
    clear hwA
    obtain ⟨g3, hg3⟩ : ∃ g, g = w.heap.size + 1 := ⟨_, rfl⟩
    rw [← hg3] at HF ⊢
    clear hg3
    obtain ⟨g2, hg2⟩ : ∃ g, g = w.heap.size := ⟨_, rfl⟩
    rw [← hg2] at HE ⊢
    clear hg2
    have hkd : (xd == xd) = true := by simp
    have hnn : (xn == xn) = true := by simp
    have htt : (xt == xt) = true := by simp
    have q0 := HE.out.cell 0
    have r0 := HF.out.cell 0
    have q3 := HE.out.cell 3
    have r3 := HF.out.cell 3
    have q4 := HE.out.cell 4
    have r4 := HF.out.cell 4
    have q5 := HE.out.cell 5
    have r5 := HF.out.cell 5
    have q6 := HE.out.cell 6
    have r6 := HF.out.cell 6
    simp at q0 q3 q4 q5 q6 r0 r3 r4 r5 r6
    go_wp2_with fail
    refine (HEE.out _ HBA.out).mono ?_
    rintro e w2 ⟨rfl, hb2⟩
    have HB2 : Hid (Below w.heap.size w w2) := hide (HBA.out.trans (hb2.mono HBA.out.size))
    have HE2 := hide (HE.out.below hb2 HE.out.lt)
    have HF2 := hide (HF.out.below hb2 HF.out.lt)
    clear q0 q3 q4 q5 q6 r0 r3 r4 r5 r6 hb2 HE HF
    have q7 := HE2.out.cell 7
    have r7 := HF2.out.cell 7
    simp at q7 r7
    go_wp2_with fail
    refine (HET.out _ HB2.out).mono ?_
    rintro e w3 ⟨rfl, hb3⟩
    have HB3 : Hid (Below w.heap.size w w3) := hide (HB2.out.trans (hb3.mono HB2.out.size))
    have HE3 := hide (HE2.out.below hb3 HE2.out.lt)
    have HF3 := hide (HF2.out.below hb3 HF2.out.lt)
    clear q7 r7 hb3 HE2 HF2
    have q8 := HE3.out.cell 8
    have r8 := HF3.out.cell 8
    simp at q8 r8
    go_wp2_with fail
    refine (HEL.out _ HB3.out).mono ?_
    rintro e w4 ⟨rfl, hb4⟩
    go_wp2_with fail
    go_ret
    exact ⟨rfl, HB3.out.trans (hb4.mono HB3.out.size)⟩
    end Go.Proofs.YtleccalfcnkklaaDoor
