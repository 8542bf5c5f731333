/- Whether two methods, two classes are the same, walked; no statement of the seat is proved here. -/
import Derived.Test.YtleccalfcnkklaaDoorKlass
import Derived.Test.YtleccalfcnkklaaDoorStmSame
namespace Go.Proofs.YtleccalfcnkklaaDoor
open Go.RowKit
set_option maxRecDepth 100000 in
set_option maxHeartbeats 8000000 in
theorem eqfme_any (A1 : Option Addr) (k1 c1 : Nat) (l1 : List Me) (A2 : Option Addr) (k2 c2 : Nat) (l2 : List Me) (P : Me → Me → Bool) (w : World)
    (h1 : Rd w (fun b => w.heap.size ≤ b) 8 A1 k1 (l1.flatMap Me.cells)) (n1 : l1.length = k1) (m1 : k1 ≤ 9223372036854775807) (h2 : Rd w (fun b => w.heap.size ≤ b) 8 A2 k2 (l2.flatMap Me.cells)) (n2 : l2.length = k2) (m2 : k2 ≤ 9223372036854775807)
    (hc : ∀ (i : Nat) (a : i < l1.length) (b : i < l2.length) (w' : World), Below w.heap.size w w' → Calls Tryd.prog 43 #[l1[i].val, l2[i].val] w' (Gives w' (.bool (P l1[i] l2[i])))) :
    Calls Tryd.prog 42 #[.slice A1 k1 c1, .slice A2 k2 c2, .func (.func 43) #[] #[]] w (Gives w (.bool (eqA P l1 l2))) := by
  have H1 := hide h1
  have H2 := hide h2
  have N1 := hide n1
  have N2 := hide n2
  have HC := hide hc
  obtain ⟨R, hR⟩ : ∃ R, R = eqA P l1 l2 := ⟨_, rfl⟩
  rw [← hR]
  have HR := hide (fun _ : Unit => hR)
  clear h1 h2 n1 n2 hc hR
  by_cases hk : k1 = k2
  case neg =>
    have HF : Hid (R = false) := hide (by rw [HR.out ()]; exact eqA_len (by rw [N1.out, N2.out]; exact hk))
    have hk2 : ¬ (k1 : Int) = (k2 : Int) := by omega
    go_enter Tryd.func42, Tryd.ntmps42
    go_wp2_with fail
    go_ret
    exact ⟨by rw [HF.out] <;> rfl, Below.refl _ _⟩
  subst hk
  go_enter Tryd.func42, Tryd.ntmps42
  go_wp2_with fail
  go_loopw [17] (fun i wr => ∃ j : Nat, j ≤ k1 ∧ i = .int .i64 j ∧ Hid (Below w.heap.size w wr) ∧ Hid (∀ i (a : i < l1.length) (b : i < l2.length), i < j → P l1[i] l2[i] = true)) (fun i _ => k1 - (intOf i).toNat)
  case atStart => exact ⟨0, Nat.zero_le _, rfl, hide (Below.refl _ _), hide (by omega)⟩
  case round =>
    obtain ⟨j, hj, rfl, HBR, HALL⟩ := hrel
    by_cases hlt : j < k1
    · obtain ⟨b1, o1, hA1, _, hbl1, hcs1⟩ := Rd.rec_ (f := Me.cells) Me.cells_len (H1.out.below HBR.out) N1.out j hlt
      obtain ⟨b2, o2, hA2, _, hbl2, hcs2⟩ := Rd.rec_ (f := Me.cells) Me.cells_len (H2.out.below HBR.out) N2.out j hlt
      have hl1 : j < l1.length := by rw [N1.out]; exact hlt
      have hl2 : j < l2.length := by rw [N2.out]; exact hlt
      have HT := hide (fun w' hb => HC.out j hl1 hl2 w' hb)
      have HYES : Hid (P l1[j] l2[j] = true → ∀ i (a : i < l1.length) (b : i < l2.length), i < j + 1 → P l1[i] l2[i] = true) := hide (fun h i a b hi => by
        rcases Nat.lt_or_ge i j with h3 | h3
        · exact HALL.out i a b h3
        · obtain rfl : i = j := by omega
          exact h)
      have HNO : Hid (P l1[j] l2[j] = false → R = false) := hide (fun h => by rw [HR.out ()]; exact eqA_no hl1 hl2 h)
      generalize l1[j] = x at hcs1 HT HYES HNO
      generalize l2[j] = y at hcs2 HT HYES HNO
      obtain ⟨X, hX⟩ : ∃ X, X = P x y := ⟨_, rfl⟩
      rw [← hX] at HT HYES HNO
      clear hX
      obtain ⟨xln, xco, xn, xst, xpA, xpk, xpc, xps, xrn, xra, xbA, xbk, xbc, xbs⟩ := x
      obtain ⟨yln, yco, yn, yst, ypA, ypk, ypc, yps, yrn, yra, ybA, ybk, ybc, ybs⟩ := y
      have HQ : Hid (∀ w', Below wr.heap.size wr w' → ∀ j2 u, (Me.cells ⟨yln, yco, yn, yst, ypA, ypk, ypc, yps, yrn, yra, ybA, ybk, ybc, ybs⟩)[j2]? = some u → w'.cell? ⟨b2, o2 + j * 8 + j2, none⟩ = some u) := hide (fun w' hb j2 u hu => (World.cell?_of_block (w := wr) (hb.block b2 hbl2)).trans (hcs2 j2 u hu))
      have q0 := hcs1 0 (.int .i64 xln) rfl
      have q1 := hcs1 1 (.int .i64 xco) rfl
      have q2 := hcs1 2 (S xn) rfl
      have q3 := hcs1 3 (.bool xst) rfl
      have q4 := hcs1 4 (.slice xpA xpk xpc) rfl
      have q5 := hcs1 5 (S xrn) rfl
      have q6 := hcs1 6 (.bool xra) rfl
      have q7 := hcs1 7 (.slice xbA xbk xbc) rfl
      simp only [Nat.add_zero] at q0 q1 q2 q3 q4 q5 q6 q7
      clear hcs1 hcs2
      rw [hA1, hA2]
      have hjk : (j : Int) < (k1 : Int) := by omega
      go_upto_region 6 with fail
      refine name_world ?_
      intro wC hwC
      have hbc : Below wr.heap.size wr wC := by rw [hwC]; first | exact (Below.refl _ _).alloc (Nat.le_refl _) _ | exact ((Below.refl _ _).alloc (Nat.le_refl _) _).setCell (Nat.le_refl _) _
      have HV1 : Hid (Blk wC wr.heap.size 48 #[.int .i64 xln, .int .i64 xco, S xn, .bool xst, .slice xpA xpk xpc, S xrn, .bool xra, .slice xbA xbk xbc]) := hide (by rw [hwC]; exact Blk.new _ _ _)
      have HBC : Hid (Below w.heap.size w wC) := hide (HBR.out.trans (hbc.mono HBR.out.size))
      clear hwC q0 q1 q2 q3 q4 q5 q6 q7
      have r0 := HQ.out wC hbc 0 (.int .i64 yln) rfl
      have r1 := HQ.out wC hbc 1 (.int .i64 yco) rfl
      have r2 := HQ.out wC hbc 2 (S yn) rfl
      have r3 := HQ.out wC hbc 3 (.bool yst) rfl
      have r4 := HQ.out wC hbc 4 (.slice ypA ypk ypc) rfl
      have r5 := HQ.out wC hbc 5 (S yrn) rfl
      have r6 := HQ.out wC hbc 6 (.bool yra) rfl
      have r7 := HQ.out wC hbc 7 (.slice ybA ybk ybc) rfl
      simp only [Nat.add_zero] at r0 r1 r2 r3 r4 r5 r6 r7
      clear hbc HBR
      generalize wr.heap.size = g1 at HV1 ⊢
      go_upto_region 7 with fail
      refine name_world ?_
      intro wD hwD
      have hbd : Below wC.heap.size wC wD := by rw [hwD]; first | exact (Below.refl _ _).alloc (Nat.le_refl _) _ | exact ((Below.refl _ _).alloc (Nat.le_refl _) _).setCell (Nat.le_refl _) _
      have HV2 : Hid (Blk wD wC.heap.size 48 #[.int .i64 yln, .int .i64 yco, S yn, .bool yst, .slice ypA ypk ypc, S yrn, .bool yra, .slice ybA ybk ybc]) := hide (by rw [hwD]; exact Blk.new _ _ _)
      have HW1 := hide (HV1.out.below hbd HV1.out.lt)
      have HBD : Hid (Below w.heap.size w wD) := hide (HBC.out.trans (hbd.mono HBC.out.size))
      clear hwD hbd r0 r1 r2 r3 r4 r5 r6 r7 HV1 HBC
      generalize wC.heap.size = g2 at HV2 ⊢
      have q0 := HW1.out.cell 0
      have q1 := HW1.out.cell 1
      have q2 := HW1.out.cell 2
      have q3 := HW1.out.cell 3
      have q4 := HW1.out.cell 4
      have q5 := HW1.out.cell 5
      have q6 := HW1.out.cell 6
      have q7 := HW1.out.cell 7
      have r0 := HV2.out.cell 0
      have r1 := HV2.out.cell 1
      have r2 := HV2.out.cell 2
      have r3 := HV2.out.cell 3
      have r4 := HV2.out.cell 4
      have r5 := HV2.out.cell 5
      have r6 := HV2.out.cell 6
      have r7 := HV2.out.cell 7
      simp at q0 q1 q2 q3 q4 q5 q6 q7 r0 r1 r2 r3 r4 r5 r6 r7
      go_wp2_with fail
      refine (HT.out _ HBD.out).mono ?_
      rintro e w2 ⟨rfl, hb2⟩
      have HB2 : Hid (Below w.heap.size w w2) := hide (HBD.out.trans (hb2.mono HBD.out.size))
      clear hb2 q0 q1 q2 q3 q4 q5 q6 q7 r0 r1 r2 r3 r4 r5 r6 r7 HBD HV2 HW1
      cases X
      · have HF := hide (HNO.out (by trivial))
        go_wp2_with fail
        go_ret
        exact ⟨by rw [HF.out] <;> rfl, HB2.out⟩
      · have HY := hide (HYES.out (by trivial))
        go_wp2_with fail
        go_roundw
        case rel => exact ⟨j + 1, by omega, by go_num, HB2, HY⟩
        case measure => simp [intOf]; omega
    · obtain rfl : j = k1 := by omega
      have HF : Hid (R = true) := hide (by rw [HR.out ()]; exact eqA_all (by rw [N1.out, N2.out]) (fun i a b => HALL.out i a b (by rw [← N1.out]; exact a)))
      have hjk : ¬ (j : Int) < (j : Int) := by omega
      go_wp2_with fail
      go_ret
      exact ⟨by rw [HF.out] <;> rfl, HBR.out⟩
def mSame (m o : Me) (B : Bool) : Bool := m.n == o.n && m.st == o.st && (m.rn == o.rn && m.ra == o.ra) && decide (m.ps = o.ps) && B
set_option maxRecDepth 100000 in
set_option maxHeartbeats 8000000 in
theorem msame_any (m o : Me) (B : Bool) (w : World) (hm : m.At w (fun b => w.heap.size ≤ b)) (ho : o.At w (fun b => w.heap.size ≤ b))
    (hB : ∀ w', Below w.heap.size w w' → Calls Tryd.prog 44 #[.slice m.bA m.bk m.bc, .slice o.bA o.bk o.bc, .func (.func 26) #[] #[]] w' (Gives w' (.bool B))) :
    Calls Tryd.prog 43 #[m.val, o.val] w (Gives w (.bool (mSame m o B))) := by
  obtain ⟨R, hR⟩ : ∃ R, R = mSame m o B := ⟨_, rfl⟩
  rw [← hR]
  obtain ⟨xln, xco, xn, xst, xpA, xpk, xpc, xps, xrn, xra, xbA, xbk, xbc, xbs⟩ := m
  obtain ⟨yln, yco, yn, yst, ypA, ypk, ypc, yps, yrn, yra, ybA, ybk, ybc, ybs⟩ := o
  have HQV : Hid (∀ w', Below w.heap.size w w' → Calls Tryd.prog 41 #[.slice xpA xpk xpc, .slice ypA ypk ypc] w' (Gives w' (.bool (decide (xps = yps))))) :=
    hide (fun w' hb => equalvrs_any xpA xpk xpc xps ypA ypk ypc yps w' ((hm.pr.below hb).weak fun _ _ h2 => Nat.le_trans hb.size h2) hm.pl ((ho.pr.below hb).weak fun _ _ h2 => Nat.le_trans hb.size h2) ho.pl hm.pm)
  have HB := hide hB
  simp only [mSame] at hR HB
  obtain ⟨b1, d1⟩ : ∃ b, (xn == yn) = b := ⟨_, rfl⟩
  obtain ⟨b2, d2⟩ : ∃ b, (xst == yst) = b := ⟨_, rfl⟩
  obtain ⟨b3, d3⟩ : ∃ b, (xrn == yrn) = b := ⟨_, rfl⟩
  obtain ⟨b4, d4⟩ : ∃ b, (xra == yra) = b := ⟨_, rfl⟩
  generalize decide (xps = yps) = b5 at HQV hR
  rw [d1, d2, d3, d4] at hR
  have HR := hide (fun _ : Unit => hR)
  clear hR hB hm ho
  show Calls Tryd.prog 43 #[.agg #[.int .i64 xln, .int .i64 xco, S xn, .bool xst, .slice xpA xpk xpc, S xrn, .bool xra, .slice xbA xbk xbc], .agg #[.int .i64 yln, .int .i64 yco, S yn, .bool yst, .slice ypA ypk ypc, S yrn, .bool yra, .slice ybA ybk ybc]] w _
  go_enter Tryd.func43, Tryd.ntmps43
  go_upto_region 1 with fail
  refine name_world ?_
  intro wA hwA
  have HBA : Hid (Below w.heap.size w wA) := hide (by rw [hwA]; exact ((Below.refl _ _).alloc (Nat.le_refl _) _).alloc (by simp) _)
  have HE : Hid (Blk wA w.heap.size 48 #[.int .i64 xln, .int .i64 xco, S xn, .bool xst, .slice xpA xpk xpc, S xrn, .bool xra, .slice xbA xbk xbc]) := hide (by rw [hwA]; exact (Blk.new _ _ _).alloc _)
  have HG : Hid (Blk wA (w.heap.size + 1) 48 #[.int .i64 yln, .int .i64 yco, S yn, .bool yst, .slice ypA ypk ypc, S yrn, .bool yra, .slice ybA ybk ybc]) := hide (by
    rw [hwA]
    have := Blk.new (w.alloc (.cells #[.int .i64 xln, .int .i64 xco, S xn, .bool xst, .slice xpA xpk xpc, S xrn, .bool xra, .slice xbA xbk xbc] 48)) 48 #[.int .i64 yln, .int .i64 yco, S yn, .bool yst, .slice ypA ypk ypc, S yrn, .bool yra, .slice ybA ybk ybc]
    rwa [World.size_alloc] at this)
  clear hwA
  obtain ⟨g3, hg3⟩ : ∃ g, g = w.heap.size + 1 := ⟨_, rfl⟩
  rw [← hg3] at HG ⊢
  clear hg3
  obtain ⟨g2, hg2⟩ : ∃ g, g = w.heap.size := ⟨_, rfl⟩
  rw [← hg2] at HE ⊢
  clear hg2
  have q2 := HE.out.cell 2
  have r2 := HG.out.cell 2
  have q3 := HE.out.cell 3
  have r3 := HG.out.cell 3
  have q4 := HE.out.cell 4
  have r4 := HG.out.cell 4
  have q5 := HE.out.cell 5
  have r5 := HG.out.cell 5
  have q6 := HE.out.cell 6
  have r6 := HG.out.cell 6
  simp at q2 r2 q3 r3 q4 r4 q5 r5 q6 r6
  cases b1
  case false =>
    have HF : Hid (R = false) := hide (by rw [HR.out ()]; simp)
    go_wp2_with fail
    go_ret
    exact ⟨by rw [HF.out] <;> rfl, HBA.out⟩
  cases b2
  case false =>
    have HF : Hid (R = false) := hide (by rw [HR.out ()]; simp)
    go_wp2_with fail
    go_ret
    exact ⟨by rw [HF.out] <;> rfl, HBA.out⟩
  cases b3
  case false =>
    have HF : Hid (R = false) := hide (by rw [HR.out ()]; simp)
    go_wp2_with fail
    go_ret
    exact ⟨by rw [HF.out] <;> rfl, HBA.out⟩
  cases b4
  case false =>
    have HF : Hid (R = false) := hide (by rw [HR.out ()]; simp)
    go_wp2_with fail
    go_ret
    exact ⟨by rw [HF.out] <;> rfl, HBA.out⟩
  cases b5
  case false =>
    have HF : Hid (R = false) := hide (by rw [HR.out ()]; simp)
    go_wp2_with (go_at_call 41; refine (HQV.out _ HBA.out).mono ?_; rintro e w2 ⟨rfl, hb2⟩)
    go_ret
    exact ⟨by rw [HF.out] <;> rfl, HBA.out.trans (hb2.mono HBA.out.size)⟩
  have HF : Hid (R = B) := hide (by rw [HR.out ()]; simp)
  go_wp2_with fail
  refine (HQV.out _ HBA.out).mono ?_
  rintro e w2 ⟨rfl, hb2⟩
  have HB2 : Hid (Below w.heap.size w w2) := hide (HBA.out.trans (hb2.mono HBA.out.size))
  have HE2 := hide (HE.out.below hb2 HE.out.lt)
  have HG2 := hide (HG.out.below hb2 HG.out.lt)
  clear q2 r2 q3 r3 q4 r4 q5 r5 q6 r6 hb2 HE HG HBA
  have q7 := HE2.out.cell 7
  have r7 := HG2.out.cell 7
  simp at q7 r7
  go_wp2_with fail
  refine (HB.out _ HB2.out).mono ?_
  rintro e w3 ⟨rfl, hb3⟩
  go_wp2_with fail
  go_ret
  exact ⟨by rw [HF.out] <;> rfl, HB2.out.trans (hb3.mono HB2.out.size)⟩
def cSame (c o : Kl) (B : Bool) : Bool := c.n == o.n && c.su == o.su && decide (c.fs = o.fs) && B
set_option maxRecDepth 100000 in
set_option maxHeartbeats 8000000 in
theorem csame_any (c o : Kl) (B : Bool) (w : World) (hfr : Rd w (fun b => w.heap.size ≤ b) 3 c.fA c.fk (c.fs.flatMap Vr.cells)) (hfl : c.fs.length = c.fk) (hfm : c.fk ≤ 9223372036854775807) (ofr : Rd w (fun b => w.heap.size ≤ b) 3 o.fA o.fk (o.fs.flatMap Vr.cells)) (ofl : o.fs.length = o.fk)
    (hB : ∀ w', Below w.heap.size w w' → Calls Tryd.prog 42 #[.slice c.mA c.mq c.mc, .slice o.mA o.mq o.mc, .func (.func 43) #[] #[]] w' (Gives w' (.bool B))) :
    Calls Tryd.prog 24 #[c.val, o.val] w (Gives w (.bool (cSame c o B))) := by
  obtain ⟨R, hR⟩ : ∃ R, R = cSame c o B := ⟨_, rfl⟩
  rw [← hR]
  obtain ⟨xln, xco, xn, xsu, xfA, xfk, xfc, xfs, xmA, xmq, xmc, xms⟩ := c
  obtain ⟨yln, yco, yn, ysu, yfA, yfk, yfc, yfs, ymA, ymq, ymc, yms⟩ := o
  have HQV : Hid (∀ w', Below w.heap.size w w' → Calls Tryd.prog 41 #[.slice xfA xfk xfc, .slice yfA yfk yfc] w' (Gives w' (.bool (decide (xfs = yfs))))) :=
    hide (fun w' hb => equalvrs_any xfA xfk xfc xfs yfA yfk yfc yfs w' ((hfr.below hb).weak fun _ _ h2 => Nat.le_trans hb.size h2) hfl ((ofr.below hb).weak fun _ _ h2 => Nat.le_trans hb.size h2) ofl hfm)
  have HB := hide hB
  simp only [cSame] at hR HB
  obtain ⟨b1, d1⟩ : ∃ b, (xn == yn) = b := ⟨_, rfl⟩
  obtain ⟨b2, d2⟩ : ∃ b, (xsu == ysu) = b := ⟨_, rfl⟩
  generalize decide (xfs = yfs) = b5 at HQV hR
  rw [d1, d2] at hR
  have HR := hide (fun _ : Unit => hR)
  clear hR hB hfr hfl hfm ofr ofl
  show Calls Tryd.prog 24 #[.agg #[.int .i64 xln, .int .i64 xco, S xn, S xsu, .slice xfA xfk xfc, .slice xmA xmq xmc], .agg #[.int .i64 yln, .int .i64 yco, S yn, S ysu, .slice yfA yfk yfc, .slice ymA ymq ymc]] w _
  go_enter Tryd.func24, Tryd.ntmps24
  go_upto_region 1 with fail
  refine name_world ?_
  intro wA hwA
  have HBA : Hid (Below w.heap.size w wA) := hide (by rw [hwA]; exact ((Below.refl _ _).alloc (Nat.le_refl _) _).alloc (by simp) _)
  have HE : Hid (Blk wA w.heap.size 43 #[.int .i64 xln, .int .i64 xco, S xn, S xsu, .slice xfA xfk xfc, .slice xmA xmq xmc]) := hide (by rw [hwA]; exact (Blk.new _ _ _).alloc _)
  have HG : Hid (Blk wA (w.heap.size + 1) 43 #[.int .i64 yln, .int .i64 yco, S yn, S ysu, .slice yfA yfk yfc, .slice ymA ymq ymc]) := hide (by
    rw [hwA]
    have := Blk.new (w.alloc (.cells #[.int .i64 xln, .int .i64 xco, S xn, S xsu, .slice xfA xfk xfc, .slice xmA xmq xmc] 43)) 43 #[.int .i64 yln, .int .i64 yco, S yn, S ysu, .slice yfA yfk yfc, .slice ymA ymq ymc]
    rwa [World.size_alloc] at this)
  clear hwA
  obtain ⟨g3, hg3⟩ : ∃ g, g = w.heap.size + 1 := ⟨_, rfl⟩
  rw [← hg3] at HG ⊢
  clear hg3
  obtain ⟨g2, hg2⟩ : ∃ g, g = w.heap.size := ⟨_, rfl⟩
  rw [← hg2] at HE ⊢
  clear hg2
  have q2 := HE.out.cell 2
  have r2 := HG.out.cell 2
  have q3 := HE.out.cell 3
  have r3 := HG.out.cell 3
  have q4 := HE.out.cell 4
  have r4 := HG.out.cell 4
  simp at q2 r2 q3 r3 q4 r4
  cases b1
  case false =>
    have HF : Hid (R = false) := hide (by rw [HR.out ()]; simp)
    go_wp2_with fail
    go_ret
    exact ⟨by rw [HF.out] <;> rfl, HBA.out⟩
  cases b2
  case false =>
    have HF : Hid (R = false) := hide (by rw [HR.out ()]; simp)
    go_wp2_with fail
    go_ret
    exact ⟨by rw [HF.out] <;> rfl, HBA.out⟩
  cases b5
  case false =>
    have HF : Hid (R = false) := hide (by rw [HR.out ()]; simp)
    go_wp2_with (go_at_call 41; refine (HQV.out _ HBA.out).mono ?_; rintro e w2 ⟨rfl, hb2⟩)
    go_ret
    exact ⟨by rw [HF.out] <;> rfl, HBA.out.trans (hb2.mono HBA.out.size)⟩
  have HF : Hid (R = B) := hide (by rw [HR.out ()]; simp)
  go_wp2_with fail
  refine (HQV.out _ HBA.out).mono ?_
  rintro e w2 ⟨rfl, hb2⟩
  have HB2 : Hid (Below w.heap.size w w2) := hide (HBA.out.trans (hb2.mono HBA.out.size))
  have HE2 := hide (HE.out.below hb2 HE.out.lt)
  have HG2 := hide (HG.out.below hb2 HG.out.lt)
  clear q2 r2 q3 r3 q4 r4 hb2 HE HG HBA
  have q5 := HE2.out.cell 5
  have r5 := HG2.out.cell 5
  simp at q5 r5
  go_wp2_with fail
  refine (HB.out _ HB2.out).mono ?_
  rintro e w3 ⟨rfl, hb3⟩
  go_wp2_with fail
  go_ret
  exact ⟨by rw [HF.out] <;> rfl, HB2.out.trans (hb3.mono HB2.out.size)⟩
/-- A class is the same as itself. -/
theorem cself_any (c : Kl) (w : World) (h : c.At w (fun b => w.heap.size ≤ b)) : Calls Tryd.prog 24 #[c.val, c.val] w (Gives w (.bool true)) := by
  have h1 := csame_any c c true w h.fr h.fl (Nat.le_trans h.fm.1 h.fm.2) h.fr h.fl (fun w' hb => by
    have h2 := h.on hb
    have h3 := eqfme_any c.mA c.mq c.mc c.ms c.mA c.mq c.mc c.ms (fun a b => mSame a b true) w' h2.mr h2.ml (Nat.le_trans h2.mm.1 h2.mm.2) h2.mr h2.ml (Nat.le_trans h2.mm.1 h2.mm.2) (fun i a b w2 hb2 => by
      have h4 := (h2.ma _ (List.getElem_mem a)).on hb2
      exact msame_any _ _ true w2 h4 h4 (fun w3 hb3 => by
        have h5 := h4.on hb3
        exact eqfst_self _ _ _ _ w3 h5.br h5.bl h5.bm (fun x hx w4 hb4 => ssame_any x w4 ((h5.ba x hx).on hb4))))
    rwa [eqA_self (fun x _ => by simp [mSame])] at h3)
  have e : cSame c c true = true := by simp [cSame]
  rwa [e] at h1
end Go.Proofs.YtleccalfcnkklaaDoor
