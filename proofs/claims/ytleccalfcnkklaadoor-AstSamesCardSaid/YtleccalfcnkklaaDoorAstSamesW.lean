/- AstSames returns true for whatever class: the walk. -/
import Derived.Test.YtleccalfcnkklaaDoorSamesL
import Derived.Test.YtleccalfcnkklaaDoorAstAhead
namespace Go.Proofs.YtleccalfcnkklaaDoor
open Go.RowKit
set_option linter.unusedVariables false

set_option maxRecDepth 100000 in
set_option maxHeartbeats 40000000 in
theorem sames_walk (c : Kl) (which : Int) (name : List UInt8) (w : World) (h0 : c.At w (fun _ => False)) : Calls Tryd.prog 6 #[c.val, .int .i64 which, S name] w (Gives w (.bool true)) := by
  have h := h0.old
  obtain ⟨N, hN7, hNe⟩ := i64_lowT 3 7 (by decide) (by decide) which
  have hNN : bits .and .i64 which 7 = (N : Int) := hNe
  clear hNe
  have HFC : Hid (∀ w', Below w.heap.size w w' → Calls Tryd.prog 23 #[c.val] w' (Gives w' (.bool c.few))) := hide (fun w' hb => fewclass_any c w' (h.on hb))
  have HFW : Hid (c.few = true → c.n.length ≤ 80 ∧ c.su.length ≤ 80 ∧ c.fk ≤ 10 ∧ c.mq ≤ 10 ∧ ∀ m ∈ c.ms, m.pk ≤ 8 ∧ m.bk ≤ 10) := hide (fun hf => by
    simp only [Kl.few, Bool.and_eq_true, decide_eq_true_eq, List.all_eq_true] at hf
    obtain ⟨⟨⟨h1, h2⟩, h3⟩, h4⟩ := hf
    refine ⟨by omega, by omega, h1, h2, fun m hm => ?_⟩
    have h5 := h4 m hm
    simp only [Me.few, fewL, Bool.and_eq_true, decide_eq_true_eq] at h5
    have h6 := (h.ma m hm).bl
    exact ⟨h5.1.1, by omega⟩)
  have HH := hide (fun w => ahead_any w)
  have HAT := hide h
  clear h h0
  obtain ⟨cln, cco, cn, csu, cfA, cfk, cfc, cfs, cmA, cmq, cmc, cms⟩ := c
  replace HFC : Hid (∀ w', Below w.heap.size w w' → Calls Tryd.prog 23 #[.agg #[.int .i64 cln, .int .i64 cco, S cn, S csu, .slice cfA cfk cfc, .slice cmA cmq cmc]] w' (Gives w' (.bool (Kl.few ⟨cln, cco, cn, csu, cfA, cfk, cfc, cfs, cmA, cmq, cmc, cms⟩)))) := HFC
  generalize Kl.few ⟨cln, cco, cn, csu, cfA, cfk, cfc, cfs, cmA, cmq, cmc, cms⟩ = FW at HFC HFW
  show Calls Tryd.prog 6 #[.agg #[.int .i64 cln, .int .i64 cco, S cn, S csu, .slice cfA cfk cfc, .slice cmA cmq cmc], .int .i64 which, S name] w _
  go_enter Tryd.func6, Tryd.ntmps6
  go_upto_region 1 with fail
  refine name_world ?_
  intro wA hwA
  have HBA : Hid (Below w.heap.size w wA) := hide (by rw [hwA]; exact (Below.refl _ _).alloc (Nat.le_refl _) _)
  have HE : Hid (Blk wA w.heap.size 43 #[.int .i64 cln, .int .i64 cco, S cn, S csu, .slice cfA cfk cfc, .slice cmA cmq cmc]) := hide (by rw [hwA]; exact Blk.new _ _ _)
  clear hwA
  obtain ⟨g2, hg2⟩ : ∃ g, g = w.heap.size := ⟨_, rfl⟩
  rw [← hg2] at HE ⊢
  have hg2l : w.heap.size ≤ g2 := by omega
  clear hg2
  go_upto_region 3 with (go_at_call 10; refine (HH.out _).mono ?_; rintro e w1 ⟨rfl, hb1⟩)
  have HB1 : Hid (Below w.heap.size w w1) := hide (HBA.out.trans (hb1.mono HBA.out.size))
  have HE1 := hide (HE.out.below hb1 HE.out.lt)
  clear hb1 HBA HE HH
  have q0 := HE1.out.cell 0
  have q1 := HE1.out.cell 1
  have q2 := HE1.out.cell 2
  have q3 := HE1.out.cell 3
  have q4 := HE1.out.cell 4
  have q5 := HE1.out.cell 5
  simp at q0 q1 q2 q3 q4 q5
  cases FW
  case false =>
    go_wp2_with (go_at_call 23; refine (HFC.out _ HB1.out).mono ?_; rintro e w2 ⟨rfl, hb2⟩)
    go_ret
    exact ⟨rfl, HB1.out.trans (hb2.mono HB1.out.size)⟩
  obtain ⟨hcn, hcs, hcf, hcm, hme⟩ := HFW.out (by trivial)
  have HME := hide hme
  clear hme HFW
  obtain ⟨b40, d40⟩ : ∃ b, decide (40 < (name.length : Int)) = b := ⟨_, rfl⟩
  go_wp2_with fail
  refine (HFC.out _ HB1.out).mono ?_
  rintro e w2 ⟨rfl, hb2⟩
  have HB2 : Hid (Below w.heap.size w w2) := hide (HB1.out.trans (hb2.mono HB1.out.size))
  have HE2 := hide (HE1.out.below hb2 HE1.out.lt)
  clear hb2 HE1 HB1 HFC q0 q1 q2 q3 q4 q5
  have q0 := HE2.out.cell 0
  have q1 := HE2.out.cell 1
  have q2 := HE2.out.cell 2
  have q3 := HE2.out.cell 3
  have q4 := HE2.out.cell 4
  have q5 := HE2.out.cell 5
  simp at q0 q1 q2 q3 q4 q5
  cases b40
  case true =>
    go_wp2_with fail
    go_ret
    exact ⟨rfl, HB2.out⟩
  have hname : name.length ≤ 40 := by simp at d40; omega
  by_cases hm0 : cmq = 0
  case pos =>
    subst hm0
    go_wp2_with fail
    go_ret
    exact ⟨rfl, HB2.out⟩
  have dm0 : ((cmq : Int) == 0) = false := by simp; omega
  have hmpos : (0 : Int) < (cmq : Int) := by omega
  go_upto_region 6 with fail
  refine name_world ?_
  intro w3 hw3
  have hb3 : Below w2.heap.size w2 w3 := by rw [hw3]; exact (Below.refl _ _).alloc (Nat.le_refl _) _
  have HD3 : Hid (Blk w3 w2.heap.size 43 #[.int .i64 cln, .int .i64 cco, S cn, S csu, .slice cfA cfk cfc, .slice cmA cmq cmc]) := hide (by rw [hw3]; exact Blk.new _ _ _)
  have HB3 : Hid (Below w.heap.size w w3) := hide (HB2.out.trans (hb3.mono HB2.out.size))
  have HE3 := hide (HE2.out.below hb3 HE2.out.lt)
  have HNE := hide (show g2 ≠ w2.heap.size from by have := HE2.out.lt; omega)
  clear hw3 hb3 HE2 q0 q1 q2 q3 q4 q5 d40 dm0
  obtain ⟨gd, hgd⟩ : ∃ g, g = w2.heap.size := ⟨_, rfl⟩
  have hgdl : w.heap.size ≤ gd := by rw [hgd]; exact HB2.out.size
  rw [← hgd] at HD3 HNE ⊢
  clear hgd HB2
  have d5 := fun o => (HE3.out.alloc o).cell 5
  simp at d5
  have HAT3 := hide (HAT.out.on HB3.out)
  have HOWN : Hid ((w3.alloc (.cells #[] 48)).ownsRow w.heap.size 48 8 (.slice (some ⟨w3.heap.size, 0, none⟩) 0 0) 0 []) := hide (own_lit w3 _ HB3.out.size _ _)
  have HRM : Hid (Rd (w3.alloc (.cells #[] 48)) (fun _ => False) 8 cmA cmq (cms.flatMap Me.cells)) := hide ((HAT3.out.mr.alloc _).weak (fun _ _ h => h.elim))
  have HONE : Hid (∀ u ∈ cms.flatMap Me.cells, u.oneCell' = true) := hide (by
    intro u hu
    obtain ⟨m, _, hu⟩ := List.mem_flatMap.1 hu
    simp [Me.cells] at hu
    rcases hu with rfl | rfl | rfl | rfl | rfl | rfl | rfl | rfl <;> rfl)
  have HD3a : Hid (Blk (w3.alloc (.cells #[] 48)) gd 43 #[.int .i64 cln, .int .i64 cco, S cn, S csu, .slice cfA cfk cfc, .slice cmA cmq cmc]) := hide (HD3.out.alloc _)
  have HE3a : Hid (Blk (w3.alloc (.cells #[] 48)) g2 43 #[.int .i64 cln, .int .i64 cco, S cn, S csu, .slice cfA cfk cfc, .slice cmA cmq cmc]) := hide (HE3.out.alloc _)
  have HB3a : Hid (Below w.heap.size w (w3.alloc (.cells #[] 48))) := hide (HB3.out.alloc HB3.out.size _)
  have hlitd : gd ≠ w3.heap.size := by have := HD3.out.lt; omega
  have hlite : g2 ≠ w3.heap.size := by have := HE3.out.lt; omega
  have hlit : w.heap.size ≤ w3.heap.size := HB3.out.size
  clear HE3 HD3 HB3
  go_wp2_with (at_builtin; refine app_rd rfl (.tmp 27) (.tmp 29) 41 rfl w.heap.size 48 _ 8 112 Tryd.underlying41 me_info rfl (by decide) _ 0 [] rfl HOWN.out cmA cmq cmc (cms.flatMap Me.cells) rfl HRM.out HONE.out (by unfold maxLen; omega) (by omega) HB3a.out.size ?_)
  intro A' c' w4 hown hgrow hat
  try simp only [Nat.zero_add, List.nil_append] at hown
  have HB4 : Hid (Below w.heap.size w w4) := hide (HB3a.out.grown hgrow HB3a.out.size (fun k hk => by simp [Value.ownBlock] at hk; omega))
  have HD4 := hide (HD3a.out.grown hgrow (by simp [Value.ownBlock]; exact hlitd))
  have HE4 := hide (HE3a.out.grown hgrow (by simp [Value.ownBlock]; exact hlite))
  have HCAP := hide (own_cap hown)
  obtain ⟨gm, cap, cur, e1, hgm, hhm, _, _, _, htk⟩ : ∃ g cap cur, (Value.slice A' cmq c') = .slice (some ⟨g, 0, none⟩) cmq cap ∧ w.heap.size ≤ g ∧ w4.heap[g]? = some (.cells cur 48 (0, 0)) ∧ cmq ≤ cap ∧ cap ≤ maxLen ∧ cur.size = cap * 8 ∧ cur.toList.take (cmq * 8) = cms.flatMap Me.cells := by
    rcases hown.2 with ⟨_, h0⟩ | h
    · exact absurd h0 hm0
    · exact h
  injection e1 with e1 _ e3
  subst e1 e3
  have HM4 : Hid (Blk w4 gm 48 cur) := hide hhm
  have HTK := hide htk
  clear hown hgrow hat hhm htk HOWN HRM HONE HD3a HE3a HB3a hlitd hlite hlit d5 HAT3
  have hgmd : gm ≠ gd := blk_ne HM4.out HD4.out (by decide)
  have hgme : gm ≠ g2 := blk_ne HM4.out HE4.out (by decide)
  have k5 := HD4.out.cell 5
  simp at k5
  have z5 := HD4.out.frozen 5
  go_upto_region 7 with fail
  refine name_world ?_
  intro w5 hw5
  have HD5 : Hid (Blk w5 gd 43 #[.int .i64 cln, .int .i64 cco, S cn, S csu, .slice cfA cfk cfc, .slice (some ⟨gm, 0, none⟩) cmq c']) := hide (by rw [hw5]; exact HD4.out.set_ 5 _)
  have HE5 : Hid (Blk w5 g2 43 #[.int .i64 cln, .int .i64 cco, S cn, S csu, .slice cfA cfk cfc, .slice cmA cmq cmc]) := hide (by rw [hw5]; exact HE4.out.far HNE.out _)
  have HM5 : Hid (Blk w5 gm 48 cur) := hide (by rw [hw5]; exact HM4.out.far hgmd _)
  have HB5 : Hid (Below w.heap.size w w5) := hide (by rw [hw5]; exact HB4.out.setCell hgdl _)
  clear hw5 HD4 HE4 HM4 HB4 k5 z5
  have k5 := HD5.out.cell 5
  simp at k5
  go_upto_region 13 with fail
  clear k5
  obtain ⟨m0, r, hms⟩ : ∃ m0 r, cms = m0 :: r := by
    rcases cms with _ | ⟨m0, r⟩
    · exact absurd (show 0 = cmq from HAT.out.ml).symm hm0
    · exact ⟨m0, r, rfl⟩
  subst hms
  obtain ⟨mln, mco, mn, mst, mpA, mpk, mpc, mps, mrn, mra, mbA, mbk, mbc, mbs⟩ := m0
  have HM0 := hide (HME.out ⟨mln, mco, mn, mst, mpA, mpk, mpc, mps, mrn, mra, mbA, mbk, mbc, mbs⟩ List.mem_cons_self)
  have hcl : ((⟨mln, mco, mn, mst, mpA, mpk, mpc, mps, mrn, mra, mbA, mbk, mbc, mbs⟩ : Me) :: r).length = cmq := HAT.out.ml
  have HFL : Hid (∀ m' : Me, ((m' :: r).flatMap Me.cells).length = cmq * 8) := hide (fun m' => by rw [flat_len _ 8 Me.cells_len, ← hcl]; rfl)
  have hc8 : 8 ≤ cmq * 8 := by omega
  have m0 : w5.cell? ⟨gm, 0, none⟩ = some (.int .i64 mln) := (HM5.out.cell 0).trans ((cur_at HTK.out (by omega)).trans rfl)
  have m1 : w5.cell? ⟨gm, 1, none⟩ = some (.int .i64 mco) := (HM5.out.cell 1).trans ((cur_at HTK.out (by omega)).trans rfl)
  have m2 : w5.cell? ⟨gm, 2, none⟩ = some (S mn) := (HM5.out.cell 2).trans ((cur_at HTK.out (by omega)).trans rfl)
  have m3 : w5.cell? ⟨gm, 3, none⟩ = some (.bool mst) := (HM5.out.cell 3).trans ((cur_at HTK.out (by omega)).trans rfl)
  have m4 : w5.cell? ⟨gm, 4, none⟩ = some (.slice mpA mpk mpc) := (HM5.out.cell 4).trans ((cur_at HTK.out (by omega)).trans rfl)
  have m5 : w5.cell? ⟨gm, 5, none⟩ = some (S mrn) := (HM5.out.cell 5).trans ((cur_at HTK.out (by omega)).trans rfl)
  have m6 : w5.cell? ⟨gm, 6, none⟩ = some (.bool mra) := (HM5.out.cell 6).trans ((cur_at HTK.out (by omega)).trans rfl)
  have m7 : w5.cell? ⟨gm, 7, none⟩ = some (.slice mbA mbk mbc) := (HM5.out.cell 7).trans ((cur_at HTK.out (by omega)).trans rfl)
  have HCA := hide (fun w' (hb : Below w.heap.size w w') => HAT.out.on hb)
  have HCF : Hid (∀ w', Below w.heap.size w w' → ∀ m' : Me, m'.At w' (fun b => w'.heap.size ≤ b) → ∀ x ∈ (m' :: r), x.At w' (fun b => w'.heap.size ≤ b)) := hide (fun w' hb m' hm' x hx => by
    rcases List.mem_cons.1 hx with rfl | hx
    · exact hm'
    · exact (HCA.out w' hb).ma x (List.mem_cons_of_mem _ hx))
  by_cases hc0 : N = 0
  case pos =>
    subst hc0
    have e2 := HE5.out.cell 2
    simp at e2
    have k2 := HD5.out.cell 2
    simp at k2
    have z2 := HD5.out.frozen 2
    go_upto_region 27 with fail
    refine name_world ?_
    intro wF hwF
    have HDF : Hid (Blk wF gd 43 #[.int .i64 cln, .int .i64 cco, S (cn ++ [120]), S csu, .slice cfA cfk cfc, .slice (some ⟨gm, 0, none⟩) cmq c']) := hide (by rw [hwF]; exact HD5.out.set_ 2 _)
    have HEF : Hid (Blk wF g2 43 #[.int .i64 cln, .int .i64 cco, S cn, S csu, .slice cfA cfk cfc, .slice cmA cmq cmc]) := hide (by rw [hwF]; exact HE5.out.far HNE.out _)
    have HMF : Hid (Blk wF gm 48 cur) := hide (by rw [hwF]; exact HM5.out.far hgmd _)
    have HBF : Hid (Below w.heap.size w wF) := hide (by rw [hwF]; exact HB5.out.setCell hgdl _)
    have htkF := HTK.out
    clear hwF k2 z2 e2 HD5 HE5 HM5 HB5 m0 m1 m2 m3 m4 m5 m6 m7
    have hdat : Kl.At wF (fun b => wF.heap.size ≤ b) (⟨cln, cco, (cn ++ [120]), csu, cfA, cfk, cfc, cfs, (some ⟨gm, 0, none⟩), cmq, c', ((⟨mln, mco, mn, mst, mpA, mpk, mpc, mps, mrn, mra, mbA, mbk, mbc, mbs⟩ : Me) :: r)⟩ : Kl) := by
      have hcF := HCA.out wF HBF.out
      have hm0A := hcF.ma _ List.mem_cons_self
      exact ⟨hcF.fr, hcF.fl, hcF.fm, rd_blk HMF.out htkF (HFL.out _) (by have := HMF.out.lt; omega), hcl, HCAP.out, HCF.out wF HBF.out _ hm0A, ⟨by simp; omega, hcF.sb.2⟩⟩
    have hcF := HCA.out wF HBF.out
    have HS1 : Hid (∀ w', Below wF.heap.size wF w' → Calls Tryd.prog 24 #[.agg #[.int .i64 cln, .int .i64 cco, S cn, S csu, .slice cfA cfk cfc, .slice cmA cmq cmc], .agg #[.int .i64 cln, .int .i64 cco, S (cn ++ [120]), S csu, .slice cfA cfk cfc, .slice (some ⟨gm, 0, none⟩) cmq c']] w' (Gives w' (.bool false))) := hide (fun w' hb => by
      have h := pair_any _ _ w' (hcF.on hb) (hdat.on hb) alike_same
      rw [show cSame _ _ _ = false by simp [cSame]] at h
      exact h)
    have HS2 : Hid (∀ w', Below wF.heap.size wF w' → Calls Tryd.prog 24 #[.agg #[.int .i64 cln, .int .i64 cco, S (cn ++ [120]), S csu, .slice cfA cfk cfc, .slice (some ⟨gm, 0, none⟩) cmq c'], .agg #[.int .i64 cln, .int .i64 cco, S cn, S csu, .slice cfA cfk cfc, .slice cmA cmq cmc]] w' (Gives w' (.bool false))) := hide (fun w' hb => by
      have h := pair_any _ _ w' (hdat.on hb) (hcF.on hb) alike_same
      rw [show cSame _ _ _ = false by simp [cSame]] at h
      exact h)
    clear hdat hcF
    have q0 := HEF.out.cell 0
    have q1 := HEF.out.cell 1
    have q2 := HEF.out.cell 2
    have q3 := HEF.out.cell 3
    have q4 := HEF.out.cell 4
    have q5 := HEF.out.cell 5
    simp at q0 q1 q2 q3 q4 q5
    have t0 := HDF.out.cell 0
    have t1 := HDF.out.cell 1
    have t2 := HDF.out.cell 2
    have t3 := HDF.out.cell 3
    have t4 := HDF.out.cell 4
    have t5 := HDF.out.cell 5
    simp at t0 t1 t2 t3 t4 t5
    go_wp2_with fail
    refine (HS1.out _ (Below.refl _ _)).mono ?_
    rintro e w7 ⟨rfl, hb7⟩
    have HE7 := hide (HEF.out.below hb7 HEF.out.lt)
    have HD7 := hide (HDF.out.below hb7 HDF.out.lt)
    have HS3 := hide (HS2.out w7 hb7)
    have HB7 : Hid (Below w.heap.size w w7) := hide (HBF.out.trans (hb7.mono HBF.out.size))
    clear hb7 q0 q1 q2 q3 q4 q5 t0 t1 t2 t3 t4 t5
    have q0 := HE7.out.cell 0
    have q1 := HE7.out.cell 1
    have q2 := HE7.out.cell 2
    have q3 := HE7.out.cell 3
    have q4 := HE7.out.cell 4
    have q5 := HE7.out.cell 5
    simp at q0 q1 q2 q3 q4 q5
    have t0 := HD7.out.cell 0
    have t1 := HD7.out.cell 1
    have t2 := HD7.out.cell 2
    have t3 := HD7.out.cell 3
    have t4 := HD7.out.cell 4
    have t5 := HD7.out.cell 5
    simp at t0 t1 t2 t3 t4 t5
    go_wp2_with fail
    refine HS3.out.mono ?_
    rintro e w8 ⟨rfl, hb8⟩
    go_wp2_with fail
    go_ret
    exact ⟨rfl, HB7.out.trans (hb8.mono HB7.out.size)⟩
  by_cases hc1 : N = 1
  case pos =>
    subst hc1
    have e3 := HE5.out.cell 3
    simp at e3
    have k3 := HD5.out.cell 3
    simp at k3
    have z3 := HD5.out.frozen 3
    go_upto_region 27 with fail
    refine name_world ?_
    intro wF hwF
    have HDF : Hid (Blk wF gd 43 #[.int .i64 cln, .int .i64 cco, S cn, S (csu ++ [120]), .slice cfA cfk cfc, .slice (some ⟨gm, 0, none⟩) cmq c']) := hide (by rw [hwF]; exact HD5.out.set_ 3 _)
    have HEF : Hid (Blk wF g2 43 #[.int .i64 cln, .int .i64 cco, S cn, S csu, .slice cfA cfk cfc, .slice cmA cmq cmc]) := hide (by rw [hwF]; exact HE5.out.far HNE.out _)
    have HMF : Hid (Blk wF gm 48 cur) := hide (by rw [hwF]; exact HM5.out.far hgmd _)
    have HBF : Hid (Below w.heap.size w wF) := hide (by rw [hwF]; exact HB5.out.setCell hgdl _)
    have htkF := HTK.out
    clear hwF k3 z3 e3 HD5 HE5 HM5 HB5 m0 m1 m2 m3 m4 m5 m6 m7
    have hdat : Kl.At wF (fun b => wF.heap.size ≤ b) (⟨cln, cco, cn, (csu ++ [120]), cfA, cfk, cfc, cfs, (some ⟨gm, 0, none⟩), cmq, c', ((⟨mln, mco, mn, mst, mpA, mpk, mpc, mps, mrn, mra, mbA, mbk, mbc, mbs⟩ : Me) :: r)⟩ : Kl) := by
      have hcF := HCA.out wF HBF.out
      have hm0A := hcF.ma _ List.mem_cons_self
      exact ⟨hcF.fr, hcF.fl, hcF.fm, rd_blk HMF.out htkF (HFL.out _) (by have := HMF.out.lt; omega), hcl, HCAP.out, HCF.out wF HBF.out _ hm0A, ⟨hcF.sb.1, by simp; omega⟩⟩
    have hcF := HCA.out wF HBF.out
    have HS1 : Hid (∀ w', Below wF.heap.size wF w' → Calls Tryd.prog 24 #[.agg #[.int .i64 cln, .int .i64 cco, S cn, S csu, .slice cfA cfk cfc, .slice cmA cmq cmc], .agg #[.int .i64 cln, .int .i64 cco, S cn, S (csu ++ [120]), .slice cfA cfk cfc, .slice (some ⟨gm, 0, none⟩) cmq c']] w' (Gives w' (.bool false))) := hide (fun w' hb => by
      have h := pair_any _ _ w' (hcF.on hb) (hdat.on hb) alike_same
      rw [show cSame _ _ _ = false by simp [cSame]] at h
      exact h)
    have HS2 : Hid (∀ w', Below wF.heap.size wF w' → Calls Tryd.prog 24 #[.agg #[.int .i64 cln, .int .i64 cco, S cn, S (csu ++ [120]), .slice cfA cfk cfc, .slice (some ⟨gm, 0, none⟩) cmq c'], .agg #[.int .i64 cln, .int .i64 cco, S cn, S csu, .slice cfA cfk cfc, .slice cmA cmq cmc]] w' (Gives w' (.bool false))) := hide (fun w' hb => by
      have h := pair_any _ _ w' (hdat.on hb) (hcF.on hb) alike_same
      rw [show cSame _ _ _ = false by simp [cSame]] at h
      exact h)
    clear hdat hcF
    have q0 := HEF.out.cell 0
    have q1 := HEF.out.cell 1
    have q2 := HEF.out.cell 2
    have q3 := HEF.out.cell 3
    have q4 := HEF.out.cell 4
    have q5 := HEF.out.cell 5
    simp at q0 q1 q2 q3 q4 q5
    have t0 := HDF.out.cell 0
    have t1 := HDF.out.cell 1
    have t2 := HDF.out.cell 2
    have t3 := HDF.out.cell 3
    have t4 := HDF.out.cell 4
    have t5 := HDF.out.cell 5
    simp at t0 t1 t2 t3 t4 t5
    go_wp2_with fail
    refine (HS1.out _ (Below.refl _ _)).mono ?_
    rintro e w7 ⟨rfl, hb7⟩
    have HE7 := hide (HEF.out.below hb7 HEF.out.lt)
    have HD7 := hide (HDF.out.below hb7 HDF.out.lt)
    have HS3 := hide (HS2.out w7 hb7)
    have HB7 : Hid (Below w.heap.size w w7) := hide (HBF.out.trans (hb7.mono HBF.out.size))
    clear hb7 q0 q1 q2 q3 q4 q5 t0 t1 t2 t3 t4 t5
    have q0 := HE7.out.cell 0
    have q1 := HE7.out.cell 1
    have q2 := HE7.out.cell 2
    have q3 := HE7.out.cell 3
    have q4 := HE7.out.cell 4
    have q5 := HE7.out.cell 5
    simp at q0 q1 q2 q3 q4 q5
    have t0 := HD7.out.cell 0
    have t1 := HD7.out.cell 1
    have t2 := HD7.out.cell 2
    have t3 := HD7.out.cell 3
    have t4 := HD7.out.cell 4
    have t5 := HD7.out.cell 5
    simp at t0 t1 t2 t3 t4 t5
    go_wp2_with fail
    refine HS3.out.mono ?_
    rintro e w8 ⟨rfl, hb8⟩
    go_wp2_with fail
    go_ret
    exact ⟨rfl, HB7.out.trans (hb8.mono HB7.out.size)⟩
  by_cases hc3 : N = 3
  case pos =>
    subst hc3
    have y3 := HM5.out.frozen 3
    go_upto_region 27 with fail
    refine name_world ?_
    intro wF hwF
    have HDF : Hid (Blk wF gd 43 #[.int .i64 cln, .int .i64 cco, S cn, S csu, .slice cfA cfk cfc, .slice (some ⟨gm, 0, none⟩) cmq c']) := hide (by rw [hwF]; exact HD5.out.far hgmd.symm _)
    have HEF : Hid (Blk wF g2 43 #[.int .i64 cln, .int .i64 cco, S cn, S csu, .slice cfA cfk cfc, .slice cmA cmq cmc]) := hide (by rw [hwF]; exact HE5.out.far hgme.symm _)
    have HMF : Hid (Blk wF gm 48 (cur.setIfInBounds 3 (.bool (!mst)))) := hide (by rw [hwF]; exact HM5.out.set_ 3 _)
    have HBF : Hid (Below w.heap.size w wF) := hide (by rw [hwF]; exact HB5.out.setCell hgm _)
    have htkF := cur_set (j := 3) HTK.out (.bool (!mst))
    clear hwF y3 HD5 HE5 HM5 HB5 m0 m1 m2 m3 m4 m5 m6 m7
    have hdat : Kl.At wF (fun b => wF.heap.size ≤ b) (⟨cln, cco, cn, csu, cfA, cfk, cfc, cfs, (some ⟨gm, 0, none⟩), cmq, c', ((⟨mln, mco, mn, (!mst), mpA, mpk, mpc, mps, mrn, mra, mbA, mbk, mbc, mbs⟩ : Me) :: r)⟩ : Kl) := by
      have hcF := HCA.out wF HBF.out
      have hm0A := hcF.ma _ List.mem_cons_self
      exact ⟨hcF.fr, hcF.fl, hcF.fm, rd_blk HMF.out htkF (HFL.out _) (by have := HMF.out.lt; omega), hcl, HCAP.out, HCF.out wF HBF.out _ { hm0A with }, hcF.sb⟩
    have hcF := HCA.out wF HBF.out
    have HS1 : Hid (∀ w', Below wF.heap.size wF w' → Calls Tryd.prog 24 #[.agg #[.int .i64 cln, .int .i64 cco, S cn, S csu, .slice cfA cfk cfc, .slice cmA cmq cmc], .agg #[.int .i64 cln, .int .i64 cco, S cn, S csu, .slice cfA cfk cfc, .slice (some ⟨gm, 0, none⟩) cmq c']] w' (Gives w' (.bool false))) := hide (fun w' hb => by
      have h := pair_any _ _ w' (hcF.on hb) (hdat.on hb) (alike_cons (.inl ⟨rfl, rfl, rfl, rfl⟩))
      rw [show cSame _ _ _ = false by simp [cSame, eqA_head, pSame, mSame]] at h
      exact h)
    have HS2 : Hid (∀ w', Below wF.heap.size wF w' → Calls Tryd.prog 24 #[.agg #[.int .i64 cln, .int .i64 cco, S cn, S csu, .slice cfA cfk cfc, .slice (some ⟨gm, 0, none⟩) cmq c'], .agg #[.int .i64 cln, .int .i64 cco, S cn, S csu, .slice cfA cfk cfc, .slice cmA cmq cmc]] w' (Gives w' (.bool false))) := hide (fun w' hb => by
      have h := pair_any _ _ w' (hdat.on hb) (hcF.on hb) (alike_cons (.inl ⟨rfl, rfl, rfl, rfl⟩))
      rw [show cSame _ _ _ = false by simp [cSame, eqA_head, pSame, mSame]] at h
      exact h)
    clear hdat hcF
    have q0 := HEF.out.cell 0
    have q1 := HEF.out.cell 1
    have q2 := HEF.out.cell 2
    have q3 := HEF.out.cell 3
    have q4 := HEF.out.cell 4
    have q5 := HEF.out.cell 5
    simp at q0 q1 q2 q3 q4 q5
    have t0 := HDF.out.cell 0
    have t1 := HDF.out.cell 1
    have t2 := HDF.out.cell 2
    have t3 := HDF.out.cell 3
    have t4 := HDF.out.cell 4
    have t5 := HDF.out.cell 5
    simp at t0 t1 t2 t3 t4 t5
    go_wp2_with fail
    refine (HS1.out _ (Below.refl _ _)).mono ?_
    rintro e w7 ⟨rfl, hb7⟩
    have HE7 := hide (HEF.out.below hb7 HEF.out.lt)
    have HD7 := hide (HDF.out.below hb7 HDF.out.lt)
    have HS3 := hide (HS2.out w7 hb7)
    have HB7 : Hid (Below w.heap.size w w7) := hide (HBF.out.trans (hb7.mono HBF.out.size))
    clear hb7 q0 q1 q2 q3 q4 q5 t0 t1 t2 t3 t4 t5
    have q0 := HE7.out.cell 0
    have q1 := HE7.out.cell 1
    have q2 := HE7.out.cell 2
    have q3 := HE7.out.cell 3
    have q4 := HE7.out.cell 4
    have q5 := HE7.out.cell 5
    simp at q0 q1 q2 q3 q4 q5
    have t0 := HD7.out.cell 0
    have t1 := HD7.out.cell 1
    have t2 := HD7.out.cell 2
    have t3 := HD7.out.cell 3
    have t4 := HD7.out.cell 4
    have t5 := HD7.out.cell 5
    simp at t0 t1 t2 t3 t4 t5
    go_wp2_with fail
    refine HS3.out.mono ?_
    rintro e w8 ⟨rfl, hb8⟩
    go_wp2_with fail
    go_ret
    exact ⟨rfl, HB7.out.trans (hb8.mono HB7.out.size)⟩
  by_cases hc5 : N = 5
  case pos =>
    subst hc5
    have y6 := HM5.out.frozen 6
    go_upto_region 27 with fail
    refine name_world ?_
    intro wF hwF
    have HDF : Hid (Blk wF gd 43 #[.int .i64 cln, .int .i64 cco, S cn, S csu, .slice cfA cfk cfc, .slice (some ⟨gm, 0, none⟩) cmq c']) := hide (by rw [hwF]; exact HD5.out.far hgmd.symm _)
    have HEF : Hid (Blk wF g2 43 #[.int .i64 cln, .int .i64 cco, S cn, S csu, .slice cfA cfk cfc, .slice cmA cmq cmc]) := hide (by rw [hwF]; exact HE5.out.far hgme.symm _)
    have HMF : Hid (Blk wF gm 48 (cur.setIfInBounds 6 (.bool (!mra)))) := hide (by rw [hwF]; exact HM5.out.set_ 6 _)
    have HBF : Hid (Below w.heap.size w wF) := hide (by rw [hwF]; exact HB5.out.setCell hgm _)
    have htkF := cur_set (j := 6) HTK.out (.bool (!mra))
    clear hwF y6 HD5 HE5 HM5 HB5 m0 m1 m2 m3 m4 m5 m6 m7
    have hdat : Kl.At wF (fun b => wF.heap.size ≤ b) (⟨cln, cco, cn, csu, cfA, cfk, cfc, cfs, (some ⟨gm, 0, none⟩), cmq, c', ((⟨mln, mco, mn, mst, mpA, mpk, mpc, mps, mrn, (!mra), mbA, mbk, mbc, mbs⟩ : Me) :: r)⟩ : Kl) := by
      have hcF := HCA.out wF HBF.out
      have hm0A := hcF.ma _ List.mem_cons_self
      exact ⟨hcF.fr, hcF.fl, hcF.fm, rd_blk HMF.out htkF (HFL.out _) (by have := HMF.out.lt; omega), hcl, HCAP.out, HCF.out wF HBF.out _ { hm0A with }, hcF.sb⟩
    have hcF := HCA.out wF HBF.out
    have HS1 : Hid (∀ w', Below wF.heap.size wF w' → Calls Tryd.prog 24 #[.agg #[.int .i64 cln, .int .i64 cco, S cn, S csu, .slice cfA cfk cfc, .slice cmA cmq cmc], .agg #[.int .i64 cln, .int .i64 cco, S cn, S csu, .slice cfA cfk cfc, .slice (some ⟨gm, 0, none⟩) cmq c']] w' (Gives w' (.bool false))) := hide (fun w' hb => by
      have h := pair_any _ _ w' (hcF.on hb) (hdat.on hb) (alike_cons (.inl ⟨rfl, rfl, rfl, rfl⟩))
      rw [show cSame _ _ _ = false by simp [cSame, eqA_head, pSame, mSame]] at h
      exact h)
    have HS2 : Hid (∀ w', Below wF.heap.size wF w' → Calls Tryd.prog 24 #[.agg #[.int .i64 cln, .int .i64 cco, S cn, S csu, .slice cfA cfk cfc, .slice (some ⟨gm, 0, none⟩) cmq c'], .agg #[.int .i64 cln, .int .i64 cco, S cn, S csu, .slice cfA cfk cfc, .slice cmA cmq cmc]] w' (Gives w' (.bool false))) := hide (fun w' hb => by
      have h := pair_any _ _ w' (hdat.on hb) (hcF.on hb) (alike_cons (.inl ⟨rfl, rfl, rfl, rfl⟩))
      rw [show cSame _ _ _ = false by simp [cSame, eqA_head, pSame, mSame]] at h
      exact h)
    clear hdat hcF
    have q0 := HEF.out.cell 0
    have q1 := HEF.out.cell 1
    have q2 := HEF.out.cell 2
    have q3 := HEF.out.cell 3
    have q4 := HEF.out.cell 4
    have q5 := HEF.out.cell 5
    simp at q0 q1 q2 q3 q4 q5
    have t0 := HDF.out.cell 0
    have t1 := HDF.out.cell 1
    have t2 := HDF.out.cell 2
    have t3 := HDF.out.cell 3
    have t4 := HDF.out.cell 4
    have t5 := HDF.out.cell 5
    simp at t0 t1 t2 t3 t4 t5
    go_wp2_with fail
    refine (HS1.out _ (Below.refl _ _)).mono ?_
    rintro e w7 ⟨rfl, hb7⟩
    have HE7 := hide (HEF.out.below hb7 HEF.out.lt)
    have HD7 := hide (HDF.out.below hb7 HDF.out.lt)
    have HS3 := hide (HS2.out w7 hb7)
    have HB7 : Hid (Below w.heap.size w w7) := hide (HBF.out.trans (hb7.mono HBF.out.size))
    clear hb7 q0 q1 q2 q3 q4 q5 t0 t1 t2 t3 t4 t5
    have q0 := HE7.out.cell 0
    have q1 := HE7.out.cell 1
    have q2 := HE7.out.cell 2
    have q3 := HE7.out.cell 3
    have q4 := HE7.out.cell 4
    have q5 := HE7.out.cell 5
    simp at q0 q1 q2 q3 q4 q5
    have t0 := HD7.out.cell 0
    have t1 := HD7.out.cell 1
    have t2 := HD7.out.cell 2
    have t3 := HD7.out.cell 3
    have t4 := HD7.out.cell 4
    have t5 := HD7.out.cell 5
    simp at t0 t1 t2 t3 t4 t5
    go_wp2_with fail
    refine HS3.out.mono ?_
    rintro e w8 ⟨rfl, hb8⟩
    go_wp2_with fail
    go_ret
    exact ⟨rfl, HB7.out.trans (hb8.mono HB7.out.size)⟩
  by_cases hc7 : N = 7
  case pos =>
    subst hc7
    have k0 := HD5.out.cell 0
    simp at k0
    have z0 := HD5.out.frozen 0
    go_upto_region 12 with fail
    refine name_world ?_
    intro w6 hw6
    obtain ⟨L1, hL1⟩ : ∃ L1, L1 = wrap64 (cln + 1) := ⟨_, rfl⟩
    have HD6 : Hid (Blk w6 gd 43 #[.int .i64 L1, .int .i64 cco, S cn, S csu, .slice cfA cfk cfc, .slice (some ⟨gm, 0, none⟩) cmq c']) := hide (by rw [hw6, hL1]; exact HD5.out.set_ 0 _)
    have HE6 : Hid (Blk w6 g2 43 #[.int .i64 cln, .int .i64 cco, S cn, S csu, .slice cfA cfk cfc, .slice cmA cmq cmc]) := hide (by rw [hw6]; exact HE5.out.far HNE.out _)
    have HM6 : Hid (Blk w6 gm 48 cur) := hide (by rw [hw6]; exact HM5.out.far hgmd _)
    have HB6 : Hid (Below w.heap.size w w6) := hide (by rw [hw6]; exact HB5.out.setCell hgdl _)
    clear hw6 hL1 k0 z0 HD5 HE5 HM5 HB5 m0 m1 m2 m3 m4 m5 m6 m7
    have m1 : w6.cell? ⟨gm, 1, none⟩ = some (.int .i64 mco) := (HM6.out.cell 1).trans ((cur_at HTK.out (by omega)).trans rfl)
    have y1 := HM6.out.frozen 1
    go_upto_region 27 with fail
    refine name_world ?_
    intro wF hwF
    obtain ⟨L2, hL2⟩ : ∃ L2, L2 = wrap64 (mco - 1) := ⟨_, rfl⟩
    have HDF : Hid (Blk wF gd 43 #[.int .i64 L1, .int .i64 cco, S cn, S csu, .slice cfA cfk cfc, .slice (some ⟨gm, 0, none⟩) cmq c']) := hide (by rw [hwF]; exact HD6.out.far hgmd.symm _)
    have HEF : Hid (Blk wF g2 43 #[.int .i64 cln, .int .i64 cco, S cn, S csu, .slice cfA cfk cfc, .slice cmA cmq cmc]) := hide (by rw [hwF]; exact HE6.out.far hgme.symm _)
    have HMF : Hid (Blk wF gm 48 (cur.setIfInBounds 1 (.int .i64 L2))) := hide (by rw [hwF, hL2]; exact HM6.out.set_ 1 _)
    have HBF : Hid (Below w.heap.size w wF) := hide (by rw [hwF]; exact HB6.out.setCell hgm _)
    have htkF := cur_set (j := 1) HTK.out (.int .i64 L2)
    clear hwF hL2 m1 y1 HD6 HE6 HM6 HB6
    have hdat : Kl.At wF (fun b => wF.heap.size ≤ b) (⟨L1, cco, cn, csu, cfA, cfk, cfc, cfs, (some ⟨gm, 0, none⟩), cmq, c', ((⟨mln, L2, mn, mst, mpA, mpk, mpc, mps, mrn, mra, mbA, mbk, mbc, mbs⟩ : Me) :: r)⟩ : Kl) := by
      have hcF := HCA.out wF HBF.out
      have hm0A := hcF.ma _ List.mem_cons_self
      exact ⟨hcF.fr, hcF.fl, hcF.fm, rd_blk HMF.out htkF (HFL.out _) (by have := HMF.out.lt; omega), hcl, HCAP.out, HCF.out wF HBF.out _ { hm0A with }, hcF.sb⟩
    have hcF := HCA.out wF HBF.out
    have HS1 : Hid (∀ w', Below wF.heap.size wF w' → Calls Tryd.prog 24 #[.agg #[.int .i64 cln, .int .i64 cco, S cn, S csu, .slice cfA cfk cfc, .slice cmA cmq cmc], .agg #[.int .i64 L1, .int .i64 cco, S cn, S csu, .slice cfA cfk cfc, .slice (some ⟨gm, 0, none⟩) cmq c']] w' (Gives w' (.bool true))) := hide (fun w' hb => by
      have h := pair_any _ _ w' (hcF.on hb) (hdat.on hb) (alike_cons (.inl ⟨rfl, rfl, rfl, rfl⟩))
      rw [show cSame _ _ _ = true by simp [cSame, eqA_head, pSame, mSame]] at h
      exact h)
    have HS2 : Hid (∀ w', Below wF.heap.size wF w' → Calls Tryd.prog 24 #[.agg #[.int .i64 L1, .int .i64 cco, S cn, S csu, .slice cfA cfk cfc, .slice (some ⟨gm, 0, none⟩) cmq c'], .agg #[.int .i64 cln, .int .i64 cco, S cn, S csu, .slice cfA cfk cfc, .slice cmA cmq cmc]] w' (Gives w' (.bool true))) := hide (fun w' hb => by
      have h := pair_any _ _ w' (hdat.on hb) (hcF.on hb) (alike_cons (.inl ⟨rfl, rfl, rfl, rfl⟩))
      rw [show cSame _ _ _ = true by simp [cSame, eqA_head, pSame, mSame]] at h
      exact h)
    clear hdat hcF
    have q0 := HEF.out.cell 0
    have q1 := HEF.out.cell 1
    have q2 := HEF.out.cell 2
    have q3 := HEF.out.cell 3
    have q4 := HEF.out.cell 4
    have q5 := HEF.out.cell 5
    simp at q0 q1 q2 q3 q4 q5
    have t0 := HDF.out.cell 0
    have t1 := HDF.out.cell 1
    have t2 := HDF.out.cell 2
    have t3 := HDF.out.cell 3
    have t4 := HDF.out.cell 4
    have t5 := HDF.out.cell 5
    simp at t0 t1 t2 t3 t4 t5
    go_wp2_with fail
    refine (HS1.out _ (Below.refl _ _)).mono ?_
    rintro e w7 ⟨rfl, hb7⟩
    have HE7 := hide (HEF.out.below hb7 HEF.out.lt)
    have HD7 := hide (HDF.out.below hb7 HDF.out.lt)
    have HS3 := hide (HS2.out w7 hb7)
    have HB7 : Hid (Below w.heap.size w w7) := hide (HBF.out.trans (hb7.mono HBF.out.size))
    clear hb7 q0 q1 q2 q3 q4 q5 t0 t1 t2 t3 t4 t5
    have q0 := HE7.out.cell 0
    have q1 := HE7.out.cell 1
    have q2 := HE7.out.cell 2
    have q3 := HE7.out.cell 3
    have q4 := HE7.out.cell 4
    have q5 := HE7.out.cell 5
    simp at q0 q1 q2 q3 q4 q5
    have t0 := HD7.out.cell 0
    have t1 := HD7.out.cell 1
    have t2 := HD7.out.cell 2
    have t3 := HD7.out.cell 3
    have t4 := HD7.out.cell 4
    have t5 := HD7.out.cell 5
    simp at t0 t1 t2 t3 t4 t5
    go_wp2_with fail
    refine HS3.out.mono ?_
    rintro e w8 ⟨rfl, hb8⟩
    go_wp2_with fail
    go_ret
    exact ⟨rfl, HB7.out.trans (hb8.mono HB7.out.size)⟩
  by_cases hc2 : N = 2
  case pos =>
    subst hc2
    have HOWN : Hid ((w5.alloc (.cells #[] 50)).ownsRow w.heap.size 50 3 (.slice (some ⟨w5.heap.size, 0, none⟩) 0 0) 0 []) := hide (own_lit w5 _ HB5.out.size _ _)
    have hsrc := (HCA.out w5 HB5.out).fr
    have HRS : Hid (Rd (w5.alloc (.cells #[] 50)) (fun _ => False) 3 cfA cfk (cfs.flatMap Vr.cells)) := hide ((hsrc.alloc _).weak (fun _ _ h => h.elim))
    have HONE : Hid (∀ u ∈ cfs.flatMap Vr.cells, u.oneCell' = true) := hide (by
      intro u hu
      obtain ⟨m, _, hu⟩ := List.mem_flatMap.1 hu
      simp at hu
      rcases hu with rfl | rfl | rfl <;> rfl)
    have HD5a : Hid (Blk (w5.alloc (.cells #[] 50)) gd 43 #[.int .i64 cln, .int .i64 cco, S cn, S csu, .slice cfA cfk cfc, .slice (some ⟨gm, 0, none⟩) cmq c']) := hide (HD5.out.alloc _)
    have HE5a : Hid (Blk (w5.alloc (.cells #[] 50)) g2 43 #[.int .i64 cln, .int .i64 cco, S cn, S csu, .slice cfA cfk cfc, .slice cmA cmq cmc]) := hide (HE5.out.alloc _)
    have HM5a : Hid (Blk (w5.alloc (.cells #[] 50)) gm 48 cur) := hide (HM5.out.alloc _)
    have HB5a : Hid (Below w.heap.size w (w5.alloc (.cells #[] 50))) := hide (HB5.out.alloc HB5.out.size _)
    have hlitd : gd ≠ w5.heap.size := by have := HD5.out.lt; omega
    have hlite : g2 ≠ w5.heap.size := by have := HE5.out.lt; omega
    have hlitm : gm ≠ w5.heap.size := by have := HM5.out.lt; omega
    have hlit : w.heap.size ≤ w5.heap.size := HB5.out.size
    have hkb : cfk ≤ 100 := by omega
    have e4 := fun o => (HE5.out.alloc o).cell 4
    simp at e4
    clear hsrc HD5 HE5 HM5 HB5
    go_wp2_with (at_builtin; refine app_rd rfl (.tmp 66) (.tmp 68) 40 rfl w.heap.size 50 _ 3 40 Tryd.underlying40 vr_info rfl (by decide) _ 0 [] rfl HOWN.out cfA cfk cfc (cfs.flatMap Vr.cells) rfl HRS.out HONE.out (by unfold maxLen; omega) (by omega) HB5a.out.size ?_)
    intro A6 c6 w6 hown6 hgrow6 _
    try simp only [Nat.zero_add, List.nil_append] at hown6
    have HB6 : Hid (Below w.heap.size w w6) := hide (HB5a.out.grown hgrow6 HB5a.out.size (fun k hk => by simp [Value.ownBlock] at hk; omega))
    have HD6 := hide (HD5a.out.grown hgrow6 (by simp [Value.ownBlock]; exact hlitd))
    have HE6 := hide (HE5a.out.grown hgrow6 (by simp [Value.ownBlock]; exact hlite))
    have HM6 := hide (HM5a.out.grown hgrow6 (by simp [Value.ownBlock]; exact hlitm))
    have HO6 := hide hown6
    have HOA : Hid ((w6.alloc (.cells #[S name, S [], .bool false] 50)).ownsRow w.heap.size 50 3 (.slice A6 cfk c6) cfk (cfs.flatMap Vr.cells)) := hide (hown6.alloc _)
    have HRN : Hid (Rd (w6.alloc (.cells #[S name, S [], .bool false] 50)) (fun _ => False) 3 (some ⟨w6.heap.size, 0, none⟩) 1 (#[S name, S [], .bool false]).toList) := hide (rd_lit w6 50 #[S name, S [], .bool false] 3 (fun h => h) rfl)
    have HD6a : Hid (Blk (w6.alloc (.cells #[S name, S [], .bool false] 50)) gd 43 #[.int .i64 cln, .int .i64 cco, S cn, S csu, .slice cfA cfk cfc, .slice (some ⟨gm, 0, none⟩) cmq c']) := hide (HD6.out.alloc _)
    have HE6a : Hid (Blk (w6.alloc (.cells #[S name, S [], .bool false] 50)) g2 43 #[.int .i64 cln, .int .i64 cco, S cn, S csu, .slice cfA cfk cfc, .slice cmA cmq cmc]) := hide (HE6.out.alloc _)
    have HM6a : Hid (Blk (w6.alloc (.cells #[S name, S [], .bool false] 50)) gm 48 cur) := hide (HM6.out.alloc _)
    have HON1 : Hid (∀ u ∈ (#[S name, S [], .bool false]).toList, u.oneCell' = true) := hide (by intro u hu; simp at hu; rcases hu with rfl | rfl | rfl <;> rfl)
    have HB6a : Hid (Below w.heap.size w (w6.alloc (.cells #[S name, S [], .bool false] 50))) := hide (HB6.out.alloc HB6.out.size _)
    have hnd : some gd ≠ (Value.slice A6 cfk c6).ownBlock := by have := own_blk_ne HO6.out HD6.out (by decide); exact fun e => this e.symm
    have hne : some g2 ≠ (Value.slice A6 cfk c6).ownBlock := by have := own_blk_ne HO6.out HE6.out (by decide); exact fun e => this e.symm
    have hnm : some gm ≠ (Value.slice A6 cfk c6).ownBlock := by have := own_blk_ne HO6.out HM6.out (by decide); exact fun e => this e.symm
    have hob : ∀ k0, (Value.slice A6 cfk c6).ownBlock = some k0 → w.heap.size ≤ k0 := fun k0 hk => (HO6.out.lt k0 hk).1
    clear hown6 hgrow6 HD5a HE5a HM5a HB5a hlitd hlite hlitm hlit HOWN HRS HONE HD6 HE6 HM6 HB6 HO6
    go_wp2_with (at_builtin; go_loud (refine app_rd rfl (.tmp 69) (.tmp 72) 40 rfl w.heap.size 50 _ 3 40 Tryd.underlying40 vr_info rfl (by decide) _ cfk (cfs.flatMap Vr.cells) rfl HOA.out (some ⟨w6.heap.size, 0, none⟩) 1 1 (#[S name, S [], .bool false]).toList rfl HRN.out HON1.out (by unfold maxLen; omega) (by omega) HB6a.out.size ?_))
    intro A8 c8 w8 hown8 hgrow8 _
    have HB8 : Hid (Below w.heap.size w w8) := hide (HB6a.out.grown hgrow8 HB6a.out.size hob)
    have HD8 := hide (HD6a.out.grown hgrow8 hnd)
    have HE8 := hide (HE6a.out.grown hgrow8 hne)
    have HM8 := hide (HM6a.out.grown hgrow8 hnm)
    have HO8 := hide hown8
    clear hown8 hgrow8 HOA HRN HD6a HE6a HM6a HB6a hnd hne hnm hob m0 m1 m2 m3 m4 m5 m6 m7
    clear e4
    have k4 := HD8.out.cell 4
    simp at k4
    have z4 := HD8.out.frozen 4
    go_upto_region 27 with fail
    refine name_world ?_
    intro wF hwF
    have HDF : Hid (Blk wF gd 43 #[.int .i64 cln, .int .i64 cco, S cn, S csu, .slice A8 (cfk + 1) c8, .slice (some ⟨gm, 0, none⟩) cmq c']) := hide (by rw [hwF]; exact HD8.out.set_ 4 _)
    have HEF : Hid (Blk wF g2 43 #[.int .i64 cln, .int .i64 cco, S cn, S csu, .slice cfA cfk cfc, .slice cmA cmq cmc]) := hide (by rw [hwF]; exact HE8.out.far HNE.out _)
    have HMF : Hid (Blk wF gm 48 cur) := hide (by rw [hwF]; exact HM8.out.far hgmd _)
    have HBF : Hid (Below w.heap.size w wF) := hide (by rw [hwF]; exact HB8.out.setCell hgdl _)
    have HOF : Hid (wF.ownsRow w.heap.size 50 3 (.slice A8 (cfk + 1) c8) (cfk + 1) ((cfs ++ [(⟨name, ⟨[], false⟩⟩ : Vr)]).flatMap Vr.cells)) := hide (by
      rw [hwF]
      have hh := HO8.out
      have hn8 := own_blk_ne HO8.out HD8.out (by decide)
      refine own_keep (F := fun i => i = gd) (by rw [List.flatMap_append]; exact hh) ((Keep.refl (fun i => i = gd) w8).setCell (p := ⟨gd, 4, none⟩) (fun _ => rfl) _) (fun i hi e => hn8 (by rw [hi, e])))
    have htkF := HTK.out
    clear hwF k4 z4 HD8 HE8 HM8 HB8 HO8
    have hdat : Kl.At wF (fun b => wF.heap.size ≤ b) (⟨cln, cco, cn, csu, A8, (cfk + 1), c8, (cfs ++ [(⟨name, ⟨[], false⟩⟩ : Vr)]), (some ⟨gm, 0, none⟩), cmq, c', ((⟨mln, mco, mn, mst, mpA, mpk, mpc, mps, mrn, mra, mbA, mbk, mbc, mbs⟩ : Me) :: r)⟩ : Kl) := by
      have hcF := HCA.out wF HBF.out
      have hm0A := hcF.ma _ List.mem_cons_self
      exact ⟨own_rd HOF.out (fun k hk => by omega), (by have : cfs.length = cfk := hcF.fl; simp [this]), own_cap HOF.out, rd_blk HMF.out htkF (HFL.out _) (by have := HMF.out.lt; omega), hcl, HCAP.out, HCF.out wF HBF.out _ hm0A, hcF.sb⟩
    have hcF := HCA.out wF HBF.out
    have HS1 : Hid (∀ w', Below wF.heap.size wF w' → Calls Tryd.prog 24 #[.agg #[.int .i64 cln, .int .i64 cco, S cn, S csu, .slice cfA cfk cfc, .slice cmA cmq cmc], .agg #[.int .i64 cln, .int .i64 cco, S cn, S csu, .slice A8 (cfk + 1) c8, .slice (some ⟨gm, 0, none⟩) cmq c']] w' (Gives w' (.bool false))) := hide (fun w' hb => by
      have h := pair_any _ _ w' (hcF.on hb) (hdat.on hb) alike_same
      rw [show cSame _ _ _ = false by simp [cSame]] at h
      exact h)
    have HS2 : Hid (∀ w', Below wF.heap.size wF w' → Calls Tryd.prog 24 #[.agg #[.int .i64 cln, .int .i64 cco, S cn, S csu, .slice A8 (cfk + 1) c8, .slice (some ⟨gm, 0, none⟩) cmq c'], .agg #[.int .i64 cln, .int .i64 cco, S cn, S csu, .slice cfA cfk cfc, .slice cmA cmq cmc]] w' (Gives w' (.bool false))) := hide (fun w' hb => by
      have h := pair_any _ _ w' (hdat.on hb) (hcF.on hb) alike_same
      rw [show cSame _ _ _ = false by simp [cSame]] at h
      exact h)
    clear hdat hcF
    have q0 := HEF.out.cell 0
    have q1 := HEF.out.cell 1
    have q2 := HEF.out.cell 2
    have q3 := HEF.out.cell 3
    have q4 := HEF.out.cell 4
    have q5 := HEF.out.cell 5
    simp at q0 q1 q2 q3 q4 q5
    have t0 := HDF.out.cell 0
    have t1 := HDF.out.cell 1
    have t2 := HDF.out.cell 2
    have t3 := HDF.out.cell 3
    have t4 := HDF.out.cell 4
    have t5 := HDF.out.cell 5
    simp at t0 t1 t2 t3 t4 t5
    go_wp2_with fail
    refine (HS1.out _ (Below.refl _ _)).mono ?_
    rintro e w7 ⟨rfl, hb7⟩
    have HE7 := hide (HEF.out.below hb7 HEF.out.lt)
    have HD7 := hide (HDF.out.below hb7 HDF.out.lt)
    have HS3 := hide (HS2.out w7 hb7)
    have HB7 : Hid (Below w.heap.size w w7) := hide (HBF.out.trans (hb7.mono HBF.out.size))
    clear hb7 q0 q1 q2 q3 q4 q5 t0 t1 t2 t3 t4 t5
    have q0 := HE7.out.cell 0
    have q1 := HE7.out.cell 1
    have q2 := HE7.out.cell 2
    have q3 := HE7.out.cell 3
    have q4 := HE7.out.cell 4
    have q5 := HE7.out.cell 5
    simp at q0 q1 q2 q3 q4 q5
    have t0 := HD7.out.cell 0
    have t1 := HD7.out.cell 1
    have t2 := HD7.out.cell 2
    have t3 := HD7.out.cell 3
    have t4 := HD7.out.cell 4
    have t5 := HD7.out.cell 5
    simp at t0 t1 t2 t3 t4 t5
    go_wp2_with fail
    refine HS3.out.mono ?_
    rintro e w8 ⟨rfl, hb8⟩
    go_wp2_with fail
    go_ret
    exact ⟨rfl, HB7.out.trans (hb8.mono HB7.out.size)⟩
  by_cases hc6 : N = 6
  case pos =>
    subst hc6
    have HOWN : Hid ((w5.alloc (.cells #[] 50)).ownsRow w.heap.size 50 3 (.slice (some ⟨w5.heap.size, 0, none⟩) 0 0) 0 []) := hide (own_lit w5 _ HB5.out.size _ _)
    have hsrc := ((HCA.out w5 HB5.out).ma _ List.mem_cons_self).pr
    have HRS : Hid (Rd (w5.alloc (.cells #[] 50)) (fun _ => False) 3 mpA mpk (mps.flatMap Vr.cells)) := hide ((hsrc.alloc _).weak (fun _ _ h => h.elim))
    have HONE : Hid (∀ u ∈ mps.flatMap Vr.cells, u.oneCell' = true) := hide (by
      intro u hu
      obtain ⟨m, _, hu⟩ := List.mem_flatMap.1 hu
      simp at hu
      rcases hu with rfl | rfl | rfl <;> rfl)
    have HD5a : Hid (Blk (w5.alloc (.cells #[] 50)) gd 43 #[.int .i64 cln, .int .i64 cco, S cn, S csu, .slice cfA cfk cfc, .slice (some ⟨gm, 0, none⟩) cmq c']) := hide (HD5.out.alloc _)
    have HE5a : Hid (Blk (w5.alloc (.cells #[] 50)) g2 43 #[.int .i64 cln, .int .i64 cco, S cn, S csu, .slice cfA cfk cfc, .slice cmA cmq cmc]) := hide (HE5.out.alloc _)
    have HM5a : Hid (Blk (w5.alloc (.cells #[] 50)) gm 48 cur) := hide (HM5.out.alloc _)
    have HB5a : Hid (Below w.heap.size w (w5.alloc (.cells #[] 50))) := hide (HB5.out.alloc HB5.out.size _)
    have hlitd : gd ≠ w5.heap.size := by have := HD5.out.lt; omega
    have hlite : g2 ≠ w5.heap.size := by have := HE5.out.lt; omega
    have hlitm : gm ≠ w5.heap.size := by have := HM5.out.lt; omega
    have hlit : w.heap.size ≤ w5.heap.size := HB5.out.size
    have hkb : mpk ≤ 100 := by have : mpk ≤ 8 := HM0.out.1; omega
    have e4 : ∀ o, (w5.alloc o).cell? ⟨gm, 4, none⟩ = some (.slice mpA mpk mpc) := fun o => ((HM5.out.alloc o).cell 4).trans ((cur_at HTK.out (by omega)).trans rfl)
    clear hsrc HD5 HE5 HM5 HB5
    go_wp2_with (at_builtin; refine app_rd rfl (.tmp 114) (.tmp 118) 40 rfl w.heap.size 50 _ 3 40 Tryd.underlying40 vr_info rfl (by decide) _ 0 [] rfl HOWN.out mpA mpk mpc (mps.flatMap Vr.cells) rfl HRS.out HONE.out (by unfold maxLen; omega) (by omega) HB5a.out.size ?_)
    intro A6 c6 w6 hown6 hgrow6 _
    try simp only [Nat.zero_add, List.nil_append] at hown6
    have HB6 : Hid (Below w.heap.size w w6) := hide (HB5a.out.grown hgrow6 HB5a.out.size (fun k hk => by simp [Value.ownBlock] at hk; omega))
    have HD6 := hide (HD5a.out.grown hgrow6 (by simp [Value.ownBlock]; exact hlitd))
    have HE6 := hide (HE5a.out.grown hgrow6 (by simp [Value.ownBlock]; exact hlite))
    have HM6 := hide (HM5a.out.grown hgrow6 (by simp [Value.ownBlock]; exact hlitm))
    have HO6 := hide hown6
    have HOA : Hid ((w6.alloc (.cells #[S name, S [], .bool false] 50)).ownsRow w.heap.size 50 3 (.slice A6 mpk c6) mpk (mps.flatMap Vr.cells)) := hide (hown6.alloc _)
    have HRN : Hid (Rd (w6.alloc (.cells #[S name, S [], .bool false] 50)) (fun _ => False) 3 (some ⟨w6.heap.size, 0, none⟩) 1 (#[S name, S [], .bool false]).toList) := hide (rd_lit w6 50 #[S name, S [], .bool false] 3 (fun h => h) rfl)
    have HD6a : Hid (Blk (w6.alloc (.cells #[S name, S [], .bool false] 50)) gd 43 #[.int .i64 cln, .int .i64 cco, S cn, S csu, .slice cfA cfk cfc, .slice (some ⟨gm, 0, none⟩) cmq c']) := hide (HD6.out.alloc _)
    have HE6a : Hid (Blk (w6.alloc (.cells #[S name, S [], .bool false] 50)) g2 43 #[.int .i64 cln, .int .i64 cco, S cn, S csu, .slice cfA cfk cfc, .slice cmA cmq cmc]) := hide (HE6.out.alloc _)
    have HM6a : Hid (Blk (w6.alloc (.cells #[S name, S [], .bool false] 50)) gm 48 cur) := hide (HM6.out.alloc _)
    have HON1 : Hid (∀ u ∈ (#[S name, S [], .bool false]).toList, u.oneCell' = true) := hide (by intro u hu; simp at hu; rcases hu with rfl | rfl | rfl <;> rfl)
    have HB6a : Hid (Below w.heap.size w (w6.alloc (.cells #[S name, S [], .bool false] 50))) := hide (HB6.out.alloc HB6.out.size _)
    have hnd : some gd ≠ (Value.slice A6 mpk c6).ownBlock := by have := own_blk_ne HO6.out HD6.out (by decide); exact fun e => this e.symm
    have hne : some g2 ≠ (Value.slice A6 mpk c6).ownBlock := by have := own_blk_ne HO6.out HE6.out (by decide); exact fun e => this e.symm
    have hnm : some gm ≠ (Value.slice A6 mpk c6).ownBlock := by have := own_blk_ne HO6.out HM6.out (by decide); exact fun e => this e.symm
    have hob : ∀ k0, (Value.slice A6 mpk c6).ownBlock = some k0 → w.heap.size ≤ k0 := fun k0 hk => (HO6.out.lt k0 hk).1
    clear hown6 hgrow6 HD5a HE5a HM5a HB5a hlitd hlite hlitm hlit HOWN HRS HONE HD6 HE6 HM6 HB6 HO6
    go_wp2_with (at_builtin; go_loud (refine app_rd rfl (.tmp 119) (.tmp 122) 40 rfl w.heap.size 50 _ 3 40 Tryd.underlying40 vr_info rfl (by decide) _ mpk (mps.flatMap Vr.cells) rfl HOA.out (some ⟨w6.heap.size, 0, none⟩) 1 1 (#[S name, S [], .bool false]).toList rfl HRN.out HON1.out (by unfold maxLen; omega) (by omega) HB6a.out.size ?_))
    intro A8 c8 w8 hown8 hgrow8 _
    have HB8 : Hid (Below w.heap.size w w8) := hide (HB6a.out.grown hgrow8 HB6a.out.size hob)
    have HD8 := hide (HD6a.out.grown hgrow8 hnd)
    have HE8 := hide (HE6a.out.grown hgrow8 hne)
    have HM8 := hide (HM6a.out.grown hgrow8 hnm)
    have HO8 := hide hown8
    clear hown8 hgrow8 HOA HRN HD6a HE6a HM6a HB6a hnd hne hnm hob m0 m1 m2 m3 m4 m5 m6 m7
    clear e4
    have k4 := (HM8.out.cell 4).trans ((cur_at HTK.out (by omega)).trans (show ((⟨mln, mco, mn, mst, mpA, mpk, mpc, mps, mrn, mra, mbA, mbk, mbc, mbs⟩ : Me) :: r |>.flatMap Me.cells)[4]? = some (.slice mpA mpk mpc) from rfl))
    have z4 := HM8.out.frozen 4
    go_upto_region 27 with fail
    refine name_world ?_
    intro wF hwF
    have HDF : Hid (Blk wF gd 43 #[.int .i64 cln, .int .i64 cco, S cn, S csu, .slice cfA cfk cfc, .slice (some ⟨gm, 0, none⟩) cmq c']) := hide (by rw [hwF]; exact HD8.out.far hgmd.symm _)
    have HEF : Hid (Blk wF g2 43 #[.int .i64 cln, .int .i64 cco, S cn, S csu, .slice cfA cfk cfc, .slice cmA cmq cmc]) := hide (by rw [hwF]; exact HE8.out.far hgme.symm _)
    have HMF : Hid (Blk wF gm 48 (cur.setIfInBounds 4 (.slice A8 (mpk + 1) c8))) := hide (by rw [hwF]; exact HM8.out.set_ 4 _)
    have HBF : Hid (Below w.heap.size w wF) := hide (by rw [hwF]; exact HB8.out.setCell hgm _)
    have HOF : Hid (wF.ownsRow w.heap.size 50 3 (.slice A8 (mpk + 1) c8) (mpk + 1) ((mps ++ [(⟨name, ⟨[], false⟩⟩ : Vr)]).flatMap Vr.cells)) := hide (by
      rw [hwF]
      have hh := HO8.out
      have hn8 := own_blk_ne HO8.out HM8.out (by decide)
      refine own_keep (F := fun i => i = gm) (by rw [List.flatMap_append]; exact hh) ((Keep.refl (fun i => i = gm) w8).setCell (p := ⟨gm, 4, none⟩) (fun _ => rfl) _) (fun i hi e => hn8 (by rw [hi, e])))
    have htkF := cur_set (j := 4) HTK.out (.slice A8 (mpk + 1) c8)
    clear hwF k4 z4 HD8 HE8 HM8 HB8 HO8
    have hdat : Kl.At wF (fun b => wF.heap.size ≤ b) (⟨cln, cco, cn, csu, cfA, cfk, cfc, cfs, (some ⟨gm, 0, none⟩), cmq, c', ((⟨mln, mco, mn, mst, A8, (mpk + 1), c8, (mps ++ [(⟨name, ⟨[], false⟩⟩ : Vr)]), mrn, mra, mbA, mbk, mbc, mbs⟩ : Me) :: r)⟩ : Kl) := by
      have hcF := HCA.out wF HBF.out
      have hm0A := hcF.ma _ List.mem_cons_self
      exact ⟨hcF.fr, hcF.fl, hcF.fm, rd_blk HMF.out htkF (HFL.out _) (by have := HMF.out.lt; omega), hcl, HCAP.out, HCF.out wF HBF.out _ { hm0A with pr := own_rd HOF.out (fun k hk => by omega), pl := (by have : mps.length = mpk := hm0A.pl; simp [this]), pm := (by have : mpk ≤ 8 := HM0.out.1; show mpk + 1 ≤ _; omega) }, hcF.sb⟩
    have hcF := HCA.out wF HBF.out
    have HS1 : Hid (∀ w', Below wF.heap.size wF w' → Calls Tryd.prog 24 #[.agg #[.int .i64 cln, .int .i64 cco, S cn, S csu, .slice cfA cfk cfc, .slice cmA cmq cmc], .agg #[.int .i64 cln, .int .i64 cco, S cn, S csu, .slice cfA cfk cfc, .slice (some ⟨gm, 0, none⟩) cmq c']] w' (Gives w' (.bool false))) := hide (fun w' hb => by
      have h := pair_any _ _ w' (hcF.on hb) (hdat.on hb) (alike_cons (.inl ⟨rfl, rfl, rfl, rfl⟩))
      rw [show cSame _ _ _ = false by simp [cSame, eqA_head, pSame, mSame]] at h
      exact h)
    have HS2 : Hid (∀ w', Below wF.heap.size wF w' → Calls Tryd.prog 24 #[.agg #[.int .i64 cln, .int .i64 cco, S cn, S csu, .slice cfA cfk cfc, .slice (some ⟨gm, 0, none⟩) cmq c'], .agg #[.int .i64 cln, .int .i64 cco, S cn, S csu, .slice cfA cfk cfc, .slice cmA cmq cmc]] w' (Gives w' (.bool false))) := hide (fun w' hb => by
      have h := pair_any _ _ w' (hdat.on hb) (hcF.on hb) (alike_cons (.inl ⟨rfl, rfl, rfl, rfl⟩))
      rw [show cSame _ _ _ = false by simp [cSame, eqA_head, pSame, mSame]] at h
      exact h)
    clear hdat hcF
    have q0 := HEF.out.cell 0
    have q1 := HEF.out.cell 1
    have q2 := HEF.out.cell 2
    have q3 := HEF.out.cell 3
    have q4 := HEF.out.cell 4
    have q5 := HEF.out.cell 5
    simp at q0 q1 q2 q3 q4 q5
    have t0 := HDF.out.cell 0
    have t1 := HDF.out.cell 1
    have t2 := HDF.out.cell 2
    have t3 := HDF.out.cell 3
    have t4 := HDF.out.cell 4
    have t5 := HDF.out.cell 5
    simp at t0 t1 t2 t3 t4 t5
    go_wp2_with fail
    refine (HS1.out _ (Below.refl _ _)).mono ?_
    rintro e w7 ⟨rfl, hb7⟩
    have HE7 := hide (HEF.out.below hb7 HEF.out.lt)
    have HD7 := hide (HDF.out.below hb7 HDF.out.lt)
    have HS3 := hide (HS2.out w7 hb7)
    have HB7 : Hid (Below w.heap.size w w7) := hide (HBF.out.trans (hb7.mono HBF.out.size))
    clear hb7 q0 q1 q2 q3 q4 q5 t0 t1 t2 t3 t4 t5
    have q0 := HE7.out.cell 0
    have q1 := HE7.out.cell 1
    have q2 := HE7.out.cell 2
    have q3 := HE7.out.cell 3
    have q4 := HE7.out.cell 4
    have q5 := HE7.out.cell 5
    simp at q0 q1 q2 q3 q4 q5
    have t0 := HD7.out.cell 0
    have t1 := HD7.out.cell 1
    have t2 := HD7.out.cell 2
    have t3 := HD7.out.cell 3
    have t4 := HD7.out.cell 4
    have t5 := HD7.out.cell 5
    simp at t0 t1 t2 t3 t4 t5
    go_wp2_with fail
    refine HS3.out.mono ?_
    rintro e w8 ⟨rfl, hb8⟩
    go_wp2_with fail
    go_ret
    exact ⟨rfl, HB7.out.trans (hb8.mono HB7.out.size)⟩
  by_cases hc4 : N = 4
  case pos =>
    subst hc4
    have HOWN : Hid ((w5.alloc (.cells #[] 53)).ownsRow w.heap.size 53 9 (.slice (some ⟨w5.heap.size, 0, none⟩) 0 0) 0 []) := hide (own_lit w5 _ HB5.out.size _ _)
    have hsrc := ((HCA.out w5 HB5.out).ma _ List.mem_cons_self).br
    have HRS : Hid (Rd (w5.alloc (.cells #[] 53)) (fun _ => False) 9 mbA mbk (mbs.flatMap St.cells)) := hide ((hsrc.alloc _).weak (fun _ _ h => h.elim))
    have HONE : Hid (∀ u ∈ mbs.flatMap St.cells, u.oneCell' = true) := hide (by
      intro u hu
      obtain ⟨m, _, hu⟩ := List.mem_flatMap.1 hu
      cases m
      simp [St.cells] at hu
      rcases hu with rfl | rfl | rfl | rfl | rfl | rfl | rfl | rfl | rfl <;> rfl)
    have HD5a : Hid (Blk (w5.alloc (.cells #[] 53)) gd 43 #[.int .i64 cln, .int .i64 cco, S cn, S csu, .slice cfA cfk cfc, .slice (some ⟨gm, 0, none⟩) cmq c']) := hide (HD5.out.alloc _)
    have HE5a : Hid (Blk (w5.alloc (.cells #[] 53)) g2 43 #[.int .i64 cln, .int .i64 cco, S cn, S csu, .slice cfA cfk cfc, .slice cmA cmq cmc]) := hide (HE5.out.alloc _)
    have HM5a : Hid (Blk (w5.alloc (.cells #[] 53)) gm 48 cur) := hide (HM5.out.alloc _)
    have HB5a : Hid (Below w.heap.size w (w5.alloc (.cells #[] 53))) := hide (HB5.out.alloc HB5.out.size _)
    have hlitd : gd ≠ w5.heap.size := by have := HD5.out.lt; omega
    have hlite : g2 ≠ w5.heap.size := by have := HE5.out.lt; omega
    have hlitm : gm ≠ w5.heap.size := by have := HM5.out.lt; omega
    have hlit : w.heap.size ≤ w5.heap.size := HB5.out.size
    have hkb : mbk ≤ 100 := by have : mbk ≤ 10 := HM0.out.2; omega
    have e7 : ∀ o, (w5.alloc o).cell? ⟨gm, 7, none⟩ = some (.slice mbA mbk mbc) := fun o => ((HM5.out.alloc o).cell 7).trans ((cur_at HTK.out (by omega)).trans rfl)
    clear hsrc HD5 HE5 HM5 HB5
    go_wp2_with (at_builtin; refine app_rd rfl (.tmp 88) (.tmp 92) 46 rfl w.heap.size 53 _ 9 136 Tryd.underlying46 st_info rfl (by decide) _ 0 [] rfl HOWN.out mbA mbk mbc (mbs.flatMap St.cells) rfl HRS.out HONE.out (by unfold maxLen; omega) (by omega) HB5a.out.size ?_)
    intro A6 c6 w6 hown6 hgrow6 _
    try simp only [Nat.zero_add, List.nil_append] at hown6
    have HB6 : Hid (Below w.heap.size w w6) := hide (HB5a.out.grown hgrow6 HB5a.out.size (fun k hk => by simp [Value.ownBlock] at hk; omega))
    have HD6 := hide (HD5a.out.grown hgrow6 (by simp [Value.ownBlock]; exact hlitd))
    have HE6 := hide (HE5a.out.grown hgrow6 (by simp [Value.ownBlock]; exact hlite))
    have HM6 := hide (HM5a.out.grown hgrow6 (by simp [Value.ownBlock]; exact hlitm))
    have HO6 := hide hown6
    have HOA : Hid ((w6.alloc (.cells #[.int .i64 6, .int .i64 0, .int .i64 0, S [], S [], .bool false, .slice none 0 0, .slice none 0 0, .slice none 0 0] 53)).ownsRow w.heap.size 53 9 (.slice A6 mbk c6) mbk (mbs.flatMap St.cells)) := hide (hown6.alloc _)
    have HRN : Hid (Rd (w6.alloc (.cells #[.int .i64 6, .int .i64 0, .int .i64 0, S [], S [], .bool false, .slice none 0 0, .slice none 0 0, .slice none 0 0] 53)) (fun _ => False) 9 (some ⟨w6.heap.size, 0, none⟩) 1 (#[.int .i64 6, .int .i64 0, .int .i64 0, S [], S [], .bool false, .slice none 0 0, .slice none 0 0, .slice none 0 0]).toList) := hide (rd_lit w6 53 #[.int .i64 6, .int .i64 0, .int .i64 0, S [], S [], .bool false, .slice none 0 0, .slice none 0 0, .slice none 0 0] 9 (fun h => h) rfl)
    have HD6a : Hid (Blk (w6.alloc (.cells #[.int .i64 6, .int .i64 0, .int .i64 0, S [], S [], .bool false, .slice none 0 0, .slice none 0 0, .slice none 0 0] 53)) gd 43 #[.int .i64 cln, .int .i64 cco, S cn, S csu, .slice cfA cfk cfc, .slice (some ⟨gm, 0, none⟩) cmq c']) := hide (HD6.out.alloc _)
    have HE6a : Hid (Blk (w6.alloc (.cells #[.int .i64 6, .int .i64 0, .int .i64 0, S [], S [], .bool false, .slice none 0 0, .slice none 0 0, .slice none 0 0] 53)) g2 43 #[.int .i64 cln, .int .i64 cco, S cn, S csu, .slice cfA cfk cfc, .slice cmA cmq cmc]) := hide (HE6.out.alloc _)
    have HM6a : Hid (Blk (w6.alloc (.cells #[.int .i64 6, .int .i64 0, .int .i64 0, S [], S [], .bool false, .slice none 0 0, .slice none 0 0, .slice none 0 0] 53)) gm 48 cur) := hide (HM6.out.alloc _)
    have HON1 : Hid (∀ u ∈ (#[.int .i64 6, .int .i64 0, .int .i64 0, S [], S [], .bool false, .slice none 0 0, .slice none 0 0, .slice none 0 0]).toList, u.oneCell' = true) := hide (by intro u hu; simp at hu; rcases hu with rfl | rfl | rfl | rfl | rfl <;> rfl)
    have HB6a : Hid (Below w.heap.size w (w6.alloc (.cells #[.int .i64 6, .int .i64 0, .int .i64 0, S [], S [], .bool false, .slice none 0 0, .slice none 0 0, .slice none 0 0] 53))) := hide (HB6.out.alloc HB6.out.size _)
    have hnd : some gd ≠ (Value.slice A6 mbk c6).ownBlock := by have := own_blk_ne HO6.out HD6.out (by decide); exact fun e => this e.symm
    have hne : some g2 ≠ (Value.slice A6 mbk c6).ownBlock := by have := own_blk_ne HO6.out HE6.out (by decide); exact fun e => this e.symm
    have hnm : some gm ≠ (Value.slice A6 mbk c6).ownBlock := by have := own_blk_ne HO6.out HM6.out (by decide); exact fun e => this e.symm
    have hob : ∀ k0, (Value.slice A6 mbk c6).ownBlock = some k0 → w.heap.size ≤ k0 := fun k0 hk => (HO6.out.lt k0 hk).1
    clear hown6 hgrow6 HD5a HE5a HM5a HB5a hlitd hlite hlitm hlit HOWN HRS HONE HD6 HE6 HM6 HB6 HO6
    go_wp2_with (at_builtin; go_loud (refine app_rd rfl (.tmp 93) (.tmp 95) 46 rfl w.heap.size 53 _ 9 136 Tryd.underlying46 st_info rfl (by decide) _ mbk (mbs.flatMap St.cells) rfl HOA.out (some ⟨w6.heap.size, 0, none⟩) 1 1 (#[.int .i64 6, .int .i64 0, .int .i64 0, S [], S [], .bool false, .slice none 0 0, .slice none 0 0, .slice none 0 0]).toList rfl HRN.out HON1.out (by unfold maxLen; omega) (by omega) HB6a.out.size ?_))
    intro A8 c8 w8 hown8 hgrow8 _
    have HB8 : Hid (Below w.heap.size w w8) := hide (HB6a.out.grown hgrow8 HB6a.out.size hob)
    have HD8 := hide (HD6a.out.grown hgrow8 hnd)
    have HE8 := hide (HE6a.out.grown hgrow8 hne)
    have HM8 := hide (HM6a.out.grown hgrow8 hnm)
    have HO8 := hide hown8
    clear hown8 hgrow8 HOA HRN HD6a HE6a HM6a HB6a hnd hne hnm hob m0 m1 m2 m3 m4 m5 m6 m7
    clear e7
    have k7 := (HM8.out.cell 7).trans ((cur_at HTK.out (by omega)).trans (show ((⟨mln, mco, mn, mst, mpA, mpk, mpc, mps, mrn, mra, mbA, mbk, mbc, mbs⟩ : Me) :: r |>.flatMap Me.cells)[7]? = some (.slice mbA mbk mbc) from rfl))
    have z7 := HM8.out.frozen 7
    go_upto_region 27 with fail
    refine name_world ?_
    intro wF hwF
    have HDF : Hid (Blk wF gd 43 #[.int .i64 cln, .int .i64 cco, S cn, S csu, .slice cfA cfk cfc, .slice (some ⟨gm, 0, none⟩) cmq c']) := hide (by rw [hwF]; exact HD8.out.far hgmd.symm _)
    have HEF : Hid (Blk wF g2 43 #[.int .i64 cln, .int .i64 cco, S cn, S csu, .slice cfA cfk cfc, .slice cmA cmq cmc]) := hide (by rw [hwF]; exact HE8.out.far hgme.symm _)
    have HMF : Hid (Blk wF gm 48 (cur.setIfInBounds 7 (.slice A8 (mbk + 1) c8))) := hide (by rw [hwF]; exact HM8.out.set_ 7 _)
    have HBF : Hid (Below w.heap.size w wF) := hide (by rw [hwF]; exact HB8.out.setCell hgm _)
    have HOF : Hid (wF.ownsRow w.heap.size 53 9 (.slice A8 (mbk + 1) c8) (mbk + 1) ((mbs ++ [(St.mk 6 0 0 [] [] false none 0 0 [] none 0 0 [] none 0 0 [])]).flatMap St.cells)) := hide (by
      rw [hwF]
      have hh := HO8.out
      have hn8 := own_blk_ne HO8.out HM8.out (by decide)
      refine own_keep (F := fun i => i = gm) (by rw [List.flatMap_append]; exact hh) ((Keep.refl (fun i => i = gm) w8).setCell (p := ⟨gm, 7, none⟩) (fun _ => rfl) _) (fun i hi e => hn8 (by rw [hi, e])))
    have htkF := cur_set (j := 7) HTK.out (.slice A8 (mbk + 1) c8)
    clear hwF k7 z7 HD8 HE8 HM8 HB8 HO8
    have hdat : Kl.At wF (fun b => wF.heap.size ≤ b) (⟨cln, cco, cn, csu, cfA, cfk, cfc, cfs, (some ⟨gm, 0, none⟩), cmq, c', ((⟨mln, mco, mn, mst, mpA, mpk, mpc, mps, mrn, mra, A8, (mbk + 1), c8, (mbs ++ [(St.mk 6 0 0 [] [] false none 0 0 [] none 0 0 [] none 0 0 [])])⟩ : Me) :: r)⟩ : Kl) := by
      have hcF := HCA.out wF HBF.out
      have hm0A := hcF.ma _ List.mem_cons_self
      exact ⟨hcF.fr, hcF.fl, hcF.fm, rd_blk HMF.out htkF (HFL.out _) (by have := HMF.out.lt; omega), hcl, HCAP.out, HCF.out wF HBF.out _ { hm0A with br := own_rd HOF.out (fun k hk => by omega), bl := (by have : mbs.length = mbk := hm0A.bl; simp [this]), bm := (by have : mbk ≤ 10 := HM0.out.2; show mbk + 1 ≤ _; omega), ba := (fun s hs => (List.mem_append.1 hs).elim (hm0A.ba s) (fun h => by rw [List.mem_singleton.1 h]; exact newst_at _ _)) }, hcF.sb⟩
    have hcF := HCA.out wF HBF.out
    have HS1 : Hid (∀ w', Below wF.heap.size wF w' → Calls Tryd.prog 24 #[.agg #[.int .i64 cln, .int .i64 cco, S cn, S csu, .slice cfA cfk cfc, .slice cmA cmq cmc], .agg #[.int .i64 cln, .int .i64 cco, S cn, S csu, .slice cfA cfk cfc, .slice (some ⟨gm, 0, none⟩) cmq c']] w' (Gives w' (.bool false))) := hide (fun w' hb => by
      have h := pair_any _ _ w' (hcF.on hb) (hdat.on hb) (alike_cons (.inr (show mbk ≠ mbk + 1 by omega)))
      rw [show cSame _ _ _ = false by simp [cSame, eqA_head, pSame, mSame]] at h
      exact h)
    have HS2 : Hid (∀ w', Below wF.heap.size wF w' → Calls Tryd.prog 24 #[.agg #[.int .i64 cln, .int .i64 cco, S cn, S csu, .slice cfA cfk cfc, .slice (some ⟨gm, 0, none⟩) cmq c'], .agg #[.int .i64 cln, .int .i64 cco, S cn, S csu, .slice cfA cfk cfc, .slice cmA cmq cmc]] w' (Gives w' (.bool false))) := hide (fun w' hb => by
      have h := pair_any _ _ w' (hdat.on hb) (hcF.on hb) (alike_cons (.inr (show mbk + 1 ≠ mbk by omega)))
      rw [show cSame _ _ _ = false by simp [cSame, eqA_head, pSame, mSame]] at h
      exact h)
    clear hdat hcF
    have q0 := HEF.out.cell 0
    have q1 := HEF.out.cell 1
    have q2 := HEF.out.cell 2
    have q3 := HEF.out.cell 3
    have q4 := HEF.out.cell 4
    have q5 := HEF.out.cell 5
    simp at q0 q1 q2 q3 q4 q5
    have t0 := HDF.out.cell 0
    have t1 := HDF.out.cell 1
    have t2 := HDF.out.cell 2
    have t3 := HDF.out.cell 3
    have t4 := HDF.out.cell 4
    have t5 := HDF.out.cell 5
    simp at t0 t1 t2 t3 t4 t5
    go_wp2_with fail
    refine (HS1.out _ (Below.refl _ _)).mono ?_
    rintro e w7 ⟨rfl, hb7⟩
    have HE7 := hide (HEF.out.below hb7 HEF.out.lt)
    have HD7 := hide (HDF.out.below hb7 HDF.out.lt)
    have HS3 := hide (HS2.out w7 hb7)
    have HB7 : Hid (Below w.heap.size w w7) := hide (HBF.out.trans (hb7.mono HBF.out.size))
    clear hb7 q0 q1 q2 q3 q4 q5 t0 t1 t2 t3 t4 t5
    have q0 := HE7.out.cell 0
    have q1 := HE7.out.cell 1
    have q2 := HE7.out.cell 2
    have q3 := HE7.out.cell 3
    have q4 := HE7.out.cell 4
    have q5 := HE7.out.cell 5
    simp at q0 q1 q2 q3 q4 q5
    have t0 := HD7.out.cell 0
    have t1 := HD7.out.cell 1
    have t2 := HD7.out.cell 2
    have t3 := HD7.out.cell 3
    have t4 := HD7.out.cell 4
    have t5 := HD7.out.cell 5
    simp at t0 t1 t2 t3 t4 t5
    go_wp2_with fail
    refine HS3.out.mono ?_
    rintro e w8 ⟨rfl, hb8⟩
    go_wp2_with fail
    go_ret
    exact ⟨rfl, HB7.out.trans (hb8.mono HB7.out.size)⟩
  exact absurd hN7 (by omega)
end Go.Proofs.YtleccalfcnkklaaDoor
