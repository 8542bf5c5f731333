/- FewClass walked; no statement of the seat is proved here. -/
import Derived.Test.YtkgnoemagklmiaaK5Open
import Derived.Test.YtkgnoemagklmiaaK5Few
namespace Go.Proofs.Ytkgnoemagklmiaa.K5
open Go.RowKit
set_option linter.unusedVariables false

def Me.few (m : Me) : Bool := decide (m.pk ≤ 8) && decide (m.n.length ≤ 40) && fewL 0 m.bs
def Kl.few (c : Kl) : Bool := decide (c.fk ≤ 10) && decide (c.mq ≤ 10) && decide (c.n.length + c.su.length ≤ 80) && c.ms.all Me.few

set_option maxRecDepth 100000 in
set_option maxHeartbeats 8000000 in
theorem fewclass_any (c : Kl) (w : World) (h : c.At w (fun b => w.heap.size ≤ b)) : Calls Try.prog 13 #[c.val] w (Gives w (.bool c.few)) := by
  obtain ⟨R, hR⟩ : ∃ R, R = c.few := ⟨_, rfl⟩
  rw [← hR]
  obtain ⟨cln, cco, cn, csu, cfA, cfk, cfc, cfs, cmA, cmq, cmc, cms⟩ := c
  have hmb : cmq ≤ 9223372036854775807 := Nat.le_trans h.mm.1 h.mm.2
  have hfb : cfk ≤ 9223372036854775807 := Nat.le_trans h.fm.1 h.fm.2
  have hnb : cn.length ≤ 140737488351232 := h.sb.1
  have hsb : csu.length ≤ 140737488351232 := h.sb.2
  simp only [Kl.few] at hR
  rw [dec_flip cfk 10 10 rfl, dec_flip cmq 10 10 rfl, dec_flip (cn.length + csu.length) 80 80 rfl] at hR
  obtain ⟨b1, d1⟩ : ∃ b, decide (10 < (cfk : Int)) = b := ⟨_, rfl⟩
  obtain ⟨b2, d2⟩ : ∃ b, decide (10 < (cmq : Int)) = b := ⟨_, rfl⟩
  obtain ⟨b3, d3'⟩ : ∃ b, decide (80 < ((cn.length + csu.length : Nat) : Int)) = b := ⟨_, rfl⟩
  rw [d1, d2, d3'] at hR
  have d3 : decide (80 < (cn.length : Int) + (csu.length : Int)) = b3 := by rw [← d3']; simp
  have HR := hide (fun _ : Unit => hR)
  have HAT := hide h
  obtain ⟨wA, hwA⟩ : ∃ wA, wA = w.alloc (.cells #[.int .i64 cln, .int .i64 cco, S cn, S csu, .slice cfA cfk cfc, .slice cmA cmq cmc] 39) := ⟨_, rfl⟩
  have HBA : Hid (Below w.heap.size w wA) := hide (by rw [hwA]; exact (Below.refl _ _).alloc (Nat.le_refl _) _)
  have HBK : Hid (Blk wA w.heap.size 39 #[.int .i64 cln, .int .i64 cco, S cn, S csu, .slice cfA cfk cfc, .slice cmA cmq cmc]) := hide (by rw [hwA]; exact Blk.new _ _ _)
  have c2 := HBK.out.cell 2
  have c3 := HBK.out.cell 3
  have c4 := HBK.out.cell 4
  have c5 := HBK.out.cell 5
  simp at c2 c3 c4 c5
  clear h hR d3'
  show Calls Try.prog 13 #[.agg #[.int .i64 cln, .int .i64 cco, S cn, S csu, .slice cfA cfk cfc, .slice cmA cmq cmc]] w _
  cases b1
  case true =>
    have HF : Hid (R = false) := hide (by rw [HR.out ()]; simp)
    go_enter Try.func13, Try.ntmps13
    go_upto_region 1 with fail
    rw [← hwA]
    clear hwA
    go_wp2_with fail
    go_ret
    exact ⟨by rw [HF.out] <;> rfl, HBA.out⟩
  cases b2
  case true =>
    have HF : Hid (R = false) := hide (by rw [HR.out ()]; simp)
    go_enter Try.func13, Try.ntmps13
    go_upto_region 1 with fail
    rw [← hwA]
    clear hwA
    go_wp2_with fail
    go_ret
    exact ⟨by rw [HF.out] <;> rfl, HBA.out⟩
  cases b3
  case true =>
    have HF : Hid (R = false) := hide (by rw [HR.out ()]; simp)
    go_enter Try.func13, Try.ntmps13
    go_upto_region 1 with fail
    rw [← hwA]
    clear hwA
    go_wp2_with fail
    go_ret
    exact ⟨by rw [HF.out] <;> rfl, HBA.out⟩
  have HRA : Hid (∀ _ : Unit, R = cms.all Me.few) := hide (fun _ => by rw [HR.out ()]; simp)
  clear HR
  go_enter Try.func13, Try.ntmps13
  go_upto_region 1 with fail
  rw [← hwA]
  clear hwA
  go_wp2_with fail
  clear c2 c3 c4 c5 d1 d2 d3
  go_loopw [28] (fun i wr => ∃ j : Nat, j ≤ cmq ∧ i = .int .i64 j ∧ Hid (Below w.heap.size w wr) ∧ Hid (∀ x ∈ cms.take j, x.few = true)) (fun i _ => cmq - (intOf i).toNat)
  case atStart => exact ⟨0, Nat.zero_le _, rfl, HBA, hide (by intro x hx; simp at hx)⟩
  case round =>
    obtain ⟨j, hj, rfl, HBR, HALL⟩ := hrel
    by_cases hlt : j < cmq
    case neg =>
      obtain rfl : j = cmq := by omega
      have HF : Hid (R = true) := hide (by rw [HRA.out ()]; exact all_yes HAT.out.ml HALL.out)
      have hjk : ¬ (j : Int) < (j : Int) := by omega
      go_wp2_with fail
      go_ret
      exact ⟨by rw [HF.out] <;> rfl, HBR.out⟩
    obtain ⟨b, o, hA, _, hbl, hcs⟩ := Rd.rec_ (f := Me.cells) Me.cells_len (HAT.out.mr.below HBR.out) HAT.out.ml j hlt
    have hlk : j < cms.length := by have : cms.length = cmq := HAT.out.ml; omega
    have hm := HAT.out.ma cms[j] (List.getElem_mem hlk)
    have HYES : Hid (cms[j].few = true → ∀ x ∈ cms.take (j + 1), x.few = true) := hide (take_yes hlk HALL.out)
    have HNO : Hid (cms[j].few = false → R = false) := hide (fun h => by rw [HRA.out ()]; exact all_no (f := Me.few) hlk h)
    generalize cms[j] = x at hcs hm HYES HNO
    obtain ⟨mln, mco, mn, mst, mpA, mpk, mpc, mps, mrn, mra, mbA, mbk, mbc, mbs⟩ := x
    have HFS : Hid (∀ w', Below w.heap.size w w' → Calls Try.prog 35 #[.slice mbA mbk mbc, .int .i64 0] w' (Gives w' (.bool (fewL 0 mbs)))) := hide (fun w' hb => fewstmts_any mbA mbk mbc mbs w' ((hm.br.below hb).weak fun _ _ h2 => Nat.le_trans hb.size h2) hm.bl hm.bm (fun x hx => (hm.ba x hx).on hb))
    have hpk : mpk ≤ 9223372036854775807 := hm.pm
    simp only [Me.few] at HYES HNO
    rw [dec_flip mpk 8 8 rfl, dec_flip mn.length 40 40 rfl] at HYES HNO
    obtain ⟨b4, d4⟩ : ∃ b, decide (8 < (mpk : Int)) = b := ⟨_, rfl⟩
    obtain ⟨b5, d5⟩ : ∃ b, decide (40 < (mn.length : Int)) = b := ⟨_, rfl⟩
    rw [d4, d5] at HYES HNO
    generalize fewL 0 mbs = X at HFS HYES HNO
    clear hm
    have hjk : (j : Int) < (cmq : Int) := by omega
    have q0 := hcs 0 (.int .i64 mln) rfl
    have q1 := hcs 1 (.int .i64 mco) rfl
    have q2 := hcs 2 (S mn) rfl
    have q3 := hcs 3 (.bool mst) rfl
    have q4 := hcs 4 (.slice mpA mpk mpc) rfl
    have q5 := hcs 5 (S mrn) rfl
    have q6 := hcs 6 (.bool mra) rfl
    have q7 := hcs 7 (.slice mbA mbk mbc) rfl
    simp only [Nat.add_zero] at q0 q1 q2 q3 q4 q5 q6 q7
    clear hcs
    replace hA : cmA = some ⟨b, o, none⟩ := hA
    rw [hA]
    go_upto_region 6 with fail
    refine name_world ?_
    intro wC hwC
    have hbc : Below wr.heap.size wr wC := by rw [hwC]; exact (Below.refl _ _).alloc (Nat.le_refl _) _
    have HV : Hid (Blk wC wr.heap.size 48 #[.int .i64 mln, .int .i64 mco, S mn, .bool mst, .slice mpA mpk mpc, S mrn, .bool mra, .slice mbA mbk mbc]) := hide (by rw [hwC]; exact Blk.new _ _ _)
    have HBC : Hid (Below w.heap.size w wC) := hide (HBR.out.trans (hbc.mono HBR.out.size))
    clear hwC hbc q0 q1 q2 q3 q4 q5 q6 q7
    generalize wr.heap.size = g1 at HV ⊢
    have q2 := HV.out.cell 2
    have q4 := HV.out.cell 4
    have q7 := HV.out.cell 7
    simp at q2 q4 q7
    cases b4
    case true =>
      have HF := hide (HNO.out (by simp))
      go_wp2_with fail
      go_ret
      exact ⟨by rw [HF.out] <;> rfl, HBC.out⟩
    cases b5
    case true =>
      have HF := hide (HNO.out (by simp))
      go_wp2_with fail
      go_ret
      exact ⟨by rw [HF.out] <;> rfl, HBC.out⟩
    cases X
    case false =>
      have HF := hide (HNO.out (by simp))
      go_wp2_with (go_at_call 35; refine (HFS.out _ HBC.out).mono ?_; rintro e w2 ⟨rfl, hb2⟩)
      go_ret
      exact ⟨by rw [HF.out] <;> rfl, HBC.out.trans (hb2.mono HBC.out.size)⟩
    have HY := hide (HYES.out (by simp))
    go_wp2_with (go_at_call 35; refine (HFS.out _ HBC.out).mono ?_; rintro e w2 ⟨rfl, hb2⟩; have HB2 : Hid (Below w.heap.size w w2) := hide (HBC.out.trans (hb2.mono HBC.out.size)); clear hb2)
    go_roundw
    case rel => first | exact ⟨j + 1, by omega, by go_num, HB2, HY⟩ | ((repeat apply Exists.intro); exact ⟨⟨j + 1, by omega, by go_num, HB2, HY⟩, rfl⟩)
    case measure => simp [intOf]; omega
end Go.Proofs.Ytkgnoemagklmiaa.K5
