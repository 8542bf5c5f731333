/- AstExprs returns true for whatever expression: the walk. -/
import Derived.Test.YtleccalfcnkklaaDoorLText
import Derived.Test.YtleccalfcnkklaaDoorExSame
import Derived.Test.YtleccalfcnkklaaDoorTreeFew
import Derived.Test.YtleccalfcnkklaaDoorTreeOpen
import Derived.Test.YtleccalfcnkklaaDoorAstAhead
namespace Go.Proofs.YtleccalfcnkklaaDoor
open Go.RowKit

set_option maxRecDepth 100000 in
set_option maxHeartbeats 16000000 in
theorem exprs_walk (e : Ex) (w : World) (hL : Laid w) (he0 : e.At w (fun _ => False)) : Calls Tryd.prog 5 #[e.val] w (Gives w (.bool true)) := by
  have he := he0.old
  have HFE : Hid (∀ w', Below w.heap.size w w' → Calls Tryd.prog 11 #[e.val, .int .i64 0] w' (Gives w' (.bool (e.few 0)))) := hide (fun w' hb => few_any e 0 w' (by omega) (he.on hb))
  have HTE : Hid (e.few 0 = true → ∀ w', Below w.heap.size w w' → Calls Tryd.prog 13 #[e.val] w' (Gives w' (S e.text))) := hide (fun h w' hb => text_any e w' (hL.on hb) (he.on hb) (by have := Ex.few_bd he h; omega))
  have HLT : Hid (e.few 0 = true → ∀ w', Below w.heap.size w w' → Calls Tryd.prog 21 #[e.val] w' (Gives w' (S e.text))) := hide (fun h w' hb => ltext_any e w' (hL.on hb) (he.on hb) (by have := Ex.few_bd he h; omega))
  have HSM : Hid (∀ w', Below w.heap.size w w' → Calls Tryd.prog 22 #[e.val, e.val] w' (Gives w' (.bool true))) := hide (fun w' hb => esame_any e w' (he.on hb))
  have HH := hide (fun w => ahead_any w)
  clear he he0 hL
  obtain ⟨xd, xl, xo, xu, xn, xt, xa, xA, xk, xc, xs, xm, xb, xw⟩ := e
  obtain ⟨E, hE⟩ : ∃ E, E = Ex.mk xd xl xo xu xn xt xa xA xk xc xs xm xb xw := ⟨_, rfl⟩
  have HVE : Hid (∀ _ : Unit, E.val = .agg #[.int .i64 xd, .int .i64 xl, .int .i64 xo, .int .i64 xu, S xn, S xt, .bool xa, .slice xA xk xc, S xm, .bool xb, S xw]) := hide (fun _ => by rw [hE]; rfl)
  rw [← hE] at HFE HTE HLT HSM ⊢
  rw [HVE.out ()] at HFE HTE HLT HSM ⊢
  clear HVE hE
  generalize E.few 0 = be at HFE HTE HLT
  generalize E.text = te at HTE HLT
  go_enter Tryd.func5, Tryd.ntmps5
  go_upto_region 1 with fail
  refine name_world ?_
  intro wA hwA
  have HBA : Hid (Below w.heap.size w wA) := hide (by rw [hwA]; exact (Below.refl _ _).alloc (Nat.le_refl _) _)
  have HE : Hid (Blk wA w.heap.size 29 #[.int .i64 xd, .int .i64 xl, .int .i64 xo, .int .i64 xu, S xn, S xt, .bool xa, .slice xA xk xc, S xm, .bool xb, S xw]) := hide (by rw [hwA]; exact Blk.new _ _ _)
  clear hwA
  obtain ⟨g2, hg2⟩ : ∃ g, g = w.heap.size := ⟨_, rfl⟩
  rw [← hg2] at HE ⊢
  clear hg2
  go_upto_region 3 with (go_at_call 10; refine (HH.out _).mono ?_; rintro e w1 ⟨rfl, hb1⟩)
  have HB1 : Hid (Below w.heap.size w w1) := hide (HBA.out.trans (hb1.mono HBA.out.size))
  have HE1 := hide (HE.out.below hb1 HE.out.lt)
  clear hb1 HBA HE
  have HF2 : Hid (∀ t : After w1, Calls Tryd.prog 11 #[.agg #[.int .i64 xd, .int .i64 xl, .int .i64 xo, .int .i64 xu, S xn, S xt, .bool xa, .slice xA xk xc, S xm, .bool xb, S xw], .int .i64 0] t.val (Gives t.val (.bool be))) := hide (fun t => HFE.out t.val (HB1.out.trans (t.prop.mono HB1.out.size)))
  have q0 : ∀ t : After w1, t.val.cell? ⟨g2, 0, none⟩ = some (.int .i64 xd) := fun t => (HE1.out.below t.prop HE1.out.lt).cell 0
  have q1 : ∀ t : After w1, t.val.cell? ⟨g2, 1, none⟩ = some (.int .i64 xl) := fun t => (HE1.out.below t.prop HE1.out.lt).cell 1
  have q2 : ∀ t : After w1, t.val.cell? ⟨g2, 2, none⟩ = some (.int .i64 xo) := fun t => (HE1.out.below t.prop HE1.out.lt).cell 2
  have q3 : ∀ t : After w1, t.val.cell? ⟨g2, 3, none⟩ = some (.int .i64 xu) := fun t => (HE1.out.below t.prop HE1.out.lt).cell 3
  have q4 : ∀ t : After w1, t.val.cell? ⟨g2, 4, none⟩ = some (S xn) := fun t => (HE1.out.below t.prop HE1.out.lt).cell 4
  have q5 : ∀ t : After w1, t.val.cell? ⟨g2, 5, none⟩ = some (S xt) := fun t => (HE1.out.below t.prop HE1.out.lt).cell 5
  have q6 : ∀ t : After w1, t.val.cell? ⟨g2, 6, none⟩ = some (.bool xa) := fun t => (HE1.out.below t.prop HE1.out.lt).cell 6
  have q7 : ∀ t : After w1, t.val.cell? ⟨g2, 7, none⟩ = some (.slice xA xk xc) := fun t => (HE1.out.below t.prop HE1.out.lt).cell 7
  have q8 : ∀ t : After w1, t.val.cell? ⟨g2, 8, none⟩ = some (S xm) := fun t => (HE1.out.below t.prop HE1.out.lt).cell 8
  have q9 : ∀ t : After w1, t.val.cell? ⟨g2, 9, none⟩ = some (.bool xb) := fun t => (HE1.out.below t.prop HE1.out.lt).cell 9
  have q10 : ∀ t : After w1, t.val.cell? ⟨g2, 10, none⟩ = some (S xw) := fun t => (HE1.out.below t.prop HE1.out.lt).cell 10
  cases be
  case false =>
    clear HTE HLT HSM
    refine region_after (by kernel_rfl) (by kernel_rfl) ?_
    repeat (go_big_quiet_step (first | (go_at_call 11; with_reducible refine call_after (HF2.out _))))
    refine wpQuiet_nil ?_
    rintro _ ⟨t, rfl⟩
    go_wp2_with fail
    go_ret
    exact ⟨rfl, HB1.out.trans (t.prop.mono HB1.out.size)⟩
  have HT2 : Hid (∀ t : After w1, Calls Tryd.prog 13 #[.agg #[.int .i64 xd, .int .i64 xl, .int .i64 xo, .int .i64 xu, S xn, S xt, .bool xa, .slice xA xk xc, S xm, .bool xb, S xw]] t.val (Gives t.val (S te))) := hide (fun t => HTE.out (by trivial) t.val (HB1.out.trans (t.prop.mono HB1.out.size)))
  have HL2 : Hid (∀ t : After w1, Calls Tryd.prog 21 #[.agg #[.int .i64 xd, .int .i64 xl, .int .i64 xo, .int .i64 xu, S xn, S xt, .bool xa, .slice xA xk xc, S xm, .bool xb, S xw]] t.val (Gives t.val (S te))) := hide (fun t => HLT.out (by trivial) t.val (HB1.out.trans (t.prop.mono HB1.out.size)))
  have HS2 : Hid (∀ t : After w1, Calls Tryd.prog 22 #[.agg #[.int .i64 xd, .int .i64 xl, .int .i64 xo, .int .i64 xu, S xn, S xt, .bool xa, .slice xA xk xc, S xm, .bool xb, S xw], .agg #[.int .i64 xd, .int .i64 xl, .int .i64 xo, .int .i64 xu, S xn, S xt, .bool xa, .slice xA xk xc, S xm, .bool xb, S xw]] t.val (Gives t.val (.bool true))) := hide (fun t => HSM.out t.val (HB1.out.trans (t.prop.mono HB1.out.size)))
  have hte : (te == te) = true := by simp
  clear HTE HLT HSM HFE
  refine region_after (by kernel_rfl) (by kernel_rfl) ?_
  repeat (go_big_quiet_step (first | (go_at_call 11; with_reducible refine call_after (HF2.out _)) | (go_at_call 13; with_reducible refine call_after (HT2.out _)) | (go_at_call 21; with_reducible refine call_after (HL2.out _)) | (go_at_call 22; with_reducible refine call_after (HS2.out _))))
  refine wpQuiet_nil ?_
  rintro _ ⟨t, rfl⟩
  go_wp2_with fail
  go_ret
  exact ⟨rfl, HB1.out.trans (t.prop.mono HB1.out.size)⟩
  end Go.Proofs.YtleccalfcnkklaaDoor
