/- FaceApart returns true for whatever two faces: the walk; no statement of the seat is proved here. -/
import Derived.Test.YtkgnoemagklmiaaFaceHead
import Derived.Test.YtkgnoemagklmiaaOpenTyC
namespace Go.Proofs.Ytkgnoemagklmiaa
open Go.RowKit

abbrev Fc.cellA (f : Fc) : Array Value := #[S f.n, S f.su, .slice f.fA f.fl f.fc, .slice f.mA f.ml f.mc]
set_option maxRecDepth 100000 in
set_option maxHeartbeats 16000000 in
theorem fapart_walk (f f' : Fc) (w : World) (h : f.at_ w (fun k => w.heap.size ≤ k)) (h' : f'.at_ w (fun k => w.heap.size ≤ k)) : Calls Try.prog 3 #[f.val, f'.val] w (Gives w (.bool true)) := by
  obtain ⟨wA, hwA⟩ : ∃ wA, wA = (w.alloc (.cells f.cellA 25)).alloc (.cells f'.cellA 25) := ⟨_, rfl⟩
  have hbA : Below w.heap.size w wA := by rw [hwA]; exact ((Below.refl _ _).alloc (Nat.le_refl _) _).alloc (by simp) _
  have hbk : Blk wA w.heap.size 25 f.cellA := by rw [hwA]; exact (Blk.new _ _ _).alloc _
  have hbk' : Blk wA (w.heap.size + 1) 25 f'.cellA := by
    rw [hwA]
    have := Blk.new (w.alloc (.cells f.cellA 25)) 25 f'.cellA
    rwa [World.size_alloc] at this
  have HBA := hide hbA
  have HK : Hid (∀ w', Below wA.heap.size wA w' → Blk w' w.heap.size 25 f.cellA) := hide (fun w' hb => hbk.below hb hbk.lt)
  have HK' : Hid (∀ w', Below wA.heap.size wA w' → Blk w' (w.heap.size + 1) 25 f'.cellA) := hide (fun w' hb => hbk'.below hb hbk'.lt)
  have HA : Hid (∀ w', Below wA.heap.size wA w' → f.at_ w' (fun k => wA.heap.size ≤ k)) := hide (fun w' hb => (h.below (hbA.trans (hb.mono hbA.size))).weak (fun _ hk => Nat.le_trans hbA.size hk))
  have HA' : Hid (∀ w', Below wA.heap.size wA w' → f'.at_ w' (fun k => wA.heap.size ≤ k)) := hide (fun w' hb => (h'.below (hbA.trans (hb.mono hbA.size))).weak (fun _ hk => Nat.le_trans hbA.size hk))
  have HQ := hide (face_eq h h')
  have HLE := hide (fun hf : f.few => few_le h hf)
  have HLE' := hide (fun hf : f'.few => few_le h' hf)
  obtain ⟨Q, hQ⟩ : ∃ Q, Q = decide (f.p = f'.p) := ⟨_, rfl⟩
  have hQ' : decide (f'.p = f.p) = Q := by rw [hQ]; exact decide_eq_decide.2 ⟨fun e => e.symm, fun e => e.symm⟩
  rw [← hQ] at HQ
  have HQQ := hide (And.intro hQ.symm hQ')
  have HF1 : Hid (∀ w', Below wA.heap.size wA w' → Calls Try.prog 9 #[f.val] w' (Asks w' f.few)) := hide (fun w' hb => few_any f w' ((HA.out w' hb).weak (fun _ hk => Nat.le_trans hb.size hk)))
  have HF2 : Hid (∀ w', Below wA.heap.size wA w' → Calls Try.prog 9 #[f'.val] w' (Asks w' f'.few)) := hide (fun w' hb => few_any f' w' ((HA'.out w' hb).weak (fun _ hk => Nat.le_trans hb.size hk)))
  have HH := hide (fhead_any wA)
  clear hbA hbk hbk' hQ hQ' h h'
  obtain ⟨n, su, fA, fl, fc, fs, mA, ml, mc, ms⟩ : Fc := f
  obtain ⟨n', su', fA', fl', fc', fs', mA', ml', mc', ms'⟩ : Fc := f'
  simp only [Fc.val, Fc.cellA] at HF1 HF2 HK HK' hwA ⊢
  go_enter Try.func3, Try.ntmps3
  go_upto_region 1 with fail
  rw [← hwA]
  clear hwA
  go_upto_region 3 with (go_at_call 8; refine HH.out.mono ?_; rintro e w1 ⟨rfl, hb1⟩)
  have HB1 := hide hb1
  clear hb1 HH
  have k0 := (HK.out w1 HB1.out).cell 0
  have k1 := (HK.out w1 HB1.out).cell 1
  have k2 := (HK.out w1 HB1.out).cell 2
  have k3 := (HK.out w1 HB1.out).cell 3
  simp at k0 k1 k2 k3
  go_wp2_with fail
  refine (HF1.out w1 HB1.out).mono ?_
  rintro e w2 ⟨R1, rfl, hb2, hr1⟩
  clear k0 k1 k2 k3
  have HB2 : Hid (Below wA.heap.size wA w2) := hide (HB1.out.trans (hb2.mono HB1.out.size))
  clear hb2 HB1
  cases R1 with
  | false =>
    clear hr1
    go_wp2_with fail
    go_ret
    exact ⟨rfl, HBA.out.trans (HB2.out.mono HBA.out.size)⟩
  | true =>
  have HR1 := hide (HLE.out (hr1 rfl))
  clear hr1
  have k0 := (HK'.out w2 HB2.out).cell 0
  have k1 := (HK'.out w2 HB2.out).cell 1
  have k2 := (HK'.out w2 HB2.out).cell 2
  have k3 := (HK'.out w2 HB2.out).cell 3
  simp at k0 k1 k2 k3
  go_wp2_with fail
  refine (HF2.out w2 HB2.out).mono ?_
  rintro e w3 ⟨R2, rfl, hb3, hr2⟩
  clear k0 k1 k2 k3
  have HB3 : Hid (Below wA.heap.size wA w3) := hide (HB2.out.trans (hb3.mono HB2.out.size))
  clear hb3 HB2
  cases R2 with
  | false =>
    clear hr2
    go_wp2_with fail
    go_ret
    exact ⟨rfl, HBA.out.trans (HB3.out.mono HBA.out.size)⟩
  | true =>
  have HR2 := hide (HLE'.out (hr2 rfl))
  clear hr2 HF1 HF2 HLE HLE'
  go_upto_region 7 with fail
  refine name_world ?_
  intro w4 hw4
  have HB4 : Hid (Below wA.heap.size wA w4) := hide (by rw [hw4]; exact (HB3.out.alloc HB3.out.size _).alloc (by have := HB3.out.size; simp; omega) _)
  have HWA : Hid (Wr w4 w3.heap.size (.slice none 0 0) []) := hide (by rw [hw4]; exact (wr_new w3).alloc _)
  have HWB : Hid (Wr w4 (w3.heap.size + 1) (.slice none 0 0) []) := hide (by
    rw [hw4]
    have := wr_new (w3.alloc (.cells #[.slice none 0 0] 31))
    rwa [World.size_alloc] at this)
  have HS3 : Hid (wA.heap.size ≤ w3.heap.size) := hide HB3.out.size
  clear hw4
  obtain ⟨ga, hga⟩ : ∃ g, g = w3.heap.size := ⟨_, rfl⟩
  obtain ⟨gb, hgb⟩ : ∃ g, g = w3.heap.size + 1 := ⟨_, rfl⟩
  rw [← hgb] at HWB ⊢
  rw [← hga] at HWA HS3 ⊢
  have HGN : Hid (ga ≠ gb) := hide (by omega)
  have HGB : Hid (wA.heap.size ≤ gb) := hide (by have := HS3.out; omega)
  clear hga hgb HB3
  obtain ⟨F1, hF1⟩ : ∃ F, F = fcL (Fc.pl ⟨n, su, fA, fl, fc, fs, mA, ml, mc, ms⟩) := ⟨_, rfl⟩
  obtain ⟨F2, hF2⟩ : ∃ F, F = fcL (Fc.pl ⟨n', su', fA', fl', fc', fs', mA', ml', mc', ms'⟩) := ⟨_, rfl⟩
  have HL1 : Hid (Calls Try.prog 10 #[.agg #[S n, S su, .slice fA fl fc, .slice mA ml mc], .pointer (some ⟨ga, 0, none⟩)] w4 (LaysOff ga (.slice none 0 0) w4 F1 w4)) := hide (by
    have := flay_any ⟨n, su, fA, fl, fc, fs, mA, ml, mc, ms⟩ ga (.slice none 0 0) [] w4 HWA.out ((HA.out w4 HB4.out).weak (fun k hk => by rcases hk with hk | hk <;> first | (rw [hk]; exact HS3.out) | (simp [Value.ownBlock] at hk))) (by have := HR1.out; simp; omega)
    rw [List.nil_append, ← hF1] at this
    exact this)
  have k0 := (HK.out w4 HB4.out).cell 0
  have k1 := (HK.out w4 HB4.out).cell 1
  have k2 := (HK.out w4 HB4.out).cell 2
  have k3 := (HK.out w4 HB4.out).cell 3
  simp at k0 k1 k2 k3
  go_upto_region 8 with (go_at_call 10; refine HL1.out.mono ?_; rintro e w5 ⟨rfl, ⟨va, hwr⟩, hst⟩)
  clear k0 k1 k2 k3
  have HK5 : Hid (Keep (Same ga (.slice none 0 0)) w4 w5) := hide hwr.2.1
  have HB5 : Hid (Below wA.heap.size wA w5) := hide (((Keep.of_below (F := fun i => wA.heap.size ≤ i) HB4.out (fun i _ h => h)).trans (HK5.out.mono (fun i _ h => by rcases h with h | h <;> first | (rw [h]; exact HS3.out) | (simp [Value.ownBlock] at h)))).below (Nat.le_refl _) (fun i h => h))
  have HWA5 := hide hwr.1
  have HVA : Hid (∀ k, va.ownBlock = some k → k ≠ gb ∧ wA.heap.size ≤ k) := hide (fun k hk => by
    refine ⟨fun e => own_blk_ne hwr.1.own (HWB.out.keep HK5.out (fun h => by rcases h with h | h <;> first | exact HGN.out h.symm | (simp [Value.ownBlock] at h)) (fun k hk => by simp [Value.ownBlock] at hk)).blk (by decide) (by rw [hk, e]), ?_⟩
    rcases hwr.2.2 with h | ⟨k', h1, h2⟩
    · rw [hk] at h; simp [Value.ownBlock] at h
    · rw [hk] at h1; injection h1 with h1; have := HB4.out.size; omega)
  have HWB5 : Hid (Wr w5 gb (.slice none 0 0) []) := hide (HWB.out.keep HK5.out (fun h => by rcases h with h | h <;> first | exact HGN.out h.symm | (simp [Value.ownBlock] at h)) (fun k hk => by simp [Value.ownBlock] at hk))
  clear hwr hst HWA HWB HL1 HK5 HB4
  have HL2 : Hid (Calls Try.prog 10 #[.agg #[S n', S su', .slice fA' fl' fc', .slice mA' ml' mc'], .pointer (some ⟨gb, 0, none⟩)] w5 (LaysOff gb (.slice none 0 0) w5 F2 w5)) := hide (by
    have := flay_any ⟨n', su', fA', fl', fc', fs', mA', ml', mc', ms'⟩ gb (.slice none 0 0) [] w5 HWB5.out ((HA'.out w5 HB5.out).weak (fun k hk => by rcases hk with hk | hk <;> first | (rw [hk]; exact HGB.out) | (simp [Value.ownBlock] at hk))) (by have := HR2.out; simp; omega)
    rw [List.nil_append, ← hF2] at this
    exact this)
  have k0 := (HK'.out w5 HB5.out).cell 0
  have k1 := (HK'.out w5 HB5.out).cell 1
  have k2 := (HK'.out w5 HB5.out).cell 2
  have k3 := (HK'.out w5 HB5.out).cell 3
  simp at k0 k1 k2 k3
  go_upto_region 9 with (go_at_call 10; refine HL2.out.mono ?_; rintro e w6 ⟨rfl, ⟨vb, hwr⟩, hst⟩)
  clear k0 k1 k2 k3
  have HK6 : Hid (Keep (Same gb (.slice none 0 0)) w5 w6) := hide hwr.2.1
  have HB6 : Hid (Below wA.heap.size wA w6) := hide (((Keep.of_below (F := fun i => wA.heap.size ≤ i) HB5.out (fun i _ h => h)).trans (HK6.out.mono (fun i _ h => by rcases h with h | h <;> first | (rw [h]; exact HGB.out) | (simp [Value.ownBlock] at h)))).below (Nat.le_refl _) (fun i h => h))
  have HWA6 : Hid (Wr w6 ga va F1) := hide (HWA5.out.keep HK6.out (fun h => by rcases h with h | h <;> first | exact HGN.out h | (simp [Value.ownBlock] at h)) (fun k hk h => by rcases h with h | h <;> first | exact (HVA.out k hk).1 h | (simp [Value.ownBlock] at h)))
  have HWB6 : Hid (Wr w6 gb vb F2) := hide hwr.1
  clear hwr hst HWA5 HWB5 HL2 HK6 HB5
  have HSA : Hid (∀ t : After w6, Calls Try.prog 12 #[.pointer (some ⟨ga, 0, none⟩)] t.val (Gives t.val (S F1))) := hide (fun t => by
    refine (string_any ga va F1 t.val ⟨HWA6.out.blk.below t.prop HWA6.out.blk.lt, own_below HWA6.out.own t.prop⟩).mono ?_
    rintro e w' ⟨rfl, rfl⟩
    exact ⟨rfl, Below.refl _ _⟩)
  have HSB : Hid (∀ t : After w6, Calls Try.prog 12 #[.pointer (some ⟨gb, 0, none⟩)] t.val (Gives t.val (S F2))) := hide (fun t => by
    refine (string_any gb vb F2 t.val ⟨HWB6.out.blk.below t.prop HWB6.out.blk.lt, own_below HWB6.out.own t.prop⟩).mono ?_
    rintro e w' ⟨rfl, rfl⟩
    exact ⟨rfl, Below.refl _ _⟩)
  have HM12 : Hid (∀ t : After w6, Calls Try.prog 11 #[.agg #[S n, S su, .slice fA fl fc, .slice mA ml mc], .agg #[S n', S su', .slice fA' fl' fc', .slice mA' ml' mc']] t.val (Gives t.val (.bool Q))) := hide (fun t => by
    have hb := HB6.out.trans (t.prop.mono HB6.out.size)
    have := facesame_any _ _ t.val ((HA.out _ hb).weak (fun _ hk => Nat.le_trans hb.size hk)) ((HA'.out _ hb).weak (fun _ hk => Nat.le_trans hb.size hk))
    rwa [HQQ.out.1] at this)
  have HM21 : Hid (∀ t : After w6, Calls Try.prog 11 #[.agg #[S n', S su', .slice fA' fl' fc', .slice mA' ml' mc'], .agg #[S n, S su, .slice fA fl fc, .slice mA ml mc]] t.val (Gives t.val (.bool Q))) := hide (fun t => by
    have hb := HB6.out.trans (t.prop.mono HB6.out.size)
    have := facesame_any _ _ t.val ((HA'.out _ hb).weak (fun _ hk => Nat.le_trans hb.size hk)) ((HA.out _ hb).weak (fun _ hk => Nat.le_trans hb.size hk))
    rwa [HQQ.out.2] at this)
  have HM11 : Hid (∀ t : After w6, Calls Try.prog 11 #[.agg #[S n, S su, .slice fA fl fc, .slice mA ml mc], .agg #[S n, S su, .slice fA fl fc, .slice mA ml mc]] t.val (Gives t.val (.bool true))) := hide (fun t => by
    have hb := HB6.out.trans (t.prop.mono HB6.out.size)
    have := facesame_any _ _ t.val ((HA.out _ hb).weak (fun _ hk => Nat.le_trans hb.size hk)) ((HA.out _ hb).weak (fun _ hk => Nat.le_trans hb.size hk))
    rwa [decide_eq_true rfl] at this)
  have HEQ : Hid ((F1 == F2) = Q) := hide (by rw [hF1, hF2]; exact HQ.out)
  have k0 : ∀ t : After w6, t.val.cell? ⟨w.heap.size, 0, none⟩ = some (S n) := fun t => (HK.out t.val (HB6.out.trans (t.prop.mono HB6.out.size))).cell 0
  have k0' : ∀ t : After w6, t.val.cell? ⟨w.heap.size + 1, 0, none⟩ = some (S n') := fun t => (HK'.out t.val (HB6.out.trans (t.prop.mono HB6.out.size))).cell 0
  have k1 : ∀ t : After w6, t.val.cell? ⟨w.heap.size, 1, none⟩ = some (S su) := fun t => (HK.out t.val (HB6.out.trans (t.prop.mono HB6.out.size))).cell 1
  have k1' : ∀ t : After w6, t.val.cell? ⟨w.heap.size + 1, 1, none⟩ = some (S su') := fun t => (HK'.out t.val (HB6.out.trans (t.prop.mono HB6.out.size))).cell 1
  have k2 : ∀ t : After w6, t.val.cell? ⟨w.heap.size, 2, none⟩ = some (.slice fA fl fc) := fun t => (HK.out t.val (HB6.out.trans (t.prop.mono HB6.out.size))).cell 2
  have k2' : ∀ t : After w6, t.val.cell? ⟨w.heap.size + 1, 2, none⟩ = some (.slice fA' fl' fc') := fun t => (HK'.out t.val (HB6.out.trans (t.prop.mono HB6.out.size))).cell 2
  have k3 : ∀ t : After w6, t.val.cell? ⟨w.heap.size, 3, none⟩ = some (.slice mA ml mc) := fun t => (HK.out t.val (HB6.out.trans (t.prop.mono HB6.out.size))).cell 3
  have k3' : ∀ t : After w6, t.val.cell? ⟨w.heap.size + 1, 3, none⟩ = some (.slice mA' ml' mc') := fun t => (HK'.out t.val (HB6.out.trans (t.prop.mono HB6.out.size))).cell 3
  have d1 := HEQ.out
  clear hF1 hF2 HQ HQQ HR1 HR2 HWA6 HWB6 HVA HEQ HA HA' HK HK'
  cases Q
  all_goals
    refine region_after (by kernel_rfl) (by kernel_rfl) ?_
    repeat (go_big_quiet_step (first | (go_at_call 12; with_reducible refine call_after (HSA.out _)) | (go_at_call 12; with_reducible refine call_after (HSB.out _)) | (go_at_call 11; with_reducible refine call_after (HM12.out _)) | (go_at_call 11; with_reducible refine call_after (HM21.out _)) | (go_at_call 11; with_reducible refine call_after (HM11.out _))))
    refine wpQuiet_nil ?_
    rintro _ ⟨t, rfl⟩
    go_wp2_with fail
    go_ret
    exact ⟨rfl, HBA.out.trans (HB6.out.mono HBA.out.size |>.trans (t.prop.mono (Nat.le_trans HBA.out.size HB6.out.size)))⟩
end Go.Proofs.Ytkgnoemagklmiaa
