/- AstKids returns true for whatever expressions: the walk. -/
import Derived.Test.YtleccalfcnkklaaDoorTreeTwo
import Derived.Test.YtleccalfcnkklaaDoorAstAhead
import Derived.Test.YtleccalfcnkklaaDoorQx
namespace Go.Proofs.YtleccalfcnkklaaDoor
open Go.RowKit

set_option maxRecDepth 100000 in
set_option maxHeartbeats 16000000 in
theorem kids_walk (e f : Ex) (w : World) (hL : Laid w) (he0 : e.At w (fun _ => False)) (hf0 : f.At w (fun _ => False)) : Calls Tryd.prog 3 #[e.val, f.val] w (Gives w (.bool true)) := by
  have he := he0.old
  have hf := hf0.old
  have HFE : Hid (∀ w', Below w.heap.size w w' → Calls Tryd.prog 11 #[e.val, .int .i64 0] w' (Gives w' (.bool (e.few 0)))) := hide (fun w' hb => few_any e 0 w' (by omega) (he.on hb))
  have HFF : Hid (∀ w', Below w.heap.size w w' → Calls Tryd.prog 11 #[f.val, .int .i64 0] w' (Gives w' (.bool (f.few 0)))) := hide (fun w' hb => few_any f 0 w' (by omega) (hf.on hb))
  have HTE : Hid (e.few 0 = true → ∀ w', Below w.heap.size w w' → Calls Tryd.prog 13 #[e.val] w' (Gives w' (S e.text))) := hide (fun h w' hb => text_any e w' (hL.on hb) (he.on hb) (by have := Ex.few_bd he h; omega))
  have HTF : Hid (f.few 0 = true → ∀ w', Below w.heap.size w w' → Calls Tryd.prog 13 #[f.val] w' (Gives w' (S f.text))) := hide (fun h w' hb => text_any f w' (hL.on hb) (hf.on hb) (by have := Ex.few_bd hf h; omega))
  have HT2 : Hid (e.few 0 = true → f.few 0 = true → ∀ (kd : Int) (n tn : List UInt8), i64B kd → n.length ≤ 10 → tn.length ≤ 10 → ∀ w' g, Below w.heap.size w w' → Blk w' g 29 (e.cells ++ f.cells).toArray → Calls Tryd.prog 13 #[.agg #[.int .i64 kd, .int .i64 0, .int .i64 0, .int .i64 0, S n, S tn, .bool false, .slice (some ⟨g, 0, none⟩) 2 2, S [], .bool false, S []]] w' (Gives w' (S (textK kd 0 n tn [e.text, f.text])))) :=
    hide (fun h1 h2 kd n tn hk hn htn w' g hb hB => text_two hL hb he hf (Ex.few_bd he h1) (Ex.few_bd hf h2) hk hn htn hB)
  have HLE : Hid (e.few 0 = true → e.text.length ≤ 1757812500) := hide (fun h => by have := Ex.few_bd he h; have := Ex.text_len he; omega)
  have HLF : Hid (f.few 0 = true → f.text.length ≤ 1757812500) := hide (fun h => by have := Ex.few_bd hf h; have := Ex.text_len hf; omega)
  have HH := hide (fun w => ahead_any w)
  have HTW := hide twoG_any
  have HOF := hide (fun w => of_any [65] w)
  clear he hf he0 hf0 hL
  obtain ⟨xd, xl, xo, xu, xn, xt, xa, xA, xk, xc, xs, xm, xb, xw⟩ := e
  obtain ⟨yd, yl, yo, yu, yn, yt, ya, yA, yk, yc, ys, ym, yb, yw⟩ := f
  obtain ⟨E, hE⟩ : ∃ E, E = Ex.mk xd xl xo xu xn xt xa xA xk xc xs xm xb xw := ⟨_, rfl⟩
  obtain ⟨F, hF⟩ : ∃ F, F = Ex.mk yd yl yo yu yn yt ya yA yk yc ys ym yb yw := ⟨_, rfl⟩
  have HVE : Hid (∀ _ : Unit, E.val = .agg #[.int .i64 xd, .int .i64 xl, .int .i64 xo, .int .i64 xu, S xn, S xt, .bool xa, .slice xA xk xc, S xm, .bool xb, S xw]) := hide (fun _ => by rw [hE]; rfl)
  have HVF : Hid (∀ _ : Unit, F.val = .agg #[.int .i64 yd, .int .i64 yl, .int .i64 yo, .int .i64 yu, S yn, S yt, .bool ya, .slice yA yk yc, S ym, .bool yb, S yw]) := hide (fun _ => by rw [hF]; rfl)
  have HCC : Hid (∀ _ : Unit, (E.cells ++ F.cells).toArray = #[.int .i64 xd, .int .i64 xl, .int .i64 xo, .int .i64 xu, S xn, S xt, .bool xa, .slice xA xk xc, S xm, .bool xb, S xw, .int .i64 yd, .int .i64 yl, .int .i64 yo, .int .i64 yu, S yn, S yt, .bool ya, .slice yA yk yc, S ym, .bool yb, S yw]) := hide (fun _ => by rw [hE, hF]; rfl)
  rw [← hE] at HFE HTE HLE HT2 ⊢
  rw [← hF] at HFF HTF HLF HT2 ⊢
  rw [HVE.out ()] at HFE HTE ⊢
  rw [HVF.out ()] at HFF HTF ⊢
  rw [HCC.out ()] at HT2
  clear HVE HVF HCC hE hF
  generalize E.few 0 = be at HFE HTE HLE HT2
  generalize F.few 0 = bf at HFF HTF HLF HT2
  generalize E.text = te at HTE HLE HT2
  generalize F.text = tf at HTF HLF HT2
  go_enter Tryd.func3, Tryd.ntmps3
  go_upto_region 1 with fail
  refine name_world ?_
  intro wA hwA
  have HBA : Hid (Below w.heap.size w wA) := hide (by rw [hwA]; exact ((Below.refl _ _).alloc (Nat.le_refl _) _).alloc (by simp) _)
  have HE : Hid (Blk wA w.heap.size 29 #[.int .i64 xd, .int .i64 xl, .int .i64 xo, .int .i64 xu, S xn, S xt, .bool xa, .slice xA xk xc, S xm, .bool xb, S xw]) := hide (by rw [hwA]; exact (Blk.new _ _ _).alloc _)
  have HF : Hid (Blk wA (w.heap.size + 1) 29 #[.int .i64 yd, .int .i64 yl, .int .i64 yo, .int .i64 yu, S yn, S yt, .bool ya, .slice yA yk yc, S ym, .bool yb, S yw]) := hide (by
    rw [hwA]
    have := Blk.new (w.alloc (.cells #[.int .i64 xd, .int .i64 xl, .int .i64 xo, .int .i64 xu, S xn, S xt, .bool xa, .slice xA xk xc, S xm, .bool xb, S xw] 29)) 29 #[.int .i64 yd, .int .i64 yl, .int .i64 yo, .int .i64 yu, S yn, S yt, .bool ya, .slice yA yk yc, S ym, .bool yb, S yw]
    rwa [World.size_alloc] at this)
  clear hwA
  obtain ⟨g3, hg3⟩ : ∃ g, g = w.heap.size + 1 := ⟨_, rfl⟩
  rw [← hg3] at HF ⊢
  clear hg3
  obtain ⟨g2, hg2⟩ : ∃ g, g = w.heap.size := ⟨_, rfl⟩
  rw [← hg2] at HE ⊢
  clear hg2
  go_upto_region 3 with (go_at_call 10; refine (HH.out _).mono ?_; rintro e w1 ⟨rfl, hb1⟩)
  have HB1 : Hid (Below w.heap.size w w1) := hide (HBA.out.trans (hb1.mono HBA.out.size))
  have HE1 := hide (HE.out.below hb1 HE.out.lt)
  have HF1 := hide (HF.out.below hb1 HF.out.lt)
  clear hb1 HBA HE HF
  have q0 := HE1.out.cell 0
  have q1 := HE1.out.cell 1
  have q2 := HE1.out.cell 2
  have q3 := HE1.out.cell 3
  have q4 := HE1.out.cell 4
  have q5 := HE1.out.cell 5
  have q6 := HE1.out.cell 6
  have q7 := HE1.out.cell 7
  have q8 := HE1.out.cell 8
  have q9 := HE1.out.cell 9
  have q10 := HE1.out.cell 10
  simp at q0 q1 q2 q3 q4 q5 q6 q7 q8 q9 q10
  cases be
  case false =>
    go_wp2_with (go_at_call 11; refine (HFE.out _ HB1.out).mono ?_; rintro e w2 ⟨rfl, hb2⟩)
    go_ret
    exact ⟨rfl, HB1.out.trans (hb2.mono HB1.out.size)⟩
  go_wp2_with fail
  refine (HFE.out _ HB1.out).mono ?_
  rintro e w2 ⟨rfl, hb2⟩
  have HB2 : Hid (Below w.heap.size w w2) := hide (HB1.out.trans (hb2.mono HB1.out.size))
  have HE2 := hide (HE1.out.below hb2 HE1.out.lt)
  have HF2 := hide (HF1.out.below hb2 HF1.out.lt)
  clear hb2 HB1 HE1 HF1 q0 q1 q2 q3 q4 q5 q6 q7 q8 q9 q10
  have q0 := HF2.out.cell 0
  have q1 := HF2.out.cell 1
  have q2 := HF2.out.cell 2
  have q3 := HF2.out.cell 3
  have q4 := HF2.out.cell 4
  have q5 := HF2.out.cell 5
  have q6 := HF2.out.cell 6
  have q7 := HF2.out.cell 7
  have q8 := HF2.out.cell 8
  have q9 := HF2.out.cell 9
  have q10 := HF2.out.cell 10
  simp at q0 q1 q2 q3 q4 q5 q6 q7 q8 q9 q10
  cases bf
  case false =>
    go_wp2_with (go_at_call 11; refine (HFF.out _ HB2.out).mono ?_; rintro e w3 ⟨rfl, hb3⟩)
    go_ret
    exact ⟨rfl, HB2.out.trans (hb3.mono HB2.out.size)⟩
  go_upto_region 5 with (go_at_call 11; refine (HFF.out _ HB2.out).mono ?_; rintro e w3 ⟨rfl, hb3⟩)
  have HB3 : Hid (Below w.heap.size w w3) := hide (HB2.out.trans (hb3.mono HB2.out.size))
  have HE3 := hide (HE2.out.below hb3 HE2.out.lt)
  have HF3 := hide (HF2.out.below hb3 HF2.out.lt)
  replace HTE := hide (HTE.out (by trivial))
  replace HTF := hide (HTF.out (by trivial))
  replace HT2 := hide (HT2.out (by trivial) (by trivial))
  have hle := HLE.out (by trivial)
  have hlf := HLF.out (by trivial)
  have HX := hide (HT2.out 16 [43] [] (by unfold i64B; omega) (by decide) (by decide))
  have HY := hide (HT2.out 12 [] [] (by unfold i64B; omega) (by decide) (by decide))
  have HZ := hide (HT2.out 9 [109] [65] (by unfold i64B; omega) (by decide) (by decide))
  rw [show textK 16 0 [43] [] [te, tf] = 40 :: (te ++ 32 :: 43 :: 32 :: (tf ++ [41])) by simp [textK, kidT]] at HX
  rw [show textK 12 0 [] [] [te, tf] = te ++ 91 :: (tf ++ [93]) by simp [textK, kidT]] at HY
  rw [show textK 9 0 [109] [65] [te, tf] = 65 :: 46 :: 109 :: 40 :: (te ++ 44 :: 32 :: (tf ++ [41])) by simp [textK, joinC, Lib.join, List.intercalate, List.intersperse]] at HZ
  clear hb3 HB2 HE2 HF2 q0 q1 q2 q3 q4 q5 q6 q7 q8 q9 q10 HT2 HLE HLF HFE HFF
  have q0 := HE3.out.cell 0
  have q1 := HE3.out.cell 1
  have q2 := HE3.out.cell 2
  have q3 := HE3.out.cell 3
  have q4 := HE3.out.cell 4
  have q5 := HE3.out.cell 5
  have q6 := HE3.out.cell 6
  have q7 := HE3.out.cell 7
  have q8 := HE3.out.cell 8
  have q9 := HE3.out.cell 9
  have q10 := HE3.out.cell 10
  simp at q0 q1 q2 q3 q4 q5 q6 q7 q8 q9 q10
  have p0 := HF3.out.cell 0
  have p1 := HF3.out.cell 1
  have p2 := HF3.out.cell 2
  have p3 := HF3.out.cell 3
  have p4 := HF3.out.cell 4
  have p5 := HF3.out.cell 5
  have p6 := HF3.out.cell 6
  have p7 := HF3.out.cell 7
  have p8 := HF3.out.cell 8
  have p9 := HF3.out.cell 9
  have p10 := HF3.out.cell 10
  simp at p0 p1 p2 p3 p4 p5 p6 p7 p8 p9 p10
  go_wp2_with fail
  refine (HTW.out [43] _ _ _ _ _ _ _ _ _ _ _ _ _ _ _ _ _ _ _ _ _ _ _ _ _ _ _).mono ?_
  rintro e w4 ⟨g, rfl, hb4, hk4⟩
  have HB4 : Hid (Below w.heap.size w w4) := hide (HB3.out.trans (hb4.mono HB3.out.size))
  have HE4 := hide (HE3.out.below hb4 HE3.out.lt)
  have HF4 := hide (HF3.out.below hb4 HF3.out.lt)
  have HK4 := hide hk4
  clear hb4 hk4 HB3 HE3 HF3 q0 q1 q2 q3 q4 q5 q6 q7 q8 q9 q10 p0 p1 p2 p3 p4 p5 p6 p7 p8 p9 p10 HTW
  go_upto_region 6 with (go_at_call 13; refine (HX.out _ _ HB4.out HK4.out).mono ?_; rintro e w5 ⟨rfl, hb5⟩)
  have HB5 : Hid (Below w.heap.size w w5) := hide (HB4.out.trans (hb5.mono HB4.out.size))
  have HE5 := hide (HE4.out.below hb5 HE4.out.lt)
  have HF5 := hide (HF4.out.below hb5 HF4.out.lt)
  clear hb5 HB4 HE4 HF4 HK4 HX
  have q0 := HE5.out.cell 0
  have q1 := HE5.out.cell 1
  have q2 := HE5.out.cell 2
  have q3 := HE5.out.cell 3
  have q4 := HE5.out.cell 4
  have q5 := HE5.out.cell 5
  have q6 := HE5.out.cell 6
  have q7 := HE5.out.cell 7
  have q8 := HE5.out.cell 8
  have q9 := HE5.out.cell 9
  have q10 := HE5.out.cell 10
  simp at q0 q1 q2 q3 q4 q5 q6 q7 q8 q9 q10
  have p0 := HF5.out.cell 0
  have p1 := HF5.out.cell 1
  have p2 := HF5.out.cell 2
  have p3 := HF5.out.cell 3
  have p4 := HF5.out.cell 4
  have p5 := HF5.out.cell 5
  have p6 := HF5.out.cell 6
  have p7 := HF5.out.cell 7
  have p8 := HF5.out.cell 8
  have p9 := HF5.out.cell 9
  have p10 := HF5.out.cell 10
  simp at p0 p1 p2 p3 p4 p5 p6 p7 p8 p9 p10
  have HA5 : Hid (∀ o, Below w.heap.size w (w5.alloc o)) := hide (fun o => HB5.out.alloc HB5.out.size o)
  go_wp2_with fail
  refine (HY.out _ _ (HA5.out _) (Blk.new _ _ _)).mono ?_
  rintro e w6 ⟨rfl, hb6⟩
  have HB6 : Hid (Below w.heap.size w w6) := hide ((HA5.out _).trans (hb6.mono (HA5.out _).size))
  have HE6 := hide ((HE5.out.alloc _).below hb6 (HE5.out.alloc _).lt)
  have HF6 := hide ((HF5.out.alloc _).below hb6 (HF5.out.alloc _).lt)
  clear hb6 HB5 HE5 HF5 HA5 q0 q1 q2 q3 q4 q5 q6 q7 q8 q9 q10 p0 p1 p2 p3 p4 p5 p6 p7 p8 p9 p10 HY
  go_upto_region 7 with fail
  obtain ⟨K, hK⟩ : ∃ K : Nat → Qk, K = (fun d => match d with | 27 => .is (.agg #[S [65], .bool false]) | 28 => .is (.agg #[.int .i64 xd, .int .i64 xl, .int .i64 xo, .int .i64 xu, S xn, S xt, .bool xa, .slice xA xk xc, S xm, .bool xb, S xw]) | 29 => .is (.agg #[.int .i64 yd, .int .i64 yl, .int .i64 yo, .int .i64 yu, S yn, S yt, .bool ya, .slice yA yk yc, S ym, .bool yb, S yw]) | 30 => .ex (fun g => .slice (some ⟨g, 0, none⟩) 2 2) 29 #[.int .i64 xd, .int .i64 xl, .int .i64 xo, .int .i64 xu, S xn, S xt, .bool xa, .slice xA xk xc, S xm, .bool xb, S xw, .int .i64 yd, .int .i64 yl, .int .i64 yo, .int .i64 yu, S yn, S yt, .bool ya, .slice yA yk yc, S ym, .bool yb, S yw] | 31 => .ex (fun g => .agg #[.int .i64 9, .int .i64 0, .int .i64 0, .int .i64 0, S [109], S [65], .bool false, .slice (some ⟨g, 0, none⟩) 2 2, S [], .bool false, S []]) 29 #[.int .i64 xd, .int .i64 xl, .int .i64 xo, .int .i64 xu, S xn, S xt, .bool xa, .slice xA xk xc, S xm, .bool xb, S xw, .int .i64 yd, .int .i64 yl, .int .i64 yo, .int .i64 yu, S yn, S yt, .bool ya, .slice yA yk yc, S ym, .bool yb, S yw] | 32 => .is (S (65 :: 46 :: 109 :: 40 :: (te ++ 44 :: 32 :: (tf ++ [41])))) | 7 => .is (S (65 :: 46 :: 109 :: 40 :: (te ++ 44 :: 32 :: (tf ++ [41])))) | _ => .any) := ⟨_, rfl⟩
  refine region_qx (by kernel_rfl) [⟨0, some 27, false, [0], []⟩, ⟨1, some 28, false, [0], []⟩, ⟨2, some 29, false, [0], []⟩, ⟨3, some 30, false, [0], [28, 29]⟩, ⟨4, some 31, false, [0], [27, 30]⟩, ⟨5, some 32, false, [0], [31]⟩, ⟨6, some 7, false, [0], [32]⟩] (fun d => (K d).at_) (by kernel_rfl) ?obs ?hend
  case obs =>
    refine List.forall_mem_cons.2 ⟨?_, ?_⟩
    · refine ObQ.mk (Qk.mono K) (by rfl) ?_
      intro z w' hb hz G hG
      simp only [putsAt, List.foldl]
      unfold Runs
      go_simp
      refine (HOF.out w').mono ?_
      rintro e w2 ⟨rfl, hb2⟩
      exact ⟨_, rfl, hG _ _ hb2 (fun d' e => by cases e; rw [hK]; rfl)⟩
    refine List.forall_mem_cons.2 ⟨?_, ?_⟩
    · refine ObQ.mk (Qk.mono K) (by rfl) ?_
      intro z w' hb hz G hG
      have qHE60 := (HE6.out.below hb HE6.out.lt).cell 0
      have qHE61 := (HE6.out.below hb HE6.out.lt).cell 1
      have qHE62 := (HE6.out.below hb HE6.out.lt).cell 2
      have qHE63 := (HE6.out.below hb HE6.out.lt).cell 3
      have qHE64 := (HE6.out.below hb HE6.out.lt).cell 4
      have qHE65 := (HE6.out.below hb HE6.out.lt).cell 5
      have qHE66 := (HE6.out.below hb HE6.out.lt).cell 6
      have qHE67 := (HE6.out.below hb HE6.out.lt).cell 7
      have qHE68 := (HE6.out.below hb HE6.out.lt).cell 8
      have qHE69 := (HE6.out.below hb HE6.out.lt).cell 9
      have qHE610 := (HE6.out.below hb HE6.out.lt).cell 10
      simp at qHE60 qHE61 qHE62 qHE63 qHE64 qHE65 qHE66 qHE67 qHE68 qHE69 qHE610
      simp only [putsAt, List.foldl]
      unfold Runs
      go_simp
      exact hG _ _ (Below.refl _ _) (fun d' e => by cases e; rw [hK]; rfl)
    refine List.forall_mem_cons.2 ⟨?_, ?_⟩
    · refine ObQ.mk (Qk.mono K) (by rfl) ?_
      intro z w' hb hz G hG
      have qHF60 := (HF6.out.below hb HF6.out.lt).cell 0
      have qHF61 := (HF6.out.below hb HF6.out.lt).cell 1
      have qHF62 := (HF6.out.below hb HF6.out.lt).cell 2
      have qHF63 := (HF6.out.below hb HF6.out.lt).cell 3
      have qHF64 := (HF6.out.below hb HF6.out.lt).cell 4
      have qHF65 := (HF6.out.below hb HF6.out.lt).cell 5
      have qHF66 := (HF6.out.below hb HF6.out.lt).cell 6
      have qHF67 := (HF6.out.below hb HF6.out.lt).cell 7
      have qHF68 := (HF6.out.below hb HF6.out.lt).cell 8
      have qHF69 := (HF6.out.below hb HF6.out.lt).cell 9
      have qHF610 := (HF6.out.below hb HF6.out.lt).cell 10
      simp at qHF60 qHF61 qHF62 qHF63 qHF64 qHF65 qHF66 qHF67 qHF68 qHF69 qHF610
      simp only [putsAt, List.foldl]
      unfold Runs
      go_simp
      exact hG _ _ (Below.refl _ _) (fun d' e => by cases e; rw [hK]; rfl)
    refine List.forall_mem_cons.2 ⟨?_, ?_⟩
    · refine ObQ.mk (Qk.mono K) (by rfl) ?_
      intro z w' hb hz G hG
      have e28 : z 28 = .agg #[.int .i64 xd, .int .i64 xl, .int .i64 xo, .int .i64 xu, S xn, S xt, .bool xa, .slice xA xk xc, S xm, .bool xb, S xw] := by have h := hz 28 (by simp); rw [hK] at h; exact h
      have e29 : z 29 = .agg #[.int .i64 yd, .int .i64 yl, .int .i64 yo, .int .i64 yu, S yn, S yt, .bool ya, .slice yA yk yc, S ym, .bool yb, S yw] := by have h := hz 29 (by simp); rw [hK] at h; exact h
      simp only [putsAt, List.foldl, e28, e29]
      unfold Runs
      go_simp
      exact hG _ _ ((Below.refl _ _).alloc (Nat.le_refl _) _) (fun d' e => by cases e; rw [hK]; exact ⟨_, rfl, Blk.new _ _ _⟩)
    refine List.forall_mem_cons.2 ⟨?_, ?_⟩
    · refine ObQ.mk (Qk.mono K) (by rfl) ?_
      intro z w' hb hz G hG
      have e27 : z 27 = .agg #[S [65], .bool false] := by have h := hz 27 (by simp); rw [hK] at h; exact h
      obtain ⟨g30, e30, k30⟩ : ∃ g, z 30 = (fun g => .slice (some ⟨g, 0, none⟩) 2 2) g ∧ Blk w' g 29 #[.int .i64 xd, .int .i64 xl, .int .i64 xo, .int .i64 xu, S xn, S xt, .bool xa, .slice xA xk xc, S xm, .bool xb, S xw, .int .i64 yd, .int .i64 yl, .int .i64 yo, .int .i64 yu, S yn, S yt, .bool ya, .slice yA yk yc, S ym, .bool yb, S yw] := by have h := hz 30 (by simp); rw [hK] at h; exact h
      simp only [putsAt, List.foldl, e27, e30]
      unfold Runs
      go_simp
      exact hG _ _ (Below.refl _ _) (fun d' e => by cases e; rw [hK]; exact ⟨g30, rfl, k30⟩)
    refine List.forall_mem_cons.2 ⟨?_, ?_⟩
    · refine ObQ.mk (Qk.mono K) (by rfl) ?_
      intro z w' hb hz G hG
      obtain ⟨g31, e31, k31⟩ : ∃ g, z 31 = (fun g => .agg #[.int .i64 9, .int .i64 0, .int .i64 0, .int .i64 0, S [109], S [65], .bool false, .slice (some ⟨g, 0, none⟩) 2 2, S [], .bool false, S []]) g ∧ Blk w' g 29 #[.int .i64 xd, .int .i64 xl, .int .i64 xo, .int .i64 xu, S xn, S xt, .bool xa, .slice xA xk xc, S xm, .bool xb, S xw, .int .i64 yd, .int .i64 yl, .int .i64 yo, .int .i64 yu, S yn, S yt, .bool ya, .slice yA yk yc, S ym, .bool yb, S yw] := by have h := hz 31 (by simp); rw [hK] at h; exact h
      simp only [putsAt, List.foldl, e31]
      unfold Runs
      go_simp
      refine (HZ.out w' g31 (HB6.out.trans (hb.mono HB6.out.size)) k31).mono ?_
      rintro e w2 ⟨rfl, hb2⟩
      exact ⟨_, rfl, hG _ _ hb2 (fun d' e => by cases e; rw [hK]; rfl)⟩
    refine List.forall_mem_cons.2 ⟨?_, ?_⟩
    · refine ObQ.mk (Qk.mono K) (by rfl) ?_
      intro z w' hb hz G hG
      have e32 : z 32 = S (65 :: 46 :: 109 :: 40 :: (te ++ 44 :: 32 :: (tf ++ [41]))) := by have h := hz 32 (by simp); rw [hK] at h; exact h
      simp only [putsAt, List.foldl, e32]
      unfold Runs
      go_simp
      exact hG _ _ (Below.refl _ _) (fun d' e => by cases e; rw [hK]; rfl)
    exact List.forall_mem_nil _
  case hend =>
    intro z wZ hz hbZ
    have e7 : z 7 = S (65 :: 46 :: 109 :: 40 :: (te ++ 44 :: 32 :: (tf ++ [41]))) := by have h := hz 7 (by decide); rw [hK] at h; exact h
    clear hz hK
    simp only [putsAt, List.foldl, dstsOf, List.filterMap, Act.put, List.setIfInBounds_toArray, List.set_cons_zero, List.set_cons_succ, e7]
    generalize z 27 = y27
    generalize z 28 = y28
    generalize z 29 = y29
    generalize z 30 = y30
    generalize z 31 = y31
    generalize z 32 = y32
    have HB7 : Hid (Below w.heap.size w wZ) := hide (HB6.out.trans (hbZ.mono HB6.out.size))
    have HE7 := hide (HE6.out.below hbZ HE6.out.lt)
    have HF7 := hide (HF6.out.below hbZ HF6.out.lt)
    clear HB6 HE6 HF6 HZ hbZ
    have HTE2 : Hid (∀ t : After wZ, Calls Tryd.prog 13 #[.agg #[.int .i64 xd, .int .i64 xl, .int .i64 xo, .int .i64 xu, S xn, S xt, .bool xa, .slice xA xk xc, S xm, .bool xb, S xw]] t.val (Gives t.val (S te))) := hide (fun t => HTE.out t.val (HB7.out.trans (t.prop.mono HB7.out.size)))
    have HTF2 : Hid (∀ t : After wZ, Calls Tryd.prog 13 #[.agg #[.int .i64 yd, .int .i64 yl, .int .i64 yo, .int .i64 yu, S yn, S yt, .bool ya, .slice yA yk yc, S ym, .bool yb, S yw]] t.val (Gives t.val (S tf))) := hide (fun t => HTF.out t.val (HB7.out.trans (t.prop.mono HB7.out.size)))
    clear HTE HTF HH HOF
    go_upto_region 8 with fail
    have q0 : ∀ t : After wZ, t.val.cell? ⟨g2, 0, none⟩ = some (.int .i64 xd) := fun t => (HE7.out.below t.prop HE7.out.lt).cell 0
    have q1 : ∀ t : After wZ, t.val.cell? ⟨g2, 1, none⟩ = some (.int .i64 xl) := fun t => (HE7.out.below t.prop HE7.out.lt).cell 1
    have q2 : ∀ t : After wZ, t.val.cell? ⟨g2, 2, none⟩ = some (.int .i64 xo) := fun t => (HE7.out.below t.prop HE7.out.lt).cell 2
    have q3 : ∀ t : After wZ, t.val.cell? ⟨g2, 3, none⟩ = some (.int .i64 xu) := fun t => (HE7.out.below t.prop HE7.out.lt).cell 3
    have q4 : ∀ t : After wZ, t.val.cell? ⟨g2, 4, none⟩ = some (S xn) := fun t => (HE7.out.below t.prop HE7.out.lt).cell 4
    have q5 : ∀ t : After wZ, t.val.cell? ⟨g2, 5, none⟩ = some (S xt) := fun t => (HE7.out.below t.prop HE7.out.lt).cell 5
    have q6 : ∀ t : After wZ, t.val.cell? ⟨g2, 6, none⟩ = some (.bool xa) := fun t => (HE7.out.below t.prop HE7.out.lt).cell 6
    have q7 : ∀ t : After wZ, t.val.cell? ⟨g2, 7, none⟩ = some (.slice xA xk xc) := fun t => (HE7.out.below t.prop HE7.out.lt).cell 7
    have q8 : ∀ t : After wZ, t.val.cell? ⟨g2, 8, none⟩ = some (S xm) := fun t => (HE7.out.below t.prop HE7.out.lt).cell 8
    have q9 : ∀ t : After wZ, t.val.cell? ⟨g2, 9, none⟩ = some (.bool xb) := fun t => (HE7.out.below t.prop HE7.out.lt).cell 9
    have q10 : ∀ t : After wZ, t.val.cell? ⟨g2, 10, none⟩ = some (S xw) := fun t => (HE7.out.below t.prop HE7.out.lt).cell 10
    have p0 : ∀ t : After wZ, t.val.cell? ⟨g3, 0, none⟩ = some (.int .i64 yd) := fun t => (HF7.out.below t.prop HF7.out.lt).cell 0
    have p1 : ∀ t : After wZ, t.val.cell? ⟨g3, 1, none⟩ = some (.int .i64 yl) := fun t => (HF7.out.below t.prop HF7.out.lt).cell 1
    have p2 : ∀ t : After wZ, t.val.cell? ⟨g3, 2, none⟩ = some (.int .i64 yo) := fun t => (HF7.out.below t.prop HF7.out.lt).cell 2
    have p3 : ∀ t : After wZ, t.val.cell? ⟨g3, 3, none⟩ = some (.int .i64 yu) := fun t => (HF7.out.below t.prop HF7.out.lt).cell 3
    have p4 : ∀ t : After wZ, t.val.cell? ⟨g3, 4, none⟩ = some (S yn) := fun t => (HF7.out.below t.prop HF7.out.lt).cell 4
    have p5 : ∀ t : After wZ, t.val.cell? ⟨g3, 5, none⟩ = some (S yt) := fun t => (HF7.out.below t.prop HF7.out.lt).cell 5
    have p6 : ∀ t : After wZ, t.val.cell? ⟨g3, 6, none⟩ = some (.bool ya) := fun t => (HF7.out.below t.prop HF7.out.lt).cell 6
    have p7 : ∀ t : After wZ, t.val.cell? ⟨g3, 7, none⟩ = some (.slice yA yk yc) := fun t => (HF7.out.below t.prop HF7.out.lt).cell 7
    have p8 : ∀ t : After wZ, t.val.cell? ⟨g3, 8, none⟩ = some (S ym) := fun t => (HF7.out.below t.prop HF7.out.lt).cell 8
    have p9 : ∀ t : After wZ, t.val.cell? ⟨g3, 9, none⟩ = some (.bool yb) := fun t => (HF7.out.below t.prop HF7.out.lt).cell 9
    have p10 : ∀ t : After wZ, t.val.cell? ⟨g3, 10, none⟩ = some (S yw) := fun t => (HF7.out.below t.prop HF7.out.lt).cell 10
    refine region_after (by kernel_rfl) (by kernel_rfl) ?_
    repeat (go_big_quiet_step (first | (go_at_call 13; with_reducible refine call_after (HTE2.out _)) | (go_at_call 13; with_reducible refine call_after (HTF2.out _))))
    refine wpQuiet_nil ?_
    rintro _ ⟨t, rfl⟩
    go_wp2_with fail
    go_ret
    exact ⟨rfl, HB7.out.trans (t.prop.mono HB7.out.size)⟩
    end Go.Proofs.YtleccalfcnkklaaDoor
