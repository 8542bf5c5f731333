/- The layer's example, as text; no statement of the seat is proved here. -/
import Derived.Test.YtleccalfcnkklaaDoorAstBin
namespace Go.Proofs.YtleccalfcnkklaaDoor
open Go.RowKit

section
variable (w : World)
set_option maxRecDepth 100000 in
set_option maxHeartbeats 16000000 in
theorem ahead_any : Calls Tryd.prog 10 #[] w (Gives w (.bool true)) := by
  have N := hide num_any
  have L := hide local_any
  have T := hide two_any
  have HB := hide (Below.refl w.heap.size w)
  have X := hide (fun (w : World) (g1 g2 : Nat) (h1 : Blk w g1 29 #[.int .i64 1, .int .i64 0, .int .i64 0, .int .i64 1, S [], S [], .bool false, .slice none 0 0, S [], .bool false, S [], .int .i64 1, .int .i64 0, .int .i64 0, .int .i64 2, S [], S [], .bool false, .slice none 0 0, S [], .bool false, S []]) (h2 : Blk w g2 29 #[.int .i64 16, .int .i64 0, .int .i64 0, .int .i64 0, S [43], S [], .bool false, .slice (some ⟨g1, 0, none⟩) 2 2, S [], .bool false, S [], .int .i64 6, .int .i64 0, .int .i64 0, .int .i64 0, S [120], S [], .bool false, .slice none 0 0, S [], .bool false, S []]) =>
    (show Calls Tryd.prog 13 #[.agg #[.int .i64 16, .int .i64 0, .int .i64 0, .int .i64 0, S [60], S [], .bool false, .slice (some ⟨g2, 0, none⟩) 2 2, S [], .bool false, S []]] w (Gives w (S [40, 40, 49, 32, 43, 32, 50, 41, 32, 60, 32, 120, 41])) from
    text_bin w g2 [60] 16 0 [43] (some ⟨g1, 0, none⟩) 2 2 6 0 [120] none 0 0 [40, 49, 32, 43, 32, 50, 41] [120] (by decide) (by decide) (by decide) h2
      (fun w' hw => text_bin w' g1 [43] 1 1 [] none 0 0 1 2 [] none 0 0 [49] [50] (by decide) (by decide) (by decide) (h1.below hw h1.lt) (fun w'' _ => text_num w'' 1 [49] (fun w => form_one w)) (fun w'' _ => text_num w'' 2 [50] (fun w => form_two w)))
      (fun w' _ => text_local w' [120])))
  go_enter Tryd.func10, Tryd.ntmps10
  go_wp2_with fail
  refine (N.out _ _).mono ?_
  rintro e wa ⟨rfl, hba⟩
  have HB1 := hide (HB.out.trans (hba.mono HB.out.size))
  clear hba
  go_wp2_with fail
  refine (N.out _ _).mono ?_
  rintro e wb ⟨rfl, hbb⟩
  have HB2 := hide (HB1.out.trans (hbb.mono HB1.out.size))
  clear hbb
  go_wp2_with fail
  refine (T.out _ [43] 1 1 [] none 0 0 1 2 [] none 0 0).mono ?_
  rintro e wc ⟨g1, hg1, rfl, hbc, hk1⟩
  have HB3 := hide (HB2.out.trans (hbc.mono HB2.out.size))
  have HK1 := hide hk1
  clear hk1 hbc hg1
  go_wp2_with fail
  refine (L.out _ _).mono ?_
  rintro e wd ⟨rfl, hbd⟩
  have HB4 := hide (HB3.out.trans (hbd.mono HB3.out.size))
  have HK2 := hide (HK1.out.below hbd HK1.out.lt)
  clear hbd HK1
  go_wp2_with fail
  refine (T.out _ [60] 16 0 [43] (some ⟨g1, 0, none⟩) 2 2 6 0 [120] none 0 0).mono ?_
  rintro e we ⟨g2, hg2, rfl, hbe, hk2⟩
  have HB5 := hide (HB4.out.trans (hbe.mono HB4.out.size))
  have HK3 := hide (HK2.out.below hbe HK2.out.lt)
  have HK4 := hide hk2
  clear hk2 hbe hg2 HK2
  go_wp2_with fail
  refine (X.out _ _ _ HK3.out HK4.out).mono ?_
  rintro e wf ⟨rfl, hbf⟩
  have HB := hide (HB5.out.trans (hbf.mono HB5.out.size))
  clear hbf
  go_wp2_with fail
  go_ret
  exact ⟨rfl, HB.out⟩
end
end Go.Proofs.YtleccalfcnkklaaDoor
