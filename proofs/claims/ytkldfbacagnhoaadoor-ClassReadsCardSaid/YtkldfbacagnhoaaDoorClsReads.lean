/- ClassReads returns true for whatever bytes: the walk. The condition: the listed package-level variable holds what the program's text lays. -/
import Derived.Test.YtkldfbacagnhoaaDoorClsArc
import Derived.Test.YtkldfbacagnhoaaDoorClsHead
namespace Go.Proofs.YtkldfbacagnhoaaDoor
open Go.RowKit

theorem arcV_back {l : List UInt8} {Fs : List Fl} (h : unpOk l = true) (hp : Fs.map Fl.pl = unpF l) : arcV (Fs.map Fl.pl) = .tuple #[S l, .int .i64 0] := by
  obtain ⟨h1, h2, h3⟩ := unp_back h
  rw [hp, arcV, if_pos h2, if_pos (by rw [List.all_eq_true]; exact fun F hF => (h3 F hF).1), h1]

set_option maxRecDepth 100000 in
set_option maxHeartbeats 4000000 in
theorem reads_walk (l : List UInt8) (w : World) (hl : l.length ≤ 9223372036854775807) (hm : Laid w) : Calls Tryd.prog 3 #[S l] w (Gives w (.bool true)) := by
  have HLD := hide hm
  clear hm
  have HH := hide (head_any w)
  cases hb : decide (1500 < (l.length : Int)) with
  | true =>
    go_enter Tryd.func3, Tryd.ntmps3
    go_wp2_with (go_at_call 9; refine HH.out.mono ?_; rintro e w1 ⟨rfl, hb1⟩)
    go_ret
    exact ⟨rfl, hb1⟩
  | false =>
    go_enter Tryd.func3, Tryd.ntmps3
    go_upto_region 5 with (go_at_call 9; refine HH.out.mono ?_; rintro e w1 ⟨rfl, hb1⟩)
    clear hb HH
    have HB1 := hide hb1
    have H1 := hide (dec_any l w1 hl (HLD.out.below hb1 (Nat.le_refl _)))
    clear hb1
    go_wp2_with (first | fail)
    refine H1.out.mono ?_
    clear H1
    rintro e w2 ⟨hb2, ⟨hd, f, rfl, hfp, hfa⟩ | ⟨hd, rfl⟩⟩
    · skip
      have HB2 : Hid (Below w.heap.size w w2) := hide (HB1.out.trans (hb2.mono HB1.out.size))
      have hright : f.pl.right = true := by
        rw [hfp]
        simp only [decOk, Bool.and_eq_true] at hd
        exact hd.2
      have hlay : fileL f.pl = l := by rw [hfp]; exact dec_back hd
      have HFA : Hid (f.at_ w2 (fun k => w2.heap.size ≤ k)) := hide (hfa.tight'.weak (fun k h => .inr h))
      clear hfa hfp hd hb2
      go_upto_region 6 with fail
      refine name_world ?_
      intro w3 hw3
      have HX3 : Hid (Blk w3 w2.heap.size 36 f.cells.toArray) := hide (by rw [hw3]; exact Blk.new _ _ _)
      have HB3 : Hid (Below w.heap.size w w3) := hide (by rw [hw3]; exact HB2.out.alloc HB2.out.size _)
      have HFA3 : Hid (f.at_ w3 (fun k => w2.heap.size ≤ k)) := hide (by rw [hw3]; exact HFA.out.below ((Below.refl _ _).alloc (Nat.le_refl _) _))
      have HS3 : Hid (w2.heap.size < w3.heap.size) := hide HX3.out.lt
      obtain ⟨q, hq⟩ : ∃ q, q = w2.heap.size := ⟨_, rfl⟩
      rw [← hq] at HX3 HS3 HFA3 ⊢
      clear hw3 hq HFA
      have H2 := hide (enc_ok f w3 (HLD.out.below HB3.out (Nat.le_refl _)) (HFA3.out.weak (fun k h => by have := HS3.out; omega)) hright)
      rw [hlay] at H2
      have H3 : Hid (∀ w', Below w3.heap.size w3 w' → Calls Tryd.prog 12 #[f.val] w' (Gives w' (.bool true))) := hide (fun w' hb => by
        have h1 := fright_any f w' (HLD.out.below (HB3.out.trans (hb.mono HB3.out.size)) (Nat.le_refl _)) ((HFA3.out.below (hb.mono (by have := HS3.out; omega))).weak (fun k h => by have := HS3.out; have := hb.size; omega))
        rwa [hright] at h1)
      have HXX : Hid (∀ w', Below w3.heap.size w3 w' → Blk w' q 36 f.cells.toArray) := hide (fun w' hb => HX3.out.below hb HX3.out.lt)
      clear hright hlay HFA3
      have k0 := HX3.out.cell 0
      have k1 := HX3.out.cell 1
      have k2 := HX3.out.cell 2
      have k3 := HX3.out.cell 3
      have k4 := HX3.out.cell 4
      have k5 := HX3.out.cell 5
      have k6 := HX3.out.cell 6
      have k7 := HX3.out.cell 7
      have k8 := HX3.out.cell 8
      have k9 := HX3.out.cell 9
      simp at k0 k1 k2 k3 k4 k5 k6 k7 k8 k9
      go_wp2_with (first | fail)
      refine H2.out.mono ?_
      rintro e w4 ⟨rfl, hb4⟩
      clear k0 k1 k2 k3 k4 k5 k6 k7 k8 k9
      have k0 := (HXX.out w4 hb4).cell 0
      have k1 := (HXX.out w4 hb4).cell 1
      have k2 := (HXX.out w4 hb4).cell 2
      have k3 := (HXX.out w4 hb4).cell 3
      have k4 := (HXX.out w4 hb4).cell 4
      have k5 := (HXX.out w4 hb4).cell 5
      have k6 := (HXX.out w4 hb4).cell 6
      have k7 := (HXX.out w4 hb4).cell 7
      have k8 := (HXX.out w4 hb4).cell 8
      have k9 := (HXX.out w4 hb4).cell 9
      simp at k0 k1 k2 k3 k4 k5 k6 k7 k8 k9
      have H5 := hide (H3.out w4 hb4)
      have HB4 : Hid (Below w.heap.size w w4) := hide (HB3.out.trans (hb4.mono HB3.out.size))
      clear hb4 H2 H3 HXX HX3
      go_upto_region 12 with (go_at_call 12; refine H5.out.mono ?_; rintro e wX ⟨rfl, hb5⟩)
      have HBX : Hid (Below w.heap.size w wX) := hide (HB4.out.trans (hb5.mono HB4.out.size))
      clear hb5 H5 k0 k1 k2 k3 k4 k5 k6 k7 k8 k9
      have H3 := hide (unp_any l wX hl (HLD.out.below HBX.out (Nat.le_refl _)))
      go_wp2_with (first | fail)
      refine H3.out.mono ?_
      clear H3
      rintro e w6 ⟨hb6, ⟨hu, A, n, c, Fs, rfl, hFp, hFa⟩ | ⟨hu, rfl⟩⟩
      · have HB6 : Hid (Below w.heap.size w w6) := hide (HBX.out.trans (hb6.mono HBX.out.size))
        have H4 := hide (arc_any Fs A n c w6 (HLD.out.below HB6.out (Nat.le_refl _)) ⟨hFa.1.weak (fun k hk h => by omega), hFa.2.1, hFa.2.2.1, fun f hf => (hFa.2.2.2 f hf).tight'.weak (fun k h => .inr h)⟩)
        rw [arcV_back hu hFp] at H4
        clear hu hFp hFa hb6
        go_wp2_with (go_at_call 14; refine H4.out.mono ?_; rintro e w7 ⟨rfl, hb7⟩; have HB7 := hide (HB6.out.trans (hb7.mono HB6.out.size)); clear hb7)
        go_ret
        exact ⟨by simp, HB7.out⟩
      · have HB6 : Hid (Below w.heap.size w w6) := hide (HBX.out.trans (hb6.mono HBX.out.size))
        clear hu hb6
        go_wp2_with fail
        go_ret
        exact ⟨rfl, HB6.out⟩
    · skip
      have HB2 : Hid (Below w.heap.size w w2) := hide (HB1.out.trans (hb2.mono HB1.out.size))
      clear hd hb2
      go_upto_region 12 with fail
      refine name_world ?_
      intro wX hwX
      have HBX : Hid (Below w.heap.size w wX) := hide (by rw [hwX]; exact HB2.out.alloc HB2.out.size _)
      clear hwX
      have H3 := hide (unp_any l wX hl (HLD.out.below HBX.out (Nat.le_refl _)))
      go_wp2_with (first | fail)
      refine H3.out.mono ?_
      clear H3
      rintro e w6 ⟨hb6, ⟨hu, A, n, c, Fs, rfl, hFp, hFa⟩ | ⟨hu, rfl⟩⟩
      · have HB6 : Hid (Below w.heap.size w w6) := hide (HBX.out.trans (hb6.mono HBX.out.size))
        have H4 := hide (arc_any Fs A n c w6 (HLD.out.below HB6.out (Nat.le_refl _)) ⟨hFa.1.weak (fun k hk h => by omega), hFa.2.1, hFa.2.2.1, fun f hf => (hFa.2.2.2 f hf).tight'.weak (fun k h => .inr h)⟩)
        rw [arcV_back hu hFp] at H4
        clear hu hFp hFa hb6
        go_wp2_with (go_at_call 14; refine H4.out.mono ?_; rintro e w7 ⟨rfl, hb7⟩; have HB7 := hide (HB6.out.trans (hb7.mono HB6.out.size)); clear hb7)
        go_ret
        exact ⟨by simp, HB7.out⟩
      · have HB6 : Hid (Below w.heap.size w w6) := hide (HBX.out.trans (hb6.mono HBX.out.size))
        clear hu hb6
        go_wp2_with fail
        go_ret
        exact ⟨rfl, HB6.out⟩
end Go.Proofs.YtkldfbacagnhoaaDoor
