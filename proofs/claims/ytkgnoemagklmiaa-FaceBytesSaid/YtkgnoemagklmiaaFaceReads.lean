/- FaceReads returns true for whatever bytes: the walk; no statement of the seat is proved here. -/
import Derived.Test.YtkgnoemagklmiaaFaceHead
import Derived.Test.YtkgnoemagklmiaaOpenTyC
namespace Go.Proofs.Ytkgnoemagklmiaa
open Go.RowKit

theorem pread_any (l : List UInt8) (w : World) : Calls Try.prog 20 #[S l] w fun e w' => e = .returned (.pointer (some ⟨w.heap.size, 0, none⟩)) ∧ w.alloc (.cells #[S l, .bool false] 86) = w' := by
  go_enter Try.func20, Try.ntmps20
  go_wp2
  go_ret
  exact ⟨rfl, rfl⟩
theorem tyR_A : tyR (some [1, 65, 1]) = (⟨[65], true⟩, some []) := by decide +kernel
theorem good_A : Ty.good ⟨[65], true⟩ = true := by decide
theorem good_a : Ty.good ⟨[97], false⟩ = false := by decide

set_option maxRecDepth 100000 in
set_option maxHeartbeats 8000000 in
theorem freads_walk (l : List UInt8) (w : World) (hl : l.length ≤ 9223372036854775807) : Calls Try.prog 6 #[S l] w (Gives w (.bool true)) := by
  have HH := hide (fhead_any w)
  cases hb : decide (500 < (l.length : Int)) with
  | true =>
    go_enter Try.func6, Try.ntmps6
    go_wp2_with (go_at_call 8; refine HH.out.mono ?_; rintro e w1 ⟨rfl, hb1⟩)
    go_ret
    exact ⟨rfl, hb1⟩
  | false =>
    have hlen : l.length ≤ 500 := by
      have h1 : (l.length : Int) ≤ 500 := by simpa using hb
      omega
    have HLEN := hide hlen
    clear hlen
    go_enter Try.func6, Try.ntmps6
    go_upto_region 5 with (go_at_call 8; refine HH.out.mono ?_; rintro e w1 ⟨rfl, hb1⟩)
    have HB1 := hide hb1
    have HP := hide (pread_any l w1)
    have HRL := hide (Rl.new w1 l hl)
    clear hb hb1 HH
    obtain ⟨w2, hw2⟩ : ∃ w2, w2 = w1.alloc (.cells #[S l, .bool false] 86) := ⟨_, rfl⟩
    rw [← hw2] at HP HRL
    have HB2 : Hid (Below w.heap.size w w2) := hide (by rw [hw2]; exact HB1.out.alloc HB1.out.size _)
    have HG1 : Hid (w.heap.size ≤ w1.heap.size) := hide HB1.out.size
    clear hw2 HB1
    go_upto_region 6 with (go_at_call 20; refine HP.out.mono ?_; rintro e w3 ⟨rfl, hw3⟩; subst w3)
    clear HP
    obtain ⟨g, hg⟩ : ∃ g, g = w1.heap.size := ⟨_, rfl⟩
    rw [← hg] at HRL HG1 ⊢
    clear hg
    have HRD := hide (fread_any g (some l) w2 HRL.out)
    have HG2 : Hid (g < w2.heap.size) := hide HRL.out.lt
    clear HRL
    go_upto_region 7 with (go_at_call 21; refine HRD.out.mono ?_; rintro e w4 ⟨f, rfl, hpl, hat, -, hrl, hkp⟩)
    refine name_world ?_
    intro w5 hw5
    have HB4 : Hid (Below w.heap.size w w4) := hide (((Keep.of_below (F := fun i => w.heap.size ≤ i) HB2.out (fun i _ h => h)).trans (hkp.mono (fun i _ h => by rw [h]; exact HG1.out))).below (Nat.le_refl _) (fun i h => h))
    have HB5 : Hid (Below w.heap.size w w5) := hide (by rw [hw5]; exact HB4.out.alloc HB4.out.size _)
    have HF5 : Hid (Blk w5 w4.heap.size 25 #[S f.n, S f.su, .slice f.fA f.fl f.fc, .slice f.mA f.ml f.mc]) := hide (by rw [hw5]; exact Blk.new _ _ _)
    have HRL5 : Hid (Rl w5 g (fcR (some l)).2) := hide (by rw [hw5]; exact hrl.alloc _)
    have HA5 : Hid (f.at_ w5 (fun k => w4.heap.size ≤ k)) := hide (by
      have h1 : f.at_ w4 (fun k => w4.heap.size ≤ k) := ⟨⟨hat.1.1.weak (fun i h1 h => absurd h (by omega)), hat.1.2⟩, ⟨hat.2.1.1.weak (fun i h1 h => absurd h (by omega)), hat.2.1.2.1, hat.2.1.2.2.1, fun m hm => ⟨(hat.2.1.2.2.2 m hm).1.weak (fun i h1 h => absurd h (by omega)), (hat.2.1.2.2.2 m hm).2⟩⟩, hat.2.2⟩
      rw [hw5]
      exact h1.below ((Below.refl _ _).alloc (Nat.le_refl _) _))
    have HPL := hide hpl
    clear hw5 hpl hat hrl hkp HRD HB2 HB4
    obtain ⟨q, hq⟩ : ∃ q, q = w4.heap.size := ⟨_, rfl⟩
    rw [← hq] at HF5 HA5 ⊢
    clear hq
    have HDN := hide (rdone_any g _ w5 HRL5.out)
    have HQ5 : Hid (q < w5.heap.size) := hide HF5.out.lt
    clear HRL5
    by_cases hst : (fcR (some l)).2 = some []
    case neg =>
      have hd : doneR (fcR (some l)).2 = 2 := by unfold doneR; rw [if_neg hst]
      rw [hd] at HDN
      clear hst hd
      go_wp2_with (go_at_call 22; refine HDN.out.mono ?_; rintro e w6 ⟨rfl, hw6⟩; subst w6)
      go_ret
      exact ⟨rfl, HB5.out⟩
    case pos =>
    have hd : doneR (fcR (some l)).2 = 0 := by unfold doneR; rw [if_pos hst]
    rw [hd] at HDN
    have hlay : fcL f.pl = l := by
      have e := fcI (some l) [] hst
      injection e with e
      rw [List.append_nil] at e
      rw [HPL.out]
      exact e.symm
    have HLY := hide hlay
    clear hst hd hlay HPL
    go_upto_region 10 with (go_at_call 22; refine HDN.out.mono ?_; rintro e w6 ⟨rfl, hw6⟩; subst w6)
    refine name_world ?_
    intro w7 hw7
    have HB7 : Hid (Below w.heap.size w w7) := hide (by rw [hw7]; exact HB5.out.alloc HB5.out.size _)
    have HW7 : Hid (Wr w7 w5.heap.size (.slice none 0 0) []) := hide (by rw [hw7]; exact wr_new w5)
    have HF7 := hide (show Blk w7 q _ _ by rw [hw7]; exact HF5.out.alloc _)
    have HA7 : Hid (f.at_ w7 (fun k => q ≤ k)) := hide (by rw [hw7]; exact HA5.out.below ((Below.refl _ _).alloc (by have := HQ5.out; omega) _))
    have HGW : Hid (w.heap.size ≤ w5.heap.size) := hide HB5.out.size
    clear hw7 HF5 HA5 HDN HB5
    obtain ⟨gw, hgw⟩ : ∃ gw, gw = w5.heap.size := ⟨_, rfl⟩
    rw [← hgw] at HW7 HQ5 HGW ⊢
    clear hgw
    have HLAY := hide (flay_any f gw (.slice none 0 0) [] w7 HW7.out (HA7.out.weak (fun k hk => by rcases hk with hk | hk <;> first | (rw [hk]; have := HQ5.out; omega) | (simp [Value.ownBlock] at hk))) (by rw [HLY.out]; have := HLEN.out; simp; omega))
    rw [HLY.out, List.nil_append] at HLAY
    have k0 := HF7.out.cell 0
    have k1 := HF7.out.cell 1
    have k2 := HF7.out.cell 2
    have k3 := HF7.out.cell 3
    simp at k0 k1 k2 k3
    go_upto_region 11 with (go_at_call 10; refine HLAY.out.mono ?_; rintro e w8 ⟨rfl, ⟨v8, hwr⟩, hst⟩)
    clear k0 k1 k2 k3 HLAY hst
    have HB8 : Hid (Below w.heap.size w w8) := hide (((Keep.of_below (F := fun i => w.heap.size ≤ i) HB7.out (fun i _ h => h)).trans (hwr.2.1.mono (fun i _ h => by rcases h with h | h <;> first | (rw [h]; exact HGW.out) | (simp [Value.ownBlock] at h)))).below (Nat.le_refl _) (fun i h => h))
    have HW8 := hide hwr.1
    clear hwr HB7 HW7 HF7 HA7
    obtain ⟨w9, hw9⟩ : ∃ w9, w9 = w8.alloc (.cells #[S [1, 65, 1], .bool false] 86) := ⟨_, rfl⟩
    have HP := hide (pread_any [1, 65, 1] w8)
    have HRL := hide (Rl.new w8 [1, 65, 1] (by simp))
    rw [← hw9] at HP HRL
    have HW9 : Hid (Wr w9 gw v8 l) := hide (by rw [hw9]; exact HW8.out.alloc _)
    have HB9 : Hid (Below w.heap.size w w9) := hide (by rw [hw9]; exact HB8.out.alloc HB8.out.size _)
    have HS8 : Hid (w.heap.size ≤ w8.heap.size) := hide HB8.out.size
    have HLW : Hid (gw < w8.heap.size ∧ ∀ k, v8.ownBlock = some k → k < w8.heap.size) := hide ⟨HW8.out.blk.lt, fun k hk => (HW8.out.own.lt k hk).2⟩
    clear hw9 HW8 HB8
    have HRT := hide (rtype_any w8.heap.size (some [1, 65, 1]) w9 HRL.out)
    rw [tyR_A] at HRT
    simp only [Ty.val] at HRT
    go_upto_region 12 with (first
      | (go_at_call 20; refine HP.out.mono ?_; rintro e w10 ⟨rfl, hw10⟩; subst w10)
      | (go_at_call 23; refine HRT.out.mono ?_; rintro e w11 ⟨rfl, h11, k11⟩))
    refine name_world ?_
    intro w12 hw12
    have HB11 : Hid (Below w.heap.size w w11) := hide (((Keep.of_below (F := fun i => w.heap.size ≤ i) HB9.out (fun i _ h => h)).trans (k11.mono (fun i _ h => by rw [h]; exact HS8.out))).below (Nat.le_refl _) (fun i h => h))
    have HB12 : Hid (Below w.heap.size w w12) := hide (by rw [hw12]; exact HB11.out.alloc HB11.out.size _)
    have HW12 : Hid (Wr w12 gw v8 l) := hide (by rw [hw12]; exact (HW9.out.keep k11 (fun h => by have := HLW.out.1; omega) (fun k hk h => by have := HLW.out.2 k hk; omega)).alloc _)
    have HT12 : Hid (Blk w12 w11.heap.size 43 #[S [65], .bool true]) := hide (by rw [hw12]; exact Blk.new _ _ _)
    clear hw12 h11 k11 HRT HRL HP HW9 HB9 HB11 HLW
    have HSTR := hide (string_any gw v8 l w12 HW12.out)
    have HGA := hide (good_any [65] true w12)
    have HGB := fun w => hide (good_any [97] false w)
    rw [good_A] at HGA
    simp only [good_a] at HGB
    have t0 := HT12.out.cell 0
    have t1 := HT12.out.cell 1
    simp at t0 t1
    have hll : (l == l) = true := by simp
    go_wp2_with (first
      | (go_at_call 12; refine HSTR.out.mono ?_; rintro e w13 ⟨rfl, hw13⟩; subst w13)
      | (go_at_call 24; (with_reducible refine HGA.out.mono ?_); rintro e w14 ⟨rfl, hb14⟩)
      | (go_at_call 24; refine (HGB _).out.mono ?_; rintro e w15 ⟨rfl, hb15⟩))
    go_ret
    exact ⟨rfl, HB12.out.trans ((hb14.trans (hb15.mono hb14.size)).mono HB12.out.size)⟩
end Go.Proofs.Ytkgnoemagklmiaa
