/- Which types the table knows; which type fits where another is wanted, walked; no statement of the seat is proved here. -/
import Derived.Test.YtmhnfilingebfaaHierKnown
namespace Go.Proofs.Ytmhnfilingebfaa
open Go.RowKit

theorem keep_s2 {w w' : World} {s : Nat} (h : Below w.heap.size w w') : Keep (fun b => b = s) w w' := Keep.of_below h (fun k h1 h2 => by omega)

set_option maxRecDepth 100000 in
set_option maxHeartbeats 1500000 in
theorem knownt_any (g m s n0 : Nat) (T : List Fc) (A : Option Addr) (n c : Nat) (l : List Ty) (w : World) (h : Tab w g m s T n0) (hn0 : n0 ≤ 800000) (hr : Rd w (fun b => b = s) 2 A n (l.flatMap Ty.cells)) (hl : l.length = n) (hn : n ≤ 1000)
    (hsh : ∀ t ∈ l, short t.n) :
    Calls Try.prog 22 #[.pointer (some ⟨g, 0, none⟩), .slice A n c] w
      (fun e w' => e = .returned (.bool (l.all (knownT T))) ∧ Tab w' g m s T (n0 + n) ∧ Keep (fun b => b = s) w w') := by
  have HL := hide hl
  have HSH := hide hsh
  clear hl hsh
  obtain ⟨C, hC⟩ : ∃ C, C = l.all (knownT T) := ⟨_, rfl⟩
  rw [← hC]
  have HC := hide hC
  clear hC
  have hsl := h.slt
  go_enter Try.func22, Try.ntmps22
  go_wp2_with fail
  go_loopw [11] (fun i wr => ∃ k : Nat, k ≤ n ∧ i = .int .i64 k ∧ Tab wr g m s T (n0 + k) ∧ Keep (fun b => b = s) w wr ∧ (∀ i (hi : i < l.length), i < k → knownT T l[i] = true)) (fun i _ => n - (intOf i).toNat)
  case atStart => exact ⟨0, Nat.zero_le _, rfl, h, Keep.refl _ _, by omega⟩
  case round =>
    obtain ⟨k, hk, rfl, htr, hkr, hall⟩ := hrel
    have HA := hide hall
    have HTR := hide htr
    have HKR := hide hkr
    clear hall htr hkr
    by_cases hlt : k < n
    · obtain ⟨x, o, rfl, hxs, hxl, hcell⟩ := Rd.rec_ (size := 2) (fun _ => rfl) (hr.keep HKR.out) HL.out k hlt
      have hlk : k < l.length := by have := HL.out; omega
      have hss := HSH.out _ (List.getElem_mem hlk)
      have HNo : Hid (knownT T l[k] = false → C = false) := hide (fun e => by
        rw [HC.out, List.all_eq_false]
        exact ⟨l[k], List.getElem_mem hlk, by simp [e]⟩)
      obtain ⟨p, hp⟩ : ∃ p, p = l[k] := ⟨_, rfl⟩
      rw [← hp] at hcell HNo hss
      have HP := hide hp
      clear hp
      obtain ⟨tn, ta⟩ := p
      have q0 : wr.cell? ⟨x, o + k * 2, none⟩ = some (S tn) := hcell 0 _ rfl
      have q1 : wr.cell? ⟨x, o + k * 2 + 1, none⟩ = some (.bool ta) := hcell 1 _ rfl
      clear hcell
      have hgo : ∀ w, Calls Try.prog 38 #[.agg #[S tn, .bool ta]] w (Gives w (.bool (Ty.good ⟨tn, ta⟩))) := good_any tn ta
      have hcl : ∀ w, Calls Try.prog 37 #[.agg #[S tn, .bool false]] w (Gives w (.bool (great tn))) := fun w => by
        have := class_any tn false w
        simpa [Ty.cls] using this
      have hfa : ∀ w nn, Tab w g m s T nn → nn ≤ 1000000 → _ := fun w nn h h1 => face_any g m s nn T tn w h h1 hss
      obtain ⟨F, hF⟩ : ∃ F, F = faceF T tn := ⟨_, rfl⟩
      obtain ⟨B, hB⟩ : ∃ B, B = (get T tn).isSome := ⟨_, rfl⟩
      obtain ⟨G, hG⟩ : ∃ G, G = Ty.good ⟨tn, ta⟩ := ⟨_, rfl⟩
      obtain ⟨Q, hQ⟩ : ∃ Q, Q = great tn := ⟨_, rfl⟩
      have HKN : Hid (knownT T ⟨tn, ta⟩ = (G && (!Q || B))) := hide (by rw [hG, hQ, hB]; rfl)
      rw [← hF, ← hB] at hfa
      rw [← hG] at hgo
      rw [← hQ] at hcl
      have HGO := hide hgo
      have HCL := hide hcl
      have HFA := hide hfa
      clear hgo hcl hfa hF hB hG hQ
      obtain ⟨w1, hw1⟩ : ∃ w1, w1 = wr.alloc (.cells #[S tn, .bool ta] 45) := ⟨_, rfl⟩
      have ht1 := HTR.out.alloc (.cells #[S tn, .bool ta] 45)
      have hk1 := HKR.out.alloc (.cells #[S tn, .bool ta] 45)
      have hb1 : Blk w1 wr.heap.size 45 #[S tn, .bool ta] := by rw [hw1]; exact Blk.new _ _ _
      have hsr := HTR.out.slt
      rw [← hw1] at ht1 hk1
      have HT1 := hide ht1
      have HK1 := hide hk1
      have HB1 := hide hb1
      clear ht1 hk1 hb1
      go_wp2_with fail
      rw [← hw1]
      clear hw1 q0 q1
      refine (HGO.out _).mono ?_
      rintro e w2 ⟨rfl, hb2⟩
      have HT2 := hide (HT1.out.below hb2)
      have HK2 := hide (HK1.out.trans' (keep_s2 (s := s) hb2) (fun _ _ h => h))
      have hbl2 := HB1.out.below hb2 HB1.out.lt
      have HB2 := hide hbl2
      have c2 : w2.cell? ⟨wr.heap.size, 0, none⟩ = some (S tn) := hbl2.cell 0
      clear hb2 hbl2
      cases G with
      | false =>
        have HCf := hide (HNo.out (by rw [HKN.out]; rfl))
        go_wp2_with fail
        go_ret
        exact ⟨by rw [HCf.out] <;> rfl, HT2.out.mono (by omega), HK2.out⟩
      | true =>
        go_wp2_with fail
        refine (of_any tn w2).mono ?_
        rintro e w3 ⟨rfl, hb3⟩
        have HT3 := hide (HT2.out.below hb3)
        have HK3 := hide (HK2.out.trans' (keep_s2 (s := s) hb3) (fun _ _ h => h))
        have HB3 := hide (HB2.out.below hb3 HB2.out.lt)
        clear hb3 c2
        go_wp2_with fail
        refine (HCL.out w3).mono ?_
        rintro e w4 ⟨rfl, hb4⟩
        have HT4 := hide (HT3.out.below hb4)
        have HK4 := hide (HK3.out.trans' (keep_s2 (s := s) hb4) (fun _ _ h => h))
        have hbl4 := HB3.out.below hb4 HB3.out.lt
        have c4 : w4.cell? ⟨wr.heap.size, 0, none⟩ = some (S tn) := hbl4.cell 0
        clear hb4 hbl4
        cases Q with
        | false =>
          have HE : Hid (knownT T ⟨tn, ta⟩ = true) := hide (by rw [HKN.out]; rfl)
          go_wp2_with fail
          go_roundw
          case rel => exact ⟨k + 1, by omega, by go_num, HT4.out.mono (by omega), HK4.out, all_step (p := fun u => knownT T u = true) HA.out hlk (by rw [← HP.out]; exact HE.out)⟩
          case measure => simp [intOf]; omega
        | true =>
          go_wp2_with fail
          refine (HFA.out w4 _ HT4.out (by omega)).mono ?_
          rintro e w5 ⟨rfl, ht5, hk5⟩
          have HT5 := hide (ht5.alloc (.cells #[S F.n, S F.su, .slice F.fA F.fl F.fc, .slice F.mA F.ml F.mc] 38))
          have HK5 := hide ((HK4.out.trans' hk5 (fun _ _ h => h)).alloc (.cells #[S F.n, S F.su, .slice F.fA F.fl F.fc, .slice F.mA F.ml F.mc] 38))
          clear ht5 hk5 c4
          cases B with
          | false =>
            have HCf := hide (HNo.out (by rw [HKN.out]; rfl))
            go_wp2_with fail
            go_ret
            exact ⟨by rw [HCf.out] <;> rfl, HT5.out.mono (by omega), HK5.out⟩
          | true =>
            have HE : Hid (knownT T ⟨tn, ta⟩ = true) := hide (by rw [HKN.out]; rfl)
            go_wp2_with fail
            go_roundw
            case rel => exact ⟨k + 1, by omega, by go_num, HT5.out.mono (by omega), HK5.out, all_step (p := fun u => knownT T u = true) HA.out hlk (by rw [← HP.out]; exact HE.out)⟩
            case measure => simp [intOf]; omega
    · have HY : Hid (C = true) := hide (by
        rw [HC.out, List.all_eq_true]
        exact all_done (p := fun u => knownT T u = true) HA.out (by have := HL.out; omega))
      go_wp2_with fail
      go_ret
      exact ⟨by rw [HY.out] <;> rfl, HTR.out.mono (by omega), HKR.out⟩
end Go.Proofs.Ytmhnfilingebfaa
