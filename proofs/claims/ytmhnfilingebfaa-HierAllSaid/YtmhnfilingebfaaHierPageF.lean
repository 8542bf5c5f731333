/- Whose field a class has, by the page, walked; no statement of the seat is proved here. -/
import Derived.Test.YtmhnfilingebfaaHierMem2
namespace Go.Proofs.Ytmhnfilingebfaa
open Go.RowKit

set_option maxRecDepth 100000 in
set_option maxHeartbeats 1500000 in
theorem pfield_any (A : Option Addr) (n c : Nat) (T : List Fc) (a k : List UInt8) (w : World) (h : FcsAt w (fun k => w.heap.size ≤ k) A n T) (hT : T.length ≤ 8) :
    Calls Try.prog 25 #[.slice A n c, S a, S k] w
      (fun e w' => e = .returned (retF (memF T k (up T 20 [] a).1)) ∧ Below w.heap.size w w') := by
  obtain ⟨C, hC⟩ : ∃ C, C = memF T k (up T 20 [] a).1 := ⟨_, rfl⟩
  rw [← hC]
  obtain ⟨wA, hwA⟩ : ∃ wA, wA = w.alloc (.cells #[.string { data := #[] }, .bool false] 45) := ⟨_, rfl⟩
  have hbA : Below w.heap.size w wA := by rw [hwA]; exact (Below.refl _ _).alloc (Nat.le_refl _) _
  have hbk : Blk wA w.heap.size 45 #[.string { data := #[] }, .bool false] := by rw [hwA]; exact Blk.new _ _ _
  have hszA : wA.heap.size = w.heap.size + 1 := by rw [hwA]; simp
  have hup := up_le T 20 [] a
  have ho := up8_any A n c T a wA ((h.below hbA).weak (fun k hk => by omega)) hT
  have HF := hide h
  have HAT := hide (face_at2 h.2.2.2)
  obtain ⟨R, hR⟩ : ∃ R, R = up T 20 [] a := ⟨_, rfl⟩
  rw [← hR] at ho hup hC
  obtain ⟨l, q⟩ := R
  simp only at hC
  have HC := hide hC
  have HO := hide ho
  clear hR ho hC h
  simp only [List.length_nil] at hup
  go_enter Try.func25, Try.ntmps25
  go_wp2_with fail
  rw [← hwA]
  refine HO.out.mono ?_
  rintro e w2 ⟨A2, c2, rfl, hb2, hr2⟩
  have hbw2 := hbA.trans (hb2.mono hbA.size)
  have hbk2 := hbk.below hb2 hbk.lt
  have hrr := hr2.weak (G := fun b => w2.heap.size ≤ b) (fun k _ e => by have := hb2.size; omega)
  clear hwA hbk hb2 hr2
  go_wp2_with fail
  go_loopw [25] (fun i wr => ∃ j : Nat, j ≤ l.length ∧ i = .int .i64 j ∧ Below w2.heap.size w2 wr ∧ memF T k (l.drop j) = C) (fun i _ => l.length - (intOf i).toNat)
  case atStart => exact ⟨0, Nat.zero_le _, rfl, Below.refl _ _, by rw [List.drop_zero]; exact HC.out.symm⟩
  case round =>
    obtain ⟨j, hj, rfl, hbr, hfd⟩ := hrel
    have HFD := hide hfd
    clear hfd
    have hbw := hbw2.trans (hbr.mono hbw2.size)
    have hb2 := hbk2.below hbr hbk2.lt
    by_cases hlt : j < l.length
    · obtain ⟨bb, o, u, rfl, hu, hc⟩ := (hrr.below hbr).at_ j hlt
      obtain rfl : S l[j] = u := by simpa [hlt] using hu
      clear hu
      have HH : Hid (∀ v, fieldOf (faceF T l[j]) k = some v → C = some (l[j], v.t)) := hide (fun v e => HFD.out.symm.trans (memF_hit hlt e))
      have HN : Hid (fieldOf (faceF T l[j]) k = none → memF T k (l.drop (j + 1)) = C) := hide (fun e => (memF_skip hlt e).symm.trans HFD.out)
      generalize l[j] = y at *
      have hfi := find_any A n c T y wr ((HF.out.below hbw).weak (fun k hk => by have := hbw.size; omega))
      have hFat := (HAT.out y)
      obtain ⟨Fx, hFx⟩ : ∃ Fx, Fx = faceF T y := ⟨_, rfl⟩
      obtain ⟨Bx, hBx⟩ : ∃ Bx, Bx = (get T y).isSome := ⟨_, rfl⟩
      rw [← hFx] at hfi hFat HH HN
      rw [← hBx] at hfi
      have HFI := hide hfi
      clear hfi hFx hBx
      obtain ⟨fn, fsu, fA, fl, fc, fs, mA, ml, mc, ms⟩ := Fx
      obtain ⟨⟨hr, hl, hm, _⟩, _⟩ := hFat
      simp only at hr hl hm
      have HL := hide hl
      clear hl
      obtain ⟨V, hV⟩ : ∃ V, V = fs.find? (fun v => v.n == k) := ⟨_, rfl⟩
      have HH2 : Hid (∀ v, V = some v → C = some (y, v.t)) := hide (fun v e => HH.out v (by unfold fieldOf; simp only; rw [← hV]; exact e))
      have HN2 : Hid (V = none → memF T k (l.drop (j + 1)) = C) := hide (fun e => HN.out (by unfold fieldOf; simp only; rw [← hV]; exact e))
      have HV := hide hV
      clear hV HH HN HFD
      go_wp2_with fail
      refine HFI.out.mono ?_
      rintro e w3 ⟨rfl, hb3⟩
      obtain ⟨w4, hw4⟩ : ∃ w4, w4 = w3.alloc (.cells #[S fn, S fsu, .slice fA fl fc, .slice mA ml mc] 38) := ⟨_, rfl⟩
      have hb4 : Below wr.heap.size wr w4 := by rw [hw4]; exact hb3.alloc hb3.size _
      have hn4 : Blk w4 w3.heap.size 38 #[S fn, S fsu, .slice fA fl fc, .slice mA ml mc] := by rw [hw4]; exact Blk.new _ _ _
      have p2 : w4.cell? ⟨w3.heap.size, 2, none⟩ = some (.slice fA fl fc) := hn4.cell 2
      have hbw4 := hbw.trans (hb4.mono hbw.size)
      have hb24 := hbr.trans (hb4.mono hbr.size)
      have hbk4 := hb2.below hb4 hb2.lt
      clear hb3 hb4 hn4 hb2 hbr hc
      go_wp2_with fail
      rw [← hw4]
      clear hw4
      go_loopw [38] (fun i wx => ∃ q : Nat, q ≤ fl ∧ i = .int .i64 q ∧ Below w4.heap.size w4 wx ∧ (fs.drop q).find? (fun v => v.n == k) = V) (fun i _ => fl - (intOf i).toNat)
      case atStart => exact ⟨0, Nat.zero_le _, rfl, Below.refl _ _, by rw [List.drop_zero]; exact HV.out.symm⟩
      case round =>
        obtain ⟨q, hq, rfl, hbx, hfd⟩ := hrel
        have HFD := hide hfd
        clear hfd
        have hbwx := hbw4.trans (hbx.mono hbw4.size)
        have hb2 := hbk4.below hbx hbk4.lt
        by_cases hqt : q < fl
        · obtain ⟨x, o, rfl, _, _, hcell⟩ := Rd.rec_ (size := 3) (fun _ => rfl) (hr.below hbwx) HL.out q hqt
          have hlk : q < fs.length := by have := HL.out; omega
          have HH : Hid ((fs[q].n == k) = true → V = some fs[q]) := hide (fun e => HFD.out.symm.trans (drop_hit (p := fun v => v.n == k) hlk e))
          have HN : Hid ((fs[q].n == k) = false → (fs.drop (q + 1)).find? (fun v => v.n == k) = V) := hide (fun e => (drop_skip (p := fun v => v.n == k) hlk e).symm.trans HFD.out)
          generalize fs[q] = v at *
          obtain ⟨vn, vt, va⟩ := v
          have q0 : wr.cell? ⟨x, o + q * 3, none⟩ = some (S vn) := hcell 0 _ rfl
          have q1 : wr.cell? ⟨x, o + q * 3 + 1, none⟩ = some (S vt) := hcell 1 _ rfl
          have q2 : wr.cell? ⟨x, o + q * 3 + 2, none⟩ = some (.bool va) := hcell 2 _ rfl
          clear hcell
          by_cases e : vn = k
          · have hC := HH2.out _ (HH.out (by simpa using e))
            subst hC
            subst e
            obtain ⟨w6, hw6⟩ : ∃ w6, w6 = wr.alloc (.cells #[S vn, S vt, .bool va] 69) := ⟨_, rfl⟩
            have hb3 : Blk w6 w.heap.size 45 #[.string { data := #[] }, .bool false] := by rw [hw6]; exact hb2.alloc _
            have hb7 : Blk w6 wr.heap.size 69 #[S vn, S vt, .bool va] := by rw [hw6]; exact Blk.new _ _ _
            have hBz : Below w.heap.size w w6 := by rw [hw6]; exact hbwx.alloc hbwx.size _
            have HBZ := hide hBz
            have f0 : ∀ i, w6.frozen? ⟨w.heap.size, i, none⟩ = false := hb3.frozen
            have r0 : w6.cell? ⟨w.heap.size, 0, none⟩ = some (.string { data := #[] }) := hb3.cell 0
            have r1 : w6.cell? ⟨w.heap.size, 1, none⟩ = some (.bool false) := hb3.cell 1
            have s1 : w6.cell? ⟨wr.heap.size, 0, none⟩ = some (S vn) := hb7.cell 0
            have s2 : w6.cell? ⟨wr.heap.size, 1, none⟩ = some (S vt) := hb7.cell 1
            have s3 : w6.cell? ⟨wr.heap.size, 2, none⟩ = some (.bool va) := hb7.cell 2
            clear HH HN HH2 HN2 HFD HV HC hb2 hb3 hb7 hbwx hBz
            go_wp2_with fail
            rw [← hw6]
            clear hw6
            go_region
            all_goals
              go_wp2_with fail
              refine bodyPost_ret (v := .tuple #[S y, .agg #[S vt, .bool va], .bool true]) ?_ rfl ?_
              · simp [results, Try.results25, go_sem, r0, r1]
              · exact ⟨rfl, (set_below' (set_below' HBZ.out (p := ⟨w.heap.size, 0, none⟩) (Nat.le_refl _) (S vt)) (p := ⟨w.heap.size, 1, none⟩) (Nat.le_refl _) (.bool va)).drew⟩
          · have HE := hide (HN.out (by simpa using e))
            have d : (vn == k) = false := by simpa using e
            clear HH HN HFD
            go_wp2_with fail
            go_roundw
            case rel => exact ⟨q + 1, by omega, by go_num, hbx.alloc hbx.size _, HE.out⟩
            case measure => simp [intOf]; omega
        · have hVn : V = none := by
            rw [← HFD.out, List.drop_eq_nil_of_le (by have := HL.out; omega)]; rfl
          have HE := hide (HN2.out hVn)
          have hb25 := hb24.trans (hbx.mono hb24.size)
          clear HFD HH2 HN2 hb2 hbwx
          go_wp2_with fail
          go_roundw
          case rel => exact ⟨j + 1, by omega, by go_num, hb25, HE.out⟩
          case measure => simp [intOf]; omega
    · have hCn : C = none := by
        rw [← HFD.out, List.drop_eq_nil_of_le (by omega)]; rfl
      subst hCn
      have f0 : ∀ i, wr.frozen? ⟨w.heap.size, i, none⟩ = false := hb2.frozen
      have r0 : wr.cell? ⟨w.heap.size, 0, none⟩ = some (.string { data := #[] }) := hb2.cell 0
      have r1 : wr.cell? ⟨w.heap.size, 1, none⟩ = some (.bool false) := hb2.cell 1
      clear hb2 hbr HFD HC
      go_wp2_with fail
      refine bodyPost_ret (v := .tuple #[S [], .agg #[S [], .bool false], .bool false]) ?_ rfl ?_
      · simp [results, Try.results25, go_sem, r0, r1]
      · exact ⟨rfl, set_below' (set_below' hbw (p := ⟨w.heap.size, 0, none⟩) (Nat.le_refl _) (S [])) (p := ⟨w.heap.size, 1, none⟩) (Nat.le_refl _) (.bool false)⟩
end Go.Proofs.Ytmhnfilingebfaa
