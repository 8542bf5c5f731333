/- Which field a face has by a name, walked; no statement of the seat is proved here. -/
import Derived.Test.YtkgnoemagklmiaaFaceFindC
namespace Go.Proofs.Ytkgnoemagklmiaa
open Go.RowKit

set_option maxRecDepth 100000 in
set_option maxHeartbeats 1000000 in
theorem facefield_any (f : Fc) (name : List UInt8) (w : World) (h : f.at_ w (fun k => w.heap.size ≤ k)) :
    Calls Try.prog 17 #[f.val, S name] w
      (fun e w' => e = .returned (.tuple #[.agg #[S (((fieldOf f name).map Vr.t).getD zeroTy).n, .bool (((fieldOf f name).map Vr.t).getD zeroTy).a], .bool (fieldOf f name).isSome]) ∧ Below w.heap.size w w') := by
  obtain ⟨G, hG⟩ : ∃ G, G = fieldOf f name := ⟨_, rfl⟩
  rw [← hG]
  obtain ⟨n, su, fA, fl, fc, fs, mA, ml, mc, ms⟩ := f
  unfold fieldOf at hG
  simp only at hG
  have HG := hide hG
  clear hG
  obtain ⟨⟨hr, hl, hm, _⟩, _⟩ := h
  simp only at hr hl hm
  have HL := hide hl
  clear hl
  simp only [Fc.val]
  obtain ⟨wA, hwA⟩ : ∃ wA, wA = (w.alloc (.cells #[S n, S su, .slice fA fl fc, .slice mA ml mc] 25)).alloc (.cells #[.string { data := #[] }, .bool false] 43) := ⟨_, rfl⟩
  have hbA : Below w.heap.size w wA := by rw [hwA]; exact ((Below.refl _ _).alloc (Nat.le_refl _) _).alloc (by simp) _
  have hbk : Blk wA (w.heap.size + 1) 43 #[.string { data := #[] }, .bool false] := by
    rw [hwA]
    have := Blk.new (w.alloc (.cells #[S n, S su, .slice fA fl fc, .slice mA ml mc] 25)) 43 #[.string { data := #[] }, .bool false]
    rwa [World.size_alloc] at this
  go_enter Try.func17, Try.ntmps17
  go_wp2_with fail
  rw [← hwA]
  clear hwA
  go_loopw [11] (fun i wr => ∃ k : Nat, k ≤ fl ∧ i = .int .i64 k ∧ Below wA.heap.size wA wr ∧ (fs.drop k).find? (fun v => v.n == name) = G) (fun i _ => fl - (intOf i).toNat)
  case atStart => exact ⟨0, Nat.zero_le _, rfl, Below.refl _ _, by rw [List.drop_zero]; exact HG.out.symm⟩
  case round =>
    obtain ⟨k, hk, rfl, hbr, hfd⟩ := hrel
    have HFD := hide hfd
    clear hfd
    have hbw := hbA.trans (hbr.mono hbA.size)
    have hb2 := hbk.below hbr hbk.lt
    by_cases hlt : k < fl
    · obtain ⟨x, o, rfl, _, _, hcell⟩ := Rd.rec_ (size := 3) (fun _ => rfl) (hr.below hbw) HL.out k hlt
      have hlk : k < fs.length := by have := HL.out; omega
      have HH : Hid ((fs[k].n == name) = true → G = some fs[k]) := hide (fun e => HFD.out.symm.trans (drop_hit (p := fun v => v.n == name) hlk e))
      have HN : Hid ((fs[k].n == name) = false → (fs.drop (k + 1)).find? (fun v => v.n == name) = G) := hide (fun e => (drop_skip (p := fun v => v.n == name) hlk e).symm.trans HFD.out)
      generalize fs[k] = v at *
      obtain ⟨vn, vt, va⟩ := v
      have q0 : wr.cell? ⟨x, o + k * 3, none⟩ = some (S vn) := hcell 0 _ rfl
      have q1 : wr.cell? ⟨x, o + k * 3 + 1, none⟩ = some (S vt) := hcell 1 _ rfl
      have q2 : wr.cell? ⟨x, o + k * 3 + 2, none⟩ = some (.bool va) := hcell 2 _ rfl
      clear hcell
      by_cases e : vn = name
      · have hG : G = some ⟨vn, vt, va⟩ := HH.out (by simpa using e)
        subst hG
        clear HH HN HFD HG
        subst e
        have hb3 := hb2.alloc (.cells #[S vn, S vt, .bool va] 45)
        have f0 : ∀ i, (wr.alloc (.cells #[S vn, S vt, .bool va] 45)).frozen? ⟨w.heap.size + 1, i, none⟩ = false := hb3.frozen
        have r0 : (wr.alloc (.cells #[S vn, S vt, .bool va] 45)).cell? ⟨w.heap.size + 1, 0, none⟩ = some (.string { data := #[] }) := hb3.cell 0
        have r1 : (wr.alloc (.cells #[S vn, S vt, .bool va] 45)).cell? ⟨w.heap.size + 1, 1, none⟩ = some (.bool false) := hb3.cell 1
        have hBz := hide (hbw.alloc hbw.size (.cells #[S vn, S vt, .bool va] 45))
        clear hb2 hb3 hbw
        go_wp2_with fail
        refine bodyPost_ret (v := .tuple #[.agg #[S vt, .bool va], .bool true]) ?_ rfl ?_
        · simp [results, Try.results17, go_sem, r0, r1]
        · exact ⟨rfl, set_below' (set_below' hBz.out (by simp) _) (by simp) _⟩
      · have HE := hide (HN.out (by simpa using e))
        have d : (vn == name) = false := by simpa using e
        clear HH HN HFD
        go_wp2_with fail
        go_roundw
        case rel => exact ⟨k + 1, by omega, by go_num, hbr.alloc hbr.size _, HE.out⟩
        case measure => simp [intOf]; omega
    · have hG : G = none := by
        rw [← HFD.out, List.drop_eq_nil_of_le (by have := HL.out; omega)]; rfl
      subst hG
      have f0 : ∀ i, wr.frozen? ⟨w.heap.size + 1, i, none⟩ = false := hb2.frozen
      have r0 : wr.cell? ⟨w.heap.size + 1, 0, none⟩ = some (.string { data := #[] }) := hb2.cell 0
      have r1 : wr.cell? ⟨w.heap.size + 1, 1, none⟩ = some (.bool false) := hb2.cell 1
      clear HFD HG
      go_wp2_with fail
      refine bodyPost_ret (v := .tuple #[.agg #[S [], .bool false], .bool false]) ?_ rfl ?_
      · simp [results, Try.results17, go_sem, r0, r1]
      · exact ⟨rfl, set_below' (set_below' hbw (by simp) _) (by simp) _⟩

end Go.Proofs.Ytkgnoemagklmiaa
