/- Whether members of a face side by side have one name, walked; no statement of the seat is proved here. -/
import Derived.Test.YtmhnfilingebfaaFaceFew
namespace Go.Proofs.Ytmhnfilingebfaa
open Go.RowKit

/-- Are two side by side the same? -/
def adjN : List (List UInt8) → Bool
  | a :: b :: r => (a == b) || adjN (b :: r)
  | _ => false
theorem adjN_iff : ∀ l : List (List UInt8), adjN l = true ↔ ∃ i, ∃ h : i + 1 < l.length, l[i] = l[i + 1]
  | [] => by simp [adjN]
  | [a] => by simp [adjN]
  | a :: b :: r => by
    unfold adjN
    rw [Bool.or_eq_true, adjN_iff (b :: r)]
    constructor
    · rintro (h | ⟨i, h, e⟩)
      · exact ⟨0, by simp, by simpa using h⟩
      · exact ⟨i + 1, by simpa using h, by simpa using e⟩
    · rintro ⟨i, h, e⟩
      rcases i with _ | i
      · exact .inl (by simpa using e)
      · exact .inr ⟨i, by simpa using h, by simpa using e⟩
theorem adjN_false {l : List (List UInt8)} (h : ∀ i (hi : i + 1 < l.length), l[i] ≠ l[i + 1]) : adjN l = false := by
  rw [Bool.eq_false_iff]
  intro hh
  obtain ⟨i, hi, e⟩ := (adjN_iff l).1 hh
  exact h i hi e

def twiceB (f : Fc) : Bool := adjN (f.fs.map Vr.n) || adjN (f.ms.map Sg.n)

set_option maxRecDepth 100000 in
set_option maxHeartbeats 4000000 in
theorem twice_any (f : Fc) (w : World) (h : f.at_ w (fun k => w.heap.size ≤ k)) : Calls Try.prog 43 #[f.val] w (Gives w (.bool (twiceB f))) := by
  obtain ⟨n, su, fA, fl, fc, fs, mA, ml, mc, ms⟩ := f
  obtain ⟨⟨hf, hfl, hfm, _⟩, ⟨hm, hml, hmm, _⟩, _, _⟩ := h
  simp only at hf hfl hfm hm hml hmm
  obtain ⟨R, hR⟩ : ∃ R, R = twiceB ⟨n, su, fA, fl, fc, fs, mA, ml, mc, ms⟩ := ⟨_, rfl⟩
  rw [← hR]
  have HR : Hid (R = (adjN (fs.map Vr.n) || adjN (ms.map Sg.n))) := hide hR
  have HFL := hide hfl
  have HML := hide hml
  clear hR hfl hml
  obtain ⟨wA, hwA⟩ : ∃ wA, wA = w.alloc (.cells #[S n, S su, .slice fA fl fc, .slice mA ml mc] 38) := ⟨_, rfl⟩
  have hB1 : Below w.heap.size w wA := by rw [hwA]; exact (Below.refl _ _).alloc (Nat.le_refl _) _
  have hbk : Blk wA w.heap.size 38 #[S n, S su, .slice fA fl fc, .slice mA ml mc] := by rw [hwA]; exact Blk.new _ _ _
  have c2 : wA.cell? ⟨w.heap.size, 2, none⟩ = some (.slice fA fl fc) := hbk.cell 2
  rw [hwA] at c2
  go_enter Try.func43, Try.ntmps43
  go_wp2_with fail
  rw [← hwA]
  clear hwA c2
  go_loopw [8] (fun i wr => ∃ k : Nat, k ≤ fl ∧ i = .int .i64 k ∧ Below wA.heap.size wA wr ∧ (∀ i (hi : i + 1 < (fs.map Vr.n).length), i + 1 < k → (fs.map Vr.n)[i] ≠ (fs.map Vr.n)[i + 1])) (fun i _ => fl - (intOf i).toNat)
  case atStart => exact ⟨0, Nat.zero_le _, rfl, Below.refl _ _, by omega⟩
  case round =>
    obtain ⟨k, hk, rfl, hbr, hall⟩ := hrel
    have HA := hide hall
    have hBr := hB1.trans (hbr.mono hB1.size)
    clear hall
    by_cases hlt : k < fl
    · rcases k with _ | j
      · go_wp2_with fail
        go_quiet (fail)
        go_wp2_with fail
        go_roundw
        case rel => exact ⟨1, by omega, by go_num, bdrewN hbr _, by omega⟩
        case measure => simp [intOf]; omega
      · obtain ⟨x, o, rfl, _, _, hcell⟩ := Rd.rec_ (size := 3) (fun _ => rfl) (hf.below hBr) HFL.out (j + 1) hlt
        obtain ⟨x', o', hx, _, _, hcell'⟩ := Rd.rec_ (size := 3) (fun _ => rfl) (hf.below hBr) HFL.out j (by omega)
        injection hx with hx
        injection hx with e1 e2
        subst e1 e2
        have q0 : wr.cell? ⟨x, o + (j + 1) * 3, none⟩ = some (S (fs[j + 1]'(by have := HFL.out; omega)).n) := hcell 0 _ rfl
        have q1 : wr.cell? ⟨x, o + j * 3, none⟩ = some (S (fs[j]'(by have := HFL.out; omega)).n) := hcell' 0 _ rfl
        have c2 : wr.cell? ⟨w.heap.size, 2, none⟩ = some (.slice (some ⟨x, o, none⟩) fl fc) := (hbk.below hbr hbk.lt).cell 2
        have HN : Hid (∀ e : (fs[j]'(by have := HFL.out; omega)).n = (fs[j + 1]'(by have := HFL.out; omega)).n, R = true) := hide (fun e => by
          rw [HR.out, (adjN_iff (fs.map Vr.n)).2 ⟨j, by have := HFL.out; simp; omega, by simpa using e⟩]; rfl)
        have HS : Hid ((fs[j]'(by have := HFL.out; omega)).n ≠ (fs[j + 1]'(by have := HFL.out; omega)).n → ∀ i (hi : i + 1 < (fs.map Vr.n).length), i + 1 < j + 1 + 1 → (fs.map Vr.n)[i] ≠ (fs.map Vr.n)[i + 1]) := hide (fun e i hi hlt' => by
          rcases Nat.lt_or_ge (i + 1) (j + 1) with h2 | h2
          · exact HA.out i hi h2
          · obtain rfl : i = j := by omega
            simpa using e)
        obtain ⟨a, ha⟩ : ∃ a, a = (fs[j]'(by have := HFL.out; omega)).n := ⟨_, rfl⟩
        obtain ⟨b, hb⟩ : ∃ b, b = (fs[j + 1]'(by have := HFL.out; omega)).n := ⟨_, rfl⟩
        rw [← hb] at q0
        rw [← ha] at q1
        rw [← ha, ← hb] at HN HS
        have h0 : decide (0 < (j : Int) + 1) = true := decide_eq_true (by omega)
        have h1 : IntKind.i64.wrap ((j : Int) + 1 - 1) = (j : Int) := by rw [IntKind.wrap_i64]; omega
        have h2 : (j : Int) < (fl : Int) := by omega
        have h3 : (j : Int) + 1 < (fl : Int) := by omega
        clear hcell hcell' ha hb
        by_cases e : a = b
        · subst e
          have HX := hide (HN.out rfl)
          go_wp2_with fail
          go_quiet (fail)
          go_wp2_with fail
          go_ret
          exact ⟨by rw [HX.out] <;> rfl, bdrewN hBr _⟩
        · have d : (a == b) = false := by simpa using e
          have HX := hide (HS.out e)
          go_wp2_with fail
          go_quiet (fail)
          go_wp2_with fail
          go_roundw
          case rel => exact ⟨j + 1 + 1, by omega, by go_num, bdrewN hbr _, HX.out⟩
          case measure => simp [intOf]; omega
    · have HF : Hid (adjN (fs.map Vr.n) = false) := hide (adjN_false (fun i hi => HA.out i hi (by have := HFL.out; simp at hi; omega)))
      obtain ⟨wB, hwB⟩ : ∃ wB, wB = wr := ⟨_, rfl⟩
      have hbk2 := hbk.below hbr hbk.lt
      rw [← hwB] at hbk2 hBr
      rw [← hwB]
      have hB2 := hBr
      clear hwB hbr hBr HA
      have c3 : wB.cell? ⟨w.heap.size, 3, none⟩ = some (.slice mA ml mc) := hbk2.cell 3
      go_wp2_with fail
      clear c3
      go_loopw [33] (fun i wr => ∃ k : Nat, k ≤ ml ∧ i = .int .i64 k ∧ Below wB.heap.size wB wr ∧ (∀ i (hi : i + 1 < (ms.map Sg.n).length), i + 1 < k → (ms.map Sg.n)[i] ≠ (ms.map Sg.n)[i + 1])) (fun i _ => ml - (intOf i).toNat)
      case atStart => exact ⟨0, Nat.zero_le _, rfl, Below.refl _ _, by omega⟩
      case round =>
        obtain ⟨k, hk, rfl, hbr, hall⟩ := hrel
        have HA := hide hall
        have hBr := hB2.trans (hbr.mono hB2.size)
        clear hall
        by_cases hlt : k < ml
        · rcases k with _ | j
          · go_wp2_with fail
            go_quiet (fail)
            go_wp2_with fail
            go_roundw
            case rel => exact ⟨1, by omega, by go_num, bdrewN hbr _, by omega⟩
            case measure => simp [intOf]; omega
          · obtain ⟨x, o, rfl, _, _, hcell⟩ := Rd.rec_ (size := 5) (fun _ => rfl) (hm.below hBr) HML.out (j + 1) hlt
            obtain ⟨x', o', hx, _, _, hcell'⟩ := Rd.rec_ (size := 5) (fun _ => rfl) (hm.below hBr) HML.out j (by omega)
            injection hx with hx
            injection hx with e1 e2
            subst e1 e2
            have q0 : wr.cell? ⟨x, o + (j + 1) * 5, none⟩ = some (S (ms[j + 1]'(by have := HML.out; omega)).n) := hcell 0 _ rfl
            have q1 : wr.cell? ⟨x, o + j * 5, none⟩ = some (S (ms[j]'(by have := HML.out; omega)).n) := hcell' 0 _ rfl
            have c3 : wr.cell? ⟨w.heap.size, 3, none⟩ = some (.slice (some ⟨x, o, none⟩) ml mc) := (hbk2.below hbr hbk2.lt).cell 3
            have HN : Hid (∀ e : (ms[j]'(by have := HML.out; omega)).n = (ms[j + 1]'(by have := HML.out; omega)).n, R = true) := hide (fun e => by
              rw [HR.out, (adjN_iff (ms.map Sg.n)).2 ⟨j, by have := HML.out; simp; omega, by simpa using e⟩]; simp)
            have HS : Hid ((ms[j]'(by have := HML.out; omega)).n ≠ (ms[j + 1]'(by have := HML.out; omega)).n → ∀ i (hi : i + 1 < (ms.map Sg.n).length), i + 1 < j + 1 + 1 → (ms.map Sg.n)[i] ≠ (ms.map Sg.n)[i + 1]) := hide (fun e i hi hlt' => by
              rcases Nat.lt_or_ge (i + 1) (j + 1) with h2 | h2
              · exact HA.out i hi h2
              · obtain rfl : i = j := by omega
                simpa using e)
            obtain ⟨a, ha⟩ : ∃ a, a = (ms[j]'(by have := HML.out; omega)).n := ⟨_, rfl⟩
            obtain ⟨b, hb⟩ : ∃ b, b = (ms[j + 1]'(by have := HML.out; omega)).n := ⟨_, rfl⟩
            rw [← hb] at q0
            rw [← ha] at q1
            rw [← ha, ← hb] at HN HS
            have h0 : decide (0 < (j : Int) + 1) = true := decide_eq_true (by omega)
            have h1 : IntKind.i64.wrap ((j : Int) + 1 - 1) = (j : Int) := by rw [IntKind.wrap_i64]; omega
            have h2 : (j : Int) < (ml : Int) := by omega
            have h3 : (j : Int) + 1 < (ml : Int) := by omega
            clear hcell hcell' ha hb
            by_cases e : a = b
            · subst e
              have HX := hide (HN.out rfl)
              go_wp2_with fail
              go_quiet (fail)
              go_wp2_with fail
              go_ret
              exact ⟨by rw [HX.out] <;> rfl, bdrewN hBr _⟩
            · have d : (a == b) = false := by simpa using e
              have HX := hide (HS.out e)
              go_wp2_with fail
              go_quiet (fail)
              go_wp2_with fail
              go_roundw
              case rel => exact ⟨j + 1 + 1, by omega, by go_num, bdrewN hbr _, HX.out⟩
              case measure => simp [intOf]; omega
        · have HG : Hid (R = false) := hide (by
            rw [HR.out, HF.out, adjN_false (fun i hi => HA.out i hi (by have := HML.out; simp at hi; omega))]; rfl)
          go_wp2_with fail
          go_ret
          exact ⟨by rw [HG.out] <;> rfl, hBr⟩
end Go.Proofs.Ytmhnfilingebfaa
