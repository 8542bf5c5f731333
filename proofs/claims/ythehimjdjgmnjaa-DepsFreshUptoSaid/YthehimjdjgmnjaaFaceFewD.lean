/- What the laws' 'Few' of a face tells, walked; no statement of the seat is proved here. -/
import Derived.Test.YthehimjdjgmnjaaFaceDataD
namespace Go.Proofs.Ythehimjdjgmnjaa
open Go.RowKit

def Vr.few (v : Vr) : Prop := v.n.length ≤ 60 ∧ v.t.n.length ≤ 60
def Sg.few (m : Sg) : Prop := m.n.length ≤ 60 ∧ m.r.n.length ≤ 60 ∧ m.k ≤ 10 ∧ ∀ p ∈ m.ps, p.n.length ≤ 60
def Fc.few (f : Fc) : Prop := f.fl ≤ 12 ∧ f.ml ≤ 12 ∧ f.n.length ≤ 60 ∧ f.su.length ≤ 60 ∧ (∀ v ∈ f.fs, v.few) ∧ ∀ m ∈ f.ms, m.few

/-- It answers yes or no, touches nothing that was there; where it says yes, p. -/
def Asks (w : World) (p : Prop) (e : Ending) (w' : World) : Prop := ∃ R : Bool, e = .returned (.bool R) ∧ Below w.heap.size w w' ∧ (R = true → p)

theorem all_step {α : Type} {p : α → Prop} {l : List α} {k : Nat} (h : ∀ i (hi : i < l.length), i < k → p l[i]) (hk : k < l.length) (h1 : p l[k]) : ∀ i (hi : i < l.length), i < k + 1 → p l[i] := by
  intro i hi hlt
  rcases Nat.lt_or_ge i k with h2 | h2
  · exact h i hi h2
  · obtain rfl : i = k := by omega
    exact h1
theorem all_done {α : Type} {p : α → Prop} {l : List α} {k : Nat} (h : ∀ i (hi : i < l.length), i < k → p l[i]) (hk : l.length ≤ k) : ∀ x ∈ l, p x := by
  intro x hx
  obtain ⟨i, hi, rfl⟩ := List.mem_iff_getElem.1 hx
  exact h i hi (by omega)

set_option maxRecDepth 100000 in
set_option maxHeartbeats 2000000 in
theorem few_any (f : Fc) (w : World) (h : f.at_ w (fun k => w.heap.size ≤ k)) : Calls Try.prog 15 #[f.val] w (Asks w f.few) := by
  obtain ⟨n, su, fA, fl, fc, fs, mA, ml, mc, ms⟩ := f
  obtain ⟨⟨hf, hfl, hfm, _⟩, ⟨hm, hml, hmm, hmok⟩, _, _⟩ := h
  simp only at hf hfl hfm hm hml hmm hmok
  have hM := hide hmok
  clear hmok
  have HFL := hide hfl
  have HML := hide hml
  clear hfl hml
  by_cases c1 : 12 < (fl : Int)
  · clear hf hm
    go_enter Try.func15, Try.ntmps15
    have d1 : decide (12 < (fl : Int)) = true := by simpa using c1
    go_wp2_with fail
    go_ret
    exact ⟨_, rfl, (Below.refl _ _).alloc (Nat.le_refl _) _, by simp⟩
  have d1 : decide (12 < (fl : Int)) = false := by simpa using c1
  by_cases c2 : 12 < (ml : Int)
  · clear hf hm
    go_enter Try.func15, Try.ntmps15
    have d2 : decide (12 < (ml : Int)) = true := by simpa using c2
    go_wp2_with fail
    go_ret
    exact ⟨_, rfl, (Below.refl _ _).alloc (Nat.le_refl _) _, by simp⟩
  have d2 : decide (12 < (ml : Int)) = false := by simpa using c2
  by_cases c3 : 60 < (n.length : Int)
  · clear hf hm
    go_enter Try.func15, Try.ntmps15
    have d3 : decide (60 < (n.length : Int)) = true := by simpa using c3
    go_wp2_with fail
    go_ret
    exact ⟨_, rfl, (Below.refl _ _).alloc (Nat.le_refl _) _, by simp⟩
  have d3 : decide (60 < (n.length : Int)) = false := by simpa using c3
  by_cases c4 : 60 < (su.length : Int)
  · clear hf hm
    go_enter Try.func15, Try.ntmps15
    have d4 : decide (60 < (su.length : Int)) = true := by simpa using c4
    go_wp2_with fail
    go_ret
    exact ⟨_, rfl, (Below.refl _ _).alloc (Nat.le_refl _) _, by simp⟩
  have d4 : decide (60 < (su.length : Int)) = false := by simpa using c4
  obtain ⟨wA, hwA⟩ : ∃ wA, wA = w.alloc (.cells #[S n, S su, .slice fA fl fc, .slice mA ml mc] 47) := ⟨_, rfl⟩
  have hB1 : Below w.heap.size w wA := by rw [hwA]; exact (Below.refl _ _).alloc (Nat.le_refl _) _
  have hbk : Blk wA w.heap.size 47 #[S n, S su, .slice fA fl fc, .slice mA ml mc] := by rw [hwA]; exact Blk.new _ _ _
  go_enter Try.func15, Try.ntmps15
  go_wp2_with fail
  rw [← hwA]
  clear hwA d1 d2 d3 d4
  go_loopw [34] (fun i wr => ∃ k : Nat, k ≤ fl ∧ i = .int .i64 k ∧ Below wA.heap.size wA wr ∧ (∀ i (hi : i < fs.length), i < k → fs[i].few)) (fun i _ => fl - (intOf i).toNat)
  case atStart => exact ⟨0, Nat.zero_le _, rfl, Below.refl _ _, by omega⟩
  case round =>
    obtain ⟨k, hk, rfl, hbr, hall⟩ := hrel
    have hB := hB1.trans (hbr.mono hB1.size)
    have HA := hide hall
    clear hall
    by_cases hlt : k < fl
    · obtain ⟨x, o, rfl, hx1, _, hcell⟩ := Rd.rec_ (size := 3) (fun _ => rfl) (hf.below hB) HFL.out k hlt
      have hlk : k < fs.length := by have := HFL.out; omega
      obtain ⟨v, hv⟩ : ∃ v, v = fs[k] := ⟨_, rfl⟩
      rw [← hv] at hcell
      have HV := hide hv
      clear hv
      obtain ⟨vn, vt, va⟩ := v
      have q0 : wr.cell? ⟨x, o + k * 3, none⟩ = some (S vn) := hcell 0 _ rfl
      have q1 : wr.cell? ⟨x, o + k * 3 + 1, none⟩ = some (S vt) := hcell 1 _ rfl
      have q2 : wr.cell? ⟨x, o + k * 3 + 2, none⟩ = some (.bool va) := hcell 2 _ rfl
      clear hcell
      by_cases e1 : 60 < (vn.length : Int)
      · have d1 : decide (60 < (vn.length : Int)) = true := by simpa using e1
        go_wp2_with fail
        go_ret
        exact ⟨_, rfl, hB.alloc hB.size _, by simp⟩
      have d1 : decide (60 < (vn.length : Int)) = false := by simpa using e1
      by_cases e2 : 60 < (vt.length : Int)
      · have d2 : decide (60 < (vt.length : Int)) = true := by simpa using e2
        go_wp2_with fail
        go_ret
        exact ⟨_, rfl, hB.alloc hB.size _, by simp⟩
      have d2 : decide (60 < (vt.length : Int)) = false := by simpa using e2
      go_wp2_with fail
      go_roundw
      case rel => exact ⟨k + 1, by omega, by go_num, hbr.alloc hbr.size _, all_step HA.out hlk (by rw [← HV.out]; exact ⟨by simp only; omega, by simp only; omega⟩)⟩
      case measure => simp [intOf]; omega
    · have HVS : Hid (∀ v ∈ fs, v.few) := hide (all_done HA.out (by have := HFL.out; omega))
      clear HA
      obtain ⟨wB, hwB⟩ : ∃ wB, wB = wr := ⟨_, rfl⟩
      have hbk2 := hbk.below hbr hbk.lt
      rw [← hwB]
      rw [← hwB] at hB hbk2
      clear hwB hbr hbk
      have g3 : wB.cell? ⟨w.heap.size, 3, none⟩ = some (.slice mA ml mc) := hbk2.cell 3
      go_wp2_with fail
      go_loopw [53] (fun i wr => ∃ k : Nat, k ≤ ml ∧ i = .int .i64 k ∧ Below wB.heap.size wB wr ∧ (∀ i (hi : i < ms.length), i < k → ms[i].few)) (fun i _ => ml - (intOf i).toNat)
      case atStart => exact ⟨0, Nat.zero_le _, rfl, Below.refl _ _, by omega⟩
      case round =>
        obtain ⟨k, hk, rfl, hbr, hall⟩ := hrel
        have hB2 := hB.trans (hbr.mono hB.size)
        have HA := hide hall
        clear hall
        by_cases hlt : k < ml
        · obtain ⟨x, o, rfl, hx1, _, hcell⟩ := Rd.rec_ (size := 5) (fun _ => rfl) (hm.below hB2) HML.out k hlt
          have hlk : k < ms.length := by have := HML.out; omega
          have hmr := (hM.out _ (List.getElem_mem hlk)).below hB2
          obtain ⟨m, hm'⟩ : ∃ m, m = ms[k] := ⟨_, rfl⟩
          rw [← hm'] at hcell hmr
          have HV := hide hm'
          clear hm'
          obtain ⟨sn, sst, sA, sk, sc, sps, srn, sra⟩ := m
          obtain ⟨hps, hpl, hpm, _⟩ := hmr
          simp only at hps hpl hpm
          have HPL := hide hpl
          clear hpl
          have q0 : wr.cell? ⟨x, o + k * 5, none⟩ = some (S sn) := hcell 0 _ rfl
          have q1 : wr.cell? ⟨x, o + k * 5 + 1, none⟩ = some (.bool sst) := hcell 1 _ rfl
          have q2 : wr.cell? ⟨x, o + k * 5 + 2, none⟩ = some (.slice sA sk sc) := hcell 2 _ rfl
          have q3 : wr.cell? ⟨x, o + k * 5 + 3, none⟩ = some (S srn) := hcell 3 _ rfl
          have q4 : wr.cell? ⟨x, o + k * 5 + 4, none⟩ = some (.bool sra) := hcell 4 _ rfl
          clear hcell
          by_cases e1 : 60 < (sn.length : Int)
          · have d1 : decide (60 < (sn.length : Int)) = true := by simpa using e1
            clear hps
            go_wp2_with fail
            go_ret
            exact ⟨_, rfl, hB2.alloc hB2.size _, by simp⟩
          have d1 : decide (60 < (sn.length : Int)) = false := by simpa using e1
          by_cases e2 : 60 < (srn.length : Int)
          · have d2 : decide (60 < (srn.length : Int)) = true := by simpa using e2
            clear hps
            go_wp2_with fail
            go_ret
            exact ⟨_, rfl, hB2.alloc hB2.size _, by simp⟩
          have d2 : decide (60 < (srn.length : Int)) = false := by simpa using e2
          by_cases e3 : 10 < (sk : Int)
          · have d3 : decide (10 < (sk : Int)) = true := by simpa using e3
            clear hps
            go_wp2_with fail
            go_ret
            exact ⟨_, rfl, hB2.alloc hB2.size _, by simp⟩
          have d3 : decide (10 < (sk : Int)) = false := by simpa using e3
          obtain ⟨wC, hwC⟩ : ∃ wC, wC = wr.alloc (.cells #[S sn, .bool sst, .slice sA sk sc, S srn, .bool sra] 93) := ⟨_, rfl⟩
          have hbC : Below wB.heap.size wB wC := by rw [hwC]; exact hbr.alloc hbr.size _
          have hB3 := hB.trans (hbC.mono hB.size)
          have hps' := hps.below (by rw [hwC]; exact (Below.refl _ _).alloc hB2.size _ : Below w.heap.size wr wC)
          clear hps
          go_wp2_with fail
          rw [← hwC]
          clear hwC d1 d2 d3 q0 q1 q2 q3 q4
          go_loopw [77] (fun i wr => ∃ k : Nat, k ≤ sk ∧ i = .int .i64 k ∧ Below wC.heap.size wC wr ∧ (∀ i (hi : i < sps.length), i < k → sps[i].n.length ≤ 60)) (fun i _ => sk - (intOf i).toNat)
          case atStart => exact ⟨0, Nat.zero_le _, rfl, Below.refl _ _, by omega⟩
          case round =>
            obtain ⟨j, hj, rfl, hbp, hall⟩ := hrel
            have hB4 := hB3.trans (hbp.mono hB3.size)
            have HP := hide hall
            clear hall
            by_cases hlt : j < sk
            · obtain ⟨x, o, rfl, hx1, _, hcell⟩ := Rd.rec_ (size := 2) (fun _ => rfl) (hps'.below (hbp.mono hB3.size)) HPL.out j hlt
              have hlj : j < sps.length := by have := HPL.out; omega
              obtain ⟨p, hp⟩ : ∃ p, p = sps[j] := ⟨_, rfl⟩
              rw [← hp] at hcell
              have HQ := hide hp
              clear hp
              obtain ⟨pn, pa⟩ := p
              have q0 : wr.cell? ⟨x, o + j * 2, none⟩ = some (S pn) := hcell 0 _ rfl
              have q1 : wr.cell? ⟨x, o + j * 2 + 1, none⟩ = some (.bool pa) := hcell 1 _ rfl
              clear hcell
              by_cases e4 : 60 < (pn.length : Int)
              · have d4 : decide (60 < (pn.length : Int)) = true := by simpa using e4
                go_wp2_with fail
                go_ret
                exact ⟨_, rfl, hB4.alloc hB4.size _, by simp⟩
              have d4 : decide (60 < (pn.length : Int)) = false := by simpa using e4
              go_wp2_with fail
              go_roundw
              case rel => exact ⟨j + 1, by omega, by go_num, hbp.alloc hbp.size _, all_step (p := fun q : Ty => q.n.length ≤ 60) HP.out hlj (by rw [← HQ.out]; simp only; omega)⟩
              case measure => simp [intOf]; omega
            · have HPS : Hid (∀ p ∈ sps, p.n.length ≤ 60) := hide (all_done HP.out (by have := HPL.out; omega))
              clear HP
              go_wp2_with fail
              go_roundw
              case rel => exact ⟨k + 1, by omega, by go_num, hbC.trans (hbp.mono hbC.size), all_step HA.out hlk (by rw [← HV.out]; exact ⟨by simp only; omega, by simp only; omega, by simp only; omega, HPS.out⟩)⟩
              case measure => simp [intOf]; omega
        · have HMS : Hid (∀ m ∈ ms, m.few) := hide (all_done HA.out (by have := HML.out; omega))
          clear HA
          go_wp2_with fail
          go_ret
          exact ⟨_, rfl, hB2, fun _ => ⟨by simp only; omega, by simp only; omega, by simp only; omega, by simp only; omega, HVS.out, HMS.out⟩⟩
end Go.Proofs.Ythehimjdjgmnjaa
