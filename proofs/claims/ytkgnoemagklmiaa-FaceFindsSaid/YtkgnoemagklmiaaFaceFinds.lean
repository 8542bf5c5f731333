/- FaceFinds returns true for whatever face and name: the walk; no statement of the seat is proved here. -/
import Derived.Test.YtkgnoemagklmiaaRight7
import Derived.Test.YtkgnoemagklmiaaFaceHead
import Derived.Test.YtkgnoemagklmiaaFaceFieldC
import Derived.Test.YtkgnoemagklmiaaOpenTyC
namespace Go.Proofs.Ytkgnoemagklmiaa
open Go.RowKit

section
variable {α : Type} {key : α → List UInt8}
def Inc (key : α → List UInt8) (l : List α) : Prop := l.Pairwise (fun a b => key a < key b)
theorem inc_inj {l : List α} (h : Inc key l) : ∀ a ∈ l, ∀ b ∈ l, key a = key b → a = b := by
  induction l with
  | nil => intro a ha; cases ha
  | cons x l ih =>
    obtain ⟨h1, h2⟩ := List.pairwise_cons.1 h
    intro a ha b hb e
    rcases List.mem_cons.1 ha with e1 | ha1 <;> rcases List.mem_cons.1 hb with e2 | hb1
    · rw [e1, e2]
    · exact absurd (h1 b hb1) (by rw [← e1, e]; exact List.lt_irrefl _)
    · exact absurd (h1 a ha1) (by rw [← e2, e]; exact List.lt_irrefl _)
    · exact ih h2 a ha1 b hb1 e
theorem inc_find {l : List α} (h : Inc key l) {x : α} (hx : x ∈ l) : l.find? (fun v => key v == key x) = some x := by
  cases hf : l.find? (fun v => key v == key x) with
  | none =>
    have := List.find?_eq_none.1 hf x hx
    simp at this
  | some y =>
    have h1 := List.find?_some hf
    have h2 := List.mem_of_find?_eq_some hf
    rw [inc_inj h y h2 x hx (by simpa using h1)]
theorem inc_count {l : List α} (h : Inc key l) (name : List UInt8) : (l.countP (fun v => key v == name) = 0 ∧ (l.find? (fun v => key v == name)).isSome = false) ∨ (l.countP (fun v => key v == name) = 1 ∧ (l.find? (fun v => key v == name)).isSome = true) := by
  induction l with
  | nil => exact .inl ⟨rfl, rfl⟩
  | cons x l ih =>
    obtain ⟨h1, h2⟩ := List.pairwise_cons.1 h
    by_cases e : key x = name
    · refine .inr ⟨?_, ?_⟩
      · rw [List.countP_cons_of_pos (by simpa using e)]
        have : l.countP (fun v => key v == name) = 0 := List.countP_eq_zero.2 (fun v hv => by
          have := h1 v hv
          rw [e] at this
          simp only [beq_iff_eq]
          intro e2
          rw [e2] at this
          exact List.lt_irrefl _ this)
        rw [this]
      · rw [List.find?_cons_of_pos (by simpa using e)]; rfl
    · rw [List.countP_cons_of_neg (by simpa using e), List.find?_cons_of_neg (by simpa using e)]
      exact ih h2
end
theorem lt_of_leq {a b : List UInt8} (h : leqB a b = false) : b < a := by
  rw [ge_leq, bytesLess_eq] at h
  simpa using h
theorem riseV_inc : ∀ (l : List Vr) (last : List UInt8), riseV last l = true → (∀ v ∈ l, last < v.n) ∧ Inc Vr.n l
  | [], _, _ => ⟨fun v hv => (by cases hv), List.Pairwise.nil⟩
  | x :: l, last, h => by
    simp only [riseV, Bool.and_eq_true, Bool.not_eq_true'] at h
    obtain ⟨⟨⟨h1, _⟩, _⟩, h4⟩ := h
    obtain ⟨i1, i2⟩ := riseV_inc l x.n h4
    have hx := lt_of_leq h1
    exact ⟨fun v hv => by
      rcases List.mem_cons.1 hv with rfl | hv
      · exact hx
      · exact List.lt_trans hx (i1 v hv), List.pairwise_cons.2 ⟨i1, i2⟩⟩
theorem riseM_inc : ∀ (l : List Sg) (last : List UInt8), riseM last l = true → (∀ v ∈ l, last < v.n) ∧ Inc Sg.n l
  | [], _, _ => ⟨fun v hv => (by cases hv), List.Pairwise.nil⟩
  | x :: l, last, h => by
    simp only [riseM, Bool.and_eq_true, Bool.not_eq_true'] at h
    obtain ⟨⟨⟨h1, _⟩, _⟩, h4⟩ := h
    obtain ⟨i1, i2⟩ := riseM_inc l x.n h4
    have hx := lt_of_leq h1
    exact ⟨fun v hv => by
      rcases List.mem_cons.1 hv with rfl | hv
      · exact hx
      · exact List.lt_trans hx (i1 v hv), List.pairwise_cons.2 ⟨i1, i2⟩⟩
theorem cnt_step {α : Type} {q : α → Bool} {l : List α} {k : Nat} (hk : k < l.length) : (l.take (k + 1)).countP q = (l.take k).countP q + (if q l[k] then 1 else 0) := by
  rw [List.take_succ_eq_append_getElem hk, List.countP_append]
  simp [List.countP_cons]

set_option maxRecDepth 100000 in
set_option maxHeartbeats 16000000 in
theorem ffinds_walk (f : Fc) (name : List UInt8) (w : World) (hnm : name.length ≤ 9223372036854775807) (h : f.at_ w (fun k => w.heap.size ≤ k)) : Calls Try.prog 5 #[f.val, S name] w (Gives w (.bool true)) := by
  obtain ⟨wA, hwA⟩ : ∃ wA, wA = w.alloc (.cells #[S f.n, S f.su, .slice f.fA f.fl f.fc, .slice f.mA f.ml f.mc] 25) := ⟨_, rfl⟩
  have hbA : Below w.heap.size w wA := by rw [hwA]; exact (Below.refl _ _).alloc (Nat.le_refl _) _
  have hbk : Blk wA w.heap.size 25 #[S f.n, S f.su, .slice f.fA f.fl f.fc, .slice f.mA f.ml f.mc] := by rw [hwA]; exact Blk.new _ _ _
  have HBA := hide hbA
  have HK : Hid (∀ w', Below wA.heap.size wA w' → Blk w' w.heap.size 25 #[S f.n, S f.su, .slice f.fA f.fl f.fc, .slice f.mA f.ml f.mc]) := hide (fun w' hb => hbk.below hb hbk.lt)
  have HA : Hid (∀ w', Below wA.heap.size wA w' → f.at_ w' (fun k => wA.heap.size ≤ k)) := hide (fun w' hb => (h.below (hbA.trans (hb.mono hbA.size))).weak (fun _ hk => Nat.le_trans hbA.size hk))
  have HA2 : Hid (∀ w', Below wA.heap.size wA w' → f.at_ w' (fun k => w'.heap.size ≤ k)) := hide (fun w' hb => (HA.out w' hb).weak (fun _ hk => Nat.le_trans hb.size hk))
  have HF1 : Hid (∀ w', Below wA.heap.size wA w' → Calls Try.prog 9 #[f.val] w' (Asks w' f.few)) := hide (fun w' hb => few_any f w' (HA2.out w' hb))
  have HH := hide (fhead_any wA)
  have HC2 : Hid (∀ w', Below wA.heap.size wA w' → Calls Try.prog 16 #[f.val] w' (Gives w' (.bool f.right))) := hide (fun w' hb => right7_any f w' (HA2.out w' hb))
  have HFD : Hid (∀ w' nm, Below wA.heap.size wA w' → Calls Try.prog 17 #[f.val, S nm] w' (fun e w'' => e = .returned (.tuple #[.agg #[S (((fieldOf f nm).map Vr.t).getD zeroTy).n, .bool (((fieldOf f nm).map Vr.t).getD zeroTy).a], .bool (fieldOf f nm).isSome]) ∧ Below w'.heap.size w' w'')) := hide (fun w' nm hb => facefield_any f nm w' (HA2.out w' hb))
  have HMD : Hid (∀ w' nm, Below wA.heap.size wA w' → Calls Try.prog 18 #[f.val, S nm] w' (fun e w'' => e = .returned (.tuple #[((methOf f nm).getD zeroSg).val, .bool (methOf f nm).isSome]) ∧ Below w'.heap.size w' w'')) := hide (fun w' nm hb => facemethod_any f nm w' (HA2.out w' hb))
  have HRI : f.right = true → Inc Vr.n f.fs ∧ Inc Sg.n f.ms := fun hr => by
    simp only [Fc.right, Bool.and_eq_true] at hr
    exact ⟨(riseV_inc _ _ hr.1.2).2, (riseM_inc _ _ hr.2).2⟩
  have HRI := hide HRI
  have HFW := hide h.1.2.1
  have HMW := hide h.2.1.2.1
  have HHA := hide h
  obtain ⟨b60, d60⟩ : ∃ b, decide (60 < (name.length : Int)) = b := ⟨_, rfl⟩
  clear hbA hbk h
  obtain ⟨n, su, fA, fl, fc, fs, mA, ml, mc, ms⟩ : Fc := f
  simp only [Fc.val] at HF1 HC2 HFD HMD HK hwA HFW HMW HRI ⊢
  go_enter Try.func5, Try.ntmps5
  go_upto_region 1 with fail
  rw [← hwA]
  clear hwA
  go_upto_region 3 with (go_at_call 8; refine HH.out.mono ?_; rintro e w1 ⟨rfl, hb1⟩)
  have HB1 := hide hb1
  clear hb1 HH
  have k0 := (HK.out w1 HB1.out).cell 0
  have k1 := (HK.out w1 HB1.out).cell 1
  have k2 := (HK.out w1 HB1.out).cell 2
  have k3 := (HK.out w1 HB1.out).cell 3
  simp at k0 k1 k2 k3
  go_wp2_with fail
  refine (HF1.out w1 HB1.out).mono ?_
  rintro e w2 ⟨R1, rfl, hb2, hr1⟩
  clear k0 k1 k2 k3
  have HB2 : Hid (Below wA.heap.size wA w2) := hide (HB1.out.trans (hb2.mono HB1.out.size))
  clear hb2 HB1 HF1
  cases R1 with
  | false =>
    clear hr1
    go_wp2_with fail
    go_ret
    exact ⟨rfl, HBA.out.trans (HB2.out.mono HBA.out.size)⟩
  | true =>
  have HFEW := hide (hr1 rfl)
  clear hr1
  have k0 := (HK.out w2 HB2.out).cell 0
  have k1 := (HK.out w2 HB2.out).cell 1
  have k2 := (HK.out w2 HB2.out).cell 2
  have k3 := (HK.out w2 HB2.out).cell 3
  simp at k0 k1 k2 k3
  obtain ⟨R, hR⟩ : ∃ R, R = Fc.right ⟨n, su, fA, fl, fc, fs, mA, ml, mc, ms⟩ := ⟨_, rfl⟩
  rw [← hR] at HC2 HRI
  clear hR
  go_wp2_with fail
  refine (HC2.out w2 HB2.out).mono ?_
  rintro e w3 ⟨rfl, hb3⟩
  clear k0 k1 k2 k3
  have HB3 : Hid (Below wA.heap.size wA w3) := hide (HB2.out.trans (hb3.mono HB2.out.size))
  clear hb3 HB2 HC2
  cases R with
  | false =>
    go_wp2_with fail
    go_ret
    exact ⟨rfl, HBA.out.trans (HB3.out.mono HBA.out.size)⟩
  | true =>
  cases b60 with
  | true =>
    go_wp2_with fail
    go_ret
    exact ⟨rfl, HBA.out.trans (HB3.out.mono HBA.out.size)⟩
  | false =>
  have HI1 := hide (HRI.out rfl).1
  have HI2 := hide (HRI.out rfl).2
  clear HRI
  have hfl12 : fl ≤ 12 := HFEW.out.1
  have hml12 : ml ≤ 12 := HFEW.out.2.1
  have k2 := (HK.out w3 HB3.out).cell 2
  simp at k2
  go_wp2_with fail
  clear k2 d60
  go_loopw [37, 5] (fun i v wr => ∃ k : Nat, k ≤ fl ∧ i = .int .i64 k ∧ v = .int .i64 ((((fs.take k).countP (fun v => Vr.n v == name)) : Nat) : Int) ∧ Hid (Below w3.heap.size w3 wr)) (fun i _ _ => fl - (intOf i).toNat)
  case atStart => exact ⟨0, Nat.zero_le _, rfl, rfl, hide (Below.refl _ _)⟩
  case round =>
    obtain ⟨k, hk, rfl, rfl, HBR⟩ := hrel
    have HWR : Hid (Below wA.heap.size wA wr) := hide (HB3.out.trans (HBR.out.mono HB3.out.size))
    by_cases hlt : k < fl
    · obtain ⟨x, o, hA, _, hxl, hcell⟩ := Rd.rec_ (size := 3) (fun _ => rfl) (HA.out wr HWR.out).1.1 HFW.out k hlt
      simp only at hA
      subst hA
      have hlk : k < fs.length := by have := HFW.out; omega
      have HCT := hide (cnt_step (q := fun v => Vr.n v == name) hlk)
      have HCL : Hid ((fs.take k).countP (fun v => Vr.n v == name) ≤ k) := hide (Nat.le_trans List.countP_le_length (by rw [List.length_take]; omega))
      have HFI := hide (inc_find HI1.out (List.getElem_mem hlk))
      generalize fs[k] = v at hcell HCT HFI
      generalize (fs.take k).countP (fun v => Vr.n v == name) = c0 at HCT HCL ⊢
      obtain ⟨vn, vt, va⟩ := v
      have q0 : wr.cell? ⟨x, o + k * 3, none⟩ = some (S vn) := hcell 0 _ rfl
      have q1 : wr.cell? ⟨x, o + k * 3 + 1, none⟩ = some (S vt) := hcell 1 _ rfl
      have q2 : wr.cell? ⟨x, o + k * 3 + 2, none⟩ = some (.bool va) := hcell 2 _ rfl
      have hki : (k : Int) < (fl : Int) := by omega
      have hc0 : c0 ≤ 12 := by have := HCL.out; omega
      clear hcell
      go_upto_region 9 with fail
      refine name_world ?_
      intro wC hwC
      have HBC : Hid (Below wr.heap.size wr wC) := hide (by rw [hwC]; exact (Below.refl _ _).alloc (Nat.le_refl _) _)
      have HWC : Hid (Below wA.heap.size wA wC) := hide (HWR.out.trans (HBC.out.mono HWR.out.size))
      have HVC : Hid (Blk wC wr.heap.size 45 #[S vn, S vt, .bool va]) := hide (by rw [hwC]; exact Blk.new _ _ _)
      clear hwC q0 q1 q2
      obtain ⟨pv, hpv⟩ : ∃ p, p = wr.heap.size := ⟨_, rfl⟩
      rw [← hpv] at HVC ⊢
      clear hpv
      have HCALL := hide (HFD.out wC vn HWC.out)
      have hfo : fieldOf ⟨n, su, some ⟨x, o, none⟩, fl, fc, fs, mA, ml, mc, ms⟩ vn = some ⟨vn, vt, va⟩ := HFI.out
      rw [hfo] at HCALL
      simp only [Option.map_some, Option.getD_some, Option.isSome_some] at HCALL
      clear hfo HFI
      have p0 := HVC.out.cell 0
      simp at p0
      have k0 := (HK.out wC HWC.out).cell 0
      have k1 := (HK.out wC HWC.out).cell 1
      have k2 := (HK.out wC HWC.out).cell 2
      have k3 := (HK.out wC HWC.out).cell 3
      simp at k0 k1 k2 k3
      go_upto_region 10 with (go_at_call 17; refine HCALL.out.mono ?_; rintro e wD ⟨rfl, hbd⟩)
      clear k0 k1 k2 k3 p0 HCALL
      refine name_world ?_
      intro wE hwE
      have HBD : Hid (Below wC.heap.size wC wD) := hide hbd
      have HBE : Hid (Below wC.heap.size wC wE) := hide (by rw [hwE]; exact HBD.out.alloc HBD.out.size _)
      have HTE : Hid (Blk wE wD.heap.size 43 #[S vt, .bool va]) := hide (by rw [hwE]; exact Blk.new _ _ _)
      have HVE := hide (HVC.out.below HBE.out HVC.out.lt)
      have HBX : Hid (Below w3.heap.size w3 wE) := hide (HBR.out.trans ((HBC.out.trans (HBE.out.mono HBC.out.size)).mono HBR.out.size))
      clear hwE hbd HBD HBE HVC HBC HWC
      have t0 := HTE.out.cell 0
      have t1 := HTE.out.cell 1
      have v0 := HVE.out.cell 0
      have v1 := HVE.out.cell 1
      have v2 := HVE.out.cell 2
      simp at t0 t1 v0 v1 v2
      by_cases en : vn = name
      · subst en
        have hc : Hid ((fs.take (k + 1)).countP (fun v => Vr.n v == vn) = c0 + 1) := hide (by rw [HCT.out]; simp)
        clear HCT
        go_wp2_with fail
        go_roundw
        case rel => exact ⟨k + 1, by omega, by go_num, by rw [hc.out]; go_num, HBX⟩
        case measure => simp [intOf]; omega
      · have d1 : (vn == name) = false := by simpa using en
        have hc : Hid ((fs.take (k + 1)).countP (fun v => Vr.n v == name) = c0) := hide (by rw [HCT.out]; simp [d1])
        clear HCT
        go_wp2_with fail
        go_roundw
        case rel => exact ⟨k + 1, by omega, by go_num, by rw [hc.out], HBX⟩
        case measure => simp [intOf]; omega
    · have HKF : Hid ((fs.take k).countP (fun v => Vr.n v == name) = fs.countP (fun v => Vr.n v == name)) := hide (by rw [List.take_of_length_le (by have := HFW.out; omega)])
      rw [HKF.out]
      obtain ⟨wL, rfl⟩ : ∃ wL : World, wL = wr := ⟨_, rfl⟩
      have HBL := HWR
      clear HBR HWR
      have k3 := (HK.out wL HBL.out).cell 3
      simp at k3
      go_wp2_with fail
      clear k3
      go_loopw [66, 10] (fun i v wr => ∃ k : Nat, k ≤ ml ∧ i = .int .i64 k ∧ v = .int .i64 ((((ms.take k).countP (fun v => Sg.n v == name)) : Nat) : Int) ∧ Hid (Below wL.heap.size wL wr)) (fun i _ _ => ml - (intOf i).toNat)
      case atStart => exact ⟨0, Nat.zero_le _, rfl, rfl, hide (Below.refl _ _)⟩
      case round =>
        obtain ⟨k, hk, rfl, rfl, HBR⟩ := hrel
        have HWR : Hid (Below wA.heap.size wA wr) := hide (HBL.out.trans (HBR.out.mono HBL.out.size))
        by_cases hlt : k < ml
        · obtain ⟨x, o, hA, _, hxl, hcell⟩ := Rd.rec_ (size := 5) (fun _ => rfl) (HA.out wr HWR.out).2.1.1 HMW.out k hlt
          simp only at hA
          subst hA
          have hlk : k < ms.length := by have := HMW.out; omega
          have HCT := hide (cnt_step (q := fun v => Sg.n v == name) hlk)
          have HCL : Hid ((ms.take k).countP (fun v => Sg.n v == name) ≤ k) := hide (Nat.le_trans List.countP_le_length (by rw [List.length_take]; omega))
          have HFI := hide (inc_find HI2.out (List.getElem_mem hlk))
          have HMM := hide (((HA.out wr HWR.out).2.1.2.2.2 _ (List.getElem_mem hlk)))
          generalize ms[k] = v at hcell HCT HFI HMM
          generalize (ms.take k).countP (fun v => Sg.n v == name) = c0 at HCT HCL ⊢
          obtain ⟨vn, vs, vA, vk, vq, vp, vr, va⟩ := v
          have q0 : wr.cell? ⟨x, o + k * 5, none⟩ = some (S vn) := hcell 0 _ rfl
          have q1 : wr.cell? ⟨x, o + k * 5 + 1, none⟩ = some (.bool vs) := hcell 1 _ rfl
          have q2 : wr.cell? ⟨x, o + k * 5 + 2, none⟩ = some (.slice vA vk vq) := hcell 2 _ rfl
          have q3 : wr.cell? ⟨x, o + k * 5 + 3, none⟩ = some (S vr) := hcell 3 _ rfl
          have q4 : wr.cell? ⟨x, o + k * 5 + 4, none⟩ = some (.bool va) := hcell 4 _ rfl
          have hki : (k : Int) < (ml : Int) := by omega
          have hc0 : c0 ≤ 12 := by have := HCL.out; omega
          clear hcell
          go_upto_region 19 with fail
          refine name_world ?_
          intro wC hwC
          have HBC : Hid (Below wr.heap.size wr wC) := hide (by rw [hwC]; exact (Below.refl _ _).alloc (Nat.le_refl _) _)
          have HWC : Hid (Below wA.heap.size wA wC) := hide (HWR.out.trans (HBC.out.mono HWR.out.size))
          have HVC : Hid (Blk wC wr.heap.size 58 #[S vn, .bool vs, .slice vA vk vq, S vr, .bool va]) := hide (by rw [hwC]; exact Blk.new _ _ _)
          clear hwC q0 q1 q2 q3 q4
          obtain ⟨pv, hpv⟩ : ∃ p, p = wr.heap.size := ⟨_, rfl⟩
          rw [← hpv] at HVC ⊢
          clear hpv
          have HCALL := hide (HMD.out wC vn HWC.out)
          have hfo : methOf ⟨n, su, fA, fl, fc, fs, some ⟨x, o, none⟩, ml, mc, ms⟩ vn = some ⟨vn, vs, vA, vk, vq, vp, vr, va⟩ := HFI.out
          rw [hfo] at HCALL
          simp only [Option.getD_some, Option.isSome_some, Sg.val] at HCALL
          clear hfo HFI
          have p0 := HVC.out.cell 0
          simp at p0
          have k0 := (HK.out wC HWC.out).cell 0
          have k1 := (HK.out wC HWC.out).cell 1
          have k2 := (HK.out wC HWC.out).cell 2
          have k3 := (HK.out wC HWC.out).cell 3
          simp at k0 k1 k2 k3
          go_upto_region 20 with (go_at_call 18; refine HCALL.out.mono ?_; rintro e wD ⟨rfl, hbd⟩)
          clear k0 k1 k2 k3 p0 HCALL
          refine name_world ?_
          intro wE hwE
          have HBD : Hid (Below wC.heap.size wC wD) := hide hbd
          have HBE : Hid (Below wC.heap.size wC wE) := hide (by rw [hwE]; exact HBD.out.alloc HBD.out.size _)
          have HTE : Hid (Blk wE wD.heap.size 58 #[S vn, .bool vs, .slice vA vk vq, S vr, .bool va]) := hide (by rw [hwE]; exact Blk.new _ _ _)
          have HVE := hide (HVC.out.below HBE.out HVC.out.lt)
          have HRX : Hid (Below wr.heap.size wr wE) := hide (HBC.out.trans (HBE.out.mono HBC.out.size))
          have HBX : Hid (Below wL.heap.size wL wE) := hide (HBR.out.trans (HRX.out.mono HBR.out.size))
          clear hwE hbd HBD HBE HVC HBC HWC
          have HSM := hide (sigsame_any ⟨vn, vs, vA, vk, vq, vp, vr, va⟩ ⟨vn, vs, vA, vk, vq, vp, vr, va⟩ wE ((HMM.out.below (HRX.out.mono HWR.out.size)).weak (fun k hk => Nat.le_trans (Nat.le_trans HWR.out.size HRX.out.size) hk)) ((HMM.out.below (HRX.out.mono HWR.out.size)).weak (fun k hk => Nat.le_trans (Nat.le_trans HWR.out.size HRX.out.size) hk)))
          rw [decide_eq_true rfl] at HSM
          simp only [Sg.val] at HSM
          have t0 := HTE.out.cell 0
          have t1 := HTE.out.cell 1
          have t2 := HTE.out.cell 2
          have t3 := HTE.out.cell 3
          have t4 := HTE.out.cell 4
          have v0 := HVE.out.cell 0
          have v1 := HVE.out.cell 1
          have v2 := HVE.out.cell 2
          have v3 := HVE.out.cell 3
          have v4 := HVE.out.cell 4
          simp at t0 t1 t2 t3 t4 v0 v1 v2 v3 v4
          go_wp2_with fail
          refine HSM.out.mono ?_
          rintro e wG ⟨rfl, hbg⟩
          clear t0 t1 t2 t3 t4 v0 v1 v2 v3 v4 HSM
          have HBG : Hid (Below wL.heap.size wL wG) := hide (HBX.out.trans (hbg.mono HBX.out.size))
          have HVG := hide (HVE.out.below hbg HVE.out.lt)
          clear hbg
          have v0 := HVG.out.cell 0
          simp at v0
          by_cases en : vn = name
          · subst en
            have hc : Hid ((ms.take (k + 1)).countP (fun v => Sg.n v == vn) = c0 + 1) := hide (by rw [HCT.out]; simp)
            clear HCT
            go_wp2_with fail
            go_roundw
            case rel => exact ⟨k + 1, by omega, by go_num, by rw [hc.out]; go_num, HBG⟩
            case measure => simp [intOf]; omega
          · have d1 : (vn == name) = false := by simpa using en
            have hc : Hid ((ms.take (k + 1)).countP (fun v => Sg.n v == name) = c0) := hide (by rw [HCT.out]; simp [d1])
            clear HCT
            go_wp2_with fail
            go_roundw
            case rel => exact ⟨k + 1, by omega, by go_num, by rw [hc.out], HBG⟩
            case measure => simp [intOf]; omega
        · have HKM : Hid ((ms.take k).countP (fun v => Sg.n v == name) = ms.countP (fun v => Sg.n v == name)) := hide (by rw [List.take_of_length_le (by have := HMW.out; omega)])
          rw [HKM.out]
          have HX1 := hide (inc_count HI1.out name)
          have HX2 := hide (inc_count HI2.out name)
          have HCA := hide (HFD.out wr name HWR.out)
          have hf1 : (fieldOf ⟨n, su, fA, fl, fc, fs, mA, ml, mc, ms⟩ name).isSome = (fs.find? (fun v => Vr.n v == name)).isSome := rfl
          have hf2 : (methOf ⟨n, su, fA, fl, fc, fs, mA, ml, mc, ms⟩ name).isSome = (ms.find? (fun v => Sg.n v == name)).isSome := rfl
          have HMD2 : Hid (∀ w', Below wA.heap.size wA w' → _) := hide (fun w' hb => HMD.out w' name hb)
          rw [hf1] at HCA
          rw [hf2] at HMD2
          clear hf1 hf2 HKF HKM
          generalize (fs.find? (fun v => Vr.n v == name)).isSome = B1 at HX1 HCA
          generalize (ms.find? (fun v => Sg.n v == name)).isSome = B2 at HX2 HMD2
          generalize fs.countP (fun v => Vr.n v == name) = n1 at HX1 ⊢
          generalize ms.countP (fun v => Sg.n v == name) = n2 at HX2 ⊢
          generalize ((fieldOf ⟨n, su, fA, fl, fc, fs, mA, ml, mc, ms⟩ name).map Vr.t).getD zeroTy = ty at HCA
          generalize (methOf ⟨n, su, fA, fl, fc, fs, mA, ml, mc, ms⟩ name).getD zeroSg = sg at HMD2
          obtain ⟨sn, ss, sA, sk, sc, sp, sr, sa⟩ := sg
          simp only [Sg.val] at HMD2
          rcases HX1.out with ⟨rfl, rfl⟩ | ⟨rfl, rfl⟩ <;> rcases HX2.out with ⟨rfl, rfl⟩ | ⟨rfl, rfl⟩
          all_goals
            have k0 := (HK.out wr HWR.out).cell 0
            have k1 := (HK.out wr HWR.out).cell 1
            have k2 := (HK.out wr HWR.out).cell 2
            have k3 := (HK.out wr HWR.out).cell 3
            simp at k0 k1 k2 k3
            go_upto_region 26 with (go_at_call 17; refine HCA.out.mono ?_; rintro e wD ⟨rfl, hbd⟩)
            clear k0 k1 k2 k3
            refine name_world ?_
            intro wE hwE
            have HBD : Hid (Below wA.heap.size wA wD) := hide (HWR.out.trans (hbd.mono HWR.out.size))
            have HBE : Hid (Below wA.heap.size wA wE) := hide (by rw [hwE]; exact HBD.out.alloc HBD.out.size _)
            clear hwE hbd HBD
            have k0 := (HK.out wE HBE.out).cell 0
            have k1 := (HK.out wE HBE.out).cell 1
            have k2 := (HK.out wE HBE.out).cell 2
            have k3 := (HK.out wE HBE.out).cell 3
            simp at k0 k1 k2 k3
            go_wp2_with (go_at_call 18; refine (HMD2.out _ HBE.out).mono ?_; rintro e wF ⟨rfl, hbf⟩)
            have HBF : Hid (Below wA.heap.size wA wF) := hide (HBE.out.trans (hbf.mono HBE.out.size))
            go_ret
            first
              | exact ⟨rfl, HBA.out.trans ((HBF.out.alloc HBF.out.size _).mono HBA.out.size)⟩
              | exact ⟨rfl, HBA.out.trans (HBF.out.mono HBA.out.size)⟩
end Go.Proofs.Ytkgnoemagklmiaa
