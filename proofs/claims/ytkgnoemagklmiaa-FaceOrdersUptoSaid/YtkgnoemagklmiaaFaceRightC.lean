/- Whether a face is right, walked; no statement of the seat is proved here. -/
import Derived.Test.YtkgnoemagklmiaaIdxTyC
import Derived.Test.YtkgnoemagklmiaaAstTypesC
import Derived.Deep.DeepCutAuto
import Derived.WalkLawsBesides
namespace Go.Proofs.Ytkgnoemagklmiaa
open Go.RowKit

theorem ba_toList (l : List UInt8) : (ByteArray.mk l.toArray).toList = l := Lib.toList_data _
attribute [go_sem] ba_toList

/-- Is a name at most another one? -/
def leqB (a b : List UInt8) : Bool := Op.bytesLess a b || a == b
/-- The fields' names rise from one on, and each field is right. -/
def riseV : List UInt8 → List Vr → Bool
  | _, [] => true
  | last, v :: r => !leqB v.n last && decide (v.n.length ≤ 40) && v.t.good && riseV v.n r
def Sg.good (m : Sg) : Bool := m.r.good && decide (m.k ≤ 200) && !(m.ps.any fun t => !t.good)
def riseM : List UInt8 → List Sg → Bool
  | _, [] => true
  | last, m :: r => !leqB m.n last && decide (m.n.length ≤ 40) && m.good && riseM m.n r
def Fc.headOk (f : Fc) : Bool := great f.n && (f.su == [] || great f.su) && decide (f.fl ≤ 200) && decide (f.ml ≤ 200) && decide (f.n.length ≤ 40) && decide (f.su.length ≤ 40)
def Fc.right (f : Fc) : Bool := f.headOk && riseV [] f.fs && riseM [] f.ms

theorem dec_le (n b : Nat) : decide (n ≤ b) = !decide ((b : Int) < (n : Int)) := by
  by_cases h : n ≤ b
  · have : ¬ (b : Int) < (n : Int) := by omega
    simp [h, this]
  · have : (b : Int) < (n : Int) := by omega
    simp [h, this]

set_option maxRecDepth 100000 in
theorem notgood_any (t : Ty) (w : World) : Calls Try.prog 49 #[t.val] w (Gives w (.bool (!t.good))) := by
  obtain ⟨tn, ta⟩ := t
  have hg : ∀ w, Calls Try.prog 24 #[.agg #[S tn, .bool ta]] w (Gives w (.bool (Ty.good ⟨tn, ta⟩))) := good_any tn ta
  obtain ⟨G, hG⟩ : ∃ G, G = Ty.good ⟨tn, ta⟩ := ⟨_, rfl⟩
  rw [← hG] at hg
  rw [← hG]
  have HG := hide hg
  clear hg hG
  have hb : Below w.heap.size w (w.alloc (.cells #[S tn, .bool ta] 43)) := (Below.refl _ _).alloc (Nat.le_refl _) _
  go_enter Try.func49, Try.ntmps49
  go_wp2_with fail
  refine (HG.out _).mono ?_
  rintro e w2 ⟨rfl, hb2⟩
  have hB2 := hb.trans (hb2.mono hb.size)
  go_wp2_with fail
  go_ret
  exact ⟨rfl, hB2⟩

set_option maxRecDepth 100000 in
set_option maxHeartbeats 8000000 in
theorem right_any (f : Fc) (w : World) (h : f.at_ w (fun k => w.heap.size ≤ k)) : Calls Try.prog 25 #[f.val] w (Gives w (.bool f.right)) := by
  obtain ⟨n, su, fA, fl, fc, fs, mA, ml, mc, ms⟩ := f
  obtain ⟨⟨hf, hfl, hfm, _⟩, ⟨hm, hml, hmm, hmok⟩, hsn, hss⟩ := h
  simp only at hf hfl hfm hm hml hmm hmok
  unfold short at hsn hss
  simp only at hsn hss
  obtain ⟨R, hR⟩ : ∃ R, R = Fc.right ⟨n, su, fA, fl, fc, fs, mA, ml, mc, ms⟩ := ⟨_, rfl⟩
  rw [← hR]
  obtain ⟨H, hH⟩ : ∃ H, H = Fc.headOk ⟨n, su, fA, fl, fc, fs, mA, ml, mc, ms⟩ := ⟨_, rfl⟩
  have HR : Hid (R = (H && riseV [] fs && riseM [] ms)) := hide (by rw [hR, hH]; rfl)
  have HH : Hid (H = (great n && (su == [] || great su) && decide (fl ≤ 200) && decide (ml ≤ 200) && decide (n.length ≤ 40) && decide (su.length ≤ 40))) := hide hH
  have HM := hide hmok
  have HFL := hide hfl
  have HML := hide hml
  clear hmok hfl hml hR hH
  obtain ⟨wA, hwA⟩ : ∃ wA, wA = w.alloc (.cells #[S n, S su, .slice fA fl fc, .slice mA ml mc] 25) := ⟨_, rfl⟩
  have hB1 : Below w.heap.size w wA := by rw [hwA]; exact (Below.refl _ _).alloc (Nat.le_refl _) _
  have hbk : Blk wA w.heap.size 25 #[S n, S su, .slice fA fl fc, .slice mA ml mc] := by rw [hwA]; exact Blk.new _ _ _
  go_enter Try.func25, Try.ntmps25
  go_upto_region 1 with fail
  rw [← hwA]
  clear hwA
  go_cut [48] (fun v wx => v = .bool (!H) ∧ Below wA.heap.size wA wx)
  case first =>
    have HG1 : Hid (∀ w, Calls Try.prog 47 #[.agg #[S n, .bool false]] w (Gives w (.bool (great n)))) := hide (fun w => by simpa [Ty.cls] using class_any n false w)
    have HG2 : Hid (∀ w, Calls Try.prog 47 #[.agg #[S su, .bool false]] w (Gives w (.bool (great su)))) := hide (fun w => by simpa [Ty.cls] using class_any su false w)
    obtain ⟨G1, hG1⟩ : ∃ G1, G1 = great n := ⟨_, rfl⟩
    obtain ⟨G2, hG2⟩ : ∃ G2, G2 = great su := ⟨_, rfl⟩
    rw [← hG1] at HG1 HH
    rw [← hG2] at HG2 HH
    have h20 : Hid (su = [] → G2 = false) := hide (fun e => by rw [hG2, e]; rfl)
    clear hG1 hG2
    have c0 : wA.cell? ⟨w.heap.size, 0, none⟩ = some (S n) := hbk.cell 0
    go_wp2_with fail
    refine (of_any n wA).mono ?_
    rintro e w2 ⟨rfl, hb2⟩
    go_wp2_with fail
    refine (HG1.out w2).mono ?_
    rintro e w3 ⟨rfl, hb3⟩
    have hb3' := hb2.trans (hb3.mono hb2.size)
    have hk3 := hbk.below hb3' hbk.lt
    have hl3 := hk3.lt
    have c0 : w3.cell? ⟨w.heap.size, 0, none⟩ = some (S n) := hk3.cell 0
    have c1 : w3.cell? ⟨w.heap.size, 1, none⟩ = some (S su) := hk3.cell 1
    have c2 : w3.cell? ⟨w.heap.size, 2, none⟩ = some (.slice fA fl fc) := hk3.cell 2
    have c3 : w3.cell? ⟨w.heap.size, 3, none⟩ = some (.slice mA ml mc) := hk3.cell 3
    clear hb2 hb3
    cases G1 with
    | false =>
      have HF : Hid (H = false) := hide (by rw [HH.out]; simp)
      clear HH
      go_wp2_with fail
      go_meet
      exact ⟨by rw [HF.out]; rfl, hb3'⟩
    | true =>
      obtain ⟨v1, d1⟩ : ∃ v, decide (200 < (fl : Int)) = v := ⟨_, rfl⟩
      obtain ⟨v2, d2⟩ : ∃ v, decide (200 < (ml : Int)) = v := ⟨_, rfl⟩
      obtain ⟨v3, d3⟩ : ∃ v, decide (40 < (n.length : Int)) = v := ⟨_, rfl⟩
      obtain ⟨v4, d4⟩ : ∃ v, decide (40 < (su.length : Int)) = v := ⟨_, rfl⟩
      have HH2 : Hid (H = ((su == [] || G2) && !v1 && !v2 && !v3 && !v4)) := hide (by
        rw [HH.out, dec_le fl 200, dec_le ml 200, dec_le n.length 40, dec_le su.length 40, ← d1, ← d2, ← d3, ← d4]; rfl)
      clear HH
      by_cases e : su = []
      · have HX := hide (h20.out e)
        subst e
        obtain rfl : v4 = false := by rw [← d4]; rfl
        clear d4 h20
        cases v1 <;> cases v2 <;> cases v3
        all_goals
          go_wp2_with fail
          go_meet
          exact ⟨by rw [HH2.out] <;> rfl, hb3'⟩
      · have e' : (su == []) = false := by simpa using e
        clear h20
        go_wp2_with fail
        refine (of_any su w3).mono ?_
        rintro e w4 ⟨rfl, hb4⟩
        go_wp2_with fail
        refine (HG2.out w4).mono ?_
        rintro e w5 ⟨rfl, hb5⟩
        have hb5' := hb3'.trans ((hb4.trans (hb5.mono hb4.size)).mono hb3'.size)
        have hk5 := hbk.below hb5' hbk.lt
        have c0 : w5.cell? ⟨w.heap.size, 0, none⟩ = some (S n) := hk5.cell 0
        have c1 : w5.cell? ⟨w.heap.size, 1, none⟩ = some (S su) := hk5.cell 1
        have c2 : w5.cell? ⟨w.heap.size, 2, none⟩ = some (.slice fA fl fc) := hk5.cell 2
        have c3 : w5.cell? ⟨w.heap.size, 3, none⟩ = some (.slice mA ml mc) := hk5.cell 3
        clear hb4 hb5
        cases G2
        case false =>
          go_wp2_with fail
          go_meet
          exact ⟨by rw [HH2.out, e'] <;> rfl, hb5'⟩
        case true =>
          cases v1 <;> cases v2 <;> cases v3 <;> cases v4
          all_goals
            go_wp2_with fail
            go_meet
            exact ⟨by rw [HH2.out, e'] <;> rfl, hb5'⟩
  case rest =>
    obtain ⟨hv, hbc⟩ := hcut
    subst hv
    have hBc := hB1.trans (hbc.mono hB1.size)
    have hk := hbk.below hbc hbk.lt
    cases H with
    | false =>
      have HF : Hid (R = false) := hide (by rw [HR.out]; simp)
      go_wp2_with fail
      go_ret
      exact ⟨by rw [HF.out] <;> rfl, hBc⟩
    | true =>
      have HR2 : Hid (R = (riseV [] fs && riseM [] ms)) := hide (by rw [HR.out]; simp)
      have c2 : wc.cell? ⟨w.heap.size, 2, none⟩ = some (.slice fA fl fc) := hk.cell 2
      clear HR HH hbc
      go_wp2_with fail
      clear c2
      go_loopw [52, 3] (fun i v wr => ∃ (k : Nat) (lst : List UInt8), k ≤ fl ∧ i = .int .i64 k ∧ v = S lst ∧ Below wc.heap.size wc wr ∧ riseV [] fs = riseV lst (fs.drop k)) (fun i _ _ => fl - (intOf i).toNat)
      case atStart => exact ⟨0, [], Nat.zero_le _, rfl, rfl, Below.refl _ _, rfl⟩
      case round =>
        obtain ⟨k, lst, hk', rfl, rfl, hbr, hrise⟩ := hrel
        have HRS := hide hrise
        have hBr := hBc.trans (hbr.mono hBc.size)
        clear hrise
        by_cases hlt : k < fl
        · obtain ⟨x, o, rfl, _, _, hcell⟩ := Rd.rec_ (size := 3) (fun _ => rfl) (hf.below hBr) HFL.out k hlt
          have hlk : k < fs.length := by have := HFL.out; omega
          have HD : Hid (fs.drop k = fs[k] :: fs.drop (k + 1)) := hide (List.drop_eq_getElem_cons hlk)
          obtain ⟨v, hv⟩ : ∃ v, v = fs[k] := ⟨_, rfl⟩
          rw [← hv] at hcell HD
          clear hv
          obtain ⟨vn, vt, va⟩ := v
          have q0 : wr.cell? ⟨x, o + k * 3, none⟩ = some (S vn) := hcell 0 _ rfl
          have q1 : wr.cell? ⟨x, o + k * 3 + 1, none⟩ = some (S vt) := hcell 1 _ rfl
          have q2 : wr.cell? ⟨x, o + k * 3 + 2, none⟩ = some (.bool va) := hcell 2 _ rfl
          clear hcell
          have hgo : ∀ w, Calls Try.prog 24 #[.agg #[S vt, .bool va]] w (Gives w (.bool (Ty.good ⟨vt, va⟩))) := good_any vt va
          obtain ⟨G, hG⟩ : ∃ G, G = Ty.good ⟨vt, va⟩ := ⟨_, rfl⟩
          rw [← hG] at hgo
          obtain ⟨b1, d1⟩ : ∃ b, Op.bytesLess vn lst = b := ⟨_, rfl⟩
          obtain ⟨b2, d2⟩ : ∃ b, (vn == lst) = b := ⟨_, rfl⟩
          obtain ⟨b3, d3⟩ : ∃ b, decide (40 < (vn.length : Int)) = b := ⟨_, rfl⟩
          have HE : Hid (riseV [] fs = (!(b1 || b2) && !b3 && G && riseV vn (fs.drop (k + 1)))) := hide (by
            rw [HRS.out, HD.out, hG, ← d1, ← d2, ← d3]
            show (!(leqB vn lst) && decide (vn.length ≤ 40) && Ty.good ⟨vt, va⟩ && riseV vn (List.drop (k + 1) fs)) = _
            rw [dec_le vn.length 40]
            rfl)
          have HGO := hide hgo
          clear hgo hG HRS HD
          have hBw : Below w.heap.size w (wr.alloc (.cells #[S vn, S vt, .bool va] 45)) := hBr.alloc hBr.size _
          by_cases e2 : vn = lst
          · subst e2
            obtain rfl : b2 = true := by rw [← d2]; simp
            clear d2
            have HF : Hid (R = false) := hide (by rw [HR2.out, HE.out]; simp)
            cases b1
            all_goals
              go_wp2_with fail
              go_ret
              exact ⟨by rw [HF.out] <;> rfl, hBw⟩
          · obtain rfl : b2 = false := by rw [← d2]; simpa using e2
            cases b1
            case true =>
              have HF : Hid (R = false) := hide (by rw [HR2.out, HE.out]; simp)
              go_wp2_with fail
              go_ret
              exact ⟨by rw [HF.out] <;> rfl, hBw⟩
            case false =>
              cases b3
              case true =>
                have HF : Hid (R = false) := hide (by rw [HR2.out, HE.out]; simp)
                go_wp2_with fail
                go_ret
                exact ⟨by rw [HF.out] <;> rfl, hBw⟩
              case false =>
                obtain ⟨w1, hw1⟩ : ∃ w1, w1 = wr.alloc (.cells #[S vn, S vt, .bool va] 45) := ⟨_, rfl⟩
                have hv1 : Blk w1 wr.heap.size 45 #[S vn, S vt, .bool va] := by rw [hw1]; exact Blk.new _ _ _
                have hb1 : Below wc.heap.size wc w1 := by rw [hw1]; exact hbr.alloc hbr.size _
                go_wp2_with fail
                rw [← hw1]
                clear hw1 q0 q1 q2
                refine (HGO.out w1).mono ?_
                rintro e w2 ⟨rfl, hb2⟩
                have hb2' := hb1.trans (hb2.mono hb1.size)
                have hv2 := hv1.below hb2 hv1.lt
                have hB2 := hBc.trans (hb2'.mono hBc.size)
                have c0 : w2.cell? ⟨wr.heap.size, 0, none⟩ = some (S vn) := hv2.cell 0
                clear hb2 hb1 hv1 d1 d2 d3
                cases G
                case false =>
                  have HF : Hid (R = false) := hide (by rw [HR2.out, HE.out]; simp)
                  go_wp2_with fail
                  go_ret
                  exact ⟨by rw [HF.out] <;> rfl, hB2⟩
                case true =>
                  have HE2 : Hid (riseV [] fs = riseV vn (fs.drop (k + 1))) := hide (by rw [HE.out]; simp)
                  clear HE
                  go_wp2_with fail
                  go_roundw
                  case rel => exact ⟨k + 1, vn, by omega, by go_num, rfl, hb2', HE2.out⟩
                  case measure => simp [intOf]; omega
        · have HRF : Hid (R = riseM [] ms) := hide (by
            rw [HR2.out, HRS.out, List.drop_of_length_le (by have := HFL.out; omega)]; simp [riseV])
          clear HRS HR2
          obtain ⟨wB, hwB⟩ : ∃ wB, wB = wr := ⟨_, rfl⟩
          have hkB := hk.below hbr hk.lt
          rw [← hwB]
          rw [← hwB] at hBr hkB
          clear hwB hbr hBc
          have c3 : wB.cell? ⟨w.heap.size, 3, none⟩ = some (.slice mA ml mc) := hkB.cell 3
          go_wp2_with fail
          clear c3
          go_loopw [78, 3] (fun i v wr => ∃ (k : Nat) (lst : List UInt8), k ≤ ml ∧ i = .int .i64 k ∧ v = S lst ∧ Below wB.heap.size wB wr ∧ riseM [] ms = riseM lst (ms.drop k)) (fun i _ _ => ml - (intOf i).toNat)
          case atStart => exact ⟨0, [], Nat.zero_le _, rfl, rfl, Below.refl _ _, rfl⟩
          case round =>
            obtain ⟨k, lst, hk', rfl, rfl, hbr, hrise⟩ := hrel
            have HRS := hide hrise
            have hB2 := hBr.trans (hbr.mono hBr.size)
            clear hrise
            by_cases hlt : k < ml
            · obtain ⟨x, o, rfl, _, _, hcell⟩ := Rd.rec_ (size := 5) (fun _ => rfl) (hm.below hB2) HML.out k hlt
              have hlk : k < ms.length := by have := HML.out; omega
              have HD : Hid (ms.drop k = ms[k] :: ms.drop (k + 1)) := hide (List.drop_eq_getElem_cons hlk)
              have hmw := HM.out _ (List.getElem_mem hlk)
              obtain ⟨m, hm'⟩ : ∃ m, m = ms[k] := ⟨_, rfl⟩
              rw [← hm'] at hcell HD hmw
              clear hm'
              obtain ⟨sn, sst, sA, sk, sc, sps, srn, sra⟩ := m
              have HPL := hide hmw.2.1
              have hpm := hmw.2.2.1
              simp only at hpm
              have HMW := hide hmw
              clear hmw
              have q0 : wr.cell? ⟨x, o + k * 5, none⟩ = some (S sn) := hcell 0 _ rfl
              have q1 : wr.cell? ⟨x, o + k * 5 + 1, none⟩ = some (.bool sst) := hcell 1 _ rfl
              have q2 : wr.cell? ⟨x, o + k * 5 + 2, none⟩ = some (.slice sA sk sc) := hcell 2 _ rfl
              have q3 : wr.cell? ⟨x, o + k * 5 + 3, none⟩ = some (S srn) := hcell 3 _ rfl
              have q4 : wr.cell? ⟨x, o + k * 5 + 4, none⟩ = some (.bool sra) := hcell 4 _ rfl
              clear hcell
              have hgo : ∀ w, Calls Try.prog 24 #[.agg #[S srn, .bool sra]] w (Gives w (.bool (Ty.good ⟨srn, sra⟩))) := good_any srn sra
              have hps : ∀ w', Below w.heap.size w w' → Calls Try.prog 48 #[.slice sA sk sc, .func (.func 49) #[] #[]] w' (Gives w' (.bool (sps.any fun t => !t.good))) := fun w' hw' =>
                hasty_any sA sk sc sps (fun t => !t.good) w' ((HMW.out.below hw').1.weak (fun k hk => by have := hw'.size; omega)) HPL.out hpm (fun w'' _ u _ => notgood_any u w'')
              obtain ⟨G, hG⟩ : ∃ G, G = Ty.good ⟨srn, sra⟩ := ⟨_, rfl⟩
              obtain ⟨N, hN⟩ : ∃ N, N = (sps.any fun t => !t.good) := ⟨_, rfl⟩
              rw [← hG] at hgo
              rw [← hN] at hps
              obtain ⟨b1, d1⟩ : ∃ b, Op.bytesLess sn lst = b := ⟨_, rfl⟩
              obtain ⟨b2, d2⟩ : ∃ b, (sn == lst) = b := ⟨_, rfl⟩
              obtain ⟨b3, d3⟩ : ∃ b, decide (40 < (sn.length : Int)) = b := ⟨_, rfl⟩
              obtain ⟨b4, d4⟩ : ∃ b, decide (200 < (sk : Int)) = b := ⟨_, rfl⟩
              have HE : Hid (riseM [] ms = (!(b1 || b2) && !b3 && (G && !b4 && !N) && riseM sn (ms.drop (k + 1)))) := hide (by
                rw [HRS.out, HD.out, hG, hN, ← d1, ← d2, ← d3, ← d4]
                show (!(leqB sn lst) && decide (sn.length ≤ 40) && (Ty.good ⟨srn, sra⟩ && decide (sk ≤ 200) && !(sps.any fun t => !t.good)) && riseM sn (List.drop (k + 1) ms)) = _
                rw [dec_le sn.length 40, dec_le sk 200]
                rfl)
              have HGO := hide hgo
              have HCF := hide hps
              clear hgo hps hG hN HRS HD
              have hBw : Below w.heap.size w (wr.alloc (.cells #[S sn, .bool sst, .slice sA sk sc, S srn, .bool sra] 58)) := hB2.alloc hB2.size _
              by_cases e2 : sn = lst
              · subst e2
                obtain rfl : b2 = true := by rw [← d2]; simp
                clear d2
                have HF : Hid (R = false) := hide (by rw [HRF.out, HE.out]; simp)
                cases b1
                all_goals
                  go_wp2_with fail
                  go_ret
                  exact ⟨by rw [HF.out] <;> rfl, hBw⟩
              · obtain rfl : b2 = false := by rw [← d2]; simpa using e2
                cases b1
                case true =>
                  have HF : Hid (R = false) := hide (by rw [HRF.out, HE.out]; simp)
                  go_wp2_with fail
                  go_ret
                  exact ⟨by rw [HF.out] <;> rfl, hBw⟩
                case false =>
                  cases b3
                  case true =>
                    have HF : Hid (R = false) := hide (by rw [HRF.out, HE.out]; simp)
                    go_wp2_with fail
                    go_ret
                    exact ⟨by rw [HF.out] <;> rfl, hBw⟩
                  case false =>
                    obtain ⟨w1, hw1⟩ : ∃ w1, w1 = wr.alloc (.cells #[S sn, .bool sst, .slice sA sk sc, S srn, .bool sra] 58) := ⟨_, rfl⟩
                    have hv1 : Blk w1 wr.heap.size 58 #[S sn, .bool sst, .slice sA sk sc, S srn, .bool sra] := by rw [hw1]; exact Blk.new _ _ _
                    have hb1 : Below wB.heap.size wB w1 := by rw [hw1]; exact hbr.alloc hbr.size _
                    go_wp2_with fail
                    rw [← hw1]
                    clear hw1 q0 q1 q2 q3 q4
                    refine (HGO.out w1).mono ?_
                    rintro e w2 ⟨rfl, hb2⟩
                    have hb2' := hb1.trans (hb2.mono hb1.size)
                    have hv2 := hv1.below hb2 hv1.lt
                    have hB2 := hBr.trans (hb2'.mono hBr.size)
                    have c0 : w2.cell? ⟨wr.heap.size, 0, none⟩ = some (S sn) := hv2.cell 0
                    have c2 : w2.cell? ⟨wr.heap.size, 2, none⟩ = some (.slice sA sk sc) := hv2.cell 2
                    clear hb2 hb1 hv1 d1 d2 d3
                    cases G
                    case false =>
                      have HF : Hid (R = false) := hide (by rw [HRF.out, HE.out]; simp)
                      go_wp2_with fail
                      go_ret
                      exact ⟨by rw [HF.out] <;> rfl, hB2⟩
                    case true =>
                      cases b4
                      case true =>
                        have HF : Hid (R = false) := hide (by rw [HRF.out, HE.out]; simp)
                        go_wp2_with fail
                        go_ret
                        exact ⟨by rw [HF.out] <;> rfl, hB2⟩
                      case false =>
                        go_wp2_with fail
                        refine (HCF.out w2 hB2).mono ?_
                        rintro e w3 ⟨rfl, hb3⟩
                        have hb3' := hb2'.trans (hb3.mono hb2'.size)
                        have hv3 := hv2.below hb3 hv2.lt
                        have hB3 := hBr.trans (hb3'.mono hBr.size)
                        have c3 : w3.cell? ⟨wr.heap.size, 0, none⟩ = some (S sn) := hv3.cell 0
                        clear hb3 hb2' hv2 d4
                        cases N
                        case true =>
                          have HF : Hid (R = false) := hide (by rw [HRF.out, HE.out]; simp)
                          go_wp2_with fail
                          go_ret
                          exact ⟨by rw [HF.out] <;> rfl, hB3⟩
                        case false =>
                          have HE2 : Hid (riseM [] ms = riseM sn (ms.drop (k + 1))) := hide (by rw [HE.out]; simp)
                          clear HE
                          go_wp2_with fail
                          go_roundw
                          case rel => exact ⟨k + 1, sn, by omega, by go_num, rfl, hb3', HE2.out⟩
                          case measure => simp [intOf]; omega
            · have HY : Hid (R = true) := hide (by
                rw [HRF.out, HRS.out, List.drop_of_length_le (by have := HML.out; omega)]; simp [riseM])
              go_wp2_with fail
              go_ret
              exact ⟨by rw [HY.out] <;> rfl, hB2⟩
end Go.Proofs.Ytkgnoemagklmiaa
