/- Which face may take another one's place, by the page: walked; it answers as the program does; no statement of the seat is proved here. -/
import Derived.Test.YtbnplghbokpfmaaGoesW
namespace Go.Proofs.Ytbnplghbokpfmaa
open Go.RowKit

theorem cells1 {w : World} {g : Nat} {t : TypeId} {x0 x1 x2 x3 x4 : Value} (h : Blk w g t #[x0, x1, x2, x3, x4]) :
    w.cell? ⟨g, 0, none⟩ = some x0 ∧ w.cell? ⟨g, 1, none⟩ = some x1 ∧ w.cell? ⟨g, 2, none⟩ = some x2 ∧ w.cell? ⟨g, 3, none⟩ = some x3 ∧ w.cell? ⟨g, 4, none⟩ = some x4 := ⟨h.cell 0, h.cell 1, h.cell 2, h.cell 3, h.cell 4⟩

/-- The head of it, without the fields one by one. -/
def pageH (o f : Fc) : Bool := o.right && f.right && decide (o.n = f.n) && decide (o.su = f.su) && ((o.fl : Int) == (f.fl : Int))
theorem pageH_false {o f : Fc} (ho : o.fs.length = o.fl) (hf : f.fs.length = f.fl) (h : pageH o f = false) : passB o f = false := by
  rw [Bool.eq_false_iff] at h ⊢
  intro hp
  apply h
  rw [passB_iff, passH_iff] at hp
  obtain ⟨⟨h1, h2, h3, h4, h5⟩, _⟩ := hp
  have : o.fl = f.fl := by rw [← ho, ← hf, h5]
  simp [pageH, h1, h2, h3, h4, this]
theorem pageH_true {o f : Fc} (hH : pageH o f = true) (h : o.fs = f.fs) : passH o f = true := by
  unfold pageH at hH
  simp only [Bool.and_eq_true, decide_eq_true_eq] at hH
  exact passH_iff.2 ⟨hH.1.1.1.1, hH.1.1.1.2, hH.1.1.2, hH.1.2, h⟩
theorem pageH_len {o f : Fc} (hH : pageH o f = true) : o.fl = f.fl := by
  unfold pageH at hH
  simp only [Bool.and_eq_true, beq_iff_eq] at hH
  omega

theorem take_snoc {α : Type} {l : List α} {k : Nat} (hk : k < l.length) : l.take (k + 1) = l.take k ++ [l[k]] := by
  rw [List.take_add_one, List.getElem?_eq_getElem hk]; rfl

/-- So far each pair of one name is the same, each new one static; so many pairs there were. -/
def SoFar (o f : Fc) (j : Nat) (kept : Nat) : Prop :=
  kept = pairsN o.ms (f.ms.take j) ∧ (∀ i (hi : i < f.ms.length), i < j → (∀ m ∈ o.ms, m.n = f.ms[i].n → m.p = f.ms[i].p) ∧ ((∃ m ∈ o.ms, m.n = f.ms[i].n) ∨ f.ms[i].st = true))
theorem SoFar.zero (o f : Fc) : SoFar o f 0 0 := ⟨by simp [pairsN], by omega⟩
theorem SoFar.step {o f : Fc} {j kept : Nat} (h : SoFar o f j kept) (hj : j < f.ms.length) (h1 : ∀ m ∈ o.ms, m.n = f.ms[j].n → m.p = f.ms[j].p) (h2 : (∃ m ∈ o.ms, m.n = f.ms[j].n) ∨ f.ms[j].st = true) :
    SoFar o f (j + 1) (kept + cntN o.ms f.ms[j].n) := by
  refine ⟨?_, fun i hi hlt => ?_⟩
  · rw [h.1, take_snoc hj]
    unfold pairsN
    rw [List.map_append, List.sum_append]
    simp
  · rcases Nat.lt_or_ge i j with h3 | h3
    · exact h.2 i hi h3
    · obtain rfl : i = j := by omega
      exact ⟨h1, h2⟩
theorem SoFar.done {o f : Fc} {kept : Nat} (h : SoFar o f f.ms.length kept) (hH : passH o f = true) : passB o f = decide (kept = o.ms.length) := by
  rw [h.1, List.take_length]
  refine pass_counts hH (fun n hn => ?_) (fun n hn => ?_)
  all_goals
    obtain ⟨i, hi, rfl⟩ := List.mem_iff_getElem.1 hn
  · exact (h.2 i hi hi).1
  · exact (h.2 i hi hi).2
theorem SoFar.le {o f : Fc} {j kept : Nat} (h : SoFar o f j kept) (hr : Rise f.ms) : kept ≤ o.ms.length := by
  rw [h.1]
  have : Rise (f.ms.take j) := List.Pairwise.sublist (List.take_sublist _ _) hr
  exact (pairs_full this o.ms).1
theorem cnt_le (l : List Sg) (k : List UInt8) : cntN l k ≤ l.length := List.countP_le_length

/-- Within the inner loop: k old ones looked at. -/
def InFar (o : Fc) (n : Sg) (k : Nat) (was : Bool) (c : Nat) : Prop :=
  c = cntN (o.ms.take k) n.n ∧ (was = true ↔ 0 < c) ∧ ∀ i (hi : i < o.ms.length), i < k → o.ms[i].n = n.n → o.ms[i].p = n.p
theorem InFar.zero (o : Fc) (n : Sg) : InFar o n 0 false 0 := ⟨by simp [cntN], by simp, by omega⟩
theorem InFar.skip {o : Fc} {n : Sg} {k : Nat} {was : Bool} {c : Nat} (h : InFar o n k was c) (hk : k < o.ms.length) (hne : o.ms[k].n ≠ n.n) : InFar o n (k + 1) was c := by
  refine ⟨?_, h.2.1, fun i hi hlt e => ?_⟩
  · rw [h.1, take_snoc hk]
    unfold cntN
    rw [List.countP_append]
    simp [hne]
  · rcases Nat.lt_or_ge i k with h3 | h3
    · exact h.2.2 i hi h3 e
    · obtain rfl : i = k := by omega
      exact absurd e hne
theorem InFar.hit {o : Fc} {n : Sg} {k : Nat} {was : Bool} {c : Nat} (h : InFar o n k was c) (hk : k < o.ms.length) (he : o.ms[k].n = n.n) (hp : o.ms[k].p = n.p) : InFar o n (k + 1) true (c + 1) := by
  refine ⟨?_, by simp, fun i hi hlt e => ?_⟩
  · rw [h.1, take_snoc hk]
    unfold cntN
    rw [List.countP_append]
    simp [he]
  · rcases Nat.lt_or_ge i k with h3 | h3
    · exact h.2.2 i hi h3 e
    · obtain rfl : i = k := by omega
      exact hp
theorem InFar.done {o : Fc} {n : Sg} {was : Bool} {c : Nat} (h : InFar o n o.ms.length was c) : c = cntN o.ms n.n ∧ (∀ m ∈ o.ms, m.n = n.n → m.p = n.p) ∧ (was = true ↔ ∃ m ∈ o.ms, m.n = n.n) := by
  obtain ⟨h1, h2, h3⟩ := h
  rw [List.take_length] at h1
  refine ⟨h1, fun m hm => ?_, ?_⟩
  · obtain ⟨i, hi, rfl⟩ := List.mem_iff_getElem.1 hm
    exact h3 i hi hi
  · rw [h2, h1]
    unfold cntN
    rw [List.countP_pos_iff]
    simp

theorem room {o f : Fc} {j kept k c : Nat} (h : SoFar o f j kept) (hr : Rise f.ms) (hj : j < f.ms.length) {was : Bool} (hi : InFar o f.ms[j] k was c) : kept + c ≤ o.ms.length := by
  have h1 : c ≤ cntN o.ms f.ms[j].n := by
    rw [hi.1]
    exact List.Sublist.countP_le (List.take_sublist _ _)
  have h2 : kept + cntN o.ms f.ms[j].n = pairsN o.ms (f.ms.take (j + 1)) := by
    rw [h.1, take_snoc hj]
    unfold pairsN
    rw [List.map_append, List.sum_append]
    simp
  have : Rise (f.ms.take (j + 1)) := List.Pairwise.sublist (List.take_sublist _ _) hr
  have h3 := (pairs_full this o.ms).1
  omega

set_option maxRecDepth 100000 in
set_option maxHeartbeats 8000000 in
theorem page_any (o f : Fc) (w : World) (ho : o.at_ w (fun k => w.heap.size ≤ k)) (hf : f.at_ w (fun k => w.heap.size ≤ k)) :
    Calls Try.prog 12 #[o.val, f.val] w (Gives w (.bool (passB o f))) := by
  obtain ⟨wB, hwB⟩ : ∃ wB, wB = (w.alloc (.cells o.arr 25)).alloc (.cells f.arr 25) := ⟨_, rfl⟩
  have hB0 : Below w.heap.size w wB := by rw [hwB]; exact ((Below.refl _ _).alloc (Nat.le_refl _) _).alloc (by simp) _
  have hk1 : Blk wB w.heap.size 25 o.arr := by rw [hwB]; exact (Blk.new _ _ _).alloc _
  have hk2 : Blk wB (w.heap.size + 1) 25 f.arr := by
    rw [hwB]
    have := Blk.new (w.alloc (.cells o.arr 25)) 25 f.arr
    rwa [World.size_alloc] at this
  have hro : ∀ w', Below w.heap.size w w' → Calls Try.prog 8 #[o.val] w' (Gives w' (.bool o.right)) := fun w' hb => right_any o w' ((ho.below hb).weak (fun k hk => by have := hb.size; omega))
  have hrf : ∀ w', Below w.heap.size w w' → Calls Try.prog 8 #[f.val] w' (Gives w' (.bool f.right)) := fun w' hb => right_any f w' ((hf.below hb).weak (fun k hk => by have := hb.size; omega))
  obtain ⟨R, hR⟩ : ∃ R, R = passB o f := ⟨_, rfl⟩
  rw [← hR]
  obtain ⟨H, hH⟩ : ∃ H, H = pageH o f := ⟨_, rfl⟩
  have HR := hide hR
  have HHP := hide hH
  have HO := hide ho
  have HF := hide hf
  clear hR ho hf
  go_enter Try.func12, Try.ntmps12
  go_upto_region 1 with fail
  rw [← hwB]
  clear hwB
  go_cut [42] (fun v wx => v = .bool (!H) ∧ Below wB.heap.size wB wx)
  case first =>
    obtain ⟨Ro, hRo⟩ : ∃ Ro, Ro = o.right := ⟨_, rfl⟩
    obtain ⟨Rf, hRf⟩ : ∃ Rf, Rf = f.right := ⟨_, rfl⟩
    have HH : Hid (H = (Ro && Rf && decide (o.n = f.n) && decide (o.su = f.su) && ((o.fl : Int) == (f.fl : Int)))) := hide (by rw [hH, hRo, hRf]; rfl)
    rw [← hRo] at hro
    rw [← hRf] at hrf
    have HRO := hide hro
    have HRF := hide hrf
    clear hro hrf hRo hRf hH HR HHP
    obtain ⟨a0, a1, a2, a3⟩ := fcells hk1
    go_wp2_with fail
    refine (HRO.out wB hB0).mono ?_
    rintro e w2 ⟨rfl, hb2⟩
    have hB2 := hB0.trans (hb2.mono hB0.size)
    cases Ro
    case false =>
      go_wp2_with fail
      go_meet
      exact ⟨by rw [HH.out] <;> rfl, hb2⟩
    case true =>
      obtain ⟨b0, b1, b2, b3⟩ := fcells (hk2.below hb2 hk2.lt)
      clear a0 a1 a2 a3
      go_wp2_with fail
      refine (HRF.out w2 hB2).mono ?_
      rintro e w3 ⟨rfl, hb3⟩
      have hb3' := hb2.trans (hb3.mono hb2.size)
      have hB3 := hB0.trans (hb3'.mono hB0.size)
      clear b0 b1 b2 b3 hb3
      cases Rf
      case false =>
        go_wp2_with fail
        go_meet
        exact ⟨by rw [HH.out] <;> rfl, hb3'⟩
      case true =>
        obtain ⟨a0, a1, a2, _⟩ := fcells (hk1.below hb3' hk1.lt)
        obtain ⟨b0, b1, b2, _⟩ := fcells (hk2.below hb3' hk2.lt)
        by_cases e1 : o.n = f.n
        · obtain ⟨on, osu, ofA, ofl, ofc, ofs, omA, oml, omc, oms⟩ := o
          obtain ⟨fn, fsu, ffA, ffl, ffc, ffs, fmA, fml, fmc, fms⟩ := f
          simp only at *
          subst e1
          by_cases e2 : osu = fsu
          · subst e2
            obtain ⟨E, hE⟩ : ∃ E, ((ofl : Int) == (ffl : Int)) = E := ⟨_, rfl⟩
            have HX : Hid (H = E) := hide (by rw [HH.out, hE]; simp)
            by_cases e3 : ofl = ffl
            · subst e3
              obtain rfl : E = true := by rw [← hE]; simp
              clear hE
              go_wp2_with fail
              go_meet
              exact ⟨by rw [HX.out] <;> rfl, hb3'⟩
            · obtain rfl : E = false := by rw [← hE]; simp; omega
              have hne : ((ofl : Int) != (ffl : Int)) = true := by simp; omega
              go_wp2_with fail
              go_meet
              exact ⟨by rw [HX.out] <;> rfl, hb3'⟩
          · have d2 : (osu == fsu) = false := by simpa using e2
            have HX : Hid (H = false) := hide (by rw [HH.out, decide_eq_false e2]; simp)
            go_wp2_with fail
            go_meet
            exact ⟨by rw [HX.out] <;> rfl, hb3'⟩
        · have d1 : (o.n == f.n) = false := by simpa using e1
          have HX : Hid (H = false) := hide (by rw [HH.out, decide_eq_false e1]; simp)
          go_wp2_with fail
          go_meet
          exact ⟨by rw [HX.out] <;> rfl, hb3'⟩
  case rest =>
    obtain ⟨hv, hbc⟩ := hcut
    subst hv
    have hBc := hB0.trans (hbc.mono hB0.size)
    have hi := hk1.below hbc hk1.lt
    have hj := hk2.below hbc hk2.lt
    clear hbc hk1 hk2 hB0 hro hrf hH
    cases H with
    | false =>
      have HX : Hid (R = false) := hide (by rw [HR.out]; exact pageH_false HO.out.1.2.1 HF.out.1.2.1 HHP.out.symm)
      go_wp2_with fail
      go_ret
      exact ⟨by rw [HX.out] <;> rfl, hBc⟩
    | true =>
      have HRI : Hid (Rise f.ms) := hide (by
        have h := HHP.out.symm
        unfold pageH at h
        simp only [Bool.and_eq_true] at h
        exact right_rise h.1.1.1.2)
      have hlen := pageH_len HHP.out.symm
      obtain ⟨on, osu, ofA, ofl, ofc, ofs, omA, oml, omc, oms⟩ := o
      obtain ⟨fn, fsu, ffA, ffl, ffc, ffs, fmA, fml, fmc, fms⟩ := f
      simp only at hlen
      subst hlen
      have hOF := HO.out.1
      have hOM := HO.out.2.1
      have hFF := HF.out.1
      have hFM := HF.out.2.1
      simp only at hOF hOM hFF hFM
      obtain ⟨hofr, hofl, hofm, _⟩ := hOF
      obtain ⟨homr, homl, homm, homo⟩ := hOM
      obtain ⟨hffr, hffl, hffm, _⟩ := hFF
      obtain ⟨hfmr, hfml, hfmm, hfmo⟩ := hFM
      have HOFL := hide hofl
      have HOML := hide homl
      have HOMO := hide homo
      have HFFL := hide hffl
      have HFML := hide hfml
      have HFMO := hide hfmo
      clear hofl homl homo hffl hfml hfmo hffm
      obtain ⟨a0, a1, a2, a3⟩ := fcells hi
      simp only [Fc.val]
      go_wp2_with fail
      clear a0 a1 a2 a3
      go_loopw [46] (fun i wr => ∃ k : Nat, k ≤ ofl ∧ i = .int .i64 k ∧ Below wc.heap.size wc wr ∧ (∀ i (hi : i < ofs.length) (hi' : i < ffs.length), i < k → ofs[i] = ffs[i])) (fun i _ => ofl - (intOf i).toNat)
      case atStart => exact ⟨0, Nat.zero_le _, rfl, Below.refl _ _, by omega⟩
      case round =>
        obtain ⟨k, hk, rfl, hbr, hall⟩ := hrel
        have HA := hide hall
        have hBr := hBc.trans (hbr.mono hBc.size)
        clear hall
        by_cases hlt : k < ofl
        · obtain ⟨x, o, rfl, _, _, hcell⟩ := Rd.rec_ (size := 3) (fun _ => rfl) (hofr.below hBr) HOFL.out k hlt
          obtain ⟨x', o', rfl, _, _, hcell'⟩ := Rd.rec_ (size := 3) (fun _ => rfl) (hffr.below hBr) HFFL.out k hlt
          have hlk : k < ofs.length := by have := HOFL.out; omega
          have hlk' : k < ffs.length := by have := HFFL.out; omega
          obtain ⟨p, hp⟩ : ∃ p, p = ofs[k] := ⟨_, rfl⟩
          obtain ⟨p', hp'⟩ : ∃ p', p' = ffs[k] := ⟨_, rfl⟩
          rw [← hp] at hcell
          rw [← hp'] at hcell'
          have HP := hide (And.intro hp hp')
          clear hp hp'
          obtain ⟨pn, pt, pa⟩ := p
          obtain ⟨pn', pt', pa'⟩ := p'
          have q0 : wr.cell? ⟨x, o + k * 3, none⟩ = some (S pn) := hcell 0 _ rfl
          have q0' : wr.cell? ⟨x', o' + k * 3, none⟩ = some (S pn') := hcell' 0 _ rfl
          have q1 : wr.cell? ⟨x, o + k * 3 + 1, none⟩ = some (S pt) := hcell 1 _ rfl
          have q1' : wr.cell? ⟨x', o' + k * 3 + 1, none⟩ = some (S pt') := hcell' 1 _ rfl
          have q2 : wr.cell? ⟨x, o + k * 3 + 2, none⟩ = some (.bool pa) := hcell 2 _ rfl
          have q2' : wr.cell? ⟨x', o' + k * 3 + 2, none⟩ = some (.bool pa') := hcell' 2 _ rfl
          have hki : (k : Int) < (ofl : Int) := by omega
          have g2 : wr.cell? ⟨w.heap.size, 2, none⟩ = some (.slice (some ⟨x, o, none⟩) ofl ofc) := (hi.below hbr hi.lt).cell 2
          have g3 : wr.cell? ⟨w.heap.size + 1, 2, none⟩ = some (.slice (some ⟨x', o', none⟩) ofl ffc) := (hj.below hbr hj.lt).cell 2
          clear hcell hcell'
          by_cases e : (⟨pn, ⟨pt, pa⟩⟩ : Vr) = ⟨pn', ⟨pt', pa'⟩⟩
          · injection e with e0 e1
            injection e1 with e1 e2
            subst e0 e1 e2
            go_wp2_with fail
            go_quiet (fail)
            go_wp2_with fail
            go_roundw
            case rel => exact ⟨k + 1, by omega, by go_num, bdrewN hbr _, fun i hi hi' hlt' => by
              rcases Nat.lt_or_ge i k with h2 | h2
              · exact HA.out i hi hi' h2
              · obtain rfl : i = k := by omega
                rw [← HP.out.1, ← HP.out.2]⟩
            case measure => simp [intOf]; omega
          · have HN : Hid (R = false) := hide (by
              rw [HR.out, Bool.eq_false_iff]
              intro hp
              have hff := (passH_iff.1 (passB_iff.1 hp).1).2.2.2.2
              simp only at hff
              subst hff
              exact e (HP.out.1.trans HP.out.2.symm))
            by_cases e0 : pn = pn'
            · subst e0
              by_cases e1 : pt = pt'
              · subst e1
                cases pa <;> cases pa'
                · exact absurd rfl e
                · skip
                  go_wp2_with fail
                  go_quiet (fail)
                  go_wp2_with fail
                  go_ret
                  exact ⟨by rw [HN.out] <;> rfl, bdrewN hBr _⟩
                · skip
                  go_wp2_with fail
                  go_quiet (fail)
                  go_wp2_with fail
                  go_ret
                  exact ⟨by rw [HN.out] <;> rfl, bdrewN hBr _⟩
                · exact absurd rfl e
              · have d1 : (pt == pt') = false := by simpa using e1
                go_wp2_with fail
                go_quiet (fail)
                go_wp2_with fail
                go_ret
                exact ⟨by rw [HN.out] <;> rfl, bdrewN hBr _⟩
            · have d0 : (pn == pn') = false := by simpa using e0
              go_wp2_with fail
              go_quiet (fail)
              go_wp2_with fail
              go_ret
              exact ⟨by rw [HN.out] <;> rfl, bdrewN hBr _⟩
        · have HPH : Hid (passH ⟨on, osu, ofA, ofl, ofc, ofs, omA, oml, omc, oms⟩ ⟨fn, fsu, ffA, ofl, ffc, ffs, fmA, fml, fmc, fms⟩ = true) := hide
            (pageH_true HHP.out.symm (eq_of_all (by rw [HOFL.out, HFFL.out]) (fun i hi hi' => HA.out i hi hi' (by have h2 := hi; simp only at h2; have := HOFL.out; omega))))
          have hi2 := hi.below hbr hi.lt
          have hj2 := hj.below hbr hj.lt
          obtain ⟨wE, hwE⟩ : ∃ wE, wE = wr := ⟨_, rfl⟩
          rw [← hwE] at hi2 hj2 hBr
          rw [← hwE]
          clear hwE hbr hi hj hBc HA HHP
          obtain ⟨a0, a1, a2, a3⟩ := fcells hj2
          go_wp2_with fail
          clear a0 a1 a2 a3
          go_loopw [64, 6] (fun i v wr => ∃ j kept : Nat, j ≤ fml ∧ i = .int .i64 j ∧ v = .int .i64 kept ∧ Below wE.heap.size wE wr ∧ SoFar ⟨on, osu, ofA, ofl, ofc, ofs, omA, oml, omc, oms⟩ ⟨fn, fsu, ffA, ofl, ffc, ffs, fmA, fml, fmc, fms⟩ j kept) (fun i _ _ => fml - (intOf i).toNat)
          case atStart => exact ⟨0, 0, Nat.zero_le _, rfl, rfl, Below.refl _ _, SoFar.zero _ _⟩
          case round =>
            obtain ⟨j, kept, hjl, rfl, rfl, hbr, hsf⟩ := hrel
            have HSF := hide hsf
            have hBr2 := hBr.trans (hbr.mono hBr.size)
            clear hsf
            by_cases hlt2 : j < fml
            · obtain ⟨x, off, rfl, _, _, hcell⟩ := Rd.rec_ (size := 5) (fun _ => rfl) (hfmr.below hBr2) HFML.out j hlt2
              have hlj : j < fms.length := by have := HFML.out; omega
              have hnw := HFMO.out _ (List.getElem_mem hlj)
              obtain ⟨n, hn⟩ : ∃ n, n = fms[j] := ⟨_, rfl⟩
              rw [← hn] at hcell hnw
              have HN := hide hn
              have HNW := hide hnw
              clear hn hnw
              obtain ⟨nn, nst, nA, nk, nc, nps, nrn, nra⟩ := n
              have q0 : wr.cell? ⟨x, off + j * 5, none⟩ = some (S nn) := hcell 0 _ rfl
              have q1 : wr.cell? ⟨x, off + j * 5 + 1, none⟩ = some (.bool nst) := hcell 1 _ rfl
              have q2 : wr.cell? ⟨x, off + j * 5 + 2, none⟩ = some (.slice nA nk nc) := hcell 2 _ rfl
              have q3 : wr.cell? ⟨x, off + j * 5 + 3, none⟩ = some (S nrn) := hcell 3 _ rfl
              have q4 : wr.cell? ⟨x, off + j * 5 + 4, none⟩ = some (.bool nra) := hcell 4 _ rfl
              clear hcell
              obtain ⟨w1, hw1⟩ : ∃ w1, w1 = wr.alloc (.cells #[S nn, .bool nst, .slice nA nk nc, S nrn, .bool nra] 34) := ⟨_, rfl⟩
              have hb1 : Below wE.heap.size wE w1 := by rw [hw1]; exact hbr.alloc hbr.size _
              have hv1 : Blk w1 wr.heap.size 34 #[S nn, .bool nst, .slice nA nk nc, S nrn, .bool nra] := by rw [hw1]; exact Blk.new _ _ _
              have hi3 := hi2.below hb1 hi2.lt
              have hB1 := hBr.trans (hb1.mono hBr.size)
              obtain ⟨a0, a1, a2, a3⟩ := fcells hi3
              clear hi3
              rw [hw1] at a0 a1 a2 a3
              go_wp2_with fail
              rw [← hw1]
              rw [← hw1] at a0 a1 a2 a3
              clear hw1 a0 a1 a2 a3 q0 q1 q2 q3 q4
              obtain ⟨wo, hwo⟩ : ∃ wo, wo = w1 := ⟨_, rfl⟩
              rw [← hwo] at hb1 hv1 hB1
              rw [← hwo]
              clear hwo
              obtain ⟨bn, hbn⟩ : ∃ bn, bn = wr.heap.size := ⟨_, rfl⟩
              rw [← hbn] at hv1
              rw [← hbn]
              clear hbn
              go_loopw [71, 9, 6] (fun i v9 v6 wx => ∃ (k : Nat) (was : Bool) (c : Nat), k ≤ oml ∧ i = .int .i64 k ∧ v9 = .bool was ∧ v6 = .int .i64 ((kept + c : Nat) : Int) ∧ Below wo.heap.size wo wx ∧ InFar ⟨on, osu, ofA, ofl, ofc, ofs, omA, oml, omc, oms⟩ ⟨nn, nst, nA, nk, nc, nps, nrn, nra⟩ k was c) (fun i _ _ _ => oml - (intOf i).toNat)
              case atStart => exact ⟨0, false, 0, Nat.zero_le _, rfl, rfl, rfl, Below.refl _ _, InFar.zero _ _⟩
              case round =>
                obtain ⟨k, was, c, hkl, rfl, rfl, rfl, hbx, hin⟩ := hrel
                have HIN := hide hin
                have hBx := hB1.trans (hbx.mono hB1.size)
                have hvx := hv1.below hbx hv1.lt
                clear hin
                by_cases hlt3 : k < oml
                · obtain ⟨y, off2, rfl, _, _, hcell⟩ := Rd.rec_ (size := 5) (fun _ => rfl) (homr.below hBx) HOML.out k hlt3
                  have hlk : k < oms.length := by have := HOML.out; omega
                  have hmw := HOMO.out _ (List.getElem_mem hlk)
                  obtain ⟨m, hm⟩ : ∃ m, m = oms[k] := ⟨_, rfl⟩
                  rw [← hm] at hcell hmw
                  have HMK := hide hm
                  have HMW := hide hmw
                  clear hm hmw
                  obtain ⟨mn, mst, mA, mk, mc, mps, mrn, mra⟩ := m
                  have q0 : wr.cell? ⟨y, off2 + k * 5, none⟩ = some (S mn) := hcell 0 _ rfl
                  have q1 : wr.cell? ⟨y, off2 + k * 5 + 1, none⟩ = some (.bool mst) := hcell 1 _ rfl
                  have q2 : wr.cell? ⟨y, off2 + k * 5 + 2, none⟩ = some (.slice mA mk mc) := hcell 2 _ rfl
                  have q3 : wr.cell? ⟨y, off2 + k * 5 + 3, none⟩ = some (S mrn) := hcell 3 _ rfl
                  have q4 : wr.cell? ⟨y, off2 + k * 5 + 4, none⟩ = some (.bool mra) := hcell 4 _ rfl
                  clear hcell
                  obtain ⟨w2, hw2⟩ : ∃ w2, w2 = wr.alloc (.cells #[S mn, .bool mst, .slice mA mk mc, S mrn, .bool mra] 34) := ⟨_, rfl⟩
                  have hb2 : Below wo.heap.size wo w2 := by rw [hw2]; exact hbx.alloc hbx.size _
                  have hB2 := hB1.trans (hb2.mono hB1.size)
                  have hm2 : Blk w2 wr.heap.size 34 #[S mn, .bool mst, .slice mA mk mc, S mrn, .bool mra] := by rw [hw2]; exact Blk.new _ _ _
                  have hv2 := hv1.below hb2 hv1.lt
                  obtain ⟨D, hD⟩ : ∃ D, D = decide (Sg.p ⟨mn, mst, mA, mk, mc, mps, ⟨mrn, mra⟩⟩ = Sg.p ⟨nn, nst, nA, nk, nc, nps, ⟨nrn, nra⟩⟩) := ⟨_, rfl⟩
                  have hsm : Calls Try.prog 22 #[.agg #[S mn, .bool mst, .slice mA mk mc, S mrn, .bool mra], .agg #[S nn, .bool nst, .slice nA nk nc, S nrn, .bool nra]] w2 (Gives w2 (.bool D)) := by
                    rw [hD]
                    exact sigsame_any ⟨mn, mst, mA, mk, mc, mps, ⟨mrn, mra⟩⟩ ⟨nn, nst, nA, nk, nc, nps, ⟨nrn, nra⟩⟩ w2 ((HMW.out.below hB2).weak (fun k hk => by have := hB2.size; omega)) ((HNW.out.below hB2).weak (fun k hk => by have := hB2.size; omega))
                  have HSM := hide hsm
                  have HD := hide hD
                  clear hsm hD
                  obtain ⟨a0, a1, a2, a3, a4⟩ := cells1 hm2
                  obtain ⟨b0, b1, b2, b3, b4⟩ := cells1 hv2
                  by_cases e : mn = nn
                  · subst e
                    subst hw2
                    go_wp2_with fail
                    refine HSM.out.mono ?_
                    rintro e w3 ⟨rfl, hb3⟩
                    have hb3' := hb2.trans (hb3.mono hb2.size)
                    have hB3 := hB1.trans (hb3'.mono hB1.size)
                    clear hb3 hb2 hB2 hm2 hv2 hvx a0 a1 a2 a3 a4 b0 b1 b2 b3 b4 q0 q1 q2 q3 q4
                    cases D
                    case false =>
                      have HX : Hid (R = false) := hide (by
                        rw [HR.out]
                        exact pass_differs HPH.out (m := ⟨mn, mst, _, mk, mc, mps, ⟨mrn, mra⟩⟩) (n := ⟨mn, nst, _, nk, nc, nps, ⟨nrn, nra⟩⟩) (by rw [HMK.out]; exact List.getElem_mem hlk) (by rw [HN.out]; exact List.getElem_mem hlj) rfl (of_decide_eq_false HD.out.symm))
                      go_wp2_with fail
                      go_ret
                      exact ⟨by rw [HX.out] <;> rfl, hB3⟩
                    case true =>
                      have HI2 := hide (HIN.out.hit hlk (by show oms[k].n = mn; rw [← HMK.out]) (by show oms[k].p = _; rw [← HMK.out]; exact of_decide_eq_true HD.out.symm))
                      have HRM : Hid (kept + (c + 1) ≤ oms.length) := hide (room HSF.out HRI.out hlj (by have h := HI2.out; rw [HN.out] at h; exact h))
                      have hroom := HRM.out
                      have hol := HOML.out
                      have hbd : kept + c + 1 ≤ 9223372036854775807 := by omega
                      clear hroom hol
                      go_wp2_with fail
                      go_roundw
                      case rel => exact ⟨k + 1, true, c + 1, by omega, by go_num, rfl, by go_num, hb3', HI2.out⟩
                      case measure => simp [intOf]; omega
                  · have d : (mn == nn) = false := by simpa using e
                    have HI2 := hide (HIN.out.skip hlk (by show oms[k].n ≠ nn; rw [← HMK.out]; exact e))
                    subst hw2
                    go_wp2_with fail
                    go_roundw
                    case rel => exact ⟨k + 1, was, c, by omega, by go_num, rfl, rfl, hb2, HI2.out⟩
                    case measure => simp [intOf]; omega
                · obtain rfl : k = oml := by omega
                  have HDN : Hid (c = cntN oms nn ∧ (∀ m ∈ oms, m.n = nn → m.p = Sg.p ⟨nn, nst, nA, nk, nc, nps, ⟨nrn, nra⟩⟩) ∧ (was = true ↔ ∃ m ∈ oms, m.n = nn)) := hide (by
                    have h := HIN.out
                    rw [← HOML.out] at h
                    exact InFar.done h)
                  have HRM : Hid (kept + c ≤ oms.length) := hide (room HSF.out HRI.out hlj (by have h := HIN.out; rw [HN.out] at h; exact h))
                  obtain ⟨a0, a1, a2, a3, a4⟩ := cells1 hvx
                  have HST : Hid (was = true ∨ nst = true → SoFar ⟨on, osu, ofA, ofl, ofc, ofs, omA, k, omc, oms⟩ ⟨fn, fsu, ffA, ofl, ffc, ffs, some ⟨x, off, none⟩, fml, fmc, fms⟩ (j + 1) (kept + c)) := hide (fun h => by
                    have e : c = cntN oms fms[j].n := by rw [← HN.out]; exact HDN.out.1
                    rw [e]
                    refine HSF.out.step hlj (fun m hm => ?_) ?_
                    · show m.n = fms[j].n → m.p = fms[j].p
                      rw [← HN.out]; exact HDN.out.2.1 m hm
                    · show (∃ m ∈ oms, m.n = fms[j].n) ∨ fms[j].st = true
                      rw [← HN.out]
                      rcases h with h | h
                      · exact .inl (HDN.out.2.2.1 h)
                      · exact .inr h)
                  have HXX : Hid (was = false → nst = false → R = false) := hide (fun h1 h2 => by
                    rw [HR.out]
                    refine pass_new (n := ⟨nn, nst, nA, nk, nc, nps, ⟨nrn, nra⟩⟩) (by rw [HN.out]; exact List.getElem_mem hlj) (fun m hm e => ?_) h2
                    have := HDN.out.2.2.2 ⟨m, hm, e⟩
                    rw [h1] at this
                    cases this)
                  cases was
                  case true =>
                    have HS2 := hide (HST.out (.inl rfl))
                    clear HST HXX
                    go_wp2_with fail
                    go_roundw
                    case rel => exact ⟨j + 1, kept + c, by omega, by go_num, rfl, hb1.trans (hbx.mono hb1.size), HS2.out⟩
                    case measure => simp [intOf]; omega
                  case false =>
                    cases nst
                    case true =>
                      have HS2 := hide (HST.out (.inr rfl))
                      clear HST HXX
                      go_wp2_with fail
                      go_roundw
                      case rel => exact ⟨j + 1, kept + c, by omega, by go_num, rfl, hb1.trans (hbx.mono hb1.size), HS2.out⟩
                      case measure => simp [intOf]; omega
                    case false =>
                      have HX := hide (HXX.out rfl rfl)
                      clear HST HXX
                      go_wp2_with fail
                      go_ret
                      exact ⟨by rw [HX.out] <;> rfl, hBx⟩
            · obtain rfl : j = fml := by omega
              have HE : Hid (R = ((kept : Int) == (oml : Int))) := hide (by
                have h := HSF.out
                have h2 := HFML.out
                have h3 : SoFar ⟨on, osu, ofA, ofl, ofc, ofs, omA, oml, omc, oms⟩ ⟨fn, fsu, ffA, ofl, ffc, ffs, fmA, j, fmc, fms⟩ fms.length kept := by rw [h2]; exact h
                rw [HR.out, h3.done HPH.out]
                show decide (kept = oms.length) = _
                rw [HOML.out, Bool.eq_iff_iff]
                simp
                omega)
              have hi3 := hi2.below hbr hi2.lt
              obtain ⟨a0, a1, a2, a3⟩ := fcells hi3
              go_wp2_with fail
              go_ret
              exact ⟨by rw [HE.out]; rfl, hBr2⟩
end Go.Proofs.Ytbnplghbokpfmaa
