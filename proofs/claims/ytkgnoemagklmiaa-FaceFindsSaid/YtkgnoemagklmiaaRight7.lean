/- Whether a face is right, by the laws' own page, walked; no statement of the seat is proved here. -/
import Derived.Test.YtkgnoemagklmiaaFaceInj
import Derived.Deep.DeepCutAuto
import Derived.BigQuiet
import Derived.Sort.Walk0
namespace Go.Proofs.Ytkgnoemagklmiaa
open Go.RowKit

def lawN (s : List UInt8) : Bool := great s && decide (s.length ≤ 40)
theorem dec_le' (n b : Nat) : decide ((n : Int) ≤ (b : Int)) = decide (n ≤ b) := by
  by_cases h : n ≤ b
  · have : (n : Int) ≤ (b : Int) := by omega
    simp [h, this]
  · have : ¬ (n : Int) ≤ (b : Int) := by omega
    simp [h, this]

set_option maxRecDepth 100000 in
theorem lawn_any (s : List UInt8) (w : World) : Calls Try.prog 39 #[S s] w (Gives w (.bool (lawN s))) := by
  rcases s with _ | ⟨c, r⟩
  · go_enter Try.func39, Try.ntmps39
    go_wp2_with fail
    go_ret
    exact ⟨rfl, Below.refl _ _⟩
  · obtain ⟨R, hR⟩ : ∃ R, R = lawN (c :: r) := ⟨_, rfl⟩
    rw [← hR]
    obtain ⟨b1, d1⟩ : ∃ b, decide (65 ≤ (c.toNat : Int)) = b := ⟨_, rfl⟩
    obtain ⟨b2, d2⟩ : ∃ b, decide ((c.toNat : Int) ≤ 90) = b := ⟨_, rfl⟩
    obtain ⟨n, hn⟩ : ∃ n, n = (c :: r).length := ⟨_, rfl⟩
    have hRR : R = (b1 && b2 && decide (n ≤ 40)) := by rw [hR, ← d1, ← d2, hn]; rfl
    have HR := hide (fun _ : Unit => hRR)
    have hn1 : r.length + 1 = n := by rw [hn]; rfl
    clear hR hRR hn
    by_cases h4 : n ≤ 40
    all_goals
      first
        | have d3 : decide ((r.length : Int) + 1 ≤ 40) = true := by simp; omega
        | have d3 : decide ((r.length : Int) + 1 ≤ 40) = false := by simp; omega
      first
        | have d4 : decide (r.length + 1 ≤ 40) = true := by simp; omega
        | have d4 : decide (r.length + 1 ≤ 40) = false := by simp; omega
      first
        | have d5 : decide (r.length < 40) = true := by simp; omega
        | have d5 : decide (r.length < 40) = false := by simp; omega
      first
        | have d6 : decide (r.length ≤ 39) = true := by simp; omega
        | have d6 : decide (r.length ≤ 39) = false := by simp; omega
      cases b1 <;> cases b2
      all_goals
        go_enter Try.func39, Try.ntmps39
        go_wp2_with fail
        go_ret
        exact ⟨by rw [HR.out ()]; simp <;> omega, Below.refl _ _⟩

set_option maxRecDepth 100000 in
theorem good7_any (n : List UInt8) (a : Bool) (w : World) : Calls Try.prog 40 #[.agg #[S n, .bool a]] w (Gives w (.bool (Ty.good ⟨n, a⟩))) := by
  have hb : Below w.heap.size w (w.alloc (.cells #[S n, .bool a] 43)) := (Below.refl _ _).alloc (Nat.le_refl _) _
  by_cases e1 : n = nInt
  · have H : Hid (Ty.good ⟨n, a⟩ = true) := hide (by simp [Ty.good, e1])
    rw [H.out]
    subst e1
    clear H
    unfold nInt at *
    go_enter Try.func40, Try.ntmps40
    go_wp2_with fail
    go_ret
    exact ⟨rfl, hb⟩
  · have d1 : (n == [105, 110, 116]) = false := by simpa [nInt] using e1
    by_cases e2 : n = nBool
    · have H : Hid (Ty.good ⟨n, a⟩ = true) := hide (by simp [Ty.good, e2])
      rw [H.out]
      subst e2
      clear H d1 e1
      unfold nBool at *
      go_enter Try.func40, Try.ntmps40
      go_wp2_with fail
      go_ret
      exact ⟨rfl, hb⟩
    · have d2 : (n == [98, 111, 111, 108]) = false := by simpa [nBool] using e2
      have hG : Ty.good ⟨n, a⟩ = (great n && decide (n.length ≤ 40)) := by simp [Ty.good, e1, e2]
      rw [hG]
      clear hG e1 e2
      rcases n with _ | ⟨c, r⟩
      · clear d1 d2
        go_enter Try.func40, Try.ntmps40
        go_wp2_with fail
        go_ret
        exact ⟨rfl, hb⟩
      · obtain ⟨R, hR⟩ : ∃ R, R = (great (c :: r) && decide ((c :: r).length ≤ 40)) := ⟨_, rfl⟩
        rw [← hR]
        obtain ⟨b1, q1⟩ : ∃ b, decide (65 ≤ (c.toNat : Int)) = b := ⟨_, rfl⟩
        obtain ⟨b2, q2⟩ : ∃ b, decide ((c.toNat : Int) ≤ 90) = b := ⟨_, rfl⟩
        obtain ⟨m, hm⟩ : ∃ m, m = (c :: r).length := ⟨_, rfl⟩
        have hRR : R = (b1 && b2 && decide (m ≤ 40)) := by rw [hR, ← q1, ← q2, hm]; rfl
        have HR := hide (fun _ : Unit => hRR)
        have hn1 : r.length + 1 = m := by rw [hm]; rfl
        have HBW := hide hb
        clear hR hRR hm hb
        by_cases h4 : m ≤ 40
        all_goals
          first
            | have d3 : decide ((r.length : Int) + 1 ≤ 40) = true := by simp; omega
            | have d3 : decide ((r.length : Int) + 1 ≤ 40) = false := by simp; omega
          first
            | have d4 : decide (r.length + 1 ≤ 40) = true := by simp; omega
            | have d4 : decide (r.length + 1 ≤ 40) = false := by simp; omega
          first
            | have d5 : decide (r.length < 40) = true := by simp; omega
            | have d5 : decide (r.length < 40) = false := by simp; omega
          first
            | have d6 : decide (r.length ≤ 39) = true := by simp; omega
            | have d6 : decide (r.length ≤ 39) = false := by simp; omega
          cases b1 <;> cases b2
          all_goals
            go_enter Try.func40, Try.ntmps40
            go_wp2_with fail
            go_ret
            exact ⟨by rw [HR.out ()]; simp <;> omega, HBW.out⟩

theorem less_nil (s : List UInt8) : Op.bytesLess s [] = false := by cases s <;> rfl
theorem ge_leq (v p : List UInt8) : leqB v p = !Op.bytesLess p v := by
  unfold leqB
  rw [bytesLess_eq, bytesLess_eq]
  by_cases h1 : p < v
  · have h2 : ¬ v < p := fun h => List.lt_irrefl _ (List.lt_trans h h1)
    have h3 : ¬ v = p := fun h => by subst h; exact List.lt_irrefl _ h1
    simp [h1, h2, h3]
  · by_cases h2 : v < p
    · simp [h1, h2]
    · have h3 : v = p := List.le_antisymm (by simpa using h1) (by simpa using h2)
      subst h3
      simp [h1]
theorem leq_nil (s : List UInt8) : leqB s [] = (s == []) := by unfold leqB; rw [less_nil]; rfl
/-- The name ahead of the k-th. -/
def lastN {α : Type} (key : α → List UInt8) (l : List α) : Nat → List UInt8
  | 0 => []
  | k + 1 => match l[k]? with
    | some x => key x
    | none => []
theorem lastN_at {α : Type} (key : α → List UInt8) (l : List α) {k : Nat} (h : k < l.length) : lastN key l (k + 1) = key l[k] := by
  simp [lastN, h]
theorem headOk_law (f : Fc) : f.headOk = (lawN f.n && (f.su == [] || lawN f.su) && decide (f.fl ≤ 200) && decide (f.ml ≤ 200)) := by
  unfold Fc.headOk lawN
  cases hs : f.su == []
  · simp only [Bool.false_or]
    cases great f.n <;> cases great f.su <;> cases decide (f.fl ≤ 200) <;> cases decide (f.ml ≤ 200) <;> cases decide (f.n.length ≤ 40) <;> cases decide (f.su.length ≤ 40) <;> rfl
  · have e : f.su = [] := by simpa using hs
    rw [e]
    simp
    cases great f.n <;> cases decide (f.fl ≤ 200) <;> cases decide (f.ml ≤ 200) <;> cases decide (f.n.length ≤ 40) <;> rfl
set_option maxRecDepth 100000 in
set_option maxHeartbeats 16000000 in
theorem right7_any (f : Fc) (w : World) (h : f.at_ w (fun k => w.heap.size ≤ k)) : Calls Try.prog 16 #[f.val] w (Gives w (.bool f.right)) := by
  obtain ⟨R, hR⟩ : ∃ R, R = f.right := ⟨_, rfl⟩
  rw [← hR]
  have hho := headOk_law f
  obtain ⟨n, su, fA, fl, fc, fs, mA, ml, mc, ms⟩ := f
  obtain ⟨⟨hf, hfl, hfm, _⟩, ⟨hm, hml, hmm, hmok⟩, _, _⟩ := h
  simp only at hf hfl hfm hm hml hmm hmok hho
  obtain ⟨H, hH⟩ : ∃ H, H = Fc.headOk ⟨n, su, fA, fl, fc, fs, mA, ml, mc, ms⟩ := ⟨_, rfl⟩
  have HR : Hid (R = (H && riseV [] fs && riseM [] ms)) := hide (by rw [hR, hH]; rfl)
  have HH : Hid (H = (lawN n && (su == [] || lawN su) && decide (fl ≤ 200) && decide (ml ≤ 200))) := hide (hH.trans hho)
  have HM := hide hmok
  have HFL := hide hfl
  have HML := hide hml
  have HF := hide hf
  have HMR := hide hm
  have HFM := hide (And.intro hfm hmm)
  clear hmok hfl hml hR hH hho hf hm hfm hmm
  obtain ⟨wA, hwA⟩ : ∃ wA, wA = w.alloc (.cells #[S n, S su, .slice fA fl fc, .slice mA ml mc] 25) := ⟨_, rfl⟩
  have HB1 : Hid (Below w.heap.size w wA) := hide (by rw [hwA]; exact (Below.refl _ _).alloc (Nat.le_refl _) _)
  have HBK : Hid (Blk wA w.heap.size 25 #[S n, S su, .slice fA fl fc, .slice mA ml mc]) := hide (by rw [hwA]; exact Blk.new _ _ _)
  simp only [Fc.val]
  go_enter Try.func16, Try.ntmps16
  go_upto_region 2 with fail
  rw [← hwA]
  clear hwA
  go_cut [38] (fun v wx => v = .bool (!H) ∧ Hid (Below wA.heap.size wA wx))
  case first =>
    obtain ⟨H1, hH1⟩ : ∃ h, h = lawN n := ⟨_, rfl⟩
    obtain ⟨H2, hH2⟩ : ∃ h, h = lawN su := ⟨_, rfl⟩
    have HC1 := fun w => hide (lawn_any n w)
    have HC2 := fun w => hide (lawn_any su w)
    rw [← hH1] at HC1 HH
    rw [← hH2] at HC2 HH
    clear hH1 hH2
    have c0 := HBK.out.cell 0
    simp at c0
    go_wp2_with fail
    clear c0
    refine (HC1 _).out.mono ?_
    rintro e w2 ⟨rfl, hb2⟩
    have HB2 := hide hb2
    clear hb2
    have HK2 := hide (HBK.out.below HB2.out HBK.out.lt)
    have c1 := HK2.out.cell 1
    have c2 := HK2.out.cell 2
    have c3 := HK2.out.cell 3
    simp at c1 c2 c3
    cases H1 with
    | false =>
      have HX : Hid (H = false) := hide (by rw [HH.out]; simp)
      clear HH
      go_wp2_with fail
      go_meet
      exact ⟨by rw [HX.out]; rfl, HB2⟩
    | true =>
    obtain ⟨v1, d1⟩ : ∃ v, decide (200 < (fl : Int)) = v := ⟨_, rfl⟩
    obtain ⟨v2, d2⟩ : ∃ v, decide (200 < (ml : Int)) = v := ⟨_, rfl⟩
    have HH3 : Hid (H = ((su == [] || H2) && !v1 && !v2)) := hide (by rw [HH.out, dec_le fl 200, dec_le ml 200, ← d1, ← d2]; simp)
    clear HH
    by_cases e : su = []
    · subst e
      cases v1 <;> cases v2
      all_goals
        go_wp2_with fail
        go_meet
        exact ⟨by rw [HH3.out] <;> rfl, HB2⟩
    · have e' : (su == []) = false := by simpa using e
      go_wp2_with fail
      refine (HC2 _).out.mono ?_
      rintro e w3 ⟨rfl, hb3⟩
      have HB3 : Hid (Below wA.heap.size wA w3) := hide (HB2.out.trans (hb3.mono HB2.out.size))
      have HK3 := hide (HBK.out.below HB3.out HBK.out.lt)
      clear hb3 c1 c2 c3
      have c2 := HK3.out.cell 2
      have c3 := HK3.out.cell 3
      simp at c2 c3
      cases H2
      case false =>
        go_wp2_with fail
        go_meet
        exact ⟨by rw [HH3.out, e'] <;> rfl, HB3⟩
      case true =>
        cases v1 <;> cases v2
        all_goals
          go_wp2_with fail
          go_meet
          exact ⟨by rw [HH3.out, e'] <;> rfl, HB3⟩
  case rest =>
  obtain ⟨hv, HBC⟩ := hcut
  subst hv
  have HBW : Hid (Below w.heap.size w wc) := hide (HB1.out.trans (HBC.out.mono HB1.out.size))
  have HKC := hide (HBK.out.below HBC.out HBK.out.lt)
  clear HBC HBK HB1
  cases H with
  | false =>
    have HX : Hid (R = false) := hide (by rw [HR.out]; simp)
    go_wp2_with fail
    go_ret
    exact ⟨by rw [HX.out] <;> rfl, HBW.out⟩
  | true =>
  have HR2 : Hid (R = (riseV [] fs && riseM [] ms)) := hide (by rw [HR.out]; simp)
  have c2 := HKC.out.cell 2
  simp at c2
  clear HR HH
  go_wp2_with fail
  clear c2
  go_loopw [42] (fun i wr => ∃ k : Nat, k ≤ fl ∧ i = .int .i64 k ∧ Hid (Below wc.heap.size wc wr) ∧ Hid (riseV [] fs = riseV (lastN Vr.n fs k) (fs.drop k))) (fun i _ => fl - (intOf i).toNat)
  case atStart => exact ⟨0, Nat.zero_le _, rfl, hide (Below.refl _ _), hide rfl⟩
  case round =>
    obtain ⟨k, hk, rfl, HBR, HRS⟩ := hrel
    have HWR : Hid (Below w.heap.size w wr) := hide (HBW.out.trans (HBR.out.mono HBW.out.size))
    by_cases hlt : k < fl
    · obtain ⟨x, o, hA, _, hxl, hcell⟩ := Rd.rec_ (size := 3) (fun _ => rfl) (HF.out.below HWR.out) HFL.out k hlt
      subst hA
      have hlk : k < fs.length := by have := HFL.out; omega
      have HD : Hid (fs.drop k = fs[k] :: fs.drop (k + 1)) := hide (List.drop_eq_getElem_cons hlk)
      have HLS : Hid (lastN Vr.n fs (k + 1) = fs[k].n) := hide (lastN_at _ _ hlk)
      have HXX : Hid (∀ (w' : World), Below wr.heap.size wr w' → ∀ j : Nat, k = j + 1 → w'.cell? ⟨x, o + j * 3, none⟩ = some (S (lastN Vr.n fs k))) := hide (fun w' hb j hj => by
        subst hj
        have hjl : j < fs.length := by omega
        obtain ⟨x', o', e, _, hxl', hc⟩ := Rd.rec_ (size := 3) (fun _ => rfl) (HF.out.below HWR.out) HFL.out j (by omega)
        injection e with e
        injection e with e1 e2
        subst e1 e2
        have := hc 0 (S fs[j].n) rfl
        rw [lastN_at _ _ hjl]
        exact (World.cell?_of_block (w := wr) (hb.block x hxl)).trans this)
      generalize fs[k] = v at hcell HD HLS
      obtain ⟨vn, vt, va⟩ := v
      have q0 : wr.cell? ⟨x, o + k * 3, none⟩ = some (S vn) := hcell 0 _ rfl
      have q1 : wr.cell? ⟨x, o + k * 3 + 1, none⟩ = some (S vt) := hcell 1 _ rfl
      have q2 : wr.cell? ⟨x, o + k * 3 + 2, none⟩ = some (.bool va) := hcell 2 _ rfl
      have hki : (k : Int) < (fl : Int) := by omega
      have hkb : fl ≤ 9223372036854775807 := HFM.out.1
      clear hcell
      go_upto_region 7 with fail
      refine name_world ?_
      intro wC hwC
      have HBC : Hid (Below wr.heap.size wr wC) := hide (by rw [hwC]; exact (Below.refl _ _).alloc (Nat.le_refl _) _)
      have HWC : Hid (Below w.heap.size w wC) := hide (HWR.out.trans (HBC.out.mono HWR.out.size))
      have HVC : Hid (Blk wC wr.heap.size 45 #[S vn, S vt, .bool va]) := hide (by rw [hwC]; exact Blk.new _ _ _)
      have HFC := hide (HKC.out.below (HBR.out.trans (HBC.out.mono HBR.out.size)) HKC.out.lt)
      clear hwC q0 q1 q2
      obtain ⟨pv, hpv⟩ : ∃ p, p = wr.heap.size := ⟨_, rfl⟩
      rw [← hpv] at HVC ⊢
      clear hpv
      have HGO : Hid (∀ t : After wC, Calls Try.prog 40 #[.agg #[S vt, .bool va]] t.val (Gives t.val (.bool (Ty.good ⟨vt, va⟩)))) := hide (fun t => good7_any vt va t.val)
      obtain ⟨G, hG⟩ : ∃ G, G = Ty.good ⟨vt, va⟩ := ⟨_, rfl⟩
      rw [← hG] at HGO
      obtain ⟨ls, hls⟩ : ∃ ls, ls = lastN Vr.n fs k := ⟨_, rfl⟩
      rw [← hls] at HRS HXX
      obtain ⟨b0, d0⟩ : ∃ b, (vn == []) = b := ⟨_, rfl⟩
      obtain ⟨b3, d3⟩ : ∃ b, decide (40 < (vn.length : Int)) = b := ⟨_, rfl⟩
      obtain ⟨bl, dl⟩ : ∃ b, Op.bytesLess ls vn = b := ⟨_, rfl⟩
      have HE : Hid (riseV [] fs = (bl && !b3 && G && riseV vn (fs.drop (k + 1)))) := hide (by
        rw [HRS.out, HD.out, hG, ← d3, ← dl]
        show (!(leqB vn ls) && decide (vn.length ≤ 40) && Ty.good ⟨vt, va⟩ && riseV vn (fs.drop (k + 1))) = _
        rw [ge_leq, dec_le vn.length 40, Bool.not_not]
        rfl)
      have HB0 : Hid (b0 = true → bl = false) := hide (fun h => by
        have e : vn = [] := by rw [← d0] at h; simpa using h
        rw [← dl, e, less_nil])
      have HL0 : Hid (k = 0 → bl = !b0) := hide (fun h => by
        have e : ls = [] := by rw [hls, h]; rfl
        rw [← dl, ← d0, e]
        have := ge_leq vn []
        rw [leq_nil] at this
        rw [this, Bool.not_not])
      have HNX : Hid (lastN Vr.n fs (k + 1) = vn) := hide HLS.out
      clear hG hls HRS HD HLS
      have p0 : ∀ t : After wC, t.val.cell? ⟨pv, 0, none⟩ = some (S vn) := fun t => (HVC.out.below t.prop HVC.out.lt).cell 0
      have p1 : ∀ t : After wC, t.val.cell? ⟨pv, 1, none⟩ = some (S vt) := fun t => (HVC.out.below t.prop HVC.out.lt).cell 1
      have p2 : ∀ t : After wC, t.val.cell? ⟨pv, 2, none⟩ = some (.bool va) := fun t => (HVC.out.below t.prop HVC.out.lt).cell 2
      have pf : ∀ t : After wC, t.val.cell? ⟨w.heap.size, 2, none⟩ = some (.slice (some ⟨x, o, none⟩) fl fc) := fun t => (HFC.out.below t.prop HFC.out.lt).cell 2
      cases b0 with
      | true =>
        have hbl := HB0.out rfl
        have HX : Hid (R = false) := hide (by rw [HR2.out, HE.out, hbl]; simp)
        go_wp2_with fail
        refine region_after (by kernel_rfl) (by kernel_rfl) ?_
        repeat (go_big_quiet_step ((go_at_call 40; refine call_after (HGO.out _))))
        refine wpQuiet_nil ?_
        rintro _ ⟨t, rfl⟩
        go_wp2_with fail
        go_ret
        exact ⟨by rw [HX.out] <;> rfl, HWC.out.trans (t.prop.mono HWC.out.size)⟩
      | false =>
      cases b3 with
      | true =>
        have HX : Hid (R = false) := hide (by rw [HR2.out, HE.out]; simp)
        go_wp2_with fail
        refine region_after (by kernel_rfl) (by kernel_rfl) ?_
        repeat (go_big_quiet_step ((go_at_call 40; refine call_after (HGO.out _))))
        refine wpQuiet_nil ?_
        rintro _ ⟨t, rfl⟩
        go_wp2_with fail
        go_ret
        exact ⟨by rw [HX.out] <;> rfl, HWC.out.trans (t.prop.mono HWC.out.size)⟩
      | false =>
      cases G with
      | false =>
        have HX : Hid (R = false) := hide (by rw [HR2.out, HE.out]; simp)
        go_wp2_with fail
        refine region_after (by kernel_rfl) (by kernel_rfl) ?_
        repeat (go_big_quiet_step ((go_at_call 40; refine call_after (HGO.out _))))
        refine wpQuiet_nil ?_
        rintro _ ⟨t, rfl⟩
        go_wp2_with fail
        go_ret
        exact ⟨by rw [HX.out] <;> rfl, HWC.out.trans (t.prop.mono HWC.out.size)⟩
      | true =>
      by_cases h0 : k = 0
      · have hbl := HL0.out h0
        have HEE : Hid (riseV [] fs = (riseV vn (fs.drop (k + 1)))) := hide (by rw [HE.out, hbl]; simp)
        subst h0
        clear HXX HL0 HB0 HE
        go_wp2_with fail
        refine region_after (by kernel_rfl) (by kernel_rfl) ?_
        repeat (go_big_quiet_step ((go_at_call 40; refine call_after (HGO.out _))))
        refine wpQuiet_nil ?_
        rintro _ ⟨t, rfl⟩
        go_wp2_with fail
        go_roundw
        case rel => first
          | exact ⟨k + 1, by omega, by go_num, hide (HBR.out.trans ((HBC.out.trans (t.prop.mono HBC.out.size)).mono HBR.out.size)), hide (by rw [HEE.out, HNX.out])⟩
          | exact ⟨1, by omega, by go_num, hide (HBR.out.trans ((HBC.out.trans (t.prop.mono HBC.out.size)).mono HBR.out.size)), hide (by rw [HEE.out, HNX.out])⟩
        case measure => simp [intOf]; omega
      · obtain ⟨m, hm⟩ : ∃ m, k = m + 1 := ⟨k - 1, by omega⟩
        have e0 : IntKind.i64.wrap ((k : Int) - 1) = (m : Int) := by rw [IntWalk.i64_in _ (by omega)]; omega
        have q0 : 0 < k := by omega
        have q1 : (0 : Int) < (k : Int) := by omega
        have q2 : (m : Int) < (fl : Int) := by omega
        have q3 : (0 : Int) ≤ (m : Int) := by omega
        have pm : ∀ t : After wC, t.val.cell? ⟨x, o + m * 3, none⟩ = some (S ls) := fun t => HXX.out t.val (HBC.out.trans (t.prop.mono HBC.out.size)) m hm
        clear hm
        cases bl with
        | false =>
          have HX : Hid (R = false) := hide (by rw [HR2.out, HE.out]; simp)
          go_wp2_with fail
          refine region_after (by kernel_rfl) (by kernel_rfl) ?_
          repeat (go_big_quiet_step ((go_at_call 40; refine call_after (HGO.out _))))
          refine wpQuiet_nil ?_
          rintro _ ⟨t, rfl⟩
          go_wp2_with fail
          go_ret
          exact ⟨by rw [HX.out] <;> rfl, HWC.out.trans (t.prop.mono HWC.out.size)⟩
        | true =>
          have HEE : Hid (riseV [] fs = (riseV vn (fs.drop (k + 1)))) := hide (by rw [HE.out]; simp)
          clear HXX HL0 HB0 HE
          go_wp2_with fail
          refine region_after (by kernel_rfl) (by kernel_rfl) ?_
          repeat (go_big_quiet_step ((go_at_call 40; refine call_after (HGO.out _))))
          refine wpQuiet_nil ?_
          rintro _ ⟨t, rfl⟩
          go_wp2_with fail
          go_roundw
          case rel => first
            | exact ⟨k + 1, by omega, by go_num, hide (HBR.out.trans ((HBC.out.trans (t.prop.mono HBC.out.size)).mono HBR.out.size)), hide (by rw [HEE.out, HNX.out])⟩
            | exact ⟨1, by omega, by go_num, hide (HBR.out.trans ((HBC.out.trans (t.prop.mono HBC.out.size)).mono HBR.out.size)), hide (by rw [HEE.out, HNX.out])⟩
          case measure => simp [intOf]; omega
    · have HRF : Hid (R = riseM [] ms) := hide (by rw [HR2.out, HRS.out, List.drop_of_length_le (by have := HFL.out; omega)]; simp [riseV])
      clear HRS HR2
      obtain ⟨wB, rfl⟩ : ∃ wB : World, wB = wr := ⟨_, rfl⟩
      have HKB := hide (HKC.out.below HBR.out HKC.out.lt)
      have HWB := HWR
      clear HKC HBW HBR HWR
      have c3 := HKB.out.cell 3
      simp at c3
      go_wp2_with fail
      clear c3
      go_loopw [82] (fun i wr => ∃ k : Nat, k ≤ ml ∧ i = .int .i64 k ∧ Hid (Below wB.heap.size wB wr) ∧ Hid (riseM [] ms = riseM (lastN Sg.n ms k) (ms.drop k))) (fun i _ => ml - (intOf i).toNat)
      case atStart => exact ⟨0, Nat.zero_le _, rfl, hide (Below.refl _ _), hide rfl⟩
      case round =>
        obtain ⟨k, hk, rfl, HBR, HRS⟩ := hrel
        have HWR : Hid (Below w.heap.size w wr) := hide (HWB.out.trans (HBR.out.mono HWB.out.size))
        by_cases hlt : k < ml
        · obtain ⟨x, o, hA, _, hxl, hcell⟩ := Rd.rec_ (size := 5) (fun _ => rfl) (HMR.out.below HWR.out) HML.out k hlt
          subst hA
          have hlk : k < ms.length := by have := HML.out; omega
          have HD : Hid (ms.drop k = ms[k] :: ms.drop (k + 1)) := hide (List.drop_eq_getElem_cons hlk)
          have HLS : Hid (lastN Sg.n ms (k + 1) = ms[k].n) := hide (lastN_at _ _ hlk)
          have HXX : Hid (∀ (w' : World), Below wr.heap.size wr w' → ∀ j : Nat, k = j + 1 → w'.cell? ⟨x, o + j * 5, none⟩ = some (S (lastN Sg.n ms k))) := hide (fun w' hb j hj => by
            subst hj
            have hjl : j < ms.length := by omega
            obtain ⟨x', o', e, _, hxl', hc⟩ := Rd.rec_ (size := 5) (fun _ => rfl) (HMR.out.below HWR.out) HML.out j (by omega)
            injection e with e
            injection e with e1 e2
            subst e1 e2
            have := hc 0 (S ms[j].n) rfl
            rw [lastN_at _ _ hjl]
            exact (World.cell?_of_block (w := wr) (hb.block x hxl)).trans this)
          have HMW := hide (HM.out _ (List.getElem_mem hlk))
          generalize ms[k] = v at hcell HD HLS HMW
          obtain ⟨vn, vs, vA, vk, vc, vp, vr, va⟩ := v
          have q0 : wr.cell? ⟨x, o + k * 5, none⟩ = some (S vn) := hcell 0 _ rfl
          have q1 : wr.cell? ⟨x, o + k * 5 + 1, none⟩ = some (.bool vs) := hcell 1 _ rfl
          have q2 : wr.cell? ⟨x, o + k * 5 + 2, none⟩ = some (.slice vA vk vc) := hcell 2 _ rfl
          have q3 : wr.cell? ⟨x, o + k * 5 + 3, none⟩ = some (S vr) := hcell 3 _ rfl
          have q4 : wr.cell? ⟨x, o + k * 5 + 4, none⟩ = some (.bool va) := hcell 4 _ rfl
          have hki : (k : Int) < (ml : Int) := by omega
          have hkb : ml ≤ 9223372036854775807 := HFM.out.2
          clear hcell
          go_upto_region 13 with fail
          refine name_world ?_
          intro wC hwC
          have HBC : Hid (Below wr.heap.size wr wC) := hide (by rw [hwC]; exact (Below.refl _ _).alloc (Nat.le_refl _) _)
          have HWC : Hid (Below w.heap.size w wC) := hide (HWR.out.trans (HBC.out.mono HWR.out.size))
          have HVC : Hid (Blk wC wr.heap.size 58 #[S vn, .bool vs, .slice vA vk vc, S vr, .bool va]) := hide (by rw [hwC]; exact Blk.new _ _ _)
          have HFC := hide (HKB.out.below (HBR.out.trans (HBC.out.mono HBR.out.size)) HKB.out.lt)
          clear hwC q0 q1 q2 q3 q4
          obtain ⟨pv, hpv⟩ : ∃ p, p = wr.heap.size := ⟨_, rfl⟩
          rw [← hpv] at HVC ⊢
          clear hpv
          have HGO : Hid (∀ t : After wC, Calls Try.prog 40 #[.agg #[S vr, .bool va]] t.val (Gives t.val (.bool (Ty.good ⟨vr, va⟩)))) := hide (fun t => good7_any vr va t.val)
          obtain ⟨G, hG⟩ : ∃ G, G = Ty.good ⟨vr, va⟩ := ⟨_, rfl⟩
          rw [← hG] at HGO
          obtain ⟨ls, hls⟩ : ∃ ls, ls = lastN Sg.n ms k := ⟨_, rfl⟩
          rw [← hls] at HRS HXX
          obtain ⟨b0, d0⟩ : ∃ b, (vn == []) = b := ⟨_, rfl⟩
          obtain ⟨b3, d3⟩ : ∃ b, decide (40 < (vn.length : Int)) = b := ⟨_, rfl⟩
          obtain ⟨bl, dl⟩ : ∃ b, Op.bytesLess ls vn = b := ⟨_, rfl⟩
          obtain ⟨b4, d4⟩ : ∃ b, decide (200 < (vk : Int)) = b := ⟨_, rfl⟩
          obtain ⟨NG, hNG⟩ : ∃ b, b = (vp.any fun t => !t.good) := ⟨_, rfl⟩
          have HE : Hid (riseM [] ms = (bl && !b3 && (G && !b4 && !NG) && riseM vn (ms.drop (k + 1)))) := hide (by
            rw [HRS.out, HD.out, hG, hNG, ← d3, ← dl, ← d4]
            show (!(leqB vn ls) && decide (vn.length ≤ 40) && (Ty.good ⟨vr, va⟩ && decide (vk ≤ 200) && !(vp.any fun t => !t.good)) && riseM vn (ms.drop (k + 1))) = _
            rw [ge_leq, dec_le vn.length 40, dec_le vk 200, Bool.not_not]
            rfl)
          have HB0 : Hid (b0 = true → bl = false) := hide (fun h => by
            have e : vn = [] := by rw [← d0] at h; simpa using h
            rw [← dl, e, less_nil])
          have HL0 : Hid (k = 0 → bl = !b0) := hide (fun h => by
            have e : ls = [] := by rw [hls, h]; rfl
            rw [← dl, ← d0, e]
            have := ge_leq vn []
            rw [leq_nil] at this
            rw [this, Bool.not_not])
          have HNX : Hid (lastN Sg.n ms (k + 1) = vn) := hide HLS.out
          clear hG hls HRS HD HLS
          have p0 : ∀ t : After wC, t.val.cell? ⟨pv, 0, none⟩ = some (S vn) := fun t => (HVC.out.below t.prop HVC.out.lt).cell 0
          have p1 : ∀ t : After wC, t.val.cell? ⟨pv, 1, none⟩ = some (.bool vs) := fun t => (HVC.out.below t.prop HVC.out.lt).cell 1
          have p2 : ∀ t : After wC, t.val.cell? ⟨pv, 2, none⟩ = some (.slice vA vk vc) := fun t => (HVC.out.below t.prop HVC.out.lt).cell 2
          have p3 : ∀ t : After wC, t.val.cell? ⟨pv, 3, none⟩ = some (S vr) := fun t => (HVC.out.below t.prop HVC.out.lt).cell 3
          have p4 : ∀ t : After wC, t.val.cell? ⟨pv, 4, none⟩ = some (.bool va) := fun t => (HVC.out.below t.prop HVC.out.lt).cell 4
          have pf : ∀ t : After wC, t.val.cell? ⟨w.heap.size, 3, none⟩ = some (.slice (some ⟨x, o, none⟩) ml mc) := fun t => (HFC.out.below t.prop HFC.out.lt).cell 3
          cases b0 with
          | true =>
            have hbl := HB0.out rfl
            have HX : Hid (R = false) := hide (by rw [HRF.out, HE.out, hbl]; simp)
            go_wp2_with fail
            refine region_after (by kernel_rfl) (by kernel_rfl) ?_
            repeat (go_big_quiet_step ((go_at_call 40; refine call_after (HGO.out _))))
            refine wpQuiet_nil ?_
            rintro _ ⟨t, rfl⟩
            go_wp2_with fail
            go_ret
            exact ⟨by rw [HX.out] <;> rfl, HWC.out.trans (t.prop.mono HWC.out.size)⟩
          | false =>
          cases b3 with
          | true =>
            have HX : Hid (R = false) := hide (by rw [HRF.out, HE.out]; simp)
            go_wp2_with fail
            refine region_after (by kernel_rfl) (by kernel_rfl) ?_
            repeat (go_big_quiet_step ((go_at_call 40; refine call_after (HGO.out _))))
            refine wpQuiet_nil ?_
            rintro _ ⟨t, rfl⟩
            go_wp2_with fail
            go_ret
            exact ⟨by rw [HX.out] <;> rfl, HWC.out.trans (t.prop.mono HWC.out.size)⟩
          | false =>
          cases G with
          | false =>
            have HX : Hid (R = false) := hide (by rw [HRF.out, HE.out]; simp)
            go_wp2_with fail
            refine region_after (by kernel_rfl) (by kernel_rfl) ?_
            repeat (go_big_quiet_step ((go_at_call 40; refine call_after (HGO.out _))))
            refine wpQuiet_nil ?_
            rintro _ ⟨t, rfl⟩
            go_wp2_with fail
            go_ret
            exact ⟨by rw [HX.out] <;> rfl, HWC.out.trans (t.prop.mono HWC.out.size)⟩
          | true =>
          cases b4 with
          | true =>
            have HX : Hid (R = false) := hide (by rw [HRF.out, HE.out]; simp)
            go_wp2_with fail
            refine region_after (by kernel_rfl) (by kernel_rfl) ?_
            repeat (go_big_quiet_step ((go_at_call 40; refine call_after (HGO.out _))))
            refine wpQuiet_nil ?_
            rintro _ ⟨t, rfl⟩
            go_wp2_with fail
            go_ret
            exact ⟨by rw [HX.out] <;> rfl, HWC.out.trans (t.prop.mono HWC.out.size)⟩
          | false =>
          by_cases h0 : k = 0
          · have hbl := HL0.out h0
            have HEE : Hid (riseM [] ms = (!NG && riseM vn (ms.drop (k + 1)))) := hide (by rw [HE.out, hbl]; simp)
            subst h0
            clear HXX HL0 HB0 HE
            go_wp2_with fail
            refine region_after (by kernel_rfl) (by kernel_rfl) ?_
            repeat (go_big_quiet_step ((go_at_call 40; refine call_after (HGO.out _))))
            refine wpQuiet_nil ?_
            rintro _ ⟨t, rfl⟩
            have HPS := hide HMW.out.1
            have HPN := hide HMW.out.2.1
            have hpk := HMW.out.2.2.1
            simp only at HPS HPN hpk
            obtain ⟨wD, hwD⟩ : ∃ wD, wD = t.val := ⟨_, rfl⟩
            have HWD : Hid (Below w.heap.size w wD) := hide (by rw [hwD]; exact HWC.out.trans (t.prop.mono HWC.out.size))
            have HRD2 : Hid (Below wr.heap.size wr wD) := hide (by rw [hwD]; exact HBC.out.trans (t.prop.mono HBC.out.size))
            have HVD := hide (show Blk wD pv _ _ by rw [hwD]; exact HVC.out.below t.prop HVC.out.lt)
            rw [← hwD]
            clear hwD p0 p1 p2 p3 p4 pf
            have p2 := HVD.out.cell 2
            simp at p2
            go_wp2_with fail
            clear p2
            obtain ⟨wo, rfl⟩ : ∃ wo : World, wo = wr := ⟨_, rfl⟩
            go_loopw [127] (fun i wr => ∃ j : Nat, j ≤ vk ∧ i = .int .i64 j ∧ Hid (Below wD.heap.size wD wr) ∧ Hid (NG = ((vp.drop j).any fun t => !t.good))) (fun i _ => vk - (intOf i).toNat)
            case atStart => exact ⟨0, Nat.zero_le _, rfl, hide (Below.refl _ _), hide hNG⟩
            case round =>
              obtain ⟨j, hj, rfl, HBJ, HNJ⟩ := hrel
              have HWJ : Hid (Below w.heap.size w wr) := hide (HWD.out.trans (HBJ.out.mono HWD.out.size))
              by_cases hlt2 : j < vk
              · obtain ⟨y, o2, hA2, _, _, hcell⟩ := Rd.rec_ (size := 2) (fun _ => rfl) (HPS.out.below HWJ.out) HPN.out j hlt2
                subst hA2
                have hlj : j < vp.length := by have := HPN.out; omega
                have HDJ : Hid ((vp.drop j).any (fun t => !t.good) = (!vp[j].good || (vp.drop (j + 1)).any fun t => !t.good)) := hide (by rw [List.drop_eq_getElem_cons hlj, List.any_cons])
                generalize vp[j] = u at hcell HDJ
                obtain ⟨un, ua⟩ := u
                have u0 : wr.cell? ⟨y, o2 + j * 2, none⟩ = some (S un) := hcell 0 _ rfl
                have u1 : wr.cell? ⟨y, o2 + j * 2 + 1, none⟩ = some (.bool ua) := hcell 1 _ rfl
                have hji : (j : Int) < (vk : Int) := by omega
                clear hcell
                obtain ⟨GU, hGU⟩ : ∃ G, G = Ty.good ⟨un, ua⟩ := ⟨_, rfl⟩
                have HGU := fun w => hide (good7_any un ua w)
                rw [← hGU] at HDJ HGU
                clear hGU
                go_upto_region 18 with fail
                refine name_world ?_
                intro wE hwE
                have HBE : Hid (Below wD.heap.size wD wE) := hide (by rw [hwE]; exact HBJ.out.alloc HBJ.out.size _)
                have HTE : Hid (Blk wE wr.heap.size 43 #[S un, .bool ua]) := hide (by rw [hwE]; exact Blk.new _ _ _)
                clear hwE u0 u1
                have u0 := HTE.out.cell 0
                have u1 := HTE.out.cell 1
                simp at u0 u1
                go_wp2_with fail
                refine (HGU _).out.mono ?_
                rintro e wG ⟨rfl, hbg⟩
                have HBG : Hid (Below wD.heap.size wD wG) := hide (HBE.out.trans (hbg.mono HBE.out.size))
                clear hbg u0 u1 HGU
                cases GU with
                | false =>
                  have HX : Hid (R = false) := hide (by rw [HRF.out, HEE.out, HNJ.out, HDJ.out]; simp)
                  go_wp2_with fail
                  go_ret
                  exact ⟨by rw [HX.out] <;> rfl, HWD.out.trans (HBG.out.mono HWD.out.size)⟩
                | true =>
                  have HNJ2 : Hid (NG = ((vp.drop (j + 1)).any fun t => !t.good)) := hide (by rw [HNJ.out, HDJ.out]; simp)
                  go_wp2_with fail
                  go_roundw
                  case rel => first | exact ⟨j + 1, by omega, by go_num, HBG, HNJ2⟩ | ((repeat apply Exists.intro); exact ⟨⟨j + 1, by omega, by go_num, HBG, HNJ2⟩, rfl⟩)
                  case measure => simp [intOf]; omega
              · have HNF : Hid (NG = false) := hide (by rw [HNJ.out, List.drop_of_length_le (by have := HPN.out; omega)]; rfl)
                go_wp2_with fail
                go_roundw
                case rel => first
                  | exact ⟨k + 1, by omega, by go_num, hide (HBR.out.trans ((HRD2.out.trans (HBJ.out.mono HRD2.out.size)).mono HBR.out.size)), hide (by rw [HEE.out, HNX.out, HNF.out]; simp)⟩
                  | exact ⟨1, by omega, by go_num, hide (HBR.out.trans ((HRD2.out.trans (HBJ.out.mono HRD2.out.size)).mono HBR.out.size)), hide (by rw [HEE.out, HNX.out, HNF.out]; simp)⟩
                  | ((repeat apply Exists.intro); exact ⟨⟨k + 1, by omega, by go_num, hide (HBR.out.trans ((HRD2.out.trans (HBJ.out.mono HRD2.out.size)).mono HBR.out.size)), hide (by rw [HEE.out, HNX.out, HNF.out]; simp)⟩, rfl⟩)
                case measure => simp [intOf]; omega
          · obtain ⟨m, hm⟩ : ∃ m, k = m + 1 := ⟨k - 1, by omega⟩
            have e0 : IntKind.i64.wrap ((k : Int) - 1) = (m : Int) := by rw [IntWalk.i64_in _ (by omega)]; omega
            have q0 : 0 < k := by omega
            have q1 : (0 : Int) < (k : Int) := by omega
            have q2 : (m : Int) < (ml : Int) := by omega
            have q3 : (0 : Int) ≤ (m : Int) := by omega
            have pm : ∀ t : After wC, t.val.cell? ⟨x, o + m * 5, none⟩ = some (S ls) := fun t => HXX.out t.val (HBC.out.trans (t.prop.mono HBC.out.size)) m hm
            clear hm
            cases bl with
            | false =>
              have HX : Hid (R = false) := hide (by rw [HRF.out, HE.out]; simp)
              go_wp2_with fail
              refine region_after (by kernel_rfl) (by kernel_rfl) ?_
              repeat (go_big_quiet_step ((go_at_call 40; refine call_after (HGO.out _))))
              refine wpQuiet_nil ?_
              rintro _ ⟨t, rfl⟩
              go_wp2_with fail
              go_ret
              exact ⟨by rw [HX.out] <;> rfl, HWC.out.trans (t.prop.mono HWC.out.size)⟩
            | true =>
              have HEE : Hid (riseM [] ms = (!NG && riseM vn (ms.drop (k + 1)))) := hide (by rw [HE.out]; simp)
              clear HXX HL0 HB0 HE
              go_wp2_with fail
              refine region_after (by kernel_rfl) (by kernel_rfl) ?_
              repeat (go_big_quiet_step ((go_at_call 40; refine call_after (HGO.out _))))
              refine wpQuiet_nil ?_
              rintro _ ⟨t, rfl⟩
              have HPS := hide HMW.out.1
              have HPN := hide HMW.out.2.1
              have hpk := HMW.out.2.2.1
              simp only at HPS HPN hpk
              obtain ⟨wD, hwD⟩ : ∃ wD, wD = t.val := ⟨_, rfl⟩
              have HWD : Hid (Below w.heap.size w wD) := hide (by rw [hwD]; exact HWC.out.trans (t.prop.mono HWC.out.size))
              have HRD2 : Hid (Below wr.heap.size wr wD) := hide (by rw [hwD]; exact HBC.out.trans (t.prop.mono HBC.out.size))
              have HVD := hide (show Blk wD pv _ _ by rw [hwD]; exact HVC.out.below t.prop HVC.out.lt)
              rw [← hwD]
              clear hwD p0 p1 p2 p3 p4 pf
              have p2 := HVD.out.cell 2
              simp at p2
              go_wp2_with fail
              clear p2
              obtain ⟨wo, rfl⟩ : ∃ wo : World, wo = wr := ⟨_, rfl⟩
              go_loopw [127] (fun i wr => ∃ j : Nat, j ≤ vk ∧ i = .int .i64 j ∧ Hid (Below wD.heap.size wD wr) ∧ Hid (NG = ((vp.drop j).any fun t => !t.good))) (fun i _ => vk - (intOf i).toNat)
              case atStart => exact ⟨0, Nat.zero_le _, rfl, hide (Below.refl _ _), hide hNG⟩
              case round =>
                obtain ⟨j, hj, rfl, HBJ, HNJ⟩ := hrel
                have HWJ : Hid (Below w.heap.size w wr) := hide (HWD.out.trans (HBJ.out.mono HWD.out.size))
                by_cases hlt2 : j < vk
                · obtain ⟨y, o2, hA2, _, _, hcell⟩ := Rd.rec_ (size := 2) (fun _ => rfl) (HPS.out.below HWJ.out) HPN.out j hlt2
                  subst hA2
                  have hlj : j < vp.length := by have := HPN.out; omega
                  have HDJ : Hid ((vp.drop j).any (fun t => !t.good) = (!vp[j].good || (vp.drop (j + 1)).any fun t => !t.good)) := hide (by rw [List.drop_eq_getElem_cons hlj, List.any_cons])
                  generalize vp[j] = u at hcell HDJ
                  obtain ⟨un, ua⟩ := u
                  have u0 : wr.cell? ⟨y, o2 + j * 2, none⟩ = some (S un) := hcell 0 _ rfl
                  have u1 : wr.cell? ⟨y, o2 + j * 2 + 1, none⟩ = some (.bool ua) := hcell 1 _ rfl
                  have hji : (j : Int) < (vk : Int) := by omega
                  clear hcell
                  obtain ⟨GU, hGU⟩ : ∃ G, G = Ty.good ⟨un, ua⟩ := ⟨_, rfl⟩
                  have HGU := fun w => hide (good7_any un ua w)
                  rw [← hGU] at HDJ HGU
                  clear hGU
                  go_upto_region 18 with fail
                  refine name_world ?_
                  intro wE hwE
                  have HBE : Hid (Below wD.heap.size wD wE) := hide (by rw [hwE]; exact HBJ.out.alloc HBJ.out.size _)
                  have HTE : Hid (Blk wE wr.heap.size 43 #[S un, .bool ua]) := hide (by rw [hwE]; exact Blk.new _ _ _)
                  clear hwE u0 u1
                  have u0 := HTE.out.cell 0
                  have u1 := HTE.out.cell 1
                  simp at u0 u1
                  go_wp2_with fail
                  refine (HGU _).out.mono ?_
                  rintro e wG ⟨rfl, hbg⟩
                  have HBG : Hid (Below wD.heap.size wD wG) := hide (HBE.out.trans (hbg.mono HBE.out.size))
                  clear hbg u0 u1 HGU
                  cases GU with
                  | false =>
                    have HX : Hid (R = false) := hide (by rw [HRF.out, HEE.out, HNJ.out, HDJ.out]; simp)
                    go_wp2_with fail
                    go_ret
                    exact ⟨by rw [HX.out] <;> rfl, HWD.out.trans (HBG.out.mono HWD.out.size)⟩
                  | true =>
                    have HNJ2 : Hid (NG = ((vp.drop (j + 1)).any fun t => !t.good)) := hide (by rw [HNJ.out, HDJ.out]; simp)
                    go_wp2_with fail
                    go_roundw
                    case rel => first | exact ⟨j + 1, by omega, by go_num, HBG, HNJ2⟩ | ((repeat apply Exists.intro); exact ⟨⟨j + 1, by omega, by go_num, HBG, HNJ2⟩, rfl⟩)
                    case measure => simp [intOf]; omega
                · have HNF : Hid (NG = false) := hide (by rw [HNJ.out, List.drop_of_length_le (by have := HPN.out; omega)]; rfl)
                  go_wp2_with fail
                  go_roundw
                  case rel => first
                    | exact ⟨k + 1, by omega, by go_num, hide (HBR.out.trans ((HRD2.out.trans (HBJ.out.mono HRD2.out.size)).mono HBR.out.size)), hide (by rw [HEE.out, HNX.out, HNF.out]; simp)⟩
                    | exact ⟨1, by omega, by go_num, hide (HBR.out.trans ((HRD2.out.trans (HBJ.out.mono HRD2.out.size)).mono HBR.out.size)), hide (by rw [HEE.out, HNX.out, HNF.out]; simp)⟩
                    | ((repeat apply Exists.intro); exact ⟨⟨k + 1, by omega, by go_num, hide (HBR.out.trans ((HRD2.out.trans (HBJ.out.mono HRD2.out.size)).mono HBR.out.size)), hide (by rw [HEE.out, HNX.out, HNF.out]; simp)⟩, rfl⟩)
                  case measure => simp [intOf]; omega
        · have HRT : Hid (R = true) := hide (by rw [HRF.out, HRS.out, List.drop_of_length_le (by have := HML.out; omega)]; rfl)
          go_wp2_with fail
          go_ret
          exact ⟨by rw [HRT.out] <;> rfl, HWR.out⟩
end Go.Proofs.Ytkgnoemagklmiaa
