/- Whether a class's file is right, walked; no statement of the seat is proved here. -/
import Derived.Test.YtkldfbacagnhoaaDoorClsR2
namespace Go.Proofs.YtkldfbacagnhoaaDoor
open Go.RowKit

theorem i64_le {a b : Int} {c : Bool} (h : decide (a < b) = c) : decide (b ≤ a) = !c := by
  rw [← h]
  by_cases h : a < b
  · have : ¬ b ≤ a := by omega
    simp [h, this]
  · have : b ≤ a := by omega
    simp [h, this]

theorem rise_k : ∀ (ms : List Sg) (last : List UInt8), riseM last ms = true → ∀ m ∈ ms, m.k ≤ 200
  | [], _, _, m, hm => by cases hm
  | x :: ms, last, h, m, hm => by
    simp only [riseM, Bool.and_eq_true] at h
    rcases List.mem_cons.1 hm with rfl | hm
    · have := h.1.2
      simp only [Sg.good, Bool.and_eq_true, decide_eq_true_eq] at this
      exact this.1.2
    · exact rise_k ms x.n h.2 m hm
theorem right_k {f : Fc} (h : f.right = true) : ∀ m ∈ f.ms, m.k ≤ 200 := by
  simp only [Fc.right, Bool.and_eq_true] at h
  exact rise_k _ _ h.2

set_option maxRecDepth 100000 in
set_option maxHeartbeats 8000000 in
theorem fright_any (f : Fl) (w : World) (hm : Laid w) (h : f.at_ w (fun k => w.heap.size ≤ k)) : Calls Tryd.prog 12 #[f.val] w (Gives w (.bool f.pl.right)) := by
  have HAT := hide h
  have HM := hide hm
  clear hm
  obtain ⟨R, hR⟩ : ∃ R, R = f.pl.right := ⟨_, rfl⟩
  rw [← hR]
  obtain ⟨F1, hF1⟩ : ∃ F1, F1 = f.f.right := ⟨_, rfl⟩
  obtain ⟨P1, hP1⟩ : ∃ P1, P1 = prV f := ⟨_, rfl⟩
  obtain ⟨p, hp⟩ : ∃ p, p = f.ppl := ⟨_, rfl⟩
  obtain ⟨M, hM⟩ : ∃ M, M = f.f.ms.map Sg.pl := ⟨_, rfl⟩
  obtain ⟨Bs, hBs⟩ : ∃ Bs, Bs = f.bs.map Bd.pl := ⟨_, rfl⟩
  have HR0 : Hid (R = (F1 && P1 && decide (Bs.length = M.length) && bodiesOk p M Bs)) := hide (by
    rw [hR, hF1, hP1, Fc.right_pl h.fa, prV_eq h.po, hp, hM, hBs]; rfl)
  have HFR := fun w' (hb : Below w.heap.size w w') => hide (right_any f.f w' ((h.fa.below hb).weak (G := fun k => w'.heap.size ≤ k) (fun k hk => by have := hb.size; omega)))
  have HPR := fun w' (hb : Below w.heap.size w w') => hide (pright_any f w' ((h.po.below hb).weak (G := fun k => w'.heap.size ≤ k) (fun k hk => by have := hb.size; omega)))
  rw [← hF1] at HFR
  rw [← hP1] at HPR
  have hML : M.length = f.f.ml := by rw [hM, List.length_map]; exact h.fa.2.1.2.1
  have hBL : Bs.length = f.bl := by rw [hBs, List.length_map]; exact h.bL
  have hbB := h.bB
  have hmB : f.f.ml ≤ 9223372036854775807 := h.fa.2.1.2.2.1
  have HMS := hide (fun _ : Unit => hM)
  have HBS := hide (fun _ : Unit => hBs)
  have HPP := hide (fun _ : Unit => hp)
  have HF1R := hide (fun _ : Unit => hF1)
  clear h hR hF1 hP1 hM hBs hp
  go_enter Tryd.func12, Tryd.ntmps12
  go_upto_region 1 with fail
  refine name_world ?_
  intro wA hwA
  have HB1 : Hid (Below w.heap.size w wA) := hide (by rw [hwA]; exact (Below.refl _ _).alloc (Nat.le_refl _) _)
  have HK : Hid (Blk wA w.heap.size 36 f.cells.toArray) := hide (by rw [hwA]; exact Blk.new _ _ _)
  clear hwA
  have k0 := HK.out.cell 0
  have k1 := HK.out.cell 1
  have k2 := HK.out.cell 2
  have k3 := HK.out.cell 3
  simp at k0 k1 k2 k3
  have HF1 := hide (HFR wA HB1.out).out
  go_wp2_with fail
  clear k0 k1 k2 k3
  go_at_call 33
  refine HF1.out.mono ?_
  rintro e w2 ⟨rfl, hb2⟩
  have HB2 : Hid (Below w.heap.size w w2) := hide (HB1.out.trans (hb2.mono HB1.out.size))
  have HK2 := hide (HK.out.below hb2 HK.out.lt)
  clear hb2 HB1 HK HF1 HFR
  cases F1 with
  | false =>
    have HF : Hid (R = false) := hide (by rw [HR0.out]; rfl)
    clear HR0
    go_wp2_with fail
    go_ret
    exact ⟨by rw [HF.out] <;> rfl, HB2.out⟩
  | true =>
    have k4 := HK2.out.cell 4
    have k5 := HK2.out.cell 5
    have k6 := HK2.out.cell 6
    have k7 := HK2.out.cell 7
    have k8 := HK2.out.cell 8
    simp at k4 k5 k6 k7 k8
    have HP1 := hide (HPR w2 HB2.out).out
    go_wp2_with fail
    clear k4 k5 k6 k7 k8
    go_at_call 34
    refine HP1.out.mono ?_
    rintro e w3 ⟨rfl, hb3⟩
    have HB3 : Hid (Below w.heap.size w w3) := hide (HB2.out.trans (hb3.mono HB2.out.size))
    have HK3 := hide (HK2.out.below hb3 HK2.out.lt)
    clear hb3 HB2 HK2 HP1 HPR
    cases P1 with
    | false =>
      have HF : Hid (R = false) := hide (by rw [HR0.out]; rfl)
      clear HR0
      go_wp2_with fail
      go_ret
      exact ⟨by rw [HF.out] <;> rfl, HB3.out⟩
    | true =>
      have k9 := HK3.out.cell 9
      have k3 := HK3.out.cell 3
      simp at k9 k3
      obtain ⟨E, hE⟩ : ∃ E, ((f.bl : Int) != (f.f.ml : Int)) = E := ⟨_, rfl⟩
      have hEL : decide (Bs.length = M.length) = !E := by
        rw [← hE, hML, hBL]
        by_cases h : f.bl = f.f.ml
        · simp [h]
        · have : ¬ (f.bl : Int) = (f.f.ml : Int) := by omega
          simp [h, this]
      cases E with
      | true =>
        have HF : Hid (R = false) := hide (by rw [HR0.out, hEL]; rfl)
        clear HR0
        go_wp2_with fail
        go_ret
        exact ⟨by rw [HF.out] <;> rfl, HB3.out⟩
      | false =>
        have hlen : Bs.length = M.length := by simpa using hEL
        have HR1 : Hid (R = bodiesOk p M Bs) := hide (by rw [HR0.out, hEL]; simp)
        clear HR0 hEL
        go_upto_region 4 with fail
        clear hE k9 k3
        go_wp2_with fail
        obtain ⟨wo, hwo⟩ : ∃ wo : World, wo = w3 := ⟨_, rfl⟩
        subst hwo
        go_loopw [32] (fun i wr => ∃ k : Nat, k ≤ f.bl ∧ i = .int .i64 (k : Int) ∧ Hid (Below wo.heap.size wo wr) ∧ Hid (R = bodiesOk p (M.drop k) (Bs.drop k))) (fun i _ => f.bl - (intOf i).toNat)
        case atStart => exact ⟨0, by omega, rfl, hide (Below.refl _ _), HR1⟩
        case round =>
          obtain ⟨k, hk, rfl, HBR, HR⟩ := hrel
          clear HR1
          by_cases hlt : k < f.bl
          · have hk1 : k < f.bs.length := by rw [← HAT.out.bL] at hlt; exact hlt
            have hk2 : k < f.f.ms.length := by have := HAT.out.fa.2.1.2.1; omega
            obtain ⟨bb, bo, hbA, _, _, hbs⟩ := Rd.rec_ (f := Bd.cells) (fun _ => rfl) (HAT.out.below (HB3.out.trans (HBR.out.mono HB3.out.size))).br HAT.out.bL k hlt
            have hbw := HAT.out.bW f.bs[k] (List.getElem_mem hk1)
            have hmw := HAT.out.fa.2.1.2.2.2 f.f.ms[k] (List.getElem_mem hk2)
            have hmk200 := right_k (HF1R.out ()).symm f.f.ms[k] (List.getElem_mem hk2)
            have HD := hide (bodies_drop p M Bs k (by omega) (by omega))
            have hMk : M[k]'(by omega) = f.f.ms[k].pl := by simp only [HMS.out ()]; simp
            have hBk : Bs[k]'(by omega) = f.bs[k].pl := by simp only [HBS.out ()]; simp
            rw [hMk, hBk] at HD
            clear hMk hBk
            have HCV : Hid (∀ z, cntV f f.bs[k] z = manyV p f.bs[k].pl z) := hide (fun z => by rw [HPP.out ()]; exact cntV_eq HAT.out.po hbw z)
            generalize f.bs[k] = b at hbs hbw HD HCV
            have HMC : Hid (∀ w', Below w.heap.size w w' → ∃ mb mo, f.f.mA = some ⟨mb, mo, none⟩ ∧ ∀ j u, (Sg.cells f.f.ms[k])[j]? = some u → w'.cell? ⟨mb, mo + k * 5 + j, none⟩ = some u) := hide (fun w' hb => by
              obtain ⟨mb, mo, e, _, _, h⟩ := Rd.rec_ (f := Sg.cells) (fun _ => rfl) (HAT.out.below hb).fa.2.1.1 HAT.out.fa.2.1.2.1 k (by omega)
              exact ⟨mb, mo, e, h⟩)
            generalize f.f.ms[k] = m at HMC hmw hmk200 HD
            obtain ⟨lo, sk, bA, bk, bc, code⟩ := b
            obtain ⟨mn, st, mA, mk, mc, mps, ⟨rn, ra⟩⟩ := m
            obtain ⟨hcr, hcl, hcb, _, _, _⟩ := hbw
            simp only at hcr hcl hcb
            have HCR := hide hcr
            have hmk : mps.length = mk := hmw.2.1
            have hmkb : mk ≤ 200 := hmk200
            clear hcr hmw
            have d0 := hbs 0 _ rfl
            have d1 := hbs 1 _ rfl
            have d2 := hbs 2 _ rfl
            clear hbs
            simp only [Nat.add_zero] at d0 d1 d2
            rw [hbA]
            obtain ⟨mb, mo, hmA, _⟩ := HMC.out w (Below.refl _ _)
            rw [hmA]
            have hbl64 := hbB
            go_upto_region 6 with fail
            refine name_world ?_
            intro w5 hw5
            have HB5 : Hid (Below wo.heap.size wo w5) := hide (by rw [hw5]; exact HBR.out.alloc HBR.out.size _)
            have HBK5 : Hid (Blk w5 wr.heap.size 58 #[.int .i64 lo, .int .i64 sk, .slice bA bk bc]) := hide (by rw [hw5]; exact Blk.new _ _ _)
            clear hw5 d0 d1 d2 HBR
            generalize wr.heap.size = q1 at HBK5 ⊢
            have k3 := (HK3.out.below HB5.out HK3.out.lt).cell 3
            simp at k3
            obtain ⟨mb2, mo2, hmA2, hms⟩ := HMC.out w5 (HB3.out.trans (HB5.out.mono HB3.out.size))
            rw [hmA] at hmA2
            injection hmA2 with hmA2
            injection hmA2 with hmA3 hmA4
            subst hmA3 hmA4
            rw [hmA] at k3
            have e0 := hms 0 _ rfl
            have e1 := hms 1 _ rfl
            have e2 := hms 2 _ rfl
            have e3 := hms 3 _ rfl
            have e4 := hms 4 _ rfl
            clear hms HMC
            simp only [Nat.add_zero] at e0 e1 e2 e3 e4
            have hb5 := HBK5.out.lt
            go_upto_region 7 with fail
            refine name_world ?_
            intro wB hwB
            have HBB0 : Hid (Below wo.heap.size wo wB) := hide (by rw [hwB]; exact HB5.out.alloc HB5.out.size _)
            have HWB : Hid (Below w.heap.size w wB) := hide (HB3.out.trans (HBB0.out.mono HB3.out.size))
            have HBK : Hid (Blk wB q1 58 #[.int .i64 lo, .int .i64 sk, .slice bA bk bc]) := hide (by rw [hwB]; exact HBK5.out.alloc _)
            have HSB : Hid (Blk wB w5.heap.size 52 #[S mn, .bool st, .slice mA mk mc, S rn, .bool ra]) := hide (by rw [hwB]; exact Blk.new _ _ _)
            have HKF := hide (HK3.out.below HBB0.out HK3.out.lt)
            clear hwB e0 e1 e2 e3 e4 k3 HB5 HBK5 hb5
            generalize w5.heap.size = q3 at HSB ⊢
            have HBB := HWB
            have s1 := HSB.out.cell 1
            have s2 := HSB.out.cell 2
            have b0 := HBK.out.cell 0
            have b1 := HBK.out.cell 1
            have b2 := HBK.out.cell 2
            simp at s1 s2 b0 b1 b2
            obtain ⟨RS, hRS⟩ : ∃ RS, RS = bodiesOk p (M.drop (k + 1)) (Bs.drop (k + 1)) := ⟨_, rfl⟩
            have HRS := hide (fun _ : Unit => hRS)
            obtain ⟨q, hq⟩ : ∃ q : Int × Int → Bool, q = fun x => rtC x.1 x.2 (manyV p ⟨lo, sk, code⟩ (pl x.1)) := ⟨_, rfl⟩
            have HQQ : Hid (∀ x, q x = rt x.1 x.2 (cntV f ⟨lo, sk, bA, bk, bc, code⟩ (pl x.1))) := hide (fun x => by rw [HCV.out, hq]; rfl)
            have HD1 : Hid (R = (((decide ((if st then (mk : Int) else mk + 1) ≤ lo) && decide (lo ≤ 401) && decide (0 ≤ sk) && decide (sk ≤ 1000) && decide (1 ≤ bk) && decide (bk ≤ 16384)) && code.all q) && RS)) := hide (by
              rw [HR.out, HD.out, hRS, hq]
              simp only [bdOk, Sg.pl, Bd.pl, hmk, hcl]
              rfl)
            clear HR HD HCV hRS hq
            obtain ⟨v2, d2⟩ : ∃ v, decide (401 < lo) = v := ⟨_, rfl⟩
            obtain ⟨v3, d3⟩ : ∃ v, decide (sk < 0) = v := ⟨_, rfl⟩
            obtain ⟨v4, d4⟩ : ∃ v, decide (1000 < sk) = v := ⟨_, rfl⟩
            obtain ⟨v5, d5⟩ : ∃ v, decide ((bk : Int) < 1) = v := ⟨_, rfl⟩
            obtain ⟨v6, d6⟩ : ∃ v, decide (16384 < (bk : Int)) = v := ⟨_, rfl⟩
            have h5 : decide (1 ≤ bk) = !v5 := by
              rw [← d5]
              by_cases h : 1 ≤ bk
              · have : ¬ (bk : Int) < 1 := by omega
                simp [h, this]
              · have : (bk : Int) < 1 := by omega
                simp [h, this]
            have h6 : decide (bk ≤ 16384) = !v6 := by rw [← d6]; exact dec_le bk 16384
            rw [i64_le d2, i64_le d3, i64_le d4, h5, h6] at HD1
            clear h5 h6
            have HC := hide (And.intro hcl (And.intro hcb (And.intro hbB hlt)))
            clear hcl hcb hmk hlen hML hBL hbB hmB hlt hk1 hk2 hbl64
            cases st
            case' false => obtain ⟨v1, d1⟩ : ∃ v, decide (lo < (mk : Int) + 1) = v := ⟨_, rfl⟩
            case' true => obtain ⟨v1, d1⟩ : ∃ v, decide (lo < (mk : Int)) = v := ⟨_, rfl⟩
            all_goals
              have HD2 : Hid (R = (((!v1 && !v2 && !v3 && !v4 && !v5 && !v6) && code.all q) && RS)) := hide (by rw [HD1.out]; simp only [if_true, if_false, Bool.false_eq_true, i64_le d1])
              clear HD1
              go_upto_region 10 with fail
              clear hmkb s1 s2
              cases v1 with
              | true =>
                have HF : Hid (R = false) := hide (by rw [HD2.out]; simp)
                clear HD2
                go_wp2_with fail
                go_ret
                exact ⟨by rw [HF.out] <;> rfl, HWB.out⟩
              | false =>
                cases v2 with
                | true =>
                  have HF : Hid (R = false) := hide (by rw [HD2.out]; simp)
                  clear HD2
                  go_wp2_with fail
                  go_ret
                  exact ⟨by rw [HF.out] <;> rfl, HWB.out⟩
                | false =>
                  cases v3 with
                  | true =>
                    have HF : Hid (R = false) := hide (by rw [HD2.out]; simp)
                    clear HD2
                    go_wp2_with fail
                    go_ret
                    exact ⟨by rw [HF.out] <;> rfl, HWB.out⟩
                  | false =>
                    cases v4 with
                    | true =>
                      have HF : Hid (R = false) := hide (by rw [HD2.out]; simp)
                      clear HD2
                      go_wp2_with fail
                      go_ret
                      exact ⟨by rw [HF.out] <;> rfl, HWB.out⟩
                    | false =>
                      cases v5 with
                      | true =>
                        have HF : Hid (R = false) := hide (by rw [HD2.out]; simp)
                        clear HD2
                        go_wp2_with fail
                        go_ret
                        exact ⟨by rw [HF.out] <;> rfl, HWB.out⟩
                      | false =>
                        cases v6 with
                        | true =>
                          have HF : Hid (R = false) := hide (by rw [HD2.out]; simp)
                          clear HD2
                          go_wp2_with fail
                          go_ret
                          exact ⟨by rw [HF.out] <;> rfl, HWB.out⟩
                        | false =>
                          have HG : Hid (R = (code.all q && RS)) := hide (by rw [HD2.out]; simp)
                          clear HD2
                          go_upto_region 12 with fail
                          clear d2 d3 d4 d5 d6 b0 b1
                          go_upto_region 13 with fail
                          go_wp2_with fail
                          clear b2
                          obtain ⟨hcl, hcb, hbB, hlt⟩ := HC.out
                          go_loopw [85] (fun i wx => ∃ j : Nat, j ≤ bk ∧ i = .int .i64 (j : Int) ∧ Hid (Below wB.heap.size wB wx) ∧ Hid (R = ((code.drop j).all q && RS))) (fun i _ => bk - (intOf i).toNat)
                          case atStart => exact ⟨0, by omega, rfl, hide (Below.refl _ _), HG⟩
                          case round =>
                            obtain ⟨j, hj, rfl, HBX, HJ⟩ := hrel
                            clear HG
                            by_cases hlt2 : j < bk
                            · obtain ⟨cb, co, hcA, _, _, hcs⟩ := Rd.rec_ (f := coC) (fun _ => rfl) (HCR.out.below (HBB.out.trans (HBX.out.mono HBB.out.size))) hcl j hlt2
                              have hj' : j < code.length := by omega
                              have HDJ := hide (drop_all q code j hj')
                              have HQ := hide (HQQ.out code[j])
                              generalize code[j] = x at hcs HDJ HQ
                              obtain ⟨xc, xa⟩ := x
                              have c0 := hcs 0 _ rfl
                              have c1 := hcs 1 _ rfl
                              clear hcs
                              simp only [Nat.add_zero] at c0 c1
                              subst hcA
                              go_upto_region 15 with fail
                              refine name_world ?_
                              intro wC hwC
                              have i4 : Fq f ⟨lo, sk, some ⟨cb, co, none⟩, bk, bc, code⟩ (xc, xa) w.heap.size q1 wr.heap.size wB wC := ⟨HKF.out.below (B := wB.heap.size) (by rw [hwC]; exact HBX.out.alloc HBX.out.size _) HKF.out.lt, HBK.out.below (B := wB.heap.size) (by rw [hwC]; exact HBX.out.alloc HBX.out.size _) HBK.out.lt, by rw [hwC]; exact Blk.new _ _ _, by rw [hwC]; exact HBX.out.alloc HBX.out.size _⟩
                              clear hwC c0 c1 HBX
                              generalize wr.heap.size = q2 at i4 ⊢
                              have HMN : Hid (∀ w', Fq f ⟨lo, sk, some ⟨cb, co, none⟩, bk, bc, code⟩ (xc, xa) w.heap.size q1 q2 wB w' → Calls Tryd.prog 36 #[f.val, .agg #[.int .i64 lo, .int .i64 sk, .slice (some ⟨cb, co, none⟩) bk bc]] w' fun e w'' => ∃ u v, e = .returned (.func (.func 60) #[] #[.pointer (some ⟨u, 0, none⟩), .pointer (some ⟨v, 0, none⟩)]) ∧ Blk w'' u 36 f.cells.toArray ∧ Blk w'' v 58 #[.int .i64 lo, .int .i64 sk, .slice (some ⟨cb, co, none⟩) bk bc] ∧ Fq f ⟨lo, sk, some ⟨cb, co, none⟩, bk, bc, code⟩ (xc, xa) w.heap.size q1 q2 wB w'') := hide (fun w' i => fq_many i)
                              have HRT : Hid (∀ w' u v, Fq f ⟨lo, sk, some ⟨cb, co, none⟩, bk, bc, code⟩ (xc, xa) w.heap.size q1 q2 wB w' → Blk w' u 36 f.cells.toArray → Blk w' v 58 #[.int .i64 lo, .int .i64 sk, .slice (some ⟨cb, co, none⟩) bk bc] → Calls Tryd.prog 35 #[.agg #[.int .i64 xc, .int .i64 xa], .func (.func 60) #[] #[.pointer (some ⟨u, 0, none⟩), .pointer (some ⟨v, 0, none⟩)]] w' fun e w'' => e = .returned (.bool (q (xc, xa))) ∧ Fq f ⟨lo, sk, some ⟨cb, co, none⟩, bk, bc, code⟩ (xc, xa) w.heap.size q1 q2 wB w'') := hide (fun w' u v i h1 h2 => by rw [HQ.out]; exact fq_right (HM.out.below HWB.out (Nat.le_refl _)) i h1 h2)
                              generalize q (xc, xa) = T at HRT HDJ
                              clear HQ
                              clear hmA hbA
                              have hcel : wC.cell? ⟨w.heap.size, 0, none⟩ = some (S f.f.n) ∧ wC.cell? ⟨w.heap.size, 1, none⟩ = some (S f.f.su) ∧ wC.cell? ⟨w.heap.size, 2, none⟩ = some (.slice f.f.fA f.f.fl f.f.fc) ∧ wC.cell? ⟨w.heap.size, 3, none⟩ = some (.slice f.f.mA f.f.ml f.f.mc) ∧ wC.cell? ⟨w.heap.size, 4, none⟩ = some (.slice f.nA f.nl f.nc) ∧ wC.cell? ⟨w.heap.size, 5, none⟩ = some (.slice f.cA f.cl f.cc) ∧ wC.cell? ⟨w.heap.size, 6, none⟩ = some (.slice f.tA f.tl f.tc) ∧ wC.cell? ⟨w.heap.size, 7, none⟩ = some (.slice f.dA f.dl f.dc) ∧ wC.cell? ⟨w.heap.size, 8, none⟩ = some (.slice f.mA f.ml f.mc) ∧ wC.cell? ⟨w.heap.size, 9, none⟩ = some (.slice f.bA f.bl f.bc) ∧ wC.cell? ⟨q1, 0, none⟩ = some (.int .i64 lo) ∧ wC.cell? ⟨q1, 1, none⟩ = some (.int .i64 sk) ∧ wC.cell? ⟨q1, 2, none⟩ = some (.slice (some ⟨cb, co, none⟩) bk bc) ∧ wC.cell? ⟨q2, 0, none⟩ = some (.int .i64 xc) ∧ wC.cell? ⟨q2, 1, none⟩ = some (.int .i64 xa) := i4.cells
                              have i5' := i4.below ((Below.refl _ _).drew)
                              (go_region_held3 (fun w' => w'.cell? ⟨w.heap.size, 0, none⟩ = some (S f.f.n) ∧ w'.cell? ⟨w.heap.size, 1, none⟩ = some (S f.f.su) ∧ w'.cell? ⟨w.heap.size, 2, none⟩ = some (.slice f.f.fA f.f.fl f.f.fc) ∧ w'.cell? ⟨w.heap.size, 3, none⟩ = some (.slice f.f.mA f.f.ml f.f.mc) ∧ w'.cell? ⟨w.heap.size, 4, none⟩ = some (.slice f.nA f.nl f.nc) ∧ w'.cell? ⟨w.heap.size, 5, none⟩ = some (.slice f.cA f.cl f.cc) ∧ w'.cell? ⟨w.heap.size, 6, none⟩ = some (.slice f.tA f.tl f.tc) ∧ w'.cell? ⟨w.heap.size, 7, none⟩ = some (.slice f.dA f.dl f.dc) ∧ w'.cell? ⟨w.heap.size, 8, none⟩ = some (.slice f.mA f.ml f.mc) ∧ w'.cell? ⟨w.heap.size, 9, none⟩ = some (.slice f.bA f.bl f.bc) ∧ w'.cell? ⟨q1, 0, none⟩ = some (.int .i64 lo) ∧ w'.cell? ⟨q1, 1, none⟩ = some (.int .i64 sk) ∧ w'.cell? ⟨q1, 2, none⟩ = some (.slice (some ⟨cb, co, none⟩) bk bc) ∧ w'.cell? ⟨q2, 0, none⟩ = some (.int .i64 xc) ∧ w'.cell? ⟨q2, 1, none⟩ = some (.int .i64 xa))
                                (first | exact hcel | assumption | exact i5.cells | exact i6.cells | fail)
                                (first
                                  | (go_at_call 36; (with_reducible refine (HMN.out _ i5').mono ?_); rintro e w5 ⟨u, v, rfl, hu, hv, i5⟩)
                                  | (go_at_call 35; (with_reducible refine (HRT.out _ u v i5 hu hv).mono ?_); rintro e w6 ⟨rfl, i6⟩)
                                  | fail))
                              clear hcel i4 i5 hu hv i5'
                              have HBX6 := hide i6.be
                              clear i6 HMN HRT HKF
                              cases T with
                              | false =>
                                have HF : Hid (R = false) := hide (by rw [HJ.out, HDJ.out]; rfl)
                                clear HJ HDJ
                                go_wp2_with fail
                                go_ret
                                exact ⟨by rw [HF.out] <;> rfl, HWB.out.trans (HBX6.out.mono HWB.out.size)⟩
                              | true =>
                                have HF : Hid (R = ((code.drop (j + 1)).all q && RS)) := hide (by rw [HJ.out, HDJ.out]; simp)
                                clear HJ HDJ
                                go_wp2_with fail
                                go_roundw
                                case rel => first | exact ⟨j + 1, by omega, by go_num, HBX6, HF⟩ | ((repeat apply Exists.intro); exact ⟨⟨j + 1, by omega, by go_num, HBX6, HF⟩, rfl⟩)
                                case measure => simp [intOf]; omega
                            · obtain rfl : j = bk := by omega
                              have HF : Hid (R = RS) := hide (by rw [HJ.out, ← hcl, List.drop_length]; rfl)
                              clear HJ
                              go_wp2_with fail
                              go_roundw
                              case rel => first | exact ⟨k + 1, by omega, by go_num, hide (HBB0.out.trans (HBX.out.mono HBB0.out.size)), hide (by rw [HF.out, HRS.out ()])⟩ | ((repeat apply Exists.intro); exact ⟨⟨k + 1, by omega, by go_num, hide (HBB0.out.trans (HBX.out.mono HBB0.out.size)), hide (by rw [HF.out, HRS.out ()])⟩, rfl⟩)
                              case measure => simp [intOf]; omega
          · obtain rfl : k = f.bl := by omega
            have HF : Hid (R = true) := hide (by rw [HR.out, ← hBL]; exact bodies_end p M Bs hlen)
            clear HR
            go_wp2_with fail
            go_ret
            exact ⟨by rw [HF.out] <;> rfl, HB3.out.trans (HBR.out.mono HB3.out.size)⟩
end Go.Proofs.YtkldfbacagnhoaaDoor
