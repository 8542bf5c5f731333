/- Whether a pool is right, walked; no statement of the seat is proved here. -/
import Derived.Test.YtkldfbacagnhoaaDoorClsR1
namespace Go.Proofs.YtkldfbacagnhoaaDoor
open Go.RowKit

def I6 (n : Nat) : Value := .int .i64 (n : Int)
theorem drop_all {α : Type} (p : α → Bool) (l : List α) (k : Nat) (h : k < l.length) : (l.drop k).all p = (p l[k] && (l.drop (k + 1)).all p) := by
  rw [List.drop_eq_getElem_cons h, List.all_cons]
def most (n : Nat) : Bool := decide (n ≤ 16384)
def mtOkM (x : Mt) : Bool := cname x.c && FcP.right ⟨[65], [], [], [x.m.pl]⟩
def prV (f : Fl) : Bool := [f.nl, f.cl, f.tl, f.dl, f.ml].all most && (f.cls.all cname && (f.tys.all Ty.good && (f.fds.all fdOk && f.mts.all mtOkM)))
theorem prV_eq {w : World} {F : Nat → Prop} {f : Fl} (h : f.pat w F) : prV f = f.ppl.right := by
  unfold prV PoolP.right Fl.ppl
  simp only [List.length_map, h.nL, h.cL, h.tL, h.dL, h.mL, List.all_cons, List.all_nil, Bool.and_true, List.all_map, most]
  rw [show (mtOk ∘ Mt.pl) = mtOkM from rfl]
  simp only [Bool.and_assoc]

set_option maxRecDepth 100000 in
set_option maxHeartbeats 8000000 in
theorem pright_any (f : Fl) (w : World) (h : f.pat w (fun k => w.heap.size ≤ k)) : Calls Tryd.prog 34 #[f.pval] w (Gives w (.bool (prV f))) := by
  have HP := hide h
  clear h
  have hn := HP.out.nB
  have hc := HP.out.cB
  have ht := HP.out.tB
  have hd := HP.out.dB
  have hm := HP.out.mB
  have hcL := HP.out.cL
  have htL := HP.out.tL
  have hdL := HP.out.dL
  have hmL := HP.out.mL
  obtain ⟨R, hR⟩ : ∃ R, R = prV f := ⟨_, rfl⟩
  rw [← hR]
  have HR0 := hide hR
  clear hR
  go_enter Tryd.func34, Tryd.ntmps34
  go_upto_region 1 with fail
  refine name_world ?_
  intro wA hwA
  have HB1 : Hid (Below w.heap.size w wA) := hide (by rw [hwA]; exact (Below.refl _ _).alloc (Nat.le_refl _) _)
  have HK : Hid (Blk wA w.heap.size 33 f.pcells.toArray) := hide (by rw [hwA]; exact Blk.new _ _ _)
  clear hwA
  have k0 := HK.out.cell 0
  have k1 := HK.out.cell 1
  have k2 := HK.out.cell 2
  have k3 := HK.out.cell 3
  have k4 := HK.out.cell 4
  simp at k0 k1 k2 k3 k4
  go_upto_region 2 with fail
  clear k0 k1 k2 k3 k4
  refine name_world ?_
  intro w1 hw1
  have HB2 : Hid (Below wA.heap.size wA w1) := hide (by rw [hw1]; exact (Below.refl _ _).alloc (Nat.le_refl _) _)
  have HL : Hid (Blk w1 wA.heap.size 3 #[I6 f.nl, I6 f.cl, I6 f.tl, I6 f.dl, I6 f.ml]) := hide (by rw [hw1]; exact Blk.new _ _ _)
  clear hw1
  generalize wA.heap.size = g1 at HL ⊢
  go_wp2_with fail
  go_loopw [30] (fun i wr => ∃ k : Nat, k ≤ 5 ∧ i = .int .i64 (k : Int) ∧ wr = w1 ∧ Hid (R = (([f.nl, f.cl, f.tl, f.dl, f.ml].drop k).all most && (f.cls.all cname && (f.tys.all Ty.good && (f.fds.all fdOk && f.mts.all mtOkM)))))) (fun i _ => 5 - (intOf i).toNat)
  case atStart => exact ⟨0, by omega, rfl, rfl, HR0⟩
  case round =>
    obtain ⟨k, hk, rfl, hw, HR⟩ := hrel
    subst hw
    clear HR0
    by_cases hlt : k < 5
    · obtain ⟨x, hx⟩ : ∃ x, x = [f.nl, f.cl, f.tl, f.dl, f.ml][k] := ⟨_, rfl⟩
      have hcx : wr.cell? ⟨g1, k, none⟩ = some (.int .i64 (x : Int)) := by
        rw [HL.out.cell k, hx]
        have : k = 0 ∨ k = 1 ∨ k = 2 ∨ k = 3 ∨ k = 4 := by omega
        rcases this with rfl | rfl | rfl | rfl | rfl <;> rfl
      have HD := hide (drop_all most [f.nl, f.cl, f.tl, f.dl, f.ml] k hlt)
      rw [← hx] at HD
      clear hx
      by_cases hb : 16384 < x
      · have d : decide (16384 < (x : Int)) = true := by simp; omega
        have HF : Hid (R = false) := hide (by rw [HR.out, HD.out, show most x = false by simp [most]; omega]; rfl)
        clear HR HD
        go_wp2_with fail
        go_ret
        exact ⟨by rw [HF.out] <;> rfl, HB1.out.trans (HB2.out.mono HB1.out.size)⟩
      · have d : decide (16384 < (x : Int)) = false := by simp; omega
        have HF := hide (HR.out.trans (by rw [HD.out, show most x = true by simp [most]; omega, Bool.true_and]))
        clear HR HD
        go_wp2_with fail
        go_roundw
        case rel => exact ⟨k + 1, by omega, by go_num, trivial, HF⟩
        case measure => simp [intOf]; omega
    · obtain rfl : k = 5 := by omega
      have HR1 : Hid (R = (f.cls.all cname && (f.tys.all Ty.good && (f.fds.all fdOk && f.mts.all mtOkM)))) := HR
      clear HR HL
      have k1 := (HK.out.below HB2.out HK.out.lt).cell 1
      simp at k1
      go_upto_region 8 with fail
      go_wp2_with fail
      clear k1
      have HBW : Hid (Below w.heap.size w wr) := hide (HB1.out.trans (HB2.out.mono HB1.out.size))
      have HKO := hide (HK.out.below HB2.out HK.out.lt)
      clear HB1 HB2 HK
      obtain ⟨wo, hwo⟩ : ∃ wo : World, wo = wr := ⟨_, rfl⟩
      subst hwo
      go_loopw [40] (fun i wr => ∃ k : Nat, k ≤ f.cl ∧ i = .int .i64 (k : Int) ∧ Hid (Below wo.heap.size wo wr) ∧ Hid (R = ((f.cls.drop k).all cname && (f.tys.all Ty.good && (f.fds.all fdOk && f.mts.all mtOkM))))) (fun i _ => f.cl - (intOf i).toNat)
      case atStart => exact ⟨0, by omega, rfl, hide (Below.refl _ _), HR1⟩
      case round =>
        obtain ⟨k, hk, rfl, HBR, HR⟩ := hrel
        clear HR1
        by_cases hlt : k < f.cl
        · have hlt' : k < f.cls.length := by omega
          have HD := hide (drop_all cname f.cls k hlt')
          obtain ⟨b, o, u, hA, hu, hc0⟩ := (HP.out.cr.below (HBW.out.trans (HBR.out.mono HBW.out.size))).at_ k hlt
          obtain rfl : S f.cls[k] = u := by simpa [hlt'] using hu
          generalize f.cls[k] = x at hc0 HD
          clear hu
          have HC := fun w => hide (cls_any x w)
          rw [hA]
          obtain ⟨G, hG⟩ : ∃ G, G = cname x := ⟨_, rfl⟩
          simp only [← hG] at HC HD
          clear hG
          cases G
          case' false => have HF : Hid (R = false) := hide (by rw [HR.out, HD.out]; rfl)
          case' true => have HF : Hid (R = ((f.cls.drop (k + 1)).all cname && (f.tys.all Ty.good && (f.fds.all fdOk && f.mts.all mtOkM)))) := hide (by rw [HR.out, HD.out]; simp)
          all_goals
            clear HR HD
            go_wp2_with (go_at_call 58; refine (HC _).out.mono ?_; rintro e w2 ⟨rfl, hb2⟩; have HB3 : Hid (Below wo.heap.size wo w2) := hide (HBR.out.trans (hb2.mono HBR.out.size)); clear hb2)
          · skip
            go_roundw
            case rel => (repeat apply Exists.intro); exact ⟨⟨k + 1, by omega, by go_num, HB3, HF⟩, rfl⟩
            case measure => simp [intOf]; omega
          · skip
            go_ret
            exact ⟨by rw [HF.out] <;> rfl, HBW.out.trans (HB3.out.mono HBW.out.size)⟩
        · obtain rfl : k = f.cl := by omega
          have HR1 : Hid (R = (f.tys.all Ty.good && (f.fds.all fdOk && f.mts.all mtOkM))) := hide (by rw [HR.out, ← hcL, List.drop_length]; rfl)
          clear HR
          have HBW2 : Hid (Below w.heap.size w wr) := hide (HBW.out.trans (HBR.out.mono HBW.out.size))
          have HKO2 := hide (HKO.out.below HBR.out HKO.out.lt)
          clear HBW HBR HKO
          have HBW := HBW2
          have HKO := HKO2
          clear HBW2 HKO2
          have k1 := HKO.out.cell 2
          simp at k1
          go_upto_region 14 with fail
          go_wp2_with fail
          clear k1
          obtain ⟨wo, hwo⟩ : ∃ wo : World, wo = wr := ⟨_, rfl⟩
          subst hwo
          go_loopw [51] (fun i wr => ∃ k : Nat, k ≤ f.tl ∧ i = .int .i64 (k : Int) ∧ Hid (Below wo.heap.size wo wr) ∧ Hid (R = ((f.tys.drop k).all Ty.good && (f.fds.all fdOk && f.mts.all mtOkM)))) (fun i _ => f.tl - (intOf i).toNat)
          case atStart => exact ⟨0, by omega, rfl, hide (Below.refl _ _), HR1⟩
          case round =>
            obtain ⟨k, hk, rfl, HBR, HR⟩ := hrel
            clear HR1
            by_cases hlt : k < f.tl
            · have hlt' : k < f.tys.length := by omega
              have HD := hide (drop_all Ty.good f.tys k hlt')
              obtain ⟨b, o, hA, _, _, hcs⟩ := Rd.rec_ (f := Ty.cells) (fun _ => rfl) (HP.out.tr.below (HBW.out.trans (HBR.out.mono HBW.out.size))) htL k hlt
              generalize f.tys[k] = x at hcs HD
              have c0 := hcs 0 _ rfl
              have c1 := hcs 1 _ rfl
              clear hcs
              obtain ⟨xn, xa⟩ := x
              simp only [Nat.add_zero] at c0 c1
              have HC := fun w => hide (good_any xn xa w)
              rw [hA]
              obtain ⟨G, hG⟩ : ∃ G, G = Ty.good ⟨xn, xa⟩ := ⟨_, rfl⟩
              simp only [← hG] at HC HD
              clear hG
              cases G
              case' false => have HF : Hid (R = false) := hide (by rw [HR.out, HD.out]; rfl)
              case' true => have HF : Hid (R = ((f.tys.drop (k + 1)).all Ty.good && (f.fds.all fdOk && f.mts.all mtOkM))) := hide (by rw [HR.out, HD.out]; simp)
              all_goals
                clear HR HD
                go_wp2_with (go_at_call 40; refine (HC _).out.mono ?_; rintro e w2 ⟨rfl, hb2⟩; have HB3 : Hid (Below wo.heap.size wo w2) := hide ((HBR.out.alloc HBR.out.size _).trans (hb2.mono (Nat.le_trans HBR.out.size (by simp)))); clear hb2)
              · skip
                go_roundw
                case rel => (repeat apply Exists.intro); exact ⟨⟨k + 1, by omega, by go_num, HB3, HF⟩, rfl⟩
                case measure => simp [intOf]; omega
              · skip
                go_ret
                exact ⟨by rw [HF.out] <;> rfl, HBW.out.trans (HB3.out.mono HBW.out.size)⟩
            · obtain rfl : k = f.tl := by omega
              have HR1 : Hid (R = (f.fds.all fdOk && f.mts.all mtOkM)) := hide (by rw [HR.out, ← htL, List.drop_length]; rfl)
              clear HR
              have HBW2 : Hid (Below w.heap.size w wr) := hide (HBW.out.trans (HBR.out.mono HBW.out.size))
              have HKO2 := hide (HKO.out.below HBR.out HKO.out.lt)
              clear HBW HBR HKO
              have HBW := HBW2
              have HKO := HKO2
              clear HBW2 HKO2
              have k1 := HKO.out.cell 3
              simp at k1
              go_upto_region 20 with fail
              go_wp2_with fail
              clear k1
              obtain ⟨wo, hwo⟩ : ∃ wo : World, wo = wr := ⟨_, rfl⟩
              subst hwo
              go_loopw [62] (fun i wr => ∃ k : Nat, k ≤ f.dl ∧ i = .int .i64 (k : Int) ∧ Hid (Below wo.heap.size wo wr) ∧ Hid (R = ((f.fds.drop k).all fdOk && f.mts.all mtOkM))) (fun i _ => f.dl - (intOf i).toNat)
              case atStart => exact ⟨0, by omega, rfl, hide (Below.refl _ _), HR1⟩
              case round =>
                obtain ⟨k, hk, rfl, HBR, HR⟩ := hrel
                clear HR1
                by_cases hlt : k < f.dl
                · have hlt' : k < f.fds.length := by omega
                  have HD := hide (drop_all fdOk f.fds k hlt')
                  obtain ⟨b, o, hA, _, _, hcs⟩ := Rd.rec_ (f := FdP.cells) (fun _ => rfl) (HP.out.dr.below (HBW.out.trans (HBR.out.mono HBW.out.size))) hdL k hlt
                  generalize f.fds[k] = x at hcs HD
                  have c0 := hcs 0 _ rfl
                  have c1 := hcs 1 _ rfl
                  have c2 := hcs 2 _ rfl
                  have c3 := hcs 3 _ rfl
                  clear hcs
                  obtain ⟨⟨xn, ⟨tn, ta⟩⟩, xc⟩ := x
                  simp only [Nat.add_zero] at c0 c1 c2 c3
                  have HC := fun w => hide (cls_any xc w)
                  have HG := fun w => hide (good_any tn ta w)
                  rw [hA]
                  obtain ⟨G, hG⟩ : ∃ G, G = cname xc := ⟨_, rfl⟩
                  obtain ⟨T, hT⟩ : ∃ T, T = Ty.good ⟨tn, ta⟩ := ⟨_, rfl⟩
                  simp only [fdOk, ← hG, ← hT] at HC HD HG
                  obtain ⟨E, hE⟩ : ∃ E, (xn == []) = E := ⟨_, rfl⟩
                  obtain ⟨M, hM⟩ : ∃ M, decide (40 < (xn.length : Int)) = M := ⟨_, rfl⟩
                  rw [hE, dec_le xn.length 40, show decide (((40 : Nat) : Int) < (xn.length : Int)) = M from hM] at HD
                  clear hG hT
                  go_upto_region 22 with fail
                  refine name_world ?_
                  intro wB hwB
                  have HBB : Hid (Below wo.heap.size wo wB) := hide (by rw [hwB]; exact HBR.out.alloc HBR.out.size _)
                  have HXB : Hid (Blk wB wr.heap.size 92 #[S xn, S tn, .bool ta, S xc]) := hide (by rw [hwB]; exact Blk.new _ _ _)
                  have hlq : w.heap.size ≤ wr.heap.size := Nat.le_trans HBW.out.size HBR.out.size
                  clear hwB c0 c1 c2 c3
                  generalize wr.heap.size = q at HXB hlq ⊢
                  have c3 := HXB.out.cell 3
                  simp at c3
                  go_wp2_with fail
                  go_at_call 58
                  refine (HC _).out.mono ?_
                  rintro e w2 ⟨rfl, hb2⟩
                  have HB3 : Hid (Below wo.heap.size wo w2) := hide (HBB.out.trans (hb2.mono HBB.out.size))
                  have HX2 := hide (HXB.out.below hb2 HXB.out.lt)
                  clear hb2 c3
                  have c0 := HX2.out.cell 0
                  have c1 := HX2.out.cell 1
                  have c2 := HX2.out.cell 2
                  simp at c0 c1 c2
                  cases G with
                  | false =>
                    have HF : Hid (R = false) := hide (by rw [HR.out, HD.out]; rfl)
                    clear HR HD
                    go_wp2_with fail
                    go_ret
                    exact ⟨by rw [HF.out] <;> rfl, HBW.out.trans (HB3.out.mono HBW.out.size)⟩
                  | true =>
                    cases E with
                    | true =>
                      have HF : Hid (R = false) := hide (by rw [HR.out, HD.out]; rfl)
                      clear HR HD
                      go_wp2_with fail
                      go_ret
                      exact ⟨by rw [HF.out] <;> rfl, HBW.out.trans (HB3.out.mono HBW.out.size)⟩
                    | false =>
                      cases M with
                      | true =>
                        have HF : Hid (R = false) := hide (by rw [HR.out, HD.out]; rfl)
                        clear HR HD
                        go_wp2_with fail
                        go_ret
                        exact ⟨by rw [HF.out] <;> rfl, HBW.out.trans (HB3.out.mono HBW.out.size)⟩
                      | false =>
                        cases T
                        case' false => have HF : Hid (R = false) := hide (by rw [HR.out, HD.out]; rfl)
                        case' true => have HF : Hid (R = ((f.fds.drop (k + 1)).all fdOk && f.mts.all mtOkM)) := hide (by rw [HR.out, HD.out]; simp)
                        all_goals
                          clear HR HD
                          go_wp2_with (go_at_call 40; refine (HG _).out.mono ?_; rintro e w3 ⟨rfl, hb3⟩; have HB4 : Hid (Below wo.heap.size wo w3) := hide (HB3.out.trans (hb3.mono HB3.out.size)); clear hb3)
                        · skip
                          go_roundw
                          case rel => (repeat apply Exists.intro); exact ⟨⟨k + 1, by omega, by go_num, HB4, HF⟩, rfl⟩
                          case measure => simp [intOf]; omega
                        · skip
                          go_ret
                          exact ⟨by rw [HF.out] <;> rfl, HBW.out.trans (HB4.out.mono HBW.out.size)⟩
                · obtain rfl : k = f.dl := by omega
                  have HR1 : Hid (R = f.mts.all mtOkM) := hide (by rw [HR.out, ← hdL, List.drop_length]; rfl)
                  clear HR
                  have HBW2 : Hid (Below w.heap.size w wr) := hide (HBW.out.trans (HBR.out.mono HBW.out.size))
                  have HKO2 := hide (HKO.out.below HBR.out HKO.out.lt)
                  clear HBW HBR HKO
                  have HBW := HBW2
                  have HKO := HKO2
                  clear HBW2 HKO2
                  have k1 := HKO.out.cell 4
                  simp at k1
                  go_upto_region 26 with fail
                  go_wp2_with fail
                  clear k1
                  obtain ⟨wo, hwo⟩ : ∃ wo : World, wo = wr := ⟨_, rfl⟩
                  subst hwo
                  go_loopw [94] (fun i wr => ∃ k : Nat, k ≤ f.ml ∧ i = .int .i64 (k : Int) ∧ Hid (Below wo.heap.size wo wr) ∧ Hid (R = ((f.mts.drop k).all mtOkM && true))) (fun i _ => f.ml - (intOf i).toNat)
                  case atStart => exact ⟨0, by omega, rfl, hide (Below.refl _ _), hide (by rw [HR1.out]; simp)⟩
                  case round =>
                    obtain ⟨k, hk, rfl, HBR, HR⟩ := hrel
                    clear HR1
                    by_cases hlt : k < f.ml
                    · have hlt' : k < f.mts.length := by omega
                      have HD := hide (drop_all mtOkM f.mts k hlt')
                      obtain ⟨b, o, hA, _, _, hcs⟩ := Rd.rec_ (f := Mt.cells) (fun _ => rfl) (HP.out.mr.below (HBW.out.trans (HBR.out.mono HBW.out.size))) hmL k hlt
                      have hmW := HP.out.mW f.mts[k] (List.getElem_mem hlt')
                      generalize f.mts[k] = x at hcs HD hmW
                      have c0 := hcs 0 _ rfl
                      have c1 := hcs 1 _ rfl
                      have c2 := hcs 2 _ rfl
                      have c3 := hcs 3 _ rfl
                      have c4 := hcs 4 _ rfl
                      have c5 := hcs 5 _ rfl
                      clear hcs
                      obtain ⟨⟨xn, xst, xA, xk, xc', xps, ⟨rn, ra⟩⟩, xc⟩ := x
                      simp only [Nat.add_zero] at c0 c1 c2 c3 c4 c5
                      have HC := fun w => hide (cls_any xc w)
                      have HSG := fun w' (h : Below w.heap.size w w') => hide (sig_any ⟨xn, xst, xA, xk, xc', xps, ⟨rn, ra⟩⟩ w' ((hmW.1.below h).weak (G := fun k => w'.heap.size ≤ k) (fun k hk => by have := h.size; omega)))
                      clear hmW
                      rw [hA]
                      obtain ⟨G, hG⟩ : ∃ G, G = cname xc := ⟨_, rfl⟩
                      obtain ⟨T, hT⟩ : ∃ T, T = FcP.right ⟨[65], [], [], [Sg.pl ⟨xn, xst, xA, xk, xc', xps, ⟨rn, ra⟩⟩]⟩ := ⟨_, rfl⟩
                      simp only [mtOkM, ← hG, ← hT] at HC HD HSG
                      clear hG hT
                      go_upto_region 28 with fail
                      refine name_world ?_
                      intro wB hwB
                      have HBB : Hid (Below wo.heap.size wo wB) := hide (by rw [hwB]; exact HBR.out.alloc HBR.out.size _)
                      have HXB : Hid (Blk wB wr.heap.size 94 #[S xn, .bool xst, .slice xA xk xc', S rn, .bool ra, S xc]) := hide (by rw [hwB]; exact Blk.new _ _ _)
                      clear hwB c0 c1 c2 c3 c4 c5
                      generalize wr.heap.size = q at HXB ⊢
                      have c5 := HXB.out.cell 5
                      simp at c5
                      go_wp2_with fail
                      go_at_call 58
                      refine (HC _).out.mono ?_
                      rintro e w2 ⟨rfl, hb2⟩
                      have HB3 : Hid (Below wo.heap.size wo w2) := hide (HBB.out.trans (hb2.mono HBB.out.size))
                      have HX2 := hide (HXB.out.below hb2 HXB.out.lt)
                      clear hb2 c5
                      have c0 := HX2.out.cell 0
                      have c1 := HX2.out.cell 1
                      have c2 := HX2.out.cell 2
                      have c3 := HX2.out.cell 3
                      have c4 := HX2.out.cell 4
                      simp at c0 c1 c2 c3 c4
                      cases G with
                      | false =>
                        have HF : Hid (R = false) := hide (by rw [HR.out, HD.out]; rfl)
                        clear HR HD
                        go_wp2_with fail
                        go_ret
                        exact ⟨by rw [HF.out] <;> rfl, HBW.out.trans (HB3.out.mono HBW.out.size)⟩
                      | true =>
                        have HS2 := hide (HSG w2 (HBW.out.trans (HB3.out.mono HBW.out.size))).out
                        cases T
                        case' false => have HF : Hid (R = false) := hide (by rw [HR.out, HD.out]; rfl)
                        case' true => have HF : Hid (R = ((f.mts.drop (k + 1)).all mtOkM && true)) := hide (by rw [HR.out, HD.out]; simp)
                        all_goals
                          clear HR HD
                          go_wp2_with (go_at_call 59; refine HS2.out.mono ?_; rintro e w3 ⟨rfl, hb3⟩; have HB4 : Hid (Below wo.heap.size wo w3) := hide (HB3.out.trans (hb3.mono HB3.out.size)); clear hb3)
                        · skip
                          go_roundw
                          case rel => (repeat apply Exists.intro); exact ⟨⟨k + 1, by omega, by go_num, HB4, HF⟩, rfl⟩
                          case measure => simp [intOf]; omega
                        · skip
                          go_ret
                          exact ⟨by rw [HF.out] <;> rfl, HBW.out.trans (HB4.out.mono HBW.out.size)⟩
                    · obtain rfl : k = f.ml := by omega
                      have HF : Hid (R = true) := hide (by rw [HR.out, ← hmL, List.drop_length]; rfl)
                      clear HR
                      go_wp2_with fail
                      go_ret
                      exact ⟨by rw [HF.out] <;> rfl, HBW.out.trans (HBR.out.mono HBW.out.size)⟩
end Go.Proofs.YtkldfbacagnhoaaDoor
