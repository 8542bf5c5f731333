/- Whether two files are the same, by the laws' own count, walked; no statement of the seat is proved here. -/
import Derived.Test.YtkldfbacagnhoaaDoorClsSame1
namespace Go.Proofs.YtkldfbacagnhoaaDoor
open Go.RowKit

theorem at_eq {α : Type} {l l' : List α} (h : l = l') (i : Nat) (hi : i < l.length) (hi' : i < l'.length) : l[i] = l'[i] := by subst h; rfl
theorem Sg.pl_p {m m' : Sg} : m.pl = m'.pl ↔ m.p = m'.p := by
  obtain ⟨n, st, A, k, c, ps, r⟩ := m
  obtain ⟨n', st', A', k', c', ps', r'⟩ := m'
  simp only [Sg.pl, Sg.p, SgP.mk.injEq, Prod.mk.injEq]
  constructor
  · rintro ⟨h1, h2, h3, h4⟩; exact ⟨h1, h2, h4, h3⟩
  · rintro ⟨h1, h2, h3, h4⟩; exact ⟨h1, h2, h4, h3⟩
theorem map_pl {l l' : List Sg} : l.map Sg.pl = l'.map Sg.pl ↔ l.map Sg.p = l'.map Sg.p := by
  constructor
  · intro h
    have : ∀ (l l' : List Sg), l.map Sg.pl = l'.map Sg.pl → l.map Sg.p = l'.map Sg.p := by
      intro l
      induction l with
      | nil => intro l' h; cases l' with | nil => rfl | cons _ _ => cases h
      | cons m l ih => intro l' h; cases l' with
        | nil => cases h
        | cons m' l' => simp only [List.map_cons, List.cons.injEq] at h ⊢; exact ⟨Sg.pl_p.1 h.1, ih l' h.2⟩
    exact this _ _ h
  · intro h
    have : ∀ (l l' : List Sg), l.map Sg.p = l'.map Sg.p → l.map Sg.pl = l'.map Sg.pl := by
      intro l
      induction l with
      | nil => intro l' h; cases l' with | nil => rfl | cons _ _ => cases h
      | cons m l ih => intro l' h; cases l' with
        | nil => cases h
        | cons m' l' => simp only [List.map_cons, List.cons.injEq] at h ⊢; exact ⟨Sg.pl_p.2 h.1, ih l' h.2⟩
    exact this _ _ h
theorem Fc.pl_p {f f' : Fc} : f.pl = f'.pl ↔ f.p = f'.p := by
  obtain ⟨n, su, fA, fl, fc, fs, mA, ml, mc, ms⟩ := f
  obtain ⟨n', su', fA', fl', fc', fs', mA', ml', mc', ms'⟩ := f'
  simp only [Fc.pl, Fc.p, FcP.mk.injEq, Prod.mk.injEq, map_pl]
theorem Fl.pl_parts {f f' : Fl} : f.pl = f'.pl ↔ (f.f.p = f'.f.p ∧ f.nums = f'.nums ∧ f.cls = f'.cls ∧ f.tys = f'.tys ∧ f.fds = f'.fds ∧ f.mts.map Mt.pl = f'.mts.map Mt.pl ∧ f.bs.map Bd.pl = f'.bs.map Bd.pl) := by
  simp only [Fl.pl, Fl.ppl, FileP.mk.injEq, PoolP.mk.injEq, Fc.pl_p]
  constructor
  · rintro ⟨h1, ⟨h2, h3, h4, h5, h6⟩, h7⟩; exact ⟨h1, h2, h3, h4, h5, h6, h7⟩
  · rintro ⟨h1, h2, h3, h4, h5, h6, h7⟩; exact ⟨h1, ⟨h2, h3, h4, h5, h6⟩, h7⟩
theorem no_ {R : Bool} {p : Prop} (h : R = true ↔ p) (hn : p → False) : R = false := by
  cases R with
  | false => rfl
  | true => exact absurd (h.1 rfl) hn
theorem i64_ne {a b : Nat} (h : ¬ a = b) : ((a : Int) == (b : Int)) = false := by simp; omega

set_option maxRecDepth 100000 in
set_option maxHeartbeats 16000000 in
theorem csame_any (R : Bool) (f f' : Fl) (w : World) (h : f.at_ w (fun k => w.heap.size ≤ k)) (h' : f'.at_ w (fun k => w.heap.size ≤ k)) (hR : R = true ↔ f.pl = f'.pl) : Calls Tryd.prog 21 #[f.val, f'.val] w (Gives w (.bool R)) := by
  rw [Fl.pl_parts] at hR
  obtain ⟨Q, hQ⟩ : ∃ Q, Q = decide (f.f.p = f'.f.p) := ⟨_, rfl⟩
  obtain ⟨⟨n, su, fA, fl, fc, fs, mfA, mfl, mfc, mfs⟩, nA, nl, nc, nums, cA, cl, cc, cls, tA, tl, tc, tys, dA, dl, dc, fds, mA, ml, mc, mts, bA, bl, bc, bs⟩ := f
  obtain ⟨⟨n', su', fA', fl', fc', fs', mfA', mfl', mfc', mfs'⟩, nA', nl', nc', nums', cA', cl', cc', cls', tA', tl', tc', tys', dA', dl', dc', fds', mA', ml', mc', mts', bA', bl', bc', bs'⟩ := f'
  simp only at hR hQ
  have HR := hide hR
  have HQ := hide (fun _ : Unit => hQ)
  obtain ⟨wA, hwA⟩ : ∃ wA, wA = (w.alloc (.cells (Fl.cells ⟨⟨n, su, fA, fl, fc, fs, mfA, mfl, mfc, mfs⟩, nA, nl, nc, nums, cA, cl, cc, cls, tA, tl, tc, tys, dA, dl, dc, fds, mA, ml, mc, mts, bA, bl, bc, bs⟩).toArray 36)).alloc (.cells (Fl.cells ⟨⟨n', su', fA', fl', fc', fs', mfA', mfl', mfc', mfs'⟩, nA', nl', nc', nums', cA', cl', cc', cls', tA', tl', tc', tys', dA', dl', dc', fds', mA', ml', mc', mts', bA', bl', bc', bs'⟩).toArray 36) := ⟨_, rfl⟩
  have hbA : Below w.heap.size w wA := by rw [hwA]; exact ((Below.refl _ _).alloc (Nat.le_refl _) _).alloc (by simp) _
  have hbk : Hid (Blk wA w.heap.size 36 (Fl.cells ⟨⟨n, su, fA, fl, fc, fs, mfA, mfl, mfc, mfs⟩, nA, nl, nc, nums, cA, cl, cc, cls, tA, tl, tc, tys, dA, dl, dc, fds, mA, ml, mc, mts, bA, bl, bc, bs⟩).toArray) := hide (by rw [hwA]; exact (Blk.new _ _ _).alloc _)
  have hbk' : Hid (Blk wA (w.heap.size + 1) 36 (Fl.cells ⟨⟨n', su', fA', fl', fc', fs', mfA', mfl', mfc', mfs'⟩, nA', nl', nc', nums', cA', cl', cc', cls', tA', tl', tc', tys', dA', dl', dc', fds', mA', ml', mc', mts', bA', bl', bc', bs'⟩).toArray) := hide (by
    rw [hwA]
    have := Blk.new (w.alloc (.cells (Fl.cells ⟨⟨n, su, fA, fl, fc, fs, mfA, mfl, mfc, mfs⟩, nA, nl, nc, nums, cA, cl, cc, cls, tA, tl, tc, tys, dA, dl, dc, fds, mA, ml, mc, mts, bA, bl, bc, bs⟩).toArray 36)) 36 (Fl.cells ⟨⟨n', su', fA', fl', fc', fs', mfA', mfl', mfc', mfs'⟩, nA', nl', nc', nums', cA', cl', cc', cls', tA', tl', tc', tys', dA', dl', dc', fds', mA', ml', mc', mts', bA', bl', bc', bs'⟩).toArray
    rwa [World.size_alloc] at this)
  obtain ⟨HFA, HPO, HBR, HBL, HBB, HBW⟩ := h
  obtain ⟨HNR, HNL, HNB, HNW, HCR, HCL, HCB, HCW, HTR, HTL, HTB, HTW, HDR, HDL, HDB, HDW, HMR, HML, HMB, HMW⟩ := HPO
  obtain ⟨HFA', HPO', HBR', HBL', HBB', HBW'⟩ := h'
  obtain ⟨HNR', HNL', HNB', HNW', HCR', HCL', HCB', HCW', HTR', HTL', HTB', HTW', HDR', HDL', HDB', HDW', HMR', HML', HMB', HMW'⟩ := HPO'
  simp only at HFA HBR HBL HBB HBW HNR HNL HNB HCR HCL HCB HTR HTL HTB HDR HDL HDB HMR HML HMB HMW HFA' HBR' HBL' HBB' HBW' HNR' HNL' HNB' HCR' HCL' HCB' HTR' HTL' HTB' HDR' HDL' HDB' HMR' HML' HMB' HMW'
  have hF0 := facesame_any _ _ wA ((HFA.below hbA).weak (fun k hk => Nat.le_trans hbA.size hk)) ((HFA'.below hbA).weak (fun k hk => Nat.le_trans hbA.size hk))
  rw [← hQ] at hF0
  have HF0 := hide hF0
  clear hF0 hQ hR
  have HN := hide HNR
  have HN' := hide HNR'
  have HC := hide HCR
  have HC' := hide HCR'
  have HT := hide HTR
  have HT' := hide HTR'
  have HD := hide HDR
  have HD' := hide HDR'
  have HM := hide HMR
  have HM' := hide HMR'
  have HB := hide HBR
  have HB' := hide HBR'
  have LN := hide HNL
  have LN' := hide HNL'
  have LC := hide HCL
  have LC' := hide HCL'
  have LT := hide HTL
  have LT' := hide HTL'
  have LD := hide HDL
  have LD' := hide HDL'
  have LM := hide HML
  have LM' := hide HML'
  have LB := hide HBL
  have LB' := hide HBL'
  have WM := hide HMW
  have WM' := hide HMW'
  have WB := hide HBW
  have WB' := hide HBW'
  have HS := hide (And.intro HNB (And.intro HCB (And.intro HTB (And.intro HDB (And.intro HMB HBB)))))
  clear HFA HBR HBL HBB HBW HNR HNL HNB HNW HCR HCL HCB HCW HTR HTL HTB HTW HDR HDL HDB HDW HMR HML HMB HMW
  clear HFA' HBR' HBL' HBB' HBW' HNR' HNL' HNB' HNW' HCR' HCL' HCB' HCW' HTR' HTL' HTB' HTW' HDR' HDL' HDB' HDW' HMR' HML' HMB' HMW'
  have HBA := hide hbA
  clear hbA
  simp only [Fl.val]
  go_enter Tryd.func21, Tryd.ntmps21
  go_upto_region 1 with fail
  rw [← hwA]
  clear hwA
  refine same_r1 wA _ _ n n' su su' fA mfA nA cA tA dA mA bA fA' mfA' nA' cA' tA' dA' mA' bA' fl fc mfl mfc nl nc cl cc tl tc dl dc ml mc bl bc fl' fc' mfl' mfc' nl' nc' cl' cc' tl' tc' dl' dc' ml' mc' bl' bc' Q hbk.out hbk'.out HF0.out ?_
  clear HF0
  intro u14 u15 u16 u17 u18 u19 u20 u21 u22 u23 u24 u25 u26 u27 u28 u29 u30 u31 u32 u33 u34 u35 u36 u37 u38 u39 u40 u41 u42 u43 u44 u45 u46 u47 u48 u49 u50 u51 u52 u53 u54 u55 u56 u57 u58 u59 u60 u61 u62 u63 u64 u65 u66 u67 u68 u69 u70 u71 u72 u73 u74 u75 u76 u77 u78 u79 u80 u81 u82 w1 z83 hb1 hz
  have HZ := hide hz
  clear hz
  have HB1 : Hid (Below w.heap.size w w1) := hide (HBA.out.trans (hb1.mono HBA.out.size))
  have HK1 : Hid (Blk w1 w.heap.size 36 _) := hide (hbk.out.below hb1 hbk.out.lt)
  have HK1' : Hid (Blk w1 (w.heap.size + 1) 36 _) := hide (hbk'.out.below hb1 hbk'.out.lt)
  clear hb1 hbk hbk' HBA
  cases z83 with
  | true =>
    have HX : Hid (R = false) := hide (no_ HR.out (fun hh => by
      have hQ := HQ.out ()
      have hz := HZ.out
      rw [decide_eq_true hh.1] at hQ
      have l1 := congrArg List.length hh.2.1
      have l2 := congrArg List.length hh.2.2.1
      have l3 := congrArg List.length hh.2.2.2.1
      have l4 := congrArg List.length hh.2.2.2.2.1
      have l5 := congrArg List.length hh.2.2.2.2.2.1
      have l6 := congrArg List.length hh.2.2.2.2.2.2
      simp only [List.length_map] at l1 l2 l3 l4 l5 l6
      rw [LN.out, LN'.out] at l1
      rw [LC.out, LC'.out] at l2
      rw [LT.out, LT'.out] at l3
      rw [LD.out, LD'.out] at l4
      rw [LM.out, LM'.out] at l5
      rw [LB.out, LB'.out] at l6
      simp [hQ, l1, l2, l3, l4, l5, l6] at hz))
    go_wp2_with fail
    go_ret
    exact ⟨by rw [HX.out] <;> rfl, HB1.out⟩
  | false =>
  have hz := HZ.out
  clear HZ
  simp only [Bool.false_eq, Bool.not_eq_false', Bool.and_eq_true, decide_eq_true_eq] at hz
  obtain ⟨⟨⟨⟨⟨⟨hq, en⟩, ec⟩, et⟩, ed⟩, em⟩, eb⟩ := hz
  subst en ec et ed em eb
  have HQ2 := hide (of_decide_eq_true ((HQ.out ()).symm.trans hq))
  clear HQ hq
  have p4 := HK1.out.cell 4
  have p4' := HK1'.out.cell 4
  have p5 := HK1.out.cell 5
  have p5' := HK1'.out.cell 5
  have p6 := HK1.out.cell 6
  have p6' := HK1'.out.cell 6
  have p7 := HK1.out.cell 7
  have p7' := HK1'.out.cell 7
  have p8 := HK1.out.cell 8
  have p8' := HK1'.out.cell 8
  have p9 := HK1.out.cell 9
  have p9' := HK1'.out.cell 9
  simp at p4 p4' p5 p5' p6 p6' p7 p7' p8 p8' p9 p9'
  go_upto_region 3 with fail
  go_wp2_with fail
  clear p4 p4' p5 p5' p6 p6' p7 p7' p8 p8' p9 p9'
  go_loopw [88] (fun i wr => ∃ k : Nat, k ≤ nl ∧ i = .int .i64 k ∧ Hid (Below w1.heap.size w1 wr) ∧ Hid (∀ i (hi : i < nums.length) (hi' : i < nums'.length), i < k → nums[i] = nums'[i])) (fun i _ => nl - (intOf i).toNat)
  case atStart => exact ⟨0, Nat.zero_le _, rfl, hide (Below.refl _ _), hide (by omega)⟩
  case round =>
    obtain ⟨k, hk, rfl, HBR, HA⟩ := hrel
    have HBW : Hid (Below w.heap.size w wr) := hide (HB1.out.trans (HBR.out.mono HB1.out.size))
    have HKR : Hid (Blk wr w.heap.size 36 _) := hide (HK1.out.below HBR.out HK1.out.lt)
    have HKR' : Hid (Blk wr (w.heap.size + 1) 36 _) := hide (HK1'.out.below HBR.out HK1'.out.lt)
    have c0 := HKR.out.cell 4
    have c0' := HKR'.out.cell 4
    simp at c0 c0'
    have hbd : nl ≤ 9223372036854775807 := by obtain ⟨z1, z2, z3, z4, z5, z6⟩ := HS.out; omega
    by_cases hlt : k < nl
    · obtain ⟨x, o, u, rfl, hu, hcell⟩ := Rd.at_ ((HN.out).below HBW.out) k hlt
      obtain ⟨x', o', u', rfl, hu', hcell'⟩ := Rd.at_ ((HN'.out).below HBW.out) k hlt
      have hlk : k < nums.length := by have := LN.out; omega
      have hlk' : k < nums'.length := by have := LN'.out; omega
      rw [List.getElem?_map, List.getElem?_eq_getElem hlk] at hu
      rw [List.getElem?_map, List.getElem?_eq_getElem hlk'] at hu'
      simp only [Option.map_some, Option.some.injEq] at hu hu'
      obtain ⟨v, hv⟩ : ∃ v, v = nums[k] := ⟨_, rfl⟩
      obtain ⟨v', hv'⟩ : ∃ v', v' = nums'[k] := ⟨_, rfl⟩
      rw [← hv] at hu
      rw [← hv'] at hu'
      have HV := hide (And.intro hv hv')
      clear hv hv'
      subst hu hu'
      have hki : (k : Int) < (nl : Int) := by omega
      by_cases e : v = v'
      · subst e
        go_wp2_with fail
        go_quiet (fail)
        go_wp2_with fail
        go_roundw
        case rel => exact ⟨k + 1, by omega, by go_num, hide (bdrewN HBR.out _), hide (fun i hi hi' hlt' => by
          rcases Nat.lt_or_ge i k with h2 | h2
          · exact HA.out i hi hi' h2
          · obtain rfl : i = k := by omega
            rw [← HV.out.1, ← HV.out.2])⟩
        case measure => simp [intOf]; omega
      · have HX : Hid (R = false) := hide (no_ HR.out (fun hh => e (by rw [HV.out.1, HV.out.2]; exact at_eq hh.2.1 k hlk hlk')))
        have e1 := e
        have d1 : (v == v') = false := by simpa using e1
        go_wp2_with fail
        go_quiet (fail)
        go_wp2_with fail
        go_ret
        exact ⟨by rw [HX.out] <;> rfl, bdrewN HBW.out _⟩
    · have A0 := HA
      have A0b : Hid (k = nl) := hide (by omega)
      clear HA
      obtain ⟨w2, rfl⟩ : ∃ w2 : World, w2 = wr := ⟨_, rfl⟩
      have HB2 : Hid (Below w.heap.size w w2) := HBW
      have HK2 : Hid (Blk w2 w.heap.size 36 _) := HKR
      have HK2' : Hid (Blk w2 (w.heap.size + 1) 36 _) := HKR'
      clear HBR HBW HK1 HB1 HK1' HKR HKR' c0 c0'
      have p5 := HK2.out.cell 5
      have p5' := HK2'.out.cell 5
      have p6 := HK2.out.cell 6
      have p6' := HK2'.out.cell 6
      have p7 := HK2.out.cell 7
      have p7' := HK2'.out.cell 7
      have p8 := HK2.out.cell 8
      have p8' := HK2'.out.cell 8
      have p9 := HK2.out.cell 9
      have p9' := HK2'.out.cell 9
      simp at p5 p5' p6 p6' p7 p7' p8 p8' p9 p9'
      go_wp2_with fail
      clear p5 p5' p6 p6' p7 p7' p8 p8' p9 p9'
      go_loopw [109] (fun i wr => ∃ k : Nat, k ≤ cl ∧ i = .int .i64 k ∧ Hid (Below w2.heap.size w2 wr) ∧ Hid (∀ i (hi : i < cls.length) (hi' : i < cls'.length), i < k → cls[i] = cls'[i])) (fun i _ => cl - (intOf i).toNat)
      case atStart => exact ⟨0, Nat.zero_le _, rfl, hide (Below.refl _ _), hide (by omega)⟩
      case round =>
        obtain ⟨k, hk, rfl, HBR, HA⟩ := hrel
        have HBW : Hid (Below w.heap.size w wr) := hide (HB2.out.trans (HBR.out.mono HB2.out.size))
        have HKR : Hid (Blk wr w.heap.size 36 _) := hide (HK2.out.below HBR.out HK2.out.lt)
        have HKR' : Hid (Blk wr (w.heap.size + 1) 36 _) := hide (HK2'.out.below HBR.out HK2'.out.lt)
        have c0 := HKR.out.cell 5
        have c0' := HKR'.out.cell 5
        simp at c0 c0'
        have hbd : cl ≤ 9223372036854775807 := by obtain ⟨z1, z2, z3, z4, z5, z6⟩ := HS.out; omega
        by_cases hlt : k < cl
        · obtain ⟨x, o, u, rfl, hu, hcell⟩ := Rd.at_ ((HC.out).below HBW.out) k hlt
          obtain ⟨x', o', u', rfl, hu', hcell'⟩ := Rd.at_ ((HC'.out).below HBW.out) k hlt
          have hlk : k < cls.length := by have := LC.out; omega
          have hlk' : k < cls'.length := by have := LC'.out; omega
          rw [List.getElem?_map, List.getElem?_eq_getElem hlk] at hu
          rw [List.getElem?_map, List.getElem?_eq_getElem hlk'] at hu'
          simp only [Option.map_some, Option.some.injEq] at hu hu'
          obtain ⟨v, hv⟩ : ∃ v, v = cls[k] := ⟨_, rfl⟩
          obtain ⟨v', hv'⟩ : ∃ v', v' = cls'[k] := ⟨_, rfl⟩
          rw [← hv] at hu
          rw [← hv'] at hu'
          have HV := hide (And.intro hv hv')
          clear hv hv'
          subst hu hu'
          have hki : (k : Int) < (cl : Int) := by omega
          by_cases e : v = v'
          · subst e
            go_wp2_with fail
            go_quiet (fail)
            go_wp2_with fail
            go_roundw
            case rel => exact ⟨k + 1, by omega, by go_num, hide (bdrewN HBR.out _), hide (fun i hi hi' hlt' => by
              rcases Nat.lt_or_ge i k with h2 | h2
              · exact HA.out i hi hi' h2
              · obtain rfl : i = k := by omega
                rw [← HV.out.1, ← HV.out.2])⟩
            case measure => simp [intOf]; omega
          · have HX : Hid (R = false) := hide (no_ HR.out (fun hh => e (by rw [HV.out.1, HV.out.2]; exact at_eq hh.2.2.1 k hlk hlk')))
            have e1 := e
            have d1 : (v == v') = false := by simpa using e1
            go_wp2_with fail
            go_quiet (fail)
            go_wp2_with fail
            go_ret
            exact ⟨by rw [HX.out] <;> rfl, bdrewN HBW.out _⟩
        · have A1 := HA
          have A1b : Hid (k = cl) := hide (by omega)
          clear HA
          obtain ⟨w3, rfl⟩ : ∃ w3 : World, w3 = wr := ⟨_, rfl⟩
          have HB3 : Hid (Below w.heap.size w w3) := HBW
          have HK3 : Hid (Blk w3 w.heap.size 36 _) := HKR
          have HK3' : Hid (Blk w3 (w.heap.size + 1) 36 _) := HKR'
          clear HBR HBW HK2 HB2 HK2' HKR HKR' c0 c0'
          have p6 := HK3.out.cell 6
          have p6' := HK3'.out.cell 6
          have p7 := HK3.out.cell 7
          have p7' := HK3'.out.cell 7
          have p8 := HK3.out.cell 8
          have p8' := HK3'.out.cell 8
          have p9 := HK3.out.cell 9
          have p9' := HK3'.out.cell 9
          simp at p6 p6' p7 p7' p8 p8' p9 p9'
          go_wp2_with fail
          clear p6 p6' p7 p7' p8 p8' p9 p9'
          go_loopw [130] (fun i wr => ∃ k : Nat, k ≤ tl ∧ i = .int .i64 k ∧ Hid (Below w3.heap.size w3 wr) ∧ Hid (∀ i (hi : i < tys.length) (hi' : i < tys'.length), i < k → tys[i] = tys'[i])) (fun i _ => tl - (intOf i).toNat)
          case atStart => exact ⟨0, Nat.zero_le _, rfl, hide (Below.refl _ _), hide (by omega)⟩
          case round =>
            obtain ⟨k, hk, rfl, HBR, HA⟩ := hrel
            have HBW : Hid (Below w.heap.size w wr) := hide (HB3.out.trans (HBR.out.mono HB3.out.size))
            have HKR : Hid (Blk wr w.heap.size 36 _) := hide (HK3.out.below HBR.out HK3.out.lt)
            have HKR' : Hid (Blk wr (w.heap.size + 1) 36 _) := hide (HK3'.out.below HBR.out HK3'.out.lt)
            have c0 := HKR.out.cell 6
            have c0' := HKR'.out.cell 6
            simp at c0 c0'
            have hbd : tl ≤ 9223372036854775807 := by obtain ⟨z1, z2, z3, z4, z5, z6⟩ := HS.out; omega
            by_cases hlt : k < tl
            · obtain ⟨x, o, rfl, _, _, hcell⟩ := Rd.rec_ (size := 2) (fun _ => rfl) ((HT.out).below HBW.out) LT.out k hlt
              obtain ⟨x', o', rfl, _, _, hcell'⟩ := Rd.rec_ (size := 2) (fun _ => rfl) ((HT'.out).below HBW.out) LT'.out k hlt
              have hlk : k < tys.length := by have := LT.out; omega
              have hlk' : k < tys'.length := by have := LT'.out; omega
              obtain ⟨v, hv⟩ : ∃ v, v = tys[k] := ⟨_, rfl⟩
              obtain ⟨v', hv'⟩ : ∃ v', v' = tys'[k] := ⟨_, rfl⟩
              rw [← hv] at hcell
              rw [← hv'] at hcell'
              have HV := hide (And.intro hv hv')
              clear hv hv'
              obtain ⟨vn, va⟩ := v
              obtain ⟨vn', va'⟩ := v'
              have q0 : wr.cell? ⟨x, o + k * 2, none⟩ = some (S vn) := hcell 0 _ rfl
              have q0' : wr.cell? ⟨x', o' + k * 2, none⟩ = some (S vn') := hcell' 0 _ rfl
              have q1 : wr.cell? ⟨x, o + k * 2 + 1, none⟩ = some (.bool va) := hcell 1 _ rfl
              have q1' : wr.cell? ⟨x', o' + k * 2 + 1, none⟩ = some (.bool va') := hcell' 1 _ rfl
              have hki : (k : Int) < (tl : Int) := by omega
              clear hcell hcell'
              by_cases e : (⟨vn, va⟩ : Ty) = ⟨vn', va'⟩
              · skip
                injection e with e0 e1
                subst e0 e1
                go_wp2_with fail
                go_quiet (fail)
                go_wp2_with fail
                go_roundw
                case rel => exact ⟨k + 1, by omega, by go_num, hide (bdrewN HBR.out _), hide (fun i hi hi' hlt' => by
                  rcases Nat.lt_or_ge i k with h2 | h2
                  · exact HA.out i hi hi' h2
                  · obtain rfl : i = k := by omega
                    rw [← HV.out.1, ← HV.out.2])⟩
                case measure => simp [intOf]; omega
              · have HX : Hid (R = false) := hide (no_ HR.out (fun hh => e (by rw [HV.out.1, HV.out.2]; exact at_eq hh.2.2.2.1 k hlk hlk')))
                by_cases e1 : vn = vn'
                case neg =>
                  have d1 : (vn == vn') = false := by simpa using e1
                  go_wp2_with fail
                  go_quiet (fail)
                  go_wp2_with fail
                  go_ret
                  exact ⟨by rw [HX.out] <;> rfl, bdrewN HBW.out _⟩
                case pos =>
                subst e1
                by_cases e1 : va = va'
                case neg =>
                  cases va <;> cases va'
                  · exact absurd rfl e1
                  · skip
                    go_wp2_with fail
                    go_quiet (fail)
                    go_wp2_with fail
                    go_ret
                    exact ⟨by rw [HX.out] <;> rfl, bdrewN HBW.out _⟩
                  · skip
                    go_wp2_with fail
                    go_quiet (fail)
                    go_wp2_with fail
                    go_ret
                    exact ⟨by rw [HX.out] <;> rfl, bdrewN HBW.out _⟩
                  · exact absurd rfl e1
                case pos =>
                subst e1
                exact absurd rfl e
            · have A2 := HA
              have A2b : Hid (k = tl) := hide (by omega)
              clear HA
              obtain ⟨w4, rfl⟩ : ∃ w4 : World, w4 = wr := ⟨_, rfl⟩
              have HB4 : Hid (Below w.heap.size w w4) := HBW
              have HK4 : Hid (Blk w4 w.heap.size 36 _) := HKR
              have HK4' : Hid (Blk w4 (w.heap.size + 1) 36 _) := HKR'
              clear HBR HBW HK3 HB3 HK3' HKR HKR' c0 c0'
              have p7 := HK4.out.cell 7
              have p7' := HK4'.out.cell 7
              have p8 := HK4.out.cell 8
              have p8' := HK4'.out.cell 8
              have p9 := HK4.out.cell 9
              have p9' := HK4'.out.cell 9
              simp at p7 p7' p8 p8' p9 p9'
              go_wp2_with fail
              clear p7 p7' p8 p8' p9 p9'
              go_loopw [151] (fun i wr => ∃ k : Nat, k ≤ dl ∧ i = .int .i64 k ∧ Hid (Below w4.heap.size w4 wr) ∧ Hid (∀ i (hi : i < fds.length) (hi' : i < fds'.length), i < k → fds[i] = fds'[i])) (fun i _ => dl - (intOf i).toNat)
              case atStart => exact ⟨0, Nat.zero_le _, rfl, hide (Below.refl _ _), hide (by omega)⟩
              case round =>
                obtain ⟨k, hk, rfl, HBR, HA⟩ := hrel
                have HBW : Hid (Below w.heap.size w wr) := hide (HB4.out.trans (HBR.out.mono HB4.out.size))
                have HKR : Hid (Blk wr w.heap.size 36 _) := hide (HK4.out.below HBR.out HK4.out.lt)
                have HKR' : Hid (Blk wr (w.heap.size + 1) 36 _) := hide (HK4'.out.below HBR.out HK4'.out.lt)
                have c0 := HKR.out.cell 7
                have c0' := HKR'.out.cell 7
                simp at c0 c0'
                have hbd : dl ≤ 9223372036854775807 := by obtain ⟨z1, z2, z3, z4, z5, z6⟩ := HS.out; omega
                by_cases hlt : k < dl
                · obtain ⟨x, o, rfl, _, _, hcell⟩ := Rd.rec_ (size := 4) (fun _ => rfl) ((HD.out).below HBW.out) LD.out k hlt
                  obtain ⟨x', o', rfl, _, _, hcell'⟩ := Rd.rec_ (size := 4) (fun _ => rfl) ((HD'.out).below HBW.out) LD'.out k hlt
                  have hlk : k < fds.length := by have := LD.out; omega
                  have hlk' : k < fds'.length := by have := LD'.out; omega
                  obtain ⟨v, hv⟩ : ∃ v, v = fds[k] := ⟨_, rfl⟩
                  obtain ⟨v', hv'⟩ : ∃ v', v' = fds'[k] := ⟨_, rfl⟩
                  rw [← hv] at hcell
                  rw [← hv'] at hcell'
                  have HV := hide (And.intro hv hv')
                  clear hv hv'
                  obtain ⟨⟨vn, vt, va⟩, vc⟩ := v
                  obtain ⟨⟨vn', vt', va'⟩, vc'⟩ := v'
                  have q0 : wr.cell? ⟨x, o + k * 4, none⟩ = some (S vn) := hcell 0 _ rfl
                  have q0' : wr.cell? ⟨x', o' + k * 4, none⟩ = some (S vn') := hcell' 0 _ rfl
                  have q1 : wr.cell? ⟨x, o + k * 4 + 1, none⟩ = some (S vt) := hcell 1 _ rfl
                  have q1' : wr.cell? ⟨x', o' + k * 4 + 1, none⟩ = some (S vt') := hcell' 1 _ rfl
                  have q2 : wr.cell? ⟨x, o + k * 4 + 2, none⟩ = some (.bool va) := hcell 2 _ rfl
                  have q2' : wr.cell? ⟨x', o' + k * 4 + 2, none⟩ = some (.bool va') := hcell' 2 _ rfl
                  have q3 : wr.cell? ⟨x, o + k * 4 + 3, none⟩ = some (S vc) := hcell 3 _ rfl
                  have q3' : wr.cell? ⟨x', o' + k * 4 + 3, none⟩ = some (S vc') := hcell' 3 _ rfl
                  have hki : (k : Int) < (dl : Int) := by omega
                  clear hcell hcell'
                  by_cases e : (⟨⟨vn, vt, va⟩, vc⟩ : FdP) = ⟨⟨vn', vt', va'⟩, vc'⟩
                  · skip
                    injection e with e0 e3
                    injection e0 with e0 e1
                    injection e1 with e1 e2
                    subst e0 e1 e2 e3
                    go_wp2_with fail
                    go_quiet (fail)
                    go_wp2_with fail
                    go_roundw
                    case rel => exact ⟨k + 1, by omega, by go_num, hide (bdrewN HBR.out _), hide (fun i hi hi' hlt' => by
                      rcases Nat.lt_or_ge i k with h2 | h2
                      · exact HA.out i hi hi' h2
                      · obtain rfl : i = k := by omega
                        rw [← HV.out.1, ← HV.out.2])⟩
                    case measure => simp [intOf]; omega
                  · have HX : Hid (R = false) := hide (no_ HR.out (fun hh => e (by rw [HV.out.1, HV.out.2]; exact at_eq hh.2.2.2.2.1 k hlk hlk')))
                    by_cases e1 : vn = vn'
                    case neg =>
                      have d1 : (vn == vn') = false := by simpa using e1
                      go_wp2_with fail
                      go_quiet (fail)
                      go_wp2_with fail
                      go_ret
                      exact ⟨by rw [HX.out] <;> rfl, bdrewN HBW.out _⟩
                    case pos =>
                    subst e1
                    by_cases e1 : vt = vt'
                    case neg =>
                      have d1 : (vt == vt') = false := by simpa using e1
                      go_wp2_with fail
                      go_quiet (fail)
                      go_wp2_with fail
                      go_ret
                      exact ⟨by rw [HX.out] <;> rfl, bdrewN HBW.out _⟩
                    case pos =>
                    subst e1
                    by_cases e1 : va = va'
                    case neg =>
                      cases va <;> cases va'
                      · exact absurd rfl e1
                      · skip
                        go_wp2_with fail
                        go_quiet (fail)
                        go_wp2_with fail
                        go_ret
                        exact ⟨by rw [HX.out] <;> rfl, bdrewN HBW.out _⟩
                      · skip
                        go_wp2_with fail
                        go_quiet (fail)
                        go_wp2_with fail
                        go_ret
                        exact ⟨by rw [HX.out] <;> rfl, bdrewN HBW.out _⟩
                      · exact absurd rfl e1
                    case pos =>
                    subst e1
                    by_cases e1 : vc = vc'
                    case neg =>
                      have d1 : (vc == vc') = false := by simpa using e1
                      go_wp2_with fail
                      go_quiet (fail)
                      go_wp2_with fail
                      go_ret
                      exact ⟨by rw [HX.out] <;> rfl, bdrewN HBW.out _⟩
                    case pos =>
                    subst e1
                    exact absurd rfl e
                · have A3 := HA
                  have A3b : Hid (k = dl) := hide (by omega)
                  clear HA
                  obtain ⟨w5, rfl⟩ : ∃ w5 : World, w5 = wr := ⟨_, rfl⟩
                  have HB5 : Hid (Below w.heap.size w w5) := HBW
                  have HK5 : Hid (Blk w5 w.heap.size 36 _) := HKR
                  have HK5' : Hid (Blk w5 (w.heap.size + 1) 36 _) := HKR'
                  clear HBR HBW HK4 HB4 HK4' HKR HKR' c0 c0'
                  have p8 := HK5.out.cell 8
                  have p8' := HK5'.out.cell 8
                  have p9 := HK5.out.cell 9
                  have p9' := HK5'.out.cell 9
                  simp at p8 p8' p9 p9'
                  go_wp2_with fail
                  clear p8 p8' p9 p9'
                  go_loopw [172] (fun i wr => ∃ k : Nat, k ≤ ml ∧ i = .int .i64 k ∧ Hid (Below w5.heap.size w5 wr) ∧ Hid (∀ i (hi : i < mts.length) (hi' : i < mts'.length), i < k → (mts[i]).pl = (mts'[i]).pl)) (fun i _ => ml - (intOf i).toNat)
                  case atStart => exact ⟨0, Nat.zero_le _, rfl, hide (Below.refl _ _), hide (by omega)⟩
                  case round =>
                    obtain ⟨k, hk, rfl, HBR, HA⟩ := hrel
                    have HBW : Hid (Below w.heap.size w wr) := hide (HB5.out.trans (HBR.out.mono HB5.out.size))
                    have HKR : Hid (Blk wr w.heap.size 36 _) := hide (HK5.out.below HBR.out HK5.out.lt)
                    have HKR' : Hid (Blk wr (w.heap.size + 1) 36 _) := hide (HK5'.out.below HBR.out HK5'.out.lt)
                    have c0 := HKR.out.cell 8
                    have c0' := HKR'.out.cell 8
                    simp at c0 c0'
                    have hbd : ml ≤ 9223372036854775807 := by obtain ⟨z1, z2, z3, z4, z5, z6⟩ := HS.out; omega
                    by_cases hlt : k < ml
                    · obtain ⟨x, o, rfl, _, hxl, hcell⟩ := Rd.rec_ (size := 6) (fun _ => rfl) ((HM.out).below HBW.out) LM.out k hlt
                      obtain ⟨x', o', rfl, _, hxl', hcell'⟩ := Rd.rec_ (size := 6) (fun _ => rfl) ((HM'.out).below HBW.out) LM'.out k hlt
                      have hlk : k < mts.length := by have := LM.out; omega
                      have hlk' : k < mts'.length := by have := LM'.out; omega
                      have WV := ((WM.out _ (List.getElem_mem hlk)).below HBW.out).weak (G := fun k => wr.heap.size ≤ k) (fun k hk => Nat.le_trans HBW.out.size hk)
                      have WV' := ((WM'.out _ (List.getElem_mem hlk')).below HBW.out).weak (G := fun k => wr.heap.size ≤ k) (fun k hk => Nat.le_trans HBW.out.size hk)
                      obtain ⟨v, hv⟩ : ∃ v, v = mts[k] := ⟨_, rfl⟩
                      obtain ⟨v', hv'⟩ : ∃ v', v' = mts'[k] := ⟨_, rfl⟩
                      rw [← hv] at hcell WV
                      rw [← hv'] at hcell' WV'
                      have HV := hide (And.intro hv hv')
                      clear hv hv'
                      obtain ⟨vm, vc⟩ := v
                      obtain ⟨vm', vc'⟩ := v'
                      obtain ⟨B, hB⟩ : ∃ B, B = decide (vm.p = vm'.p) := ⟨_, rfl⟩
                      have HS1 : Hid (∀ t : After wr, Calls Tryd.prog 46 #[vm.val, vm'.val] t.val (Gives t.val (.bool B))) := hide (fun t => by
                        rw [hB]
                        exact sigsame_any _ _ t.val ((WV.1.below t.prop).weak (fun k hk => Nat.le_trans t.prop.size hk)) ((WV'.1.below t.prop).weak (fun k hk => Nat.le_trans t.prop.size hk)))
                      have HB0 := hide hB
                      clear hB WV WV'
                      obtain ⟨vn, vs, zA, zk, zc, vp, vr, va⟩ := vm
                      obtain ⟨vn', vs', zA', zk', zc', vp', vr', va'⟩ := vm'
                      simp only [Sg.val] at HS1
                      have c0 : ∀ t : After wr, t.val.cell? ⟨w.heap.size, 8, none⟩ = some (.slice (some ⟨x, o, none⟩) ml mc) := fun t => (HKR.out.below t.prop HKR.out.lt).cell 8
                      have c0' : ∀ t : After wr, t.val.cell? ⟨w.heap.size + 1, 8, none⟩ = some (.slice (some ⟨x', o', none⟩) ml mc') := fun t => (HKR'.out.below t.prop HKR'.out.lt).cell 8
                      have q0 : ∀ t : After wr, t.val.cell? ⟨x, o + k * 6, none⟩ = some (S vn) := fun t => (World.cell?_of_block (w := wr) (t.prop.block x hxl)).trans (hcell 0 _ rfl)
                      have q0' : ∀ t : After wr, t.val.cell? ⟨x', o' + k * 6, none⟩ = some (S vn') := fun t => (World.cell?_of_block (w := wr) (t.prop.block x' hxl')).trans (hcell' 0 _ rfl)
                      have q1 : ∀ t : After wr, t.val.cell? ⟨x, o + k * 6 + 1, none⟩ = some (.bool vs) := fun t => (World.cell?_of_block (w := wr) (t.prop.block x hxl)).trans (hcell 1 _ rfl)
                      have q1' : ∀ t : After wr, t.val.cell? ⟨x', o' + k * 6 + 1, none⟩ = some (.bool vs') := fun t => (World.cell?_of_block (w := wr) (t.prop.block x' hxl')).trans (hcell' 1 _ rfl)
                      have q2 : ∀ t : After wr, t.val.cell? ⟨x, o + k * 6 + 2, none⟩ = some (.slice zA zk zc) := fun t => (World.cell?_of_block (w := wr) (t.prop.block x hxl)).trans (hcell 2 _ rfl)
                      have q2' : ∀ t : After wr, t.val.cell? ⟨x', o' + k * 6 + 2, none⟩ = some (.slice zA' zk' zc') := fun t => (World.cell?_of_block (w := wr) (t.prop.block x' hxl')).trans (hcell' 2 _ rfl)
                      have q3 : ∀ t : After wr, t.val.cell? ⟨x, o + k * 6 + 3, none⟩ = some (S vr) := fun t => (World.cell?_of_block (w := wr) (t.prop.block x hxl)).trans (hcell 3 _ rfl)
                      have q3' : ∀ t : After wr, t.val.cell? ⟨x', o' + k * 6 + 3, none⟩ = some (S vr') := fun t => (World.cell?_of_block (w := wr) (t.prop.block x' hxl')).trans (hcell' 3 _ rfl)
                      have q4 : ∀ t : After wr, t.val.cell? ⟨x, o + k * 6 + 4, none⟩ = some (.bool va) := fun t => (World.cell?_of_block (w := wr) (t.prop.block x hxl)).trans (hcell 4 _ rfl)
                      have q4' : ∀ t : After wr, t.val.cell? ⟨x', o' + k * 6 + 4, none⟩ = some (.bool va') := fun t => (World.cell?_of_block (w := wr) (t.prop.block x' hxl')).trans (hcell' 4 _ rfl)
                      have q5 : ∀ t : After wr, t.val.cell? ⟨x, o + k * 6 + 5, none⟩ = some (S vc) := fun t => (World.cell?_of_block (w := wr) (t.prop.block x hxl)).trans (hcell 5 _ rfl)
                      have q5' : ∀ t : After wr, t.val.cell? ⟨x', o' + k * 6 + 5, none⟩ = some (S vc') := fun t => (World.cell?_of_block (w := wr) (t.prop.block x' hxl')).trans (hcell' 5 _ rfl)
                      have hki : (k : Int) < (ml : Int) := by omega
                      clear hcell hcell'
                      have HI : Hid (((⟨⟨vn, vs, zA, zk, zc, vp, ⟨vr, va⟩⟩, vc⟩ : Mt).pl = (⟨⟨vn', vs', zA', zk', zc', vp', ⟨vr', va'⟩⟩, vc'⟩ : Mt).pl) ↔ (B = true ∧ vc = vc')) := hide (by
                        rw [HB0.out, decide_eq_true_eq, ← Sg.pl_p]
                        simp only [Mt.pl, MtP.mk.injEq])
                      by_cases e1 : vc = vc'
                      · subst e1
                        have d1 : (vc == vc) = true := by simp
                        cases B with
                        | true =>
                          have e := HI.out.2 ⟨rfl, rfl⟩
                          go_wp2_with fail
                          refine region_after (by kernel_rfl) (by kernel_rfl) ?_
                          repeat (go_big_quiet_step ((go_at_call 46; refine call_after (HS1.out _))))
                          refine wpQuiet_nil ?_
                          rintro _ ⟨t, rfl⟩
                          go_wp2_with fail
                          go_roundw
                          case rel => exact ⟨k + 1, by omega, by go_num, hide (HBR.out.trans (t.prop.mono HBR.out.size)), hide (fun i hi hi' hlt' => by
                            rcases Nat.lt_or_ge i k with h2 | h2
                            · exact HA.out i hi hi' h2
                            · obtain rfl : i = k := by omega
                              rw [← HV.out.1, ← HV.out.2]; exact e)⟩
                          case measure => simp [intOf]; omega
                        | false =>
                          have e := fun h => Bool.false_ne_true (HI.out.1 h).1
                          have HX : Hid (R = false) := hide (no_ HR.out (fun hh => e (by
                            have hq := at_eq hh.2.2.2.2.2.1 k (by simpa using hlk) (by simpa using hlk')
                            simp only [List.getElem_map] at hq
                            rw [HV.out.1, HV.out.2]; exact hq)))
                          go_wp2_with fail
                          refine region_after (by kernel_rfl) (by kernel_rfl) ?_
                          repeat (go_big_quiet_step ((go_at_call 46; refine call_after (HS1.out _))))
                          refine wpQuiet_nil ?_
                          rintro _ ⟨t, rfl⟩
                          go_wp2_with fail
                          go_ret
                          exact ⟨by rw [HX.out] <;> rfl, HBW.out.trans (t.prop.mono HBW.out.size)⟩
                      · have e := fun h => e1 (HI.out.1 h).2
                        have d1 : (vc == vc') = false := by simpa using e1
                        have HX : Hid (R = false) := hide (no_ HR.out (fun hh => e (by
                          have hq := at_eq hh.2.2.2.2.2.1 k (by simpa using hlk) (by simpa using hlk')
                          simp only [List.getElem_map] at hq
                          rw [HV.out.1, HV.out.2]; exact hq)))
                        go_wp2_with fail
                        refine region_after (by kernel_rfl) (by kernel_rfl) ?_
                        repeat (go_big_quiet_step ((go_at_call 46; refine call_after (HS1.out _))))
                        refine wpQuiet_nil ?_
                        rintro _ ⟨t, rfl⟩
                        go_wp2_with fail
                        go_ret
                        exact ⟨by rw [HX.out] <;> rfl, HBW.out.trans (t.prop.mono HBW.out.size)⟩
                    · have A4 := HA
                      have A4b : Hid (k = ml) := hide (by omega)
                      clear HA
                      obtain ⟨w6, rfl⟩ : ∃ w6 : World, w6 = wr := ⟨_, rfl⟩
                      have HB6 : Hid (Below w.heap.size w w6) := HBW
                      have HK6 : Hid (Blk w6 w.heap.size 36 _) := HKR
                      have HK6' : Hid (Blk w6 (w.heap.size + 1) 36 _) := HKR'
                      clear HBR HBW HK5 HB5 HK5' HKR HKR' c0 c0'
                      have p9 := HK6.out.cell 9
                      have p9' := HK6'.out.cell 9
                      simp at p9 p9'
                      go_wp2_with fail
                      clear p9 p9'
                      go_loopw [212] (fun i wr => ∃ k : Nat, k ≤ bl ∧ i = .int .i64 k ∧ Hid (Below w6.heap.size w6 wr) ∧ Hid (∀ i (hi : i < bs.length) (hi' : i < bs'.length), i < k → (bs[i]).pl = (bs'[i]).pl)) (fun i _ => bl - (intOf i).toNat)
                      case atStart => exact ⟨0, Nat.zero_le _, rfl, hide (Below.refl _ _), hide (by omega)⟩
                      case round =>
                        obtain ⟨k, hk, rfl, HBR, HA⟩ := hrel
                        have HBW : Hid (Below w.heap.size w wr) := hide (HB6.out.trans (HBR.out.mono HB6.out.size))
                        have HKR : Hid (Blk wr w.heap.size 36 _) := hide (HK6.out.below HBR.out HK6.out.lt)
                        have HKR' : Hid (Blk wr (w.heap.size + 1) 36 _) := hide (HK6'.out.below HBR.out HK6'.out.lt)
                        have c0 := HKR.out.cell 9
                        have c0' := HKR'.out.cell 9
                        simp at c0 c0'
                        have hbd : bl ≤ 9223372036854775807 := by obtain ⟨z1, z2, z3, z4, z5, z6⟩ := HS.out; omega
                        by_cases hlt : k < bl
                        · obtain ⟨x, o, rfl, _, hxl, hcell⟩ := Rd.rec_ (size := 3) (fun _ => rfl) ((HB.out).below HBW.out) LB.out k hlt
                          obtain ⟨x', o', rfl, _, hxl', hcell'⟩ := Rd.rec_ (size := 3) (fun _ => rfl) ((HB'.out).below HBW.out) LB'.out k hlt
                          have hlk : k < bs.length := by have := LB.out; omega
                          have hlk' : k < bs'.length := by have := LB'.out; omega
                          have WV := hide ((WB.out _ (List.getElem_mem hlk)).below HBW.out)
                          have WV' := hide ((WB'.out _ (List.getElem_mem hlk')).below HBW.out)
                          obtain ⟨v, hv⟩ : ∃ v, v = bs[k] := ⟨_, rfl⟩
                          obtain ⟨v', hv'⟩ : ∃ v', v' = bs'[k] := ⟨_, rfl⟩
                          rw [← hv] at hcell WV
                          rw [← hv'] at hcell' WV'
                          have HV := hide (And.intro hv hv')
                          clear hv hv'
                          obtain ⟨vlo, vsk, zA, zk, zc, vco⟩ := v
                          obtain ⟨vlo', vsk', zA', zk', zc', vco'⟩ := v'
                          obtain ⟨a1, a2, a3, _, _, _⟩ := WV.out
                          obtain ⟨a1', a2', _, _, _, _⟩ := WV'.out
                          have HCR := hide a1
                          have HCR' := hide a1'
                          have HCL := hide a2
                          have HCL' := hide a2'
                          have HCB := hide a3
                          clear a1 a1' a2 a2' a3
                          simp only at HCR HCR' HCL HCL' HCB
                          clear WV WV'
                          have q0 : wr.cell? ⟨x, o + k * 3, none⟩ = some (.int .i64 vlo) := hcell 0 _ rfl
                          have q0' : ∀ o2, (wr.alloc o2).cell? ⟨x', o' + k * 3, none⟩ = some (.int .i64 vlo') := fun o2 => (World.cell?_alloc_lt wr o2 _ hxl').trans (hcell' 0 _ rfl)
                          have q1 : wr.cell? ⟨x, o + k * 3 + 1, none⟩ = some (.int .i64 vsk) := hcell 1 _ rfl
                          have q1' : ∀ o2, (wr.alloc o2).cell? ⟨x', o' + k * 3 + 1, none⟩ = some (.int .i64 vsk') := fun o2 => (World.cell?_alloc_lt wr o2 _ hxl').trans (hcell' 1 _ rfl)
                          have q2 : wr.cell? ⟨x, o + k * 3 + 2, none⟩ = some (.slice zA zk zc) := hcell 2 _ rfl
                          have q2' : ∀ o2, (wr.alloc o2).cell? ⟨x', o' + k * 3 + 2, none⟩ = some (.slice zA' zk' zc') := fun o2 => (World.cell?_alloc_lt wr o2 _ hxl').trans (hcell' 2 _ rfl)
                          have c0' : ∀ o2, (wr.alloc o2).cell? ⟨w.heap.size + 1, 9, none⟩ = some (.slice (some ⟨x', o', none⟩) bl bc') := fun o2 => (HKR'.out.alloc o2).cell 9
                          have hki : (k : Int) < (bl : Int) := by omega
                          clear hcell hcell'
                          by_cases e1 : vlo = vlo'
                          case neg =>
                            have HX : Hid (R = false) := hide (no_ HR.out (fun hh => e1 (by
                              have hq := at_eq hh.2.2.2.2.2.2 k (by simpa using hlk) (by simpa using hlk')
                              simp only [List.getElem_map, ← HV.out.1, ← HV.out.2, Bd.pl, BdP.mk.injEq] at hq
                              exact hq.1)))
                            go_wp2_with fail
                            go_ret
                            exact ⟨by rw [HX.out] <;> rfl, ((HBW.out.alloc HBW.out.size _).alloc (by have := HBW.out.size; simp; omega) _)⟩
                          case pos =>
                          subst e1
                          by_cases e1 : vsk = vsk'
                          case neg =>
                            have HX : Hid (R = false) := hide (no_ HR.out (fun hh => e1 (by
                              have hq := at_eq hh.2.2.2.2.2.2 k (by simpa using hlk) (by simpa using hlk')
                              simp only [List.getElem_map, ← HV.out.1, ← HV.out.2, Bd.pl, BdP.mk.injEq] at hq
                              exact hq.2.1)))
                            go_wp2_with fail
                            go_ret
                            exact ⟨by rw [HX.out] <;> rfl, ((HBW.out.alloc HBW.out.size _).alloc (by have := HBW.out.size; simp; omega) _)⟩
                          case pos =>
                          subst e1
                          by_cases e1 : zk = zk'
                          case neg =>
                            have HX : Hid (R = false) := hide (no_ HR.out (fun hh => e1 (by
                              have hq := at_eq hh.2.2.2.2.2.2 k (by simpa using hlk) (by simpa using hlk')
                              simp only [List.getElem_map, ← HV.out.1, ← HV.out.2, Bd.pl, BdP.mk.injEq] at hq
                              rw [← HCL.out, ← HCL'.out, hq.2.2])))
                            go_wp2_with fail
                            go_ret
                            exact ⟨by rw [HX.out] <;> rfl, ((HBW.out.alloc HBW.out.size _).alloc (by have := HBW.out.size; simp; omega) _)⟩
                          case pos =>
                          subst e1
                          go_wp2_with fail
                          obtain ⟨wq, hwq⟩ : ∃ wq, wq = (wr.alloc (.cells #[.int .i64 vlo, .int .i64 vsk, .slice zA zk zc] 58)).alloc (.cells #[.int .i64 vlo, .int .i64 vsk, .slice zA' zk zc'] 58) := ⟨_, rfl⟩
                          rw [← hwq]
                          have HBQ : Hid (Below wr.heap.size wr wq) := hide (by rw [hwq]; exact ((Below.refl _ _).alloc (Nat.le_refl _) _).alloc (by simp) _)
                          have HKQ : Hid (Blk wq wr.heap.size 58 #[.int .i64 vlo, .int .i64 vsk, .slice zA zk zc]) := hide (by rw [hwq]; exact (Blk.new _ _ _).alloc _)
                          have HKQ' : Hid (Blk wq (wr.heap.size + 1) 58 #[.int .i64 vlo, .int .i64 vsk, .slice zA' zk zc']) := hide (by
                            rw [hwq]
                            have := Blk.new (wr.alloc (.cells #[.int .i64 vlo, .int .i64 vsk, .slice zA zk zc] 58)) 58 #[.int .i64 vlo, .int .i64 vsk, .slice zA' zk zc']
                            rwa [World.size_alloc] at this)
                          clear hwq q0 q1 q2 q0' q1' q2' c0 c0'
                          obtain ⟨wo, rfl⟩ : ∃ wo : World, wo = wr := ⟨_, rfl⟩
                          go_loopw [246] (fun i wi => ∃ m : Nat, m ≤ zk ∧ i = .int .i64 m ∧ Hid (Below wq.heap.size wq wi) ∧ Hid (∀ i (hi : i < vco.length) (hi' : i < vco'.length), i < m → vco[i] = vco'[i])) (fun i _ => zk - (intOf i).toNat)
                          case atStart => exact ⟨0, Nat.zero_le _, rfl, hide (Below.refl _ _), hide (by omega)⟩
                          case round =>
                            obtain ⟨m, hm, rfl, HBI, HAI⟩ := hrel
                            have HBX : Hid (Below wo.heap.size wo wr) := hide (HBQ.out.trans (HBI.out.mono HBQ.out.size))
                            have HBZ : Hid (Below w.heap.size w wr) := hide (HBW.out.trans (HBX.out.mono HBW.out.size))
                            have c0 := (HKQ.out.below HBI.out HKQ.out.lt).cell 2
                            have c0' := (HKQ'.out.below HBI.out HKQ'.out.lt).cell 2
                            simp at c0 c0'
                            have hbd2 : zk ≤ 9223372036854775807 := HCB.out
                            by_cases hlt2 : m < zk
                            · obtain ⟨y, o, rfl, _, _, hcell⟩ := Rd.rec_ (size := 2) (fun _ => rfl) (HCR.out.below (HBX.out.mono HBW.out.size)) HCL.out m hlt2
                              obtain ⟨y', o', rfl, _, _, hcell'⟩ := Rd.rec_ (size := 2) (fun _ => rfl) (HCR'.out.below (HBX.out.mono HBW.out.size)) HCL'.out m hlt2
                              have hlm : m < vco.length := by have := HCL.out; omega
                              have hlm' : m < vco'.length := by have := HCL'.out; omega
                              obtain ⟨u, hu⟩ : ∃ u, u = vco[m] := ⟨_, rfl⟩
                              obtain ⟨u', hu'⟩ : ∃ u', u' = vco'[m] := ⟨_, rfl⟩
                              rw [← hu] at hcell
                              rw [← hu'] at hcell'
                              have HU := hide (And.intro hu hu')
                              clear hu hu'
                              obtain ⟨ua, ub⟩ := u
                              obtain ⟨ua', ub'⟩ := u'
                              have q0 : wr.cell? ⟨y, o + m * 2, none⟩ = some (.int .i64 ua) := hcell 0 _ rfl
                              have q0' : wr.cell? ⟨y', o' + m * 2, none⟩ = some (.int .i64 ua') := hcell' 0 _ rfl
                              have q1 : wr.cell? ⟨y, o + m * 2 + 1, none⟩ = some (.int .i64 ub) := hcell 1 _ rfl
                              have q1' : wr.cell? ⟨y', o' + m * 2 + 1, none⟩ = some (.int .i64 ub') := hcell' 1 _ rfl
                              have hmi : (m : Int) < (zk : Int) := by omega
                              clear hcell hcell'
                              by_cases e1 : ua = ua'
                              case neg =>
                                have HX : Hid (R = false) := hide (no_ HR.out (fun hh => e1 (by
                                  have hq := at_eq hh.2.2.2.2.2.2 k (by simpa using hlk) (by simpa using hlk')
                                  simp only [List.getElem_map, ← HV.out.1, ← HV.out.2, Bd.pl, BdP.mk.injEq] at hq
                                  have hq2 := at_eq hq.2.2 m hlm hlm'
                                  rw [← HU.out.1, ← HU.out.2] at hq2
                                  exact congrArg Prod.fst hq2)))
                                have d1 : (ua == ua') = false := by simpa using e1
                                go_wp2_with fail
                                go_quiet (fail)
                                go_wp2_with fail
                                go_ret
                                exact ⟨by rw [HX.out] <;> rfl, bdrewN HBZ.out _⟩
                              case pos =>
                              subst e1
                              by_cases e1 : ub = ub'
                              case neg =>
                                have HX : Hid (R = false) := hide (no_ HR.out (fun hh => e1 (by
                                  have hq := at_eq hh.2.2.2.2.2.2 k (by simpa using hlk) (by simpa using hlk')
                                  simp only [List.getElem_map, ← HV.out.1, ← HV.out.2, Bd.pl, BdP.mk.injEq] at hq
                                  have hq2 := at_eq hq.2.2 m hlm hlm'
                                  rw [← HU.out.1, ← HU.out.2] at hq2
                                  exact congrArg Prod.snd hq2)))
                                have d1 : (ub == ub') = false := by simpa using e1
                                go_wp2_with fail
                                go_quiet (fail)
                                go_wp2_with fail
                                go_ret
                                exact ⟨by rw [HX.out] <;> rfl, bdrewN HBZ.out _⟩
                              case pos =>
                              subst e1
                              go_wp2_with fail
                              go_quiet (fail)
                              go_wp2_with fail
                              go_roundw
                              case rel =>
                                exact ⟨m + 1, by omega, by go_num, hide (bdrewN HBI.out _), hide (fun i hi hi' hlt' => by
                                  rcases Nat.lt_or_ge i m with h2 | h2
                                  · exact HAI.out i hi hi' h2
                                  · obtain rfl : i = m := by omega
                                    rw [← HU.out.1, ← HU.out.2])⟩
                              case measure => simp [intOf]; omega
                            · have e : Hid (vco = vco') := hide (eq_of_all (by rw [HCL.out, HCL'.out]) (fun i hi hi' => HAI.out i hi hi' (by have := HCL.out; omega)))
                              clear HAI
                              go_wp2_with fail
                              go_roundw
                              case rel => exact ⟨k + 1, by omega, by go_num, hide (HBR.out.trans (HBX.out.mono HBR.out.size)), hide (fun i hi hi' hlt' => by
                                rcases Nat.lt_or_ge i k with h2 | h2
                                · exact HA.out i hi hi' h2
                                · obtain rfl : i = k := by omega
                                  rw [← HV.out.1, ← HV.out.2]; simp only [Bd.pl, e.out])⟩
                              case measure => simp [intOf]; omega
                        · have A5 := HA
                          have A5b : Hid (k = bl) := hide (by omega)
                          clear HA
                          obtain ⟨w7, rfl⟩ : ∃ w7 : World, w7 = wr := ⟨_, rfl⟩
                          have HB7 : Hid (Below w.heap.size w w7) := HBW
                          have HK7 : Hid (Blk w7 w.heap.size 36 _) := HKR
                          have HK7' : Hid (Blk w7 (w.heap.size + 1) 36 _) := HKR'
                          clear HBR HBW HK6 HB6 HK6' HKR HKR' c0 c0'
                          have HY : Hid (R = true) := hide (HR.out.2 ⟨HQ2.out, eq_of_all (by simp only [LN.out, LN'.out]) (fun i hi hi' => A0.out i hi hi' (by have := LN.out; have := A0b.out; omega)), eq_of_all (by simp only [LC.out, LC'.out]) (fun i hi hi' => A1.out i hi hi' (by have := LC.out; have := A1b.out; omega)), eq_of_all (by simp only [LT.out, LT'.out]) (fun i hi hi' => A2.out i hi hi' (by have := LT.out; have := A2b.out; omega)), eq_of_all (by simp only [LD.out, LD'.out]) (fun i hi hi' => A3.out i hi hi' (by have := LD.out; have := A3b.out; omega)), eq_of_all (by simp only [List.length_map, LM.out, LM'.out]) (fun i hi hi' => by simp only [List.length_map] at hi hi'; simp only [List.getElem_map]; exact A4.out i hi hi' (by have := LM.out; have := A4b.out; omega)), eq_of_all (by simp only [List.length_map, LB.out, LB'.out]) (fun i hi hi' => by simp only [List.length_map] at hi hi'; simp only [List.getElem_map]; exact A5.out i hi hi' (by have := LB.out; have := A5b.out; omega))⟩)
                          go_wp2_with fail
                          go_ret
                          exact ⟨by rw [HY.out] <;> rfl, HB7.out⟩
end Go.Proofs.YtkldfbacagnhoaaDoor
