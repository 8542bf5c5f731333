/- The page's check of a class, walked; it answers as the table's does; no statement of the seat is proved here. -/
import Derived.Test.YtmhnfilingebfaaHierCheckT
namespace Go.Proofs.Ytmhnfilingebfaa
open Go.RowKit

set_option maxRecDepth 100000 in
set_option maxHeartbeats 16000000 in
theorem pcheck_any (A : Option Addr) (n c : Nat) (T : List Fc) (nm : List UInt8) (w : World) (h : FcsAt w (fun k => w.heap.size ≤ k) A n T) (hT : T.length ≤ 8) (hnm : short nm) :
    Calls Try.prog 30 #[.slice A n c, S nm] w (Gives w (.int .i64 (chk T nm))) := by
  have HH : Hid (∀ ww, Below w.heap.size w ww → FcsAt ww (fun k => ww.heap.size ≤ k) A n T) := hide (fun ww hb => (h.below hb).weak (fun k hk => by have := hb.size; omega))
  have hfa := find_any A n c T nm w (HH.out w (Below.refl _ _))
  obtain ⟨F, hF⟩ : ∃ F, F = faceF T nm := ⟨_, rfl⟩
  obtain ⟨Y, hY⟩ : ∃ Y, Y = (get T nm).isSome := ⟨_, rfl⟩
  rw [← hF, ← hY] at hfa
  obtain ⟨R, hR⟩ : ∃ R, R = chk T nm := ⟨_, rfl⟩
  rw [← hR]
  have hFat : F.at_ w (fun k => w.heap.size ≤ k) := by rw [hF]; exact face_at2 h.2.2.2 nm
  have HR := hide hR
  have HF := hide hF
  have HFA := hide hfa
  have HAT := hide h.2.2.2
  clear hR hF hfa h
  go_enter Try.func30, Try.ntmps30
  go_wp2_with fail
  refine HFA.out.mono ?_
  rintro e w1 ⟨rfl, hb1⟩
  have hB1 : Below w.heap.size w (w1.alloc (.cells F.arr 38)) := hb1.alloc hb1.size _
  have hf1 : Blk (w1.alloc (.cells F.arr 38)) w1.heap.size 38 F.arr := Blk.new _ _ _
  clear hb1 HFA
  cases Y
  case false =>
    have HX : Hid (R = 23) := hide (by rw [HR.out]; unfold chk; rw [if_neg (fun hh => by rw [← hY] at hh; exact absurd hh.1 (by decide))])
    clear hY hFat
    go_wp2_with fail
    go_ret
    exact ⟨by rw [HX.out] <;> rfl, hB1⟩
  case true =>
  by_cases e0 : nm = []
  · have HX : Hid (R = 23) := hide (by rw [HR.out]; unfold chk; rw [if_neg (fun hh => hh.2 e0)])
    clear hY hFat
    subst e0
    go_wp2_with fail
    go_ret
    exact ⟨by rw [HX.out] <;> rfl, hB1⟩
  have d0 : (nm == []) = false := by simpa using e0
  have hpos := up_pos hY.symm e0
  have HR2 : Hid (R = (if (up T 20 [] nm).2 = true then (if twiceB F = true then 6 else chkL T F F.fs) else if (faceF T (lastOf (up T 20 [] nm).1)).su ∈ (up T 20 [] nm).1 then 26 else 23)) := hide (by
    rw [HR.out, HF.out]; unfold chk; rw [if_pos ⟨hY.symm, e0⟩])
  have hab : ∀ ww, Below w.heap.size w ww → _ := fun ww h1 => up8_any A n c T nm ww (HH.out ww h1) hT
  have hle := up_le T 20 [] nm
  obtain ⟨U, hU⟩ : ∃ U, U = up T 20 [] nm := ⟨_, rfl⟩
  rw [← hU] at hab hpos HR2 hle
  obtain ⟨l, q⟩ := U
  simp only [List.length_nil, Nat.zero_add] at hab hpos HR2 hle
  have hla := last_at hpos
  obtain ⟨N, hN⟩ : ∃ N, l.length = N + 1 := ⟨l.length - 1, by omega⟩
  rw [hN] at hab
  have HLA : Hid ((l.map S)[N]? = some (S (lastOf l))) := hide (by
    rw [List.getElem?_map, List.getElem?_eq_getElem (by omega)]
    have : l[N]'(by omega) = lastOf l := by rw [← hla]; congr 1; omega
    rw [this]; rfl)
  obtain ⟨la, hlaE⟩ : ∃ la, la = lastOf l := ⟨_, rfl⟩
  have hfl : ∀ ww, Below w.heap.size w ww → _ := fun ww h1 => find_any A n c T (lastOf l) ww (HH.out ww h1)
  obtain ⟨G, hG⟩ : ∃ G, G = faceF T (lastOf l) := ⟨_, rfl⟩
  obtain ⟨Z, hZ⟩ : ∃ Z, Z = (get T (lastOf l)).isSome := ⟨_, rfl⟩
  rw [← hG, ← hZ] at hfl
  rw [← hG] at HR2
  rw [← hlaE] at hfl HLA
  have HAB := hide hab
  have HFL := hide hfl
  have HN := hide hN
  have HFT := hide hFat
  have hNb : N ≤ 20 := by omega
  clear hU hab hpos hla hN hlaE hG hZ hfl HR hY hle hnm hFat
  go_wp2_with fail
  refine (HAB.out _ hB1).mono ?_
  rintro e w2 ⟨A2, c2, rfl, hb2, hr2⟩
  have hB2 := hB1.trans (hb2.mono hB1.size)
  have hf2 := hf1.below hb2 hf1.lt
  have hR2 : Rd w2 (fun _ => False) 1 A2 (N + 1) (l.map S) := hr2.weak (fun k _ e => absurd e id)
  clear hb2 hr2 HAB hB1 hf1
  cases q
  case false =>
    have HX : Hid (R = if G.su ∈ l then 26 else 23) := hide (by rw [HR2.out, if_neg (by simp)])
    have HRD := hide hR2
    obtain ⟨x, o, rfl, _, _, hcl⟩ := hR2.2 (by omega)
    have hlast := hcl N _ HLA.out
    have hn1 : (0 : Int) ≤ (N : Int) := by omega
    have hn2 : (N : Int) < (N : Int) + 1 := by omega
    have hn3 : IntKind.i64.wrap ((N : Int) + 1 - 1) = (N : Int) := by rw [IntKind.wrap_i64]; omega
    clear hR2 hcl HR2
    go_wp2_with fail
    refine (HFL.out _ hB2).mono ?_
    rintro e w3 ⟨rfl, hb3⟩
    have hB3 := hB2.trans (hb3.mono hB2.size)
    have hB4 := hB3.alloc hB3.size (.cells G.arr 38)
    have hg4 : Blk (w3.alloc (.cells G.arr 38)) w3.heap.size 38 G.arr := Blk.new _ _ _
    have hR4 : Rd (w3.alloc (.cells G.arr 38)) (fun _ => False) 1 (some ⟨x, o, none⟩) (N + 1) (l.map S) := (HRD.out.keep (Keep.of_below hb3 (fun k h1 h2 => by omega))).alloc _
    have hin := in_any (some ⟨x, o, none⟩) (N + 1) c2 l G.su (w3.alloc (.cells G.arr 38)) hR4 (by omega)
    obtain ⟨D, hD⟩ : ∃ D, D = decide (G.su ∈ l) := ⟨_, rfl⟩
    rw [← hD] at hin
    have HIN := hide hin
    have HX2 : Hid (R = if D = true then 26 else 23) := hide (by
      rw [HX.out, hD]
      by_cases hh : G.su ∈ l
      · rw [if_pos hh, if_pos (decide_eq_true hh)]
      · rw [if_neg hh, decide_eq_false hh]; rfl)
    obtain ⟨a0, a1, a2, a3⟩ := fcells hg4
    clear hin hD hR4 hlast HX hb3 hB3
    go_wp2_with fail
    refine HIN.out.mono ?_
    rintro e wz ⟨rfl, hwz⟩
    subst hwz
    cases D
    all_goals
      go_wp2_with fail
      go_ret
      exact ⟨by rw [HX2.out] <;> rfl, hB4⟩
  case true =>
    have HR3 : Hid (R = if twiceB F = true then 6 else chkL T F F.fs) := hide (by rw [HR2.out, if_pos rfl])
    obtain ⟨fn, fsu, ffA, ffl, ffc, ffs, fmA, fml, fmc, fms⟩ := F
    have hff := HFT.out.1
    have hfm := HFT.out.2.1
    simp only at hff hfm
    obtain ⟨hffr, hffl, hffm, hffo⟩ := hff
    obtain ⟨hfmr, hfml, hfmm, hfmo⟩ := hfm
    have HFFL := hide hffl
    have HFML := hide hfml
    have HFMO := hide hfmo
    have HTW : Hid (R = if (adjN (ffs.map Vr.n) || adjN (fms.map Sg.n)) = true then 6 else chkL T ⟨fn, fsu, ffA, ffl, ffc, ffs, fmA, fml, fmc, fms⟩ ffs) := hide HR3.out
    clear hR2 HR2 HR3 hffl hfml hffo hfmo HFL
    obtain ⟨bf, hbf⟩ : ∃ bf, bf = w1.heap.size := ⟨_, rfl⟩
    rw [← hbf] at hf2
    rw [← hbf]
    clear hbf
    obtain ⟨a0, a1, a2, a3⟩ := fcells hf2
    go_wp2_with fail
    clear a0 a1 a2 a3
    go_loopw [11] (fun i wr => ∃ k : Nat, 1 ≤ k ∧ (k ≤ ffl ∨ k = 1) ∧ i = .int .i64 k ∧ Below w2.heap.size w2 wr ∧ (∀ i (hi : i + 1 < (ffs.map Vr.n).length), i + 1 < k → (ffs.map Vr.n)[i] ≠ (ffs.map Vr.n)[i + 1])) (fun i _ => ffl - (intOf i).toNat)
    case atStart => exact ⟨1, by omega, .inr rfl, by go_num, Below.refl _ _, by omega⟩
    case round =>
      obtain ⟨k, hk1, hk, rfl, hbr, hall⟩ := hrel
      have HA := hide hall
      have hBr := hB2.trans (hbr.mono hB2.size)
      have hfr := hf2.below hbr hf2.lt
      clear hall
      by_cases hlt : k < ffl
      · obtain ⟨j, rfl⟩ : ∃ j, k = j + 1 := ⟨k - 1, by omega⟩
        obtain ⟨x, o, rfl, _, _, hcell⟩ := Rd.rec_ (size := 3) (fun _ => rfl) (hffr.below hBr) HFFL.out (j + 1) hlt
        obtain ⟨x', o', hx, _, _, hcell'⟩ := Rd.rec_ (size := 3) (fun _ => rfl) (hffr.below hBr) HFFL.out j (by omega)
        injection hx with hx
        injection hx with e1 e2
        subst e1 e2
        have q0 : wr.cell? ⟨x, o + (j + 1) * 3, none⟩ = some (S (ffs[j + 1]'(by have := HFFL.out; omega)).n) := hcell 0 _ rfl
        have q1 : wr.cell? ⟨x, o + j * 3, none⟩ = some (S (ffs[j]'(by have := HFFL.out; omega)).n) := hcell' 0 _ rfl
        have c2 : wr.cell? ⟨bf, 2, none⟩ = some (.slice (some ⟨x, o, none⟩) ffl ffc) := hfr.cell 2
        have HN : Hid (∀ e : (ffs[j]'(by have := HFFL.out; omega)).n = (ffs[j + 1]'(by have := HFFL.out; omega)).n, R = 6) := hide (fun e => by
          rw [HTW.out, (adjN_iff (ffs.map Vr.n)).2 ⟨j, by have := HFFL.out; simp; omega, by simpa using e⟩]; rfl)
        have HS2 : Hid ((ffs[j]'(by have := HFFL.out; omega)).n ≠ (ffs[j + 1]'(by have := HFFL.out; omega)).n → ∀ i (hi : i + 1 < (ffs.map Vr.n).length), i + 1 < j + 1 + 1 → (ffs.map Vr.n)[i] ≠ (ffs.map Vr.n)[i + 1]) := hide (fun e i hi hlt' => by
          rcases Nat.lt_or_ge (i + 1) (j + 1) with h2 | h2
          · exact HA.out i hi h2
          · obtain rfl : i = j := by omega
            simpa using e)
        obtain ⟨a, ha⟩ : ∃ a, a = (ffs[j]'(by have := HFFL.out; omega)).n := ⟨_, rfl⟩
        obtain ⟨b, hb⟩ : ∃ b, b = (ffs[j + 1]'(by have := HFFL.out; omega)).n := ⟨_, rfl⟩
        rw [← hb] at q0
        rw [← ha] at q1
        rw [← ha, ← hb] at HN HS2
        have h1 : IntKind.i64.wrap ((j : Int) + 1 - 1) = (j : Int) := by rw [IntKind.wrap_i64]; omega
        have h2 : (j : Int) < (ffl : Int) := by omega
        have h3 : (j : Int) + 1 < (ffl : Int) := by omega
        clear hcell hcell' ha hb
        by_cases e : a = b
        · subst e
          have HX := hide (HN.out rfl)
          go_wp2_with fail
          go_quiet (fail)
          go_wp2_with fail
          go_ret
          exact ⟨by rw [HX.out] <;> rfl, bdrewN hBr _⟩
        · have d : (b == a) = false := by simpa using fun h => e h.symm
          have HX := hide (HS2.out e)
          go_wp2_with fail
          go_quiet (fail)
          go_wp2_with fail
          go_roundw
          case rel => exact ⟨j + 1 + 1, by omega, by omega, by go_num, bdrewN hbr _, HX.out⟩
          case measure => simp [intOf]; omega
      · have HF2 : Hid (adjN (ffs.map Vr.n) = false) := hide (adjN_false (fun i hi => HA.out i hi (by have := HFFL.out; simp at hi; omega)))
        have c2 : wr.cell? ⟨bf, 2, none⟩ = some (.slice ffA ffl ffc) := hfr.cell 2
        have c3 : wr.cell? ⟨bf, 3, none⟩ = some (.slice fmA fml fmc) := hfr.cell 3
        obtain ⟨w6, hw6⟩ : ∃ w6, w6 = wr := ⟨_, rfl⟩
        rw [← hw6] at hBr hfr c2 c3
        rw [← hw6]
        have hB6 := hBr
        have hf6 := hfr
        clear hw6 hbr hBr hfr HA
        go_wp2_with fail
        clear c2 c3
        go_loopw [12] (fun i wr => ∃ k : Nat, 1 ≤ k ∧ (k ≤ fml ∨ k = 1) ∧ i = .int .i64 k ∧ Below w6.heap.size w6 wr ∧ (∀ i (hi : i + 1 < (fms.map Sg.n).length), i + 1 < k → (fms.map Sg.n)[i] ≠ (fms.map Sg.n)[i + 1])) (fun i _ => fml - (intOf i).toNat)
        case atStart => exact ⟨1, by omega, .inr rfl, by go_num, Below.refl _ _, by omega⟩
        case round =>
          obtain ⟨k, hk1, hk, rfl, hbr, hall⟩ := hrel
          have HA := hide hall
          have hBr := hB6.trans (hbr.mono hB6.size)
          have hfr := hf6.below hbr hf6.lt
          clear hall
          by_cases hlt : k < fml
          · obtain ⟨j, rfl⟩ : ∃ j, k = j + 1 := ⟨k - 1, by omega⟩
            obtain ⟨x, o, rfl, _, _, hcell⟩ := Rd.rec_ (size := 5) (fun _ => rfl) (hfmr.below hBr) HFML.out (j + 1) hlt
            obtain ⟨x', o', hx, _, _, hcell'⟩ := Rd.rec_ (size := 5) (fun _ => rfl) (hfmr.below hBr) HFML.out j (by omega)
            injection hx with hx
            injection hx with e1 e2
            subst e1 e2
            have q0 : wr.cell? ⟨x, o + (j + 1) * 5, none⟩ = some (S (fms[j + 1]'(by have := HFML.out; omega)).n) := hcell 0 _ rfl
            have q1 : wr.cell? ⟨x, o + j * 5, none⟩ = some (S (fms[j]'(by have := HFML.out; omega)).n) := hcell' 0 _ rfl
            have c2 : wr.cell? ⟨bf, 3, none⟩ = some (.slice (some ⟨x, o, none⟩) fml fmc) := hfr.cell 3
            have HN : Hid (∀ e : (fms[j]'(by have := HFML.out; omega)).n = (fms[j + 1]'(by have := HFML.out; omega)).n, R = 6) := hide (fun e => by
              rw [HTW.out, (adjN_iff (fms.map Sg.n)).2 ⟨j, by have := HFML.out; simp; omega, by simpa using e⟩]; simp)
            have HS2 : Hid ((fms[j]'(by have := HFML.out; omega)).n ≠ (fms[j + 1]'(by have := HFML.out; omega)).n → ∀ i (hi : i + 1 < (fms.map Sg.n).length), i + 1 < j + 1 + 1 → (fms.map Sg.n)[i] ≠ (fms.map Sg.n)[i + 1]) := hide (fun e i hi hlt' => by
              rcases Nat.lt_or_ge (i + 1) (j + 1) with h2 | h2
              · exact HA.out i hi h2
              · obtain rfl : i = j := by omega
                simpa using e)
            obtain ⟨a, ha⟩ : ∃ a, a = (fms[j]'(by have := HFML.out; omega)).n := ⟨_, rfl⟩
            obtain ⟨b, hb⟩ : ∃ b, b = (fms[j + 1]'(by have := HFML.out; omega)).n := ⟨_, rfl⟩
            rw [← hb] at q0
            rw [← ha] at q1
            rw [← ha, ← hb] at HN HS2
            have h1 : IntKind.i64.wrap ((j : Int) + 1 - 1) = (j : Int) := by rw [IntKind.wrap_i64]; omega
            have h2 : (j : Int) < (fml : Int) := by omega
            have h3 : (j : Int) + 1 < (fml : Int) := by omega
            clear hcell hcell' ha hb
            by_cases e : a = b
            · subst e
              have HX := hide (HN.out rfl)
              go_wp2_with fail
              go_quiet (fail)
              go_wp2_with fail
              go_ret
              exact ⟨by rw [HX.out] <;> rfl, bdrewN hBr _⟩
            · have d : (b == a) = false := by simpa using fun h => e h.symm
              have HX := hide (HS2.out e)
              go_wp2_with fail
              go_quiet (fail)
              go_wp2_with fail
              go_roundw
              case rel => exact ⟨j + 1 + 1, by omega, by omega, by go_num, bdrewN hbr _, HX.out⟩
              case measure => simp [intOf]; omega
          · have HF3 : Hid (adjN (fms.map Sg.n) = false) := hide (adjN_false (fun i hi => HA.out i hi (by have := HFML.out; simp at hi; omega)))
            have HR4 : Hid (R = chkL T ⟨fn, fsu, ffA, ffl, ffc, ffs, fmA, fml, fmc, fms⟩ ffs) := hide (by rw [HTW.out, HF2.out, HF3.out]; rfl)
            have c2 : wr.cell? ⟨bf, 2, none⟩ = some (.slice ffA ffl ffc) := hfr.cell 2
            have c3 : wr.cell? ⟨bf, 3, none⟩ = some (.slice fmA fml fmc) := hfr.cell 3
            obtain ⟨w7, hw7⟩ : ∃ w7, w7 = wr := ⟨_, rfl⟩
            rw [← hw7] at hBr hfr c2 c3
            rw [← hw7]
            have hB7 := hBr
            have hf7 := hfr
            clear hw7 hbr hBr hfr HA HF2 HF3 HTW
            go_wp2_with fail
            clear c2 c3
            go_loopw [105] (fun i wr => ∃ k : Nat, k ≤ ffl ∧ i = .int .i64 k ∧ Below w7.heap.size w7 wr ∧ chkL T ⟨fn, fsu, ffA, ffl, ffc, ffs, fmA, fml, fmc, fms⟩ ffs = chkL T ⟨fn, fsu, ffA, ffl, ffc, ffs, fmA, fml, fmc, fms⟩ (ffs.drop k)) (fun i _ => ffl - (intOf i).toNat)
            case atStart => exact ⟨0, Nat.zero_le _, rfl, Below.refl _ _, rfl⟩
            case round =>
              obtain ⟨k, hk, rfl, hbr, hch⟩ := hrel
              have HCH := hide hch
              have hBr := hB7.trans (hbr.mono hB7.size)
              have hfr := hf7.below hbr hf7.lt
              clear hch
              by_cases hlt : k < ffl
              · obtain ⟨x, o, rfl, _, _, hcell⟩ := Rd.rec_ (size := 3) (fun _ => rfl) (hffr.below hBr) HFFL.out k hlt
                have hlk : k < ffs.length := by have := HFFL.out; omega
                have HD : Hid (ffs.drop k = ffs[k] :: ffs.drop (k + 1)) := hide (List.drop_eq_getElem_cons hlk)
                obtain ⟨v, hv⟩ : ∃ v, v = ffs[k] := ⟨_, rfl⟩
                rw [← hv] at hcell HD
                clear hv
                obtain ⟨vn, vt, va⟩ := v
                have q0 : wr.cell? ⟨x, o + k * 3, none⟩ = some (S vn) := hcell 0 _ rfl
                have q1 : wr.cell? ⟨x, o + k * 3 + 1, none⟩ = some (S vt) := hcell 1 _ rfl
                have q2 : wr.cell? ⟨x, o + k * 3 + 2, none⟩ = some (.bool va) := hcell 2 _ rfl
                obtain ⟨K, hK⟩ : ∃ K, K = knownT T ⟨vt, va⟩ := ⟨_, rfl⟩
                obtain ⟨Mi, hM⟩ : ∃ Mi, Mi = (memF T vn (up T 20 [] fsu).1).isSome := ⟨_, rfl⟩
                have HE : Hid (R = if K = true then (if Mi = true then 6 else chkL T ⟨fn, fsu, some ⟨x, o, none⟩, ffl, ffc, ffs, fmA, fml, fmc, fms⟩ (ffs.drop (k + 1))) else 23) := hide (by
                  rw [HR4.out, HCH.out, HD.out, hK, hM]; rfl)
                have HE2 : Hid (K = true → Mi = false → chkL T ⟨fn, fsu, some ⟨x, o, none⟩, ffl, ffc, ffs, fmA, fml, fmc, fms⟩ ffs = chkL T ⟨fn, fsu, some ⟨x, o, none⟩, ffl, ffc, ffs, fmA, fml, fmc, fms⟩ (ffs.drop (k + 1))) := hide (fun h1 h2 => by
                  rw [HCH.out, HD.out]
                  show (if knownT T ⟨vt, va⟩ = true then (if (memF T vn (up T 20 [] fsu).1).isSome = true then 6 else _) else 23) = _
                  rw [← hK, ← hM, if_pos h1, if_neg (by rw [h2]; simp)])
                have hkn : ∀ ww, Below w.heap.size w ww → Calls Try.prog 23 #[.slice A n c, .agg #[S vt, .bool va]] ww (Gives ww (.bool K)) := fun ww hb => by
                  rw [hK, known_same]; exact knownp_any A n c T vt va ww (HH.out ww hb)
                have hse : ∀ ww, Below w.heap.size w ww → _ := fun ww hb => pfield_any A n c T fsu vn ww (HH.out ww hb) hT
                obtain ⟨cc, tn, ta, hret⟩ := retF_form2 (memF T vn (up T 20 [] fsu).1)
                rw [hret, ← hM] at hse
                have HKN := hide hkn
                have HSE := hide hse
                have hb1 := hbr.alloc hbr.size (.cells #[S vn, S vt, .bool va] 69)
                have hB1 := hB7.trans (hb1.mono hB7.size)
                have hv1 : Blk (wr.alloc (.cells #[S vn, S vt, .bool va] 69)) wr.heap.size 69 #[S vn, S vt, .bool va] := Blk.new _ _ _
                clear hcell hK hM hkn hse hret
                go_wp2_with fail
                refine (HKN.out _ hB1).mono ?_
                rintro e w8 ⟨rfl, hb8⟩
                have hb8' := hb1.trans (hb8.mono hb1.size)
                have hB8 := hB7.trans (hb8'.mono hB7.size)
                have c1 : w8.cell? ⟨bf, 1, none⟩ = some (S fsu) := (hf7.below hb8' hf7.lt).cell 1
                have v0 : w8.cell? ⟨wr.heap.size, 0, none⟩ = some (S vn) := (hv1.below hb8 hv1.lt).cell 0
                clear hb8 hb1 hB1 hv1 HKN q0 q1 q2
                cases K
                case false =>
                  have HX : Hid (R = 23) := hide (by rw [HE.out]; simp)
                  go_wp2_with fail
                  go_ret
                  exact ⟨by rw [HX.out] <;> rfl, hB8⟩
                case true =>
                  go_wp2_with fail
                  refine (HSE.out _ hB8).mono ?_
                  rintro e w9 ⟨rfl, hb9⟩
                  have hb9' := (hb8'.trans (hb9.mono hb8'.size)).alloc (hb8'.trans (hb9.mono hb8'.size)).size (.cells #[S tn, .bool ta] 45)
                  have hB9 := hB7.trans (hb9'.mono hB7.size)
                  clear hb9 hb8' hB8 c1 v0 HSE
                  cases Mi
                  case true =>
                    have HX : Hid (R = 6) := hide (by rw [HE.out]; simp)
                    go_wp2_with fail
                    go_ret
                    exact ⟨by rw [HX.out] <;> rfl, hB9⟩
                  case false =>
                    have HZ := hide (HE2.out (by first | rfl | trivial) (by first | rfl | trivial))
                    go_wp2_with fail
                    go_roundw
                    case rel => exact ⟨k + 1, by omega, by go_num, hb9', HZ.out⟩
                    case measure => simp [intOf]; omega
              · have HRM : Hid (R = chkM T fsu fms) := hide (by rw [HR4.out, HCH.out, List.drop_of_length_le (by have := HFFL.out; omega)]; rfl)
                have c3 : wr.cell? ⟨bf, 3, none⟩ = some (.slice fmA fml fmc) := hfr.cell 3
                obtain ⟨w8, hw8⟩ : ∃ w8, w8 = wr := ⟨_, rfl⟩
                rw [← hw8] at hBr hfr c3
                rw [← hw8]
                have hB8 := hBr
                have hf8 := hfr
                clear hw8 hbr hBr hfr HCH HR4
                go_wp2_with fail
                clear c3
                go_loopw [129] (fun i wr => ∃ j : Nat, j ≤ fml ∧ i = .int .i64 j ∧ Below w8.heap.size w8 wr ∧ chkM T fsu fms = chkM T fsu (fms.drop j)) (fun i _ => fml - (intOf i).toNat)
                case atStart => exact ⟨0, Nat.zero_le _, rfl, Below.refl _ _, rfl⟩
                case round =>
                  obtain ⟨j, hj, rfl, hbr, hch⟩ := hrel
                  have HCH := hide hch
                  have hBr := hB8.trans (hbr.mono hB8.size)
                  clear hch
                  by_cases hlt2 : j < fml
                  · obtain ⟨x, o, rfl, _, _, hcell⟩ := Rd.rec_ (size := 5) (fun _ => rfl) (hfmr.below hBr) HFML.out j hlt2
                    have hlj : j < fms.length := by have := HFML.out; omega
                    have hmw := HFMO.out _ (List.getElem_mem hlj)
                    have HD : Hid (fms.drop j = fms[j] :: fms.drop (j + 1)) := hide (List.drop_eq_getElem_cons hlj)
                    obtain ⟨v, hv⟩ : ∃ v, v = fms[j] := ⟨_, rfl⟩
                    rw [← hv] at hcell HD hmw
                    clear hv
                    obtain ⟨oc, ov, hret, hoat, huniq⟩ := retM_form2 HAT.out v.n false (up T 20 [] fsu).1
                    have hoe := ovr_eq huniq
                    have hse : ∀ ww, Below w.heap.size w ww → _ := fun ww hb => pmethod_any A n c T fsu v.n false ww (HH.out ww hb) hT
                    rw [hret] at hse
                    obtain ⟨Mi, hMi⟩ : ∃ Mi, Mi = (memM T v.n false (up T 20 [] fsu).1).isSome := ⟨_, rfl⟩
                    obtain ⟨D, hDD⟩ : ∃ D, D = decide (v.p = ov.p) := ⟨_, rfl⟩
                    obtain ⟨Kr, hKr⟩ : ∃ Kr, Kr = knownT T v.r := ⟨_, rfl⟩
                    rw [← hMi] at hse
                    have HE : Hid (R = if (Kr && v.ps.all (knownT T)) = true then (if (Mi && !v.st && !D) = true then 27 else chkM T fsu (fms.drop (j + 1))) else 23) := hide (by
                      rw [HRM.out, HCH.out, HD.out]
                      show (if (v.r :: v.ps).all (knownT T) = true then (if ovr T fsu v = true then 27 else _) else 23) = _
                      rw [hMi, hDD, hoe, List.all_cons, hKr])
                    have HE2 : Hid ((Kr && v.ps.all (knownT T)) = true → (Mi && !v.st && !D) = false → chkM T fsu fms = chkM T fsu (fms.drop (j + 1))) := hide (fun h1 h2 => by
                      rw [HCH.out, HD.out]
                      show (if (v.r :: v.ps).all (knownT T) = true then (if ovr T fsu v = true then 27 else _) else 23) = _
                      rw [hoe, ← hMi, ← hDD, List.all_cons, ← hKr, if_pos h1, if_neg (by rw [h2]; simp)])
                    have hkr : ∀ ww, Below w.heap.size w ww → Calls Try.prog 23 #[.slice A n c, v.r.val] ww (Gives ww (.bool Kr)) := fun ww hb => by
                      rw [hKr, known_same]; exact knownp_any A n c T v.r.n v.r.a ww (HH.out ww hb)
                    have hkp : ∀ (u : Ty) ww, Below w.heap.size w ww → Calls Try.prog 23 #[.slice A n c, u.val] ww (Gives ww (.bool (knownT T u))) := fun u ww hb => by
                      rw [known_same]; exact knownp_any A n c T u.n u.a ww (HH.out ww hb)
                    have hsame : ∀ ww, Below w.heap.size w ww → Calls Try.prog 28 #[ov.val, v.val] ww (Gives ww (.bool D)) := fun ww hb => by
                      have hsz := hb.size
                      have e : D = decide (ov.p = v.p) := by rw [hDD]; exact decide_eq_decide.2 ⟨fun h => h.symm, fun h => h.symm⟩
                      rw [e]
                      exact sigsame_any ov v ww ((hoat.below hb).weak (fun k hk => by omega)) ((hmw.below hb).weak (fun k hk => by omega))
                    have HSAME := hide hsame
                    have HSE := hide hse
                    have HKR := hide hkr
                    have HKP := hide hkp
                    have HMW := hide hmw
                    have hmk := hmw.2.2.1
                    have HML := hide hmw.2.1
                    clear hmw hret hoat huniq hoe hse hMi hDD hKr hkr hkp hsame
                    obtain ⟨mn, mst, mA, mk, mc, mps, mrn, mra⟩ := v
                    simp only at hmk
                    have q0 : wr.cell? ⟨x, o + j * 5, none⟩ = some (S mn) := hcell 0 _ rfl
                    have q1 : wr.cell? ⟨x, o + j * 5 + 1, none⟩ = some (.bool mst) := hcell 1 _ rfl
                    have q2 : wr.cell? ⟨x, o + j * 5 + 2, none⟩ = some (.slice mA mk mc) := hcell 2 _ rfl
                    have q3 : wr.cell? ⟨x, o + j * 5 + 3, none⟩ = some (S mrn) := hcell 3 _ rfl
                    have q4 : wr.cell? ⟨x, o + j * 5 + 4, none⟩ = some (.bool mra) := hcell 4 _ rfl
                    obtain ⟨w9, hw9⟩ : ∃ w9, w9 = wr.alloc (.cells #[S mn, .bool mst, .slice mA mk mc, S mrn, .bool mra] 56) := ⟨_, rfl⟩
                    have hb9 : Below w8.heap.size w8 w9 := by rw [hw9]; exact hbr.alloc hbr.size _
                    have hm9 : Blk w9 wr.heap.size 56 #[S mn, .bool mst, .slice mA mk mc, S mrn, .bool mra] := by rw [hw9]; exact Blk.new _ _ _
                    have hB9 := hB8.trans (hb9.mono hB8.size)
                    clear hcell
                    go_wp2_with fail
                    rw [← hw9]
                    clear hw9 q0 q1 q2 q3 q4 hbr hBr
                    obtain ⟨bm, hbm⟩ : ∃ bm, bm = wr.heap.size := ⟨_, rfl⟩
                    rw [← hbm] at hm9
                    rw [← hbm]
                    clear hbm
                    go_loopw [136] (fun i wx => ∃ p : Nat, p ≤ mk ∧ i = .int .i64 p ∧ Below w9.heap.size w9 wx ∧ (∀ i (hi : i < mps.length), i < p → knownT T mps[i] = true)) (fun i _ => mk - (intOf i).toNat)
                    case atStart => exact ⟨0, Nat.zero_le _, rfl, Below.refl _ _, by omega⟩
                    case round =>
                      obtain ⟨p, hp, rfl, hbx, hall⟩ := hrel
                      have HA := hide hall
                      have hBx := hB9.trans (hbx.mono hB9.size)
                      clear hall
                      by_cases hlt3 : p < mk
                      · obtain ⟨y, o2, rfl, _, _, hcell⟩ := Rd.rec_ (size := 2) (fun _ => rfl) (HMW.out.1.below hBx) HML.out p hlt3
                        have hlp : p < mps.length := by have := HML.out; omega
                        have HNo : Hid (knownT T mps[p] = false → R = 23) := hide (fun e => by
                          have : mps.all (knownT T) = false := List.all_eq_false.2 ⟨mps[p], List.getElem_mem hlp, by simp [e]⟩
                          rw [HE.out]
                          show (if (Kr && mps.all (knownT T)) = true then _ else 23) = 23
                          rw [this]; simp)
                        have hku := HKP.out mps[p]
                        obtain ⟨K, hK⟩ : ∃ K, K = knownT T mps[p] := ⟨_, rfl⟩
                        rw [← hK] at hku HNo
                        have HKE := hide hK
                        obtain ⟨u, hu⟩ : ∃ u, u = mps[p] := ⟨_, rfl⟩
                        rw [← hu] at hcell hku
                        have HKU := hide hku
                        clear hu hK hku
                        obtain ⟨un, ua⟩ := u
                        have q0 : wr.cell? ⟨y, o2 + p * 2, none⟩ = some (S un) := hcell 0 _ rfl
                        have q1 : wr.cell? ⟨y, o2 + p * 2 + 1, none⟩ = some (.bool ua) := hcell 1 _ rfl
                        have hb10 := hbx.alloc hbx.size (.cells #[S un, .bool ua] 45)
                        have hB10 := hB9.trans (hb10.mono hB9.size)
                        clear hcell
                        go_wp2_with fail
                        refine (HKU.out _ hB10).mono ?_
                        rintro e w11 ⟨rfl, hb11⟩
                        have hb11' := hb10.trans (hb11.mono hb10.size)
                        have hB11 := hB9.trans (hb11'.mono hB9.size)
                        clear hb11 hb10 hB10 q0 q1 HKU
                        cases K
                        case false =>
                          have HX := hide (HNo.out (by first | rfl | trivial))
                          go_wp2_with fail
                          go_ret
                          exact ⟨by rw [HX.out] <;> rfl, hB11⟩
                        case true =>
                          go_wp2_with fail
                          go_roundw
                          case rel => exact ⟨p + 1, by omega, by go_num, hb11', all_step (p := fun u => knownT T u = true) HA.out hlp HKE.out.symm⟩
                          case measure => simp [intOf]; omega
                      · have HPS : Hid (mps.all (knownT T) = true) := hide (by
                          rw [List.all_eq_true]
                          exact all_done (p := fun u => knownT T u = true) HA.out (by have := HML.out; omega))
                        have HE3 : Hid (R = if Kr = true then (if (Mi && !mst && !D) = true then 27 else chkM T fsu (fms.drop (j + 1))) else 23) := hide (by
                          rw [HE.out]
                          show (if (Kr && mps.all (knownT T)) = true then _ else 23) = _
                          rw [HPS.out, Bool.and_true])
                        have HE4 : Hid (Kr = true → (Mi && !mst && !D) = false → chkM T fsu fms = chkM T fsu (fms.drop (j + 1))) := hide (fun h1 h2 => HE2.out (by
                          show (Kr && mps.all (knownT T)) = true
                          rw [HPS.out, h1]; rfl) h2)
                        obtain ⟨m0, m1, m2, m3, m4⟩ := cells1 (hm9.below hbx hm9.lt)
                        clear HE HE2 HPS HA
                        go_wp2_with fail
                        refine (HKR.out _ hBx).mono ?_
                        rintro e w11 ⟨rfl, hb11⟩
                        have hb11' := hbx.trans (hb11.mono hbx.size)
                        have hB11 := hB9.trans (hb11'.mono hB9.size)
                        have hm11 := hm9.below hb11' hm9.lt
                        have c1 : w11.cell? ⟨bf, 1, none⟩ = some (S fsu) := (hf8.below (hb9.trans (hb11'.mono hb9.size)) hf8.lt).cell 1
                        clear m0 m1 m2 m3 m4 hb11 hbx hBx HKR
                        have m0 : w11.cell? ⟨bm, 0, none⟩ = some (S mn) := hm11.cell 0
                        cases Kr
                        case false =>
                          have HX : Hid (R = 23) := hide (by rw [HE3.out]; simp)
                          go_wp2_with fail
                          go_ret
                          exact ⟨by rw [HX.out] <;> rfl, hB11⟩
                        case true =>
                          go_wp2_with fail
                          refine (HSE.out _ hB11).mono ?_
                          rintro e w12 ⟨rfl, hb12⟩
                          have hb12' := hb11'.trans (hb12.mono hb11'.size)
                          have hb13 := hb12'.alloc hb12'.size (.cells #[S ov.n, .bool ov.st, .slice ov.A ov.k ov.c, S ov.r.n, .bool ov.r.a] 56)
                          have hB13 := hB9.trans (hb13.mono hB9.size)
                          have hm13 := hm9.below hb13 hm9.lt
                          have hb14 := hb9.trans (hb13.mono hb9.size)
                          clear m0 c1 hb12 hb12' hb11' hB11 hm11 HSE hb13
                          obtain ⟨m0, m1, m2, m3, m4⟩ := cells1 hm13
                          cases Mi
                          case false =>
                            have HZ := hide (HE4.out (by first | rfl | trivial) (by simp))
                            go_wp2_with fail
                            go_roundw
                            case rel => exact ⟨j + 1, by omega, by go_num, hb14, HZ.out⟩
                            case measure => simp [intOf]; omega
                          case true =>
                            cases mst
                            case true =>
                              have HZ := hide (HE4.out (by first | rfl | trivial) (by simp))
                              go_wp2_with fail
                              go_roundw
                              case rel => exact ⟨j + 1, by omega, by go_num, hb14, HZ.out⟩
                              case measure => simp [intOf]; omega
                            case false =>
                              go_wp2_with fail
                              refine (HSAME.out _ hB13).mono ?_
                              rintro e w15 ⟨rfl, hb15⟩
                              have hb15' := hb14.trans (hb15.mono hb14.size)
                              have hB15 := hB8.trans (hb15'.mono hB8.size)
                              clear hb15 hb14 hB13 hm13 m0 m1 m2 m3 m4
                              cases D
                              case true =>
                                have HZ := hide (HE4.out (by first | rfl | trivial) (by simp))
                                go_wp2_with fail
                                go_roundw
                                case rel => exact ⟨j + 1, by omega, by go_num, hb15', HZ.out⟩
                                case measure => simp [intOf]; omega
                              case false =>
                                have HX : Hid (R = 27) := hide (by rw [HE3.out]; simp)
                                go_wp2_with fail
                                go_ret
                                exact ⟨by rw [HX.out] <;> rfl, hB15⟩
                  · have HX : Hid (R = 0) := hide (by rw [HRM.out, HCH.out, List.drop_of_length_le (by have := HFML.out; omega)]; rfl)
                    go_wp2_with fail
                    go_ret
                    exact ⟨by rw [HX.out] <;> rfl, hBr⟩
end Go.Proofs.Ytmhnfilingebfaa
