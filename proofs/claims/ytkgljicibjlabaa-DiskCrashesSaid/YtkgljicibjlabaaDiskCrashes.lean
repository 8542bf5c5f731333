/- DiskCrashes, walked: it returns true for every input. -/
import Derived.Test.YtkgljicibjlabaaDiskFar
namespace Go.Proofs.Ytkgljicibjlabaa
open Go.RowKit Go.Maps

theorem Dk.rebase {w : World} {B B' g b N c : Nat} {room : Nat} {fall : Int} {dn : Bool} {F : Fl} (h : Dk w B g b N 0 c none [] room fall dn F) (hc : c = 0) (hB : B' ≤ B) : Dk w B' g b N 0 0 none [] room fall dn F := by
  subst hc
  exact ⟨h.blk, h.txt, by simpa using World.ownsRow_nil w B' 71 3, h.ok, Nat.le_trans hB h.bB, Nat.le_trans hB h.gB⟩

set_option maxRecDepth 100000 in
set_option maxHeartbeats 8000000 in
theorem crashes_law (x : Int) (A1 : Option Addr) (n1 c1 : Nat) (l1 : List Ac) (K2 : Option Addr) (n2 c2 : Nat) (l2 : List Bool) (A3 : Option Addr) (n3 c3 : Nat) (l3 : List Ac) (K4 : Option Addr) (n4 c4 : Nat) (l4 : List Bool) (w : World)
    (h1 : ActsAt w (fun k => w.heap.size ≤ k) A1 n1 l1) (h2 : Rd w (fun k => w.heap.size ≤ k) 1 K2 n2 (l2.map .bool)) (h3 : ActsAt w (fun k => w.heap.size ≤ k) A3 n3 l3) (h4 : Rd w (fun k => w.heap.size ≤ k) 1 K4 n4 (l4.map .bool)) :
    Calls Try.prog 8 #[.int .i64 x, .slice A1 n1 c1, .slice K2 n2 c2, .slice A3 n3 c3, .slice K4 n4 c4] w (Gives w (.bool true)) := by
  have hl2 : l2.length = n2 := by simpa using h2.1
  have hl4 : l4.length = n4 := by simpa using h4.1
  have H1 := hide h1
  have H2 := hide h2
  have H3 := hide h3
  have H4 := hide h4
  clear h1 h2 h3 h4
  go_enter Try.func8, Try.ntmps8
  go_wp2_with fail
  refine (head_any w).mono ?_
  rintro e w1 ⟨rfl, hb1⟩
  have HFE := hide (few_any A1 n1 c1 l1 w1 ((H1.out.below hb1).weak' hb1.size))
  go_wp2_with fail
  refine HFE.out.mono ?_
  rintro e w1' ⟨R1, rfl, hb1', hR1⟩
  have hB1 := hb1.trans (hb1'.mono hb1.size)
  have HRF1 := hide hR1
  clear hR1 hb1' hb1 HFE
  cases R1 with
  | false =>
    go_wp2_with fail
    go_ret
    exact ⟨rfl, hB1⟩
  | true =>
  have HFE := hide (few_any A3 n3 c3 l3 w1' ((H3.out.below hB1).weak' hB1.size))
  go_wp2_with fail
  refine HFE.out.mono ?_
  rintro e w2 ⟨R3, rfl, hb2, hR3⟩
  have hB2 := hB1.trans (hb2.mono hB1.size)
  have HRF3 := hide hR3
  clear hR3 hb2 hB1 HFE
  cases R3 with
  | false =>
    go_wp2_with fail
    go_ret
    exact ⟨rfl, hB2⟩
  | true =>
  obtain ⟨hsm1, hn1⟩ := HRF1.out (by simp)
  obtain ⟨hsm3, hn3⟩ := HRF3.out (by simp)
  have HS1 := hide hsm1
  have HS3 := hide hsm3
  clear hsm1 hsm3 HRF1 HRF3
  by_cases hk2 : 60 < n2
  · have d1 : decide (60 < (n2 : Int)) = true := by simp; omega
    go_wp2_with fail
    go_ret
    exact ⟨rfl, hB2⟩
  have d1 : decide (60 < (n2 : Int)) = false := by simp; omega
  by_cases hk4 : 60 < n4
  · have d2 : decide (60 < (n4 : Int)) = true := by simp; omega
    go_wp2_with fail
    go_ret
    exact ⟨rfl, hB2⟩
  have d2 : decide (60 < (n4 : Int)) = false := by simp; omega
  obtain ⟨rm, hrm, hrm2, hnew⟩ := new_any x w2
  have HNW := hide hnew
  have HMN := hide (mnew_any x rm hrm)
  clear hnew hrm
  go_wp2_with fail
  refine HNW.out.mono ?_
  rintro e w3 ⟨g, b, rfl, h3, hb3⟩
  have HD3 := hide h3
  have HB3 := hide hb3
  clear h3 hb3 HNW
  go_wp2_with fail
  refine (HMN.out w3).mono ?_
  rintro e w4 ⟨h, bm, rfl, h4, hb4⟩
  have hd4 := HD3.out.below hb4
  have hb34 := HB3.out.size
  have hb5 := (Below.refl w4.heap.size w4).alloc (Nat.le_refl _) (.cells #[.slice A1 n1 c1, .slice A3 n3 c3] 44)
  have HD4 : Hid (Dk (w4.alloc (.cells #[.slice A1 n1 c1, .slice A3 n3 c3] 44)) w2.heap.size g b 0 0 0 none [] rm (-1) false F0) := hide (Dk.below hd4 hb5)
  have HM4 : Hid (MdS (w4.alloc (.cells #[.slice A1 n1 c1, .slice A3 n3 c3] 44)) w2.heap.size h bm 0 0 0 none [] rm ⟨F0, [], -1, false⟩) := hide ⟨Md.below ⟨h4.blk, h4.txt, by simpa using World.ownsRow_nil w4 w2.heap.size 49 5, h4.ok, by have := h4.bB; omega, by have := h4.hB; omega⟩ hb5, rfl, by simp⟩
  have hB4 := HB3.out.trans (hb4.mono hb34)
  have HB4 := hide (hB4.trans (hb5.mono hB4.size))
  have HLS4 : Hid (Blk (w4.alloc (.cells #[.slice A1 n1 c1, .slice A3 n3 c3] 44)) w4.heap.size 44 #[.slice A1 n1 c1, .slice A3 n3 c3]) := hide (Blk.new _ _ _)
  have HB2 := hide hB2
  clear hd4 h4 hb4 HD3 HB3 HMN hb5 hB4 hB2
  go_wp2_with fail
  go_loopw [11, 12, 49] (fun v11 v12 i wr => ∃ (k g h b N n' c' : Nat) (A' : Option Addr) (bm Nm nm cm : Nat) (Am : Option Addr) (ac' : List Ac) (st : St) (tf : Nat), k ≤ 2 ∧ i = .int .i64 k ∧ v11 = .pointer (some ⟨g, 0, none⟩) ∧ v12 = .pointer (some ⟨h, 0, none⟩) ∧
    Dk wr w2.heap.size g b N n' c' A' st.cs rm st.fall st.dn st.F ∧ N + n' ≤ 50 * k ∧ MdS wr w2.heap.size h bm Nm nm cm Am ac' rm st ∧ Nm + nm ≤ 50 * k ∧ Tot st.F tf ∧ tf + 100 * st.cs.length ≤ 5000 * k ∧ (∀ c ∈ st.cs, smallC c) ∧
    (-1 ≤ st.fall ∧ st.fall ≤ 9223372036854775807) ∧ Below w2.heap.size w2 wr ∧ Blk wr w4.heap.size 44 #[.slice A1 n1 c1, .slice A3 n3 c3]) (fun _ _ i _ => 2 - (intOf i).toNat)
  case atStart => exact ⟨0, g, h, b, 0, 0, 0, none, bm, 0, 0, 0, none, [], ⟨F0, [], -1, false⟩, 0, Nat.zero_le _, rfl, rfl, rfl, HD4.out, by omega, HM4.out, by omega, Tot.none, by simp, by simp, ⟨by show (-1 : Int) ≤ -1; omega, by show (-1 : Int) ≤ _; omega⟩, HB4.out, HLS4.out⟩
  case round =>
    obtain ⟨k, g, h, b, N, n', c', A', bm, Nm, nm, cm, Am, ac', st, tf, hk, rfl, rfl, rfl, hd, hN, hm, hNm, hTF, htf, hsc, hfl, hBr, hLS⟩ := hrel
    have HD := hide hd
    have HM := hide hm
    have HTF := hide hTF
    have HSC := hide hsc
    have HF := hide hfl
    have HB := hide hBr
    have HLS := hide hLS
    clear hd hm hTF hsc hfl hBr HD4 HM4 HB4 HLS4
    by_cases hlt : k < 2
    · have HW0 := hide (HB2.out.trans (HB.out.mono HB2.out.size))
      have hsw : w2.heap.size ≤ wr.heap.size := HB.out.size
      obtain ⟨K0, hK0⟩ : ∃ K0, K0 = 50 * k := ⟨_, rfl⟩
      rw [← hK0] at hN hNm
      obtain rfl | rfl : k = 0 ∨ k = 1 := by omega
      · have cL : wr.cell? ⟨w4.heap.size, 0, none⟩ = some (.slice A1 n1 c1) := hLS.cell 0
        have hxl := H1.out.2.1
        clear hLS
        go_wp2_with fail
        obtain ⟨wo, rfl⟩ : ∃ wo : World, wo = wr := ⟨_, rfl⟩
        go_loopw [56] (fun i wr => ∃ (q b N n' c' : Nat) (A' : Option Addr) (bm Nm nm cm : Nat) (Am : Option Addr) (ac' : List Ac) (st : St) (tf : Nat), q ≤ n1 ∧ i = .int .i64 q ∧ Dk wr w2.heap.size g b N n' c' A' st.cs rm st.fall st.dn st.F ∧ N + n' ≤ K0 + q ∧
          MdS wr w2.heap.size h bm Nm nm cm Am ac' rm st ∧ Nm + nm ≤ K0 + q ∧ Tot st.F tf ∧ tf + 100 * st.cs.length ≤ 100 * K0 + 100 * q ∧ (∀ c ∈ st.cs, smallC c) ∧ (-1 ≤ st.fall ∧ st.fall ≤ 9223372036854775807) ∧ Below w2.heap.size w2 wr ∧
          Blk wr w4.heap.size 44 #[.slice A1 n1 c1, .slice A3 n3 c3]) (fun i _ => n1 - (intOf i).toNat)
        case atStart => exact ⟨0, b, N, n', c', A', bm, Nm, nm, cm, Am, ac', st, tf, Nat.zero_le _, rfl, HD.out, by omega, HM.out, by omega, HTF.out, by omega, HSC.out, HF.out, HB.out, HLS.out⟩
        case round =>
          clear HD HM HTF HSC HF HLS
          obtain ⟨q, b, N, n', c', A', bm, Nm, nm, cm, Am, ac', st, tf, hq, rfl, hd, hN, hm, hNm, hTF, htf, hsc, hfl, hBr, hLS⟩ := hrel
          have HD := hide hd
          have HM := hide hm
          have HTF := hide hTF
          have HSC := hide hsc
          have HF := hide hfl
          have HBI := hide hBr
          have HLS := hide hLS
          clear hd hm hTF hsc hfl hBr hLS
          obtain ⟨tot, hT, htot⟩ := fold_tot st.cs HTF.out HSC.out
          have hT : Tot st.R tot := hT
          have HT := hide hT
          clear hT
          by_cases hlt3 : q < n1
          · obtain ⟨xx, o, rfl, _, _, hcell⟩ := Rd.rec_ (size := 5) (fun _ => rfl) (H1.out.1.below (HB2.out.trans (HBI.out.mono HB2.out.size))) hxl q hlt3
            have hlk : q < l1.length := by omega
            have hck := H1.out.2.2.1 _ (List.getElem_mem hlk)
            have hsa := HS1.out _ (List.getElem_mem hlk)
            obtain ⟨d, hd⟩ : ∃ d, d = l1[q] := ⟨_, rfl⟩
            rw [← hd] at hcell hck hsa
            clear hd
            have hba := (Below.refl wr.heap.size wr).alloc (Nat.le_refl _) (.cells #[.int .i64 d.k, .int .i64 d.n, S d.nm, S d.to, S d.tx] 49)
            have i0 : Bo true w2 g h rm (K0 + q) (K0 + q) st st wr.heap.size d (wr.alloc (.cells #[.int .i64 d.k, .int .i64 d.n, S d.nm, S d.to, S d.tx] 49)) :=
              ⟨⟨b, N, n', c', A', HD.out.below hba, hN⟩, ⟨bm, Nm, nm, cm, Am, ac', ⟨HM.out.1.below hba, HM.out.2⟩, hNm, fun _ e => by have := (own_base' HM.out.1.own e).2; omega⟩, Blk.new _ _ _, HBI.out.trans (hba.mono HBI.out.size)⟩
            have hls0 := HLS.out.below hba HLS.out.lt
            have HPL : Hid (∀ w', Bo true w2 g h rm (K0 + q) (K0 + q) st st wr.heap.size d w' → Calls Try.prog 25 #[.pointer (some ⟨g, 0, none⟩), d.val] w' (fun e w'' => e = .returned (.int .i64 (st.err ((rm : Int) - tot) d : Nat)) ∧ Bo true w2 g h rm (K0 + q + 1) (K0 + q) (st.nxt ((rm : Int) - tot) d) st wr.heap.size d w'' ∧ Far w' w'')) :=
              hide (fun w' i => play_far i hck (by have := hsa.1; omega) HF.out.2 HT.out (by omega) hrm2 (by omega))
            have HDO : Hid (∀ w', Bo true w2 g h rm (K0 + q + 1) (K0 + q) (st.nxt ((rm : Int) - tot) d) st wr.heap.size d w' → Calls Try.prog 26 #[.pointer (some ⟨h, 0, none⟩), d.val] w' (fun e w'' => e = .returned (.int .i64 (st.err ((rm : Int) - tot) d : Nat)) ∧ Bo false w2 g h rm (K0 + q + 1) (K0 + q + 1) (st.nxt ((rm : Int) - tot) d) (st.nxt ((rm : Int) - tot) d) wr.heap.size d w'' ∧ Far w' w'')) :=
              hide (fun w' i => do_far i hck (by have := hsa.1; omega) HF.out HT.out (by omega) hrm2 (by omega))
            obtain ⟨tf', ht1, ht2, ht3⟩ := nxt_inv HTF.out htf HSC.out ((rm : Int) - tot) d hsa.1
            have hf2 := nxt_fall HF.out ((rm : Int) - tot) d hck
            obtain ⟨E, hE⟩ : ∃ E, E = st.err ((rm : Int) - tot) d := ⟨_, rfl⟩
            obtain ⟨T, hT⟩ : ∃ T, T = st.nxt ((rm : Int) - tot) d := ⟨_, rfl⟩
            rw [← hE, ← hT] at HPL HDO
            rw [← hT] at ht1 ht2 ht3 hf2
            clear hE hT
            have HT' := hide ht1
            have HT3 := hide ht3
            have HF' := hide hf2
            have HI0 := hide i0
            have hcel := i0.cells
            obtain ⟨dk, dn', dm, dt, dx⟩ := d
            have q0 : wr.cell? ⟨xx, o + q * 5, none⟩ = some (.int .i64 dk) := hcell 0 _ rfl
            have q1 : wr.cell? ⟨xx, o + q * 5 + 1, none⟩ = some (.int .i64 dn') := hcell 1 _ rfl
            have q2 : wr.cell? ⟨xx, o + q * 5 + 2, none⟩ = some (S dm) := hcell 2 _ rfl
            have q3 : wr.cell? ⟨xx, o + q * 5 + 3, none⟩ = some (S dt) := hcell 3 _ rfl
            have q4 : wr.cell? ⟨xx, o + q * 5 + 4, none⟩ = some (S dx) := hcell 4 _ rfl
            have HLS0 := hide hls0
            clear hcell hck hsa ht1 ht3 hf2 HD HM HT HF HTF HSC HLS i0 hba hls0
            obtain ⟨wA, hwA⟩ : ∃ wA, wA = wr.alloc (.cells #[.int .i64 dk, .int .i64 dn', S dm, S dt, S dx] 49) := ⟨_, rfl⟩
            rw [← hwA] at hcel HI0 HLS0
            have i4 := HI0.out.drew
            go_wp2_with fail
            rw [← hwA]
            clear hwA
            first | (go_region_held3 (fun w' => w'.cell? ⟨wr.heap.size, 0, none⟩ = some (.int .i64 dk) ∧ w'.cell? ⟨wr.heap.size, 1, none⟩ = some (.int .i64 dn') ∧ w'.cell? ⟨wr.heap.size, 2, none⟩ = some (S dm) ∧ w'.cell? ⟨wr.heap.size, 3, none⟩ = some (S dt) ∧ w'.cell? ⟨wr.heap.size, 4, none⟩ = some (S dx))
              (first | exact hcel | assumption | exact i5.cells | exact i6.cells | fail)
              (first
                | (go_at_call 25; (with_reducible refine (HPL.out _ i4).mono ?_); rintro e w5 ⟨rfl, i5, F5⟩)
                | (go_at_call 26; (with_reducible refine (HDO.out _ i5).mono ?_); rintro e w6 ⟨rfl, i6, F6⟩)
                | fail)) | fail
            have HI6 := hide i6
            have HLS6 := hide (F6 _ _ _ (by decide) (by decide) (by decide) (by decide) (F5 _ _ _ (by decide) (by decide) (by decide) (by decide) HLS0.out.drew))
            clear i4 i5 i6 F5 F6 HPL HDO HI0 hcel q0 q1 q2 q3 q4 HLS0
            go_wp2_with fail
            go_roundw
            case rel =>
              obtain ⟨⟨b7, N7, n7, c7, A7, hd9, hn9⟩, ⟨bm7, Nm7, nm7, cm7, Am7, ac7, hm9, hnm9, _⟩, _, hbb9⟩ := HI6.out
              (repeat apply Exists.intro)
              exact ⟨⟨q + 1, b7, N7, n7, c7, A7, bm7, Nm7, nm7, cm7, Am7, ac7, T, tf', by omega, by go_num, hd9, by omega, hm9, by omega, HT'.out, by omega, HT3.out, HF'.out, hbb9, HLS6.out⟩, rfl⟩
            case measure => simp [intOf]; omega
          · have hba := (Below.refl wr.heap.size wr).alloc (Nat.le_refl _) (.cells #[.slice K2 n2 c2, .slice K4 n4 c4] 23)
            obtain ⟨wX, hwX⟩ : ∃ wX, wX = wr.alloc (.cells #[.slice K2 n2 c2, .slice K4 n4 c4] 23) := ⟨_, rfl⟩
            rw [← hwX] at hba
            have HDX := hide (HD.out.below hba)
            have HMX := hide (HM.out.1.below hba)
            have HMr := hide HM.out.2
            have HLSX := hide (HLS.out.below hba HLS.out.lt)
            have HBX := hide (HBI.out.trans (hba.mono HBI.out.size))
            have HKX := hide (((H2.out.below (HB2.out.trans (HBX.out.mono HB2.out.size))).weak (fun r _ hr => by have := HBX.out.size; have := HB2.out.size; omega)) : Rd wX (fun r => wX.heap.size ≤ r) 1 K2 n2 (l2.map .bool))
            have hkc := kept_len l2 st.cs
            obtain ⟨tf8, ht8, htf8⟩ := fold_tot (kept l2 st.cs) HTF.out (fun c hc => HSC.out c (kept_mem hc))
            have HT8 := hide ht8
            have HRA : Hid ((keptA l2 ac').foldl actDo st.F = (kept l2 st.cs).foldl chDo st.F) := hide (by rw [fold_eq (keptA l2 ac') st.F (fun a ha => HMr.out.2 a (keptA_mem ha)), keptA_map, HMr.out.1])
            clear hba ht8 HD HM HLS HBI HT
            go_wp2_with fail
            rw [← hwX]
            clear hwX
            refine (crash_dk w2.heap.size g b N n' c' n2 c2 A' K2 st.cs l2 rm st.fall st.dn st.F ((kept l2 st.cs).foldl chDo st.F) wX HDX.out hrm2 (by omega) (by omega) rfl HKX.out hl2).mono ?_
            rintro e w8 ⟨g8, b8, rfl, h8, hb8⟩
            obtain ⟨R8, hR8⟩ : ∃ R8, R8 = (kept l2 st.cs).foldl chDo st.F := ⟨_, rfl⟩
            rw [← hR8] at h8 HT8 HRA
            clear hR8
            have H8 := hide h8
            have HM8 := hide (HMX.out.below hb8)
            have HLS8 := hide (HLSX.out.below hb8 HLSX.out.lt)
            have HB8 := hide (HBX.out.trans (hb8.mono HBX.out.size))
            have HK8 := hide (((HKX.out.below hb8).weak (fun r _ hr => by have := hb8.size; omega)) : Rd w8 (fun r => w8.heap.size ≤ r) 1 K2 n2 (l2.map .bool))
            have hmb := HM8.out.blk
            have d0 : w8.cell? ⟨h, 0, none⟩ = some (.map (some bm)) := hmb.cell 0
            have d1' : w8.cell? ⟨h, 1, none⟩ = some (.slice Am nm cm) := hmb.cell 1
            have hXs := HBX.out.size
            clear h8 hb8 hmb HDX HMX HLSX HKX HTF HSC HF
            go_wp2_with fail
            obtain ⟨wp, rfl⟩ : ∃ wp : World, wp = wr := ⟨_, rfl⟩
            go_loopw [18, 86] (fun v i wr => ∃ (q b' : Nat), q ≤ nm ∧ i = .int .i64 q ∧ v = .map (some b') ∧ TxtIs wr b' (Nm + q) ((keptA l2 (ac'.take q)).foldl actDo st.F) ∧ Below w8.heap.size w8 wr ∧ w2.heap.size ≤ b') (fun _ i _ => nm - (intOf i).toNat)
            case atStart => exact ⟨0, bm, Nat.zero_le _, rfl, rfl, HM8.out.txt, Below.refl _ _, HM8.out.bB⟩
            case round =>
              obtain ⟨q9, b9, hq9, rfl, rfl, ht9, hb9, hB9⟩ := hrel
              have HT9 := hide ht9
              have HB9 := hide hb9
              clear ht9 hb9
              by_cases hlt9 : q9 < nm
              · obtain ⟨xy, oy, rfl, _, _, hcell⟩ := Rd.rec_ (size := 5) (fun _ => rfl) ((HM8.out.rd).below HB9.out) HM8.out.len q9 hlt9
                have hlk9 : q9 < ac'.length := by have := HM8.out.len; omega
                have hck := HM8.out.ok _ (List.getElem_mem hlk9)
                have HKS : Hid (keptA l2 (ac'.take (q9 + 1)) = keptA l2 (ac'.take q9) ++ (if l2.getD q9 false then [ac'[q9]] else [])) := hide (keptA_succ l2 ac' hlk9)
                obtain ⟨d, hd⟩ : ∃ d, d = ac'[q9] := ⟨_, rfl⟩
                rw [← hd] at hcell hck HKS
                clear hd
                obtain ⟨dk, dn', dm, dt, dx⟩ := d
                have q0 : wr.cell? ⟨xy, oy + q9 * 5, none⟩ = some (.int .i64 dk) := hcell 0 _ rfl
                have q1 : wr.cell? ⟨xy, oy + q9 * 5 + 1, none⟩ = some (.int .i64 dn') := hcell 1 _ rfl
                have q2 : wr.cell? ⟨xy, oy + q9 * 5 + 2, none⟩ = some (S dm) := hcell 2 _ rfl
                have q3 : wr.cell? ⟨xy, oy + q9 * 5 + 3, none⟩ = some (S dt) := hcell 3 _ rfl
                have q4 : wr.cell? ⟨xy, oy + q9 * 5 + 4, none⟩ = some (S dx) := hcell 4 _ rfl
                have hBa := hide (HB9.out.alloc HB9.out.size (.cells #[.int .i64 dk, .int .i64 dn', S dm, S dt, S dx] 49))
                have HTa := hide (HT9.out.of_block (Below.heap_alloc wr (.cells #[.int .i64 dk, .int .i64 dn', S dm, S dt, S dx] 49) _ HT9.out.lt))
                have HDO := hide (trn_any ⟨dk, dn', dm, dt, dx⟩ hck b9 (Nm + q9) _ _ HTa.out (by omega))
                clear hcell
                by_cases hlk2 : q9 < n2
                · obtain ⟨x2, o2, u, rfl, hu, hcu⟩ := (HK8.out.below HB9.out).at_ q9 hlk2
                  have hlk3 : q9 < l2.length := by omega
                  obtain rfl : Value.bool l2[q9] = u := by simpa [hlk3] using hu
                  have hgd : l2.getD q9 false = l2[q9] := by simp [hlk3]
                  obtain ⟨BB, hBB⟩ : ∃ B, B = l2[q9] := ⟨_, rfl⟩
                  rw [hgd, ← hBB] at HKS
                  rw [← hBB] at hcu
                  have q5 : (wr.alloc (.cells #[.int .i64 dk, .int .i64 dn', S dm, S dt, S dx] 49)).cell? ⟨x2, o2 + q9, none⟩ = some (.bool BB) := (World.cell?_alloc_lt wr _ _ (World.block_lt_of_cell? _ _ hcu)).trans hcu
                  clear hu hgd hBB hcu
                  cases BB
                  case false =>
                    have hL := HKS.out
                    simp at hL
                    have HL := hide hL
                    clear hL
                    go_wp2_with fail
                    go_roundw
                    case rel => exact ⟨q9 + 1, b9, by omega, by go_num, rfl, by rw [HL.out]; exact HTa.out.mono (by omega), hBa.out, hB9⟩
                    case measure => simp [intOf]; omega
                  case true =>
                    have hL := HKS.out
                    simp at hL
                    have HL : Hid ((keptA l2 (ac'.take (q9 + 1))).foldl actDo st.F = actDo ((keptA l2 (ac'.take q9)).foldl actDo st.F) ⟨dk, dn', dm, dt, dx⟩) := hide (by rw [hL, List.foldl_append]; rfl)
                    clear hL
                    go_wp2_with fail
                    refine HDO.out.mono ?_
                    rintro e w5 ⟨b5, rfl, ht5, hk5, hb5⟩
                    have hB5 := hide (hBa.out.trans (hk5.mono (by have := HB9.out.size; simp; omega)))
                    have hb6 : w2.heap.size ≤ b5 := by have := HB9.out.size; have := HB8.out.size; simp at hb5; omega
                    have HT5 := hide ht5
                    clear ht5 hk5 HDO hb5
                    go_wp2_with fail
                    go_roundw
                    case rel => exact ⟨q9 + 1, b5, by omega, by go_num, rfl, by rw [HL.out]; exact HT5.out, hB5.out, hb6⟩
                    case measure => simp [intOf]; omega
                · have hL := HKS.out
                  rw [show l2.getD q9 false = false by simp [List.getD_eq_getElem?_getD, List.getElem?_eq_none (show l2.length ≤ q9 by omega)]] at hL
                  simp at hL
                  have HL := hide hL
                  clear hL
                  go_wp2_with fail
                  go_roundw
                  case rel => exact ⟨q9 + 1, b9, by omega, by go_num, rfl, by rw [HL.out]; exact HTa.out.mono (by omega), hBa.out, hB9⟩
                  case measure => simp [intOf]; omega
              · have hnq : q9 = nm := by omega
                subst hnq
                have hta : ac'.take q9 = ac' := List.take_of_length_le (by have := HM8.out.len; omega)
                rw [hta, HRA.out] at HT9
                have d2' : wr.cell? ⟨h, 2, none⟩ = some (.int .i64 rm) := (HM8.out.below HB9.out).blk.cell 2
                have hbE := (Below.refl wr.heap.size wr).alloc (Nat.le_refl _) (.cells #[.map (some b9), .slice none 0 0, .int .i64 rm, .int .i64 (-1), .bool false] 57)
                obtain ⟨wE, hwE⟩ : ∃ wE, wE = wr.alloc (.cells #[.map (some b9), .slice none 0 0, .int .i64 rm, .int .i64 (-1), .bool false] 57) := ⟨_, rfl⟩
                have kE : Blk wE wr.heap.size 57 #[.map (some b9), .slice none 0 0, .int .i64 rm, .int .i64 (-1), .bool false] := by rw [hwE]; exact Blk.new _ _ _
                rw [← hwE] at hbE
                have hE8 := HB9.out.trans (hbE.mono HB9.out.size)
                have HME : Hid (Md wE w2.heap.size wr.heap.size b9 (Nm + q9) 0 0 none [] rm (-1) false R8) := hide ⟨kE, HT9.out.of_block (hbE.block b9 HT9.out.lt), by simpa using World.ownsRow_nil wE w2.heap.size 49 5, by simp, hB9, by have := HB9.out.size; have := HB8.out.size; omega⟩
                have HDE := hide (H8.out.below hE8)
                have HLSE := hide (HLS8.out.below hE8 HLS8.out.lt)
                have HBE := hide (HB8.out.trans (hE8.mono HB8.out.size))
                clear hbE kE hE8 hta HT9 HB9 H8 HM8 HLS8 HB8 HK8 HRA
                go_wp2_with fail
                rw [← hwE]
                clear hwE
                refine (same_any wX.heap.size g8 b8 (N + n') 0 0 none [] w2.heap.size wr.heap.size b9 (Nm + q9) 0 0 none [] rm (-1) (-1) false R8 R8 R8 tf8 wE HDE.out HME.out rfl rfl (by omega) (by omega) (by omega) (by omega) HT8.out (by omega) hrm2).mono ?_
                rintro e w10 ⟨rfl, hb10⟩
                have HD10 := hide (HDE.out.below hb10)
                have HM10 := hide (HME.out.below hb10)
                have HLS10 := hide (HLSE.out.below hb10 HLSE.out.lt)
                have HB10 := hide (HBE.out.trans (hb10.mono HBE.out.size))
                clear hb10 HDE HME HLSE HBE
                go_wp2_with fail
                refine (crash_dk wX.heap.size g8 b8 (N + n') 0 0 0 0 none none [] [] rm (-1) false R8 R8 w10 HD10.out hrm2 (by omega) (by omega) rfl (Rd.nil _ _ _ _) rfl).mono ?_
                rintro e w11 ⟨g11, b11, rfl, h11, hb11⟩
                have H11 := hide h11
                have HD11 := hide (HD10.out.below hb11)
                have HM11 := hide (HM10.out.below hb11)
                have HLS11 := hide (HLS10.out.below hb11 HLS10.out.lt)
                have HB11 := hide (HB10.out.trans (hb11.mono HB10.out.size))
                clear h11 hb11 HD10 HM10 HLS10 HB10
                go_wp2_with fail
                refine (same_any w10.heap.size g11 b11 (N + n' + 0) 0 0 none [] w2.heap.size wr.heap.size b9 (Nm + q9) 0 0 none [] rm (-1) (-1) false R8 R8 R8 tf8 w11 H11.out HM11.out rfl rfl (by omega) (by omega) (by omega) (by omega) HT8.out (by omega) hrm2).mono ?_
                rintro e w12 ⟨rfl, hb12⟩
                have HD12 := hide (HD11.out.below hb12)
                have HM12 := hide (HM11.out.below hb12)
                have HLS12 := hide (HLS11.out.below hb12 HLS11.out.lt)
                have HB12 := hide (HB11.out.trans (hb12.mono HB11.out.size))
                clear hb12 HD11 HM11 HLS11 HB11 H11
                go_wp2_with fail
                go_roundw
                case rel =>
                  refine ⟨1, g8, wr.heap.size, b8, N + n', 0, 0, none, b9, Nm + q9, 0, 0, none, [], ⟨R8, [], -1, false⟩, tf8, by omega, by go_num, rfl, rfl, HD12.out.rebase rfl hXs, by omega, ⟨HM12.out, rfl, by simp⟩, by omega, HT8.out, by show tf8 + 100 * 0 ≤ _; omega, by simp, ⟨by show (-1 : Int) ≤ -1; omega, by show (-1 : Int) ≤ _; omega⟩, HB12.out, HLS12.out⟩
                case measure => simp [intOf]
      · have cL : wr.cell? ⟨w4.heap.size, 1, none⟩ = some (.slice A3 n3 c3) := hLS.cell 1
        have hxl := H3.out.2.1
        clear hLS
        go_wp2_with fail
        obtain ⟨wo, rfl⟩ : ∃ wo : World, wo = wr := ⟨_, rfl⟩
        go_loopw [56] (fun i wr => ∃ (q b N n' c' : Nat) (A' : Option Addr) (bm Nm nm cm : Nat) (Am : Option Addr) (ac' : List Ac) (st : St) (tf : Nat), q ≤ n3 ∧ i = .int .i64 q ∧ Dk wr w2.heap.size g b N n' c' A' st.cs rm st.fall st.dn st.F ∧ N + n' ≤ K0 + q ∧
          MdS wr w2.heap.size h bm Nm nm cm Am ac' rm st ∧ Nm + nm ≤ K0 + q ∧ Tot st.F tf ∧ tf + 100 * st.cs.length ≤ 100 * K0 + 100 * q ∧ (∀ c ∈ st.cs, smallC c) ∧ (-1 ≤ st.fall ∧ st.fall ≤ 9223372036854775807) ∧ Below w2.heap.size w2 wr ∧
          Blk wr w4.heap.size 44 #[.slice A1 n1 c1, .slice A3 n3 c3]) (fun i _ => n3 - (intOf i).toNat)
        case atStart => exact ⟨0, b, N, n', c', A', bm, Nm, nm, cm, Am, ac', st, tf, Nat.zero_le _, rfl, HD.out, by omega, HM.out, by omega, HTF.out, by omega, HSC.out, HF.out, HB.out, HLS.out⟩
        case round =>
          clear HD HM HTF HSC HF HLS
          obtain ⟨q, b, N, n', c', A', bm, Nm, nm, cm, Am, ac', st, tf, hq, rfl, hd, hN, hm, hNm, hTF, htf, hsc, hfl, hBr, hLS⟩ := hrel
          have HD := hide hd
          have HM := hide hm
          have HTF := hide hTF
          have HSC := hide hsc
          have HF := hide hfl
          have HBI := hide hBr
          have HLS := hide hLS
          clear hd hm hTF hsc hfl hBr hLS
          obtain ⟨tot, hT, htot⟩ := fold_tot st.cs HTF.out HSC.out
          have hT : Tot st.R tot := hT
          have HT := hide hT
          clear hT
          by_cases hlt3 : q < n3
          · obtain ⟨xx, o, rfl, _, _, hcell⟩ := Rd.rec_ (size := 5) (fun _ => rfl) (H3.out.1.below (HB2.out.trans (HBI.out.mono HB2.out.size))) hxl q hlt3
            have hlk : q < l3.length := by omega
            have hck := H3.out.2.2.1 _ (List.getElem_mem hlk)
            have hsa := HS3.out _ (List.getElem_mem hlk)
            obtain ⟨d, hd⟩ : ∃ d, d = l3[q] := ⟨_, rfl⟩
            rw [← hd] at hcell hck hsa
            clear hd
            have hba := (Below.refl wr.heap.size wr).alloc (Nat.le_refl _) (.cells #[.int .i64 d.k, .int .i64 d.n, S d.nm, S d.to, S d.tx] 49)
            have i0 : Bo true w2 g h rm (K0 + q) (K0 + q) st st wr.heap.size d (wr.alloc (.cells #[.int .i64 d.k, .int .i64 d.n, S d.nm, S d.to, S d.tx] 49)) :=
              ⟨⟨b, N, n', c', A', HD.out.below hba, hN⟩, ⟨bm, Nm, nm, cm, Am, ac', ⟨HM.out.1.below hba, HM.out.2⟩, hNm, fun _ e => by have := (own_base' HM.out.1.own e).2; omega⟩, Blk.new _ _ _, HBI.out.trans (hba.mono HBI.out.size)⟩
            have hls0 := HLS.out.below hba HLS.out.lt
            have HPL : Hid (∀ w', Bo true w2 g h rm (K0 + q) (K0 + q) st st wr.heap.size d w' → Calls Try.prog 25 #[.pointer (some ⟨g, 0, none⟩), d.val] w' (fun e w'' => e = .returned (.int .i64 (st.err ((rm : Int) - tot) d : Nat)) ∧ Bo true w2 g h rm (K0 + q + 1) (K0 + q) (st.nxt ((rm : Int) - tot) d) st wr.heap.size d w'' ∧ Far w' w'')) :=
              hide (fun w' i => play_far i hck (by have := hsa.1; omega) HF.out.2 HT.out (by omega) hrm2 (by omega))
            have HDO : Hid (∀ w', Bo true w2 g h rm (K0 + q + 1) (K0 + q) (st.nxt ((rm : Int) - tot) d) st wr.heap.size d w' → Calls Try.prog 26 #[.pointer (some ⟨h, 0, none⟩), d.val] w' (fun e w'' => e = .returned (.int .i64 (st.err ((rm : Int) - tot) d : Nat)) ∧ Bo false w2 g h rm (K0 + q + 1) (K0 + q + 1) (st.nxt ((rm : Int) - tot) d) (st.nxt ((rm : Int) - tot) d) wr.heap.size d w'' ∧ Far w' w'')) :=
              hide (fun w' i => do_far i hck (by have := hsa.1; omega) HF.out HT.out (by omega) hrm2 (by omega))
            obtain ⟨tf', ht1, ht2, ht3⟩ := nxt_inv HTF.out htf HSC.out ((rm : Int) - tot) d hsa.1
            have hf2 := nxt_fall HF.out ((rm : Int) - tot) d hck
            obtain ⟨E, hE⟩ : ∃ E, E = st.err ((rm : Int) - tot) d := ⟨_, rfl⟩
            obtain ⟨T, hT⟩ : ∃ T, T = st.nxt ((rm : Int) - tot) d := ⟨_, rfl⟩
            rw [← hE, ← hT] at HPL HDO
            rw [← hT] at ht1 ht2 ht3 hf2
            clear hE hT
            have HT' := hide ht1
            have HT3 := hide ht3
            have HF' := hide hf2
            have HI0 := hide i0
            have hcel := i0.cells
            obtain ⟨dk, dn', dm, dt, dx⟩ := d
            have q0 : wr.cell? ⟨xx, o + q * 5, none⟩ = some (.int .i64 dk) := hcell 0 _ rfl
            have q1 : wr.cell? ⟨xx, o + q * 5 + 1, none⟩ = some (.int .i64 dn') := hcell 1 _ rfl
            have q2 : wr.cell? ⟨xx, o + q * 5 + 2, none⟩ = some (S dm) := hcell 2 _ rfl
            have q3 : wr.cell? ⟨xx, o + q * 5 + 3, none⟩ = some (S dt) := hcell 3 _ rfl
            have q4 : wr.cell? ⟨xx, o + q * 5 + 4, none⟩ = some (S dx) := hcell 4 _ rfl
            have HLS0 := hide hls0
            clear hcell hck hsa ht1 ht3 hf2 HD HM HT HF HTF HSC HLS i0 hba hls0
            obtain ⟨wA, hwA⟩ : ∃ wA, wA = wr.alloc (.cells #[.int .i64 dk, .int .i64 dn', S dm, S dt, S dx] 49) := ⟨_, rfl⟩
            rw [← hwA] at hcel HI0 HLS0
            have i4 := HI0.out.drew
            go_wp2_with fail
            rw [← hwA]
            clear hwA
            first | (go_region_held3 (fun w' => w'.cell? ⟨wr.heap.size, 0, none⟩ = some (.int .i64 dk) ∧ w'.cell? ⟨wr.heap.size, 1, none⟩ = some (.int .i64 dn') ∧ w'.cell? ⟨wr.heap.size, 2, none⟩ = some (S dm) ∧ w'.cell? ⟨wr.heap.size, 3, none⟩ = some (S dt) ∧ w'.cell? ⟨wr.heap.size, 4, none⟩ = some (S dx))
              (first | exact hcel | assumption | exact i5.cells | exact i6.cells | fail)
              (first
                | (go_at_call 25; (with_reducible refine (HPL.out _ i4).mono ?_); rintro e w5 ⟨rfl, i5, F5⟩)
                | (go_at_call 26; (with_reducible refine (HDO.out _ i5).mono ?_); rintro e w6 ⟨rfl, i6, F6⟩)
                | fail)) | fail
            have HI6 := hide i6
            have HLS6 := hide (F6 _ _ _ (by decide) (by decide) (by decide) (by decide) (F5 _ _ _ (by decide) (by decide) (by decide) (by decide) HLS0.out.drew))
            clear i4 i5 i6 F5 F6 HPL HDO HI0 hcel q0 q1 q2 q3 q4 HLS0
            go_wp2_with fail
            go_roundw
            case rel =>
              obtain ⟨⟨b7, N7, n7, c7, A7, hd9, hn9⟩, ⟨bm7, Nm7, nm7, cm7, Am7, ac7, hm9, hnm9, _⟩, _, hbb9⟩ := HI6.out
              (repeat apply Exists.intro)
              exact ⟨⟨q + 1, b7, N7, n7, c7, A7, bm7, Nm7, nm7, cm7, Am7, ac7, T, tf', by omega, by go_num, hd9, by omega, hm9, by omega, HT'.out, by omega, HT3.out, HF'.out, hbb9, HLS6.out⟩, rfl⟩
            case measure => simp [intOf]; omega
          · have hba := (Below.refl wr.heap.size wr).alloc (Nat.le_refl _) (.cells #[.slice K2 n2 c2, .slice K4 n4 c4] 23)
            obtain ⟨wX, hwX⟩ : ∃ wX, wX = wr.alloc (.cells #[.slice K2 n2 c2, .slice K4 n4 c4] 23) := ⟨_, rfl⟩
            rw [← hwX] at hba
            have HDX := hide (HD.out.below hba)
            have HMX := hide (HM.out.1.below hba)
            have HMr := hide HM.out.2
            have HLSX := hide (HLS.out.below hba HLS.out.lt)
            have HBX := hide (HBI.out.trans (hba.mono HBI.out.size))
            have HKX := hide (((H4.out.below (HB2.out.trans (HBX.out.mono HB2.out.size))).weak (fun r _ hr => by have := HBX.out.size; have := HB2.out.size; omega)) : Rd wX (fun r => wX.heap.size ≤ r) 1 K4 n4 (l4.map .bool))
            have hkc := kept_len l4 st.cs
            obtain ⟨tf8, ht8, htf8⟩ := fold_tot (kept l4 st.cs) HTF.out (fun c hc => HSC.out c (kept_mem hc))
            have HT8 := hide ht8
            have HRA : Hid ((keptA l4 ac').foldl actDo st.F = (kept l4 st.cs).foldl chDo st.F) := hide (by rw [fold_eq (keptA l4 ac') st.F (fun a ha => HMr.out.2 a (keptA_mem ha)), keptA_map, HMr.out.1])
            clear hba ht8 HD HM HLS HBI HT
            go_wp2_with fail
            rw [← hwX]
            clear hwX
            refine (crash_dk w2.heap.size g b N n' c' n4 c4 A' K4 st.cs l4 rm st.fall st.dn st.F ((kept l4 st.cs).foldl chDo st.F) wX HDX.out hrm2 (by omega) (by omega) rfl HKX.out hl4).mono ?_
            rintro e w8 ⟨g8, b8, rfl, h8, hb8⟩
            obtain ⟨R8, hR8⟩ : ∃ R8, R8 = (kept l4 st.cs).foldl chDo st.F := ⟨_, rfl⟩
            rw [← hR8] at h8 HT8 HRA
            clear hR8
            have H8 := hide h8
            have HM8 := hide (HMX.out.below hb8)
            have HLS8 := hide (HLSX.out.below hb8 HLSX.out.lt)
            have HB8 := hide (HBX.out.trans (hb8.mono HBX.out.size))
            have HK8 := hide (((HKX.out.below hb8).weak (fun r _ hr => by have := hb8.size; omega)) : Rd w8 (fun r => w8.heap.size ≤ r) 1 K4 n4 (l4.map .bool))
            have hmb := HM8.out.blk
            have d0 : w8.cell? ⟨h, 0, none⟩ = some (.map (some bm)) := hmb.cell 0
            have d1' : w8.cell? ⟨h, 1, none⟩ = some (.slice Am nm cm) := hmb.cell 1
            have hXs := HBX.out.size
            clear h8 hb8 hmb HDX HMX HLSX HKX HTF HSC HF
            go_wp2_with fail
            obtain ⟨wp, rfl⟩ : ∃ wp : World, wp = wr := ⟨_, rfl⟩
            go_loopw [18, 86] (fun v i wr => ∃ (q b' : Nat), q ≤ nm ∧ i = .int .i64 q ∧ v = .map (some b') ∧ TxtIs wr b' (Nm + q) ((keptA l4 (ac'.take q)).foldl actDo st.F) ∧ Below w8.heap.size w8 wr ∧ w2.heap.size ≤ b') (fun _ i _ => nm - (intOf i).toNat)
            case atStart => exact ⟨0, bm, Nat.zero_le _, rfl, rfl, HM8.out.txt, Below.refl _ _, HM8.out.bB⟩
            case round =>
              obtain ⟨q9, b9, hq9, rfl, rfl, ht9, hb9, hB9⟩ := hrel
              have HT9 := hide ht9
              have HB9 := hide hb9
              clear ht9 hb9
              by_cases hlt9 : q9 < nm
              · obtain ⟨xy, oy, rfl, _, _, hcell⟩ := Rd.rec_ (size := 5) (fun _ => rfl) ((HM8.out.rd).below HB9.out) HM8.out.len q9 hlt9
                have hlk9 : q9 < ac'.length := by have := HM8.out.len; omega
                have hck := HM8.out.ok _ (List.getElem_mem hlk9)
                have HKS : Hid (keptA l4 (ac'.take (q9 + 1)) = keptA l4 (ac'.take q9) ++ (if l4.getD q9 false then [ac'[q9]] else [])) := hide (keptA_succ l4 ac' hlk9)
                obtain ⟨d, hd⟩ : ∃ d, d = ac'[q9] := ⟨_, rfl⟩
                rw [← hd] at hcell hck HKS
                clear hd
                obtain ⟨dk, dn', dm, dt, dx⟩ := d
                have q0 : wr.cell? ⟨xy, oy + q9 * 5, none⟩ = some (.int .i64 dk) := hcell 0 _ rfl
                have q1 : wr.cell? ⟨xy, oy + q9 * 5 + 1, none⟩ = some (.int .i64 dn') := hcell 1 _ rfl
                have q2 : wr.cell? ⟨xy, oy + q9 * 5 + 2, none⟩ = some (S dm) := hcell 2 _ rfl
                have q3 : wr.cell? ⟨xy, oy + q9 * 5 + 3, none⟩ = some (S dt) := hcell 3 _ rfl
                have q4 : wr.cell? ⟨xy, oy + q9 * 5 + 4, none⟩ = some (S dx) := hcell 4 _ rfl
                have hBa := hide (HB9.out.alloc HB9.out.size (.cells #[.int .i64 dk, .int .i64 dn', S dm, S dt, S dx] 49))
                have HTa := hide (HT9.out.of_block (Below.heap_alloc wr (.cells #[.int .i64 dk, .int .i64 dn', S dm, S dt, S dx] 49) _ HT9.out.lt))
                have HDO := hide (trn_any ⟨dk, dn', dm, dt, dx⟩ hck b9 (Nm + q9) _ _ HTa.out (by omega))
                clear hcell
                by_cases hlk2 : q9 < n4
                · obtain ⟨x2, o2, u, rfl, hu, hcu⟩ := (HK8.out.below HB9.out).at_ q9 hlk2
                  have hlk3 : q9 < l4.length := by omega
                  obtain rfl : Value.bool l4[q9] = u := by simpa [hlk3] using hu
                  have hgd : l4.getD q9 false = l4[q9] := by simp [hlk3]
                  obtain ⟨BB, hBB⟩ : ∃ B, B = l4[q9] := ⟨_, rfl⟩
                  rw [hgd, ← hBB] at HKS
                  rw [← hBB] at hcu
                  have q5 : (wr.alloc (.cells #[.int .i64 dk, .int .i64 dn', S dm, S dt, S dx] 49)).cell? ⟨x2, o2 + q9, none⟩ = some (.bool BB) := (World.cell?_alloc_lt wr _ _ (World.block_lt_of_cell? _ _ hcu)).trans hcu
                  clear hu hgd hBB hcu
                  cases BB
                  case false =>
                    have hL := HKS.out
                    simp at hL
                    have HL := hide hL
                    clear hL
                    go_wp2_with fail
                    go_roundw
                    case rel => exact ⟨q9 + 1, b9, by omega, by go_num, rfl, by rw [HL.out]; exact HTa.out.mono (by omega), hBa.out, hB9⟩
                    case measure => simp [intOf]; omega
                  case true =>
                    have hL := HKS.out
                    simp at hL
                    have HL : Hid ((keptA l4 (ac'.take (q9 + 1))).foldl actDo st.F = actDo ((keptA l4 (ac'.take q9)).foldl actDo st.F) ⟨dk, dn', dm, dt, dx⟩) := hide (by rw [hL, List.foldl_append]; rfl)
                    clear hL
                    go_wp2_with fail
                    refine HDO.out.mono ?_
                    rintro e w5 ⟨b5, rfl, ht5, hk5, hb5⟩
                    have hB5 := hide (hBa.out.trans (hk5.mono (by have := HB9.out.size; simp; omega)))
                    have hb6 : w2.heap.size ≤ b5 := by have := HB9.out.size; have := HB8.out.size; simp at hb5; omega
                    have HT5 := hide ht5
                    clear ht5 hk5 HDO hb5
                    go_wp2_with fail
                    go_roundw
                    case rel => exact ⟨q9 + 1, b5, by omega, by go_num, rfl, by rw [HL.out]; exact HT5.out, hB5.out, hb6⟩
                    case measure => simp [intOf]; omega
                · have hL := HKS.out
                  rw [show l4.getD q9 false = false by simp [List.getD_eq_getElem?_getD, List.getElem?_eq_none (show l4.length ≤ q9 by omega)]] at hL
                  simp at hL
                  have HL := hide hL
                  clear hL
                  go_wp2_with fail
                  go_roundw
                  case rel => exact ⟨q9 + 1, b9, by omega, by go_num, rfl, by rw [HL.out]; exact HTa.out.mono (by omega), hBa.out, hB9⟩
                  case measure => simp [intOf]; omega
              · have hnq : q9 = nm := by omega
                subst hnq
                have hta : ac'.take q9 = ac' := List.take_of_length_le (by have := HM8.out.len; omega)
                rw [hta, HRA.out] at HT9
                have d2' : wr.cell? ⟨h, 2, none⟩ = some (.int .i64 rm) := (HM8.out.below HB9.out).blk.cell 2
                have hbE := (Below.refl wr.heap.size wr).alloc (Nat.le_refl _) (.cells #[.map (some b9), .slice none 0 0, .int .i64 rm, .int .i64 (-1), .bool false] 57)
                obtain ⟨wE, hwE⟩ : ∃ wE, wE = wr.alloc (.cells #[.map (some b9), .slice none 0 0, .int .i64 rm, .int .i64 (-1), .bool false] 57) := ⟨_, rfl⟩
                have kE : Blk wE wr.heap.size 57 #[.map (some b9), .slice none 0 0, .int .i64 rm, .int .i64 (-1), .bool false] := by rw [hwE]; exact Blk.new _ _ _
                rw [← hwE] at hbE
                have hE8 := HB9.out.trans (hbE.mono HB9.out.size)
                have HME : Hid (Md wE w2.heap.size wr.heap.size b9 (Nm + q9) 0 0 none [] rm (-1) false R8) := hide ⟨kE, HT9.out.of_block (hbE.block b9 HT9.out.lt), by simpa using World.ownsRow_nil wE w2.heap.size 49 5, by simp, hB9, by have := HB9.out.size; have := HB8.out.size; omega⟩
                have HDE := hide (H8.out.below hE8)
                have HLSE := hide (HLS8.out.below hE8 HLS8.out.lt)
                have HBE := hide (HB8.out.trans (hE8.mono HB8.out.size))
                clear hbE kE hE8 hta HT9 HB9 H8 HM8 HLS8 HB8 HK8 HRA
                go_wp2_with fail
                rw [← hwE]
                clear hwE
                refine (same_any wX.heap.size g8 b8 (N + n') 0 0 none [] w2.heap.size wr.heap.size b9 (Nm + q9) 0 0 none [] rm (-1) (-1) false R8 R8 R8 tf8 wE HDE.out HME.out rfl rfl (by omega) (by omega) (by omega) (by omega) HT8.out (by omega) hrm2).mono ?_
                rintro e w10 ⟨rfl, hb10⟩
                have HD10 := hide (HDE.out.below hb10)
                have HM10 := hide (HME.out.below hb10)
                have HLS10 := hide (HLSE.out.below hb10 HLSE.out.lt)
                have HB10 := hide (HBE.out.trans (hb10.mono HBE.out.size))
                clear hb10 HDE HME HLSE HBE
                go_wp2_with fail
                refine (crash_dk wX.heap.size g8 b8 (N + n') 0 0 0 0 none none [] [] rm (-1) false R8 R8 w10 HD10.out hrm2 (by omega) (by omega) rfl (Rd.nil _ _ _ _) rfl).mono ?_
                rintro e w11 ⟨g11, b11, rfl, h11, hb11⟩
                have H11 := hide h11
                have HD11 := hide (HD10.out.below hb11)
                have HM11 := hide (HM10.out.below hb11)
                have HLS11 := hide (HLS10.out.below hb11 HLS10.out.lt)
                have HB11 := hide (HB10.out.trans (hb11.mono HB10.out.size))
                clear h11 hb11 HD10 HM10 HLS10 HB10
                go_wp2_with fail
                refine (same_any w10.heap.size g11 b11 (N + n' + 0) 0 0 none [] w2.heap.size wr.heap.size b9 (Nm + q9) 0 0 none [] rm (-1) (-1) false R8 R8 R8 tf8 w11 H11.out HM11.out rfl rfl (by omega) (by omega) (by omega) (by omega) HT8.out (by omega) hrm2).mono ?_
                rintro e w12 ⟨rfl, hb12⟩
                have HD12 := hide (HD11.out.below hb12)
                have HM12 := hide (HM11.out.below hb12)
                have HLS12 := hide (HLS11.out.below hb12 HLS11.out.lt)
                have HB12 := hide (HB11.out.trans (hb12.mono HB11.out.size))
                clear hb12 HD11 HM11 HLS11 HB11 H11
                go_wp2_with fail
                go_roundw
                case rel =>
                  refine ⟨2, g8, wr.heap.size, b8, N + n', 0, 0, none, b9, Nm + q9, 0, 0, none, [], ⟨R8, [], -1, false⟩, tf8, by omega, by go_num, rfl, rfl, HD12.out.rebase rfl hXs, by omega, ⟨HM12.out, rfl, by simp⟩, by omega, HT8.out, by show tf8 + 100 * 0 ≤ _; omega, by simp, ⟨by show (-1 : Int) ≤ -1; omega, by show (-1 : Int) ≤ _; omega⟩, HB12.out, HLS12.out⟩
                case measure => simp [intOf]
    · have HBF := hide (HB2.out.trans (HB.out.mono HB2.out.size))
      go_wp2_with fail
      go_ret
      exact ⟨rfl, HBF.out⟩
end Go.Proofs.Ytkgljicibjlabaa
