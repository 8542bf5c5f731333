/- DiskActs, walked: it returns true for every input. -/
import Derived.Test.YtkgljicibjlabaaDiskBoth
import Derived.Test.YtkgljicibjlabaaDiskFew
import Derived.Test.YtkgljicibjlabaaDiskHead
import Derived.Deep.RegionHeld3
namespace Go.Proofs.Ytkgljicibjlabaa
open Go.RowKit Go.Maps

/-- A new disk of whatever room. -/
theorem new_any (x : Int) (w : World) : ∃ room : Nat, min (max x 0) 4194304 = (room : Int) ∧ room ≤ 4194304 ∧
    Calls Try.prog 12 #[.int .i64 x] w (fun e w' => ∃ g b, e = .returned (.pointer (some ⟨g, 0, none⟩)) ∧ Dk w' w.heap.size g b 0 0 0 none [] room (-1) false (fun _ => none) ∧ Below w.heap.size w w') := by
  obtain ⟨room, hr⟩ : ∃ room : Nat, min (max x 0) 4194304 = (room : Int) := ⟨(min (max x 0) 4194304).toNat, by omega⟩
  refine ⟨room, hr, by omega, ?_⟩
  have h1 := TxtIs.made w
  have h2 := Blk.new (w.alloc (.map #[] 0)) 68 #[.map (some w.heap.size), .slice none 0 0, .int .i64 room, .int .i64 (-1), .bool false]
  rw [World.size_alloc] at h2
  have hf := show Dk ((w.alloc (.map #[] 0)).alloc (.cells #[.map (some w.heap.size), .slice none 0 0, .int .i64 room, .int .i64 (-1), .bool false] 68)) w.heap.size (w.heap.size + 1) w.heap.size 0 0 0 none [] room (-1) false (fun _ => none) from
    ⟨h2, h1.of_block (Below.heap_alloc _ _ _ (by simp)), by simpa using World.ownsRow_nil _ w.heap.size 71 3, by simp, Nat.le_refl _, by omega⟩
  have HF := hide hf
  have HB := hide (((Below.refl _ w).alloc (Nat.le_refl _) (.map #[] 0)).alloc (by simp) (.cells #[.map (some w.heap.size), .slice none 0 0, .int .i64 room, .int .i64 (-1), .bool false] 68))
  clear hf h1 h2
  have hmm := @run_makeMap Try.prog
  go_enter Try.func12, Try.ntmps12
  go_wp2_with fail
  go_ret
  exact ⟨_, _, rfl, HF.out, HB.out⟩

set_option maxRecDepth 100000 in
set_option maxHeartbeats 8000000 in
theorem acts_law (x : Int) (A : Option Addr) (n c : Nat) (ac : List Ac) (name : List UInt8) (hname : short name) (w : World) (hx : ActsAt w (fun k => w.heap.size ≤ k) A n ac) :
    Calls Try.prog 7 #[.int .i64 x, .slice A n c, S name] w (Gives w (.bool true)) := by
  have HX := hide hx
  clear hx
  go_enter Try.func7, Try.ntmps7
  go_wp2_with fail
  refine (head_any w).mono ?_
  rintro e w1 ⟨rfl, hb1⟩
  have HFE := hide (few_any A n c ac w1 ((HX.out.below hb1).weak' hb1.size))
  go_wp2_with fail
  refine HFE.out.mono ?_
  rintro e w2 ⟨R, rfl, hb2, hR⟩
  have hB2 := hb1.trans (hb2.mono hb1.size)
  have HRF := hide hR
  clear hR hb2 hb1 HFE
  cases R with
  | false =>
    go_wp2_with fail
    go_ret
    exact ⟨rfl, hB2⟩
  | true =>
    obtain ⟨hsm, hn40⟩ := HRF.out rfl
    have HSM := hide hsm
    clear hsm HRF
    by_cases hnl : 100 < name.length
    · have d1 : decide (100 < (name.length : Int)) = true := by simp; omega
      go_wp2_with fail
      go_ret
      exact ⟨rfl, hB2⟩
    have d1 : decide (100 < (name.length : Int)) = false := by simp; omega
    obtain ⟨rm, hrm, hrm2, hnew⟩ := new_any x w2
    have HNW := hide hnew
    have HMN := hide (mnew_any x rm hrm)
    clear hnew hrm
    go_wp2_with fail
    refine HNW.out.mono ?_
    rintro e w3 ⟨g, b, rfl, h3, hb3⟩
    have HD3 := hide h3
    have HB3 := hide hb3
    clear h3 hb3 HNW
    go_wp2_with fail
    refine (HMN.out w3).mono ?_
    rintro e w4 ⟨h, bm, rfl, h4, hb4⟩
    have hd4 := HD3.out.below hb4
    have hb34 := HB3.out.size
    have HD4 : Hid (Dk w4 w2.heap.size g b 0 0 0 none [] rm (-1) false F0) := hide hd4
    have HM4 : Hid (MdS w4 w2.heap.size h bm 0 0 0 none [] rm ⟨F0, [], -1, false⟩) := hide ⟨⟨h4.blk, h4.txt, by simpa using World.ownsRow_nil w4 w2.heap.size 49 5, h4.ok, by have := h4.bB; omega, by have := h4.hB; omega⟩, rfl, by simp⟩
    have HB4 := hide (HB3.out.trans (hb4.mono hb34))
    clear hd4 h4 hb4 HD3 HB3 HMN
    have hcell := HX.out.1
    have hxl := HX.out.2.1
    have HOK := hide HX.out.2.2.1
    have HRD : Hid (Rd w (fun k => w.heap.size ≤ k) 5 A n (ac.flatMap Ac.cells)) := hide hcell
    clear hcell HX
    have HB2 := hide hB2
    clear hB2
    go_wp2_with fail
    go_loopw [31] (fun i wr => ∃ (k b N n' c' : Nat) (A' : Option Addr) (bm Nm nm cm : Nat) (Am : Option Addr) (ac' : List Ac) (st : St) (tot : Nat), k ≤ n ∧ i = .int .i64 k ∧ Dk wr w2.heap.size g b N n' c' A' st.cs rm st.fall st.dn st.F ∧ N + n' ≤ k ∧
      MdS wr w2.heap.size h bm Nm nm cm Am ac' rm st ∧ Nm + nm ≤ k ∧ Tot st.R tot ∧ tot ≤ 100 * k ∧ (-1 ≤ st.fall ∧ st.fall ≤ 9223372036854775807) ∧ Below w2.heap.size w2 wr) (fun i _ => n - (intOf i).toNat)
    case atStart => exact ⟨0, b, 0, 0, 0, none, bm, 0, 0, 0, none, [], ⟨F0, [], -1, false⟩, 0, Nat.zero_le _, rfl, HD4.out, by omega, HM4.out, by omega, Tot.none, by omega, ⟨by show (-1 : Int) ≤ -1; omega, by show (-1 : Int) ≤ _; omega⟩, HB4.out⟩
    case round =>
      obtain ⟨k, b, N, n', c', A', bm, Nm, nm, cm, Am, ac', st, tot, hk, rfl, hd, hN, hm, hNm, hT, htot, hfl, hBr⟩ := hrel
      have HD := hide hd
      have HM := hide hm
      have HT := hide hT
      have HF := hide hfl
      have HB := hide hBr
      clear hd hm hT hfl hBr HD4 HM4 HB4
      by_cases hlt : k < n
      · obtain ⟨xx, o, rfl, _, _, hcell⟩ := Rd.rec_ (size := 5) (fun _ => rfl) (HRD.out.below (HB2.out.trans (HB.out.mono HB2.out.size))) hxl k hlt
        have hlk : k < ac.length := by omega
        have hck := HOK.out _ (List.getElem_mem hlk)
        have hsa := HSM.out _ (List.getElem_mem hlk)
        obtain ⟨d, hd⟩ : ∃ d, d = ac[k] := ⟨_, rfl⟩
        rw [← hd] at hcell hck hsa
        clear hd
        have i0 : Bo true w2 g h rm k k st st wr.heap.size d (wr.alloc (.cells #[.int .i64 d.k, .int .i64 d.n, S d.nm, S d.to, S d.tx] 49)) := by
          have hb := (Below.refl wr.heap.size wr).alloc (Nat.le_refl _) (.cells #[.int .i64 d.k, .int .i64 d.n, S d.nm, S d.to, S d.tx] 49)
          exact ⟨⟨b, N, n', c', A', HD.out.below hb, hN⟩, ⟨bm, Nm, nm, cm, Am, ac', ⟨HM.out.1.below hb, HM.out.2⟩, hNm, fun _ e => by have := (own_base' HM.out.1.own e).2; omega⟩, Blk.new _ _ _, HB.out.trans (hb.mono HB.out.size)⟩
        have HPL : Hid (∀ w', Bo true w2 g h rm k k st st wr.heap.size d w' → Calls Try.prog 25 #[.pointer (some ⟨g, 0, none⟩), d.val] w' (fun e w'' => e = .returned (.int .i64 (st.err ((rm : Int) - tot) d : Nat)) ∧ Bo true w2 g h rm (k + 1) k (st.nxt ((rm : Int) - tot) d) st wr.heap.size d w'')) :=
          hide (fun w' i => play_both i hck (by have := hsa.1; omega) HF.out.2 HT.out (by omega) hrm2 (by omega))
        have HDO : Hid (∀ w', Bo true w2 g h rm (k + 1) k (st.nxt ((rm : Int) - tot) d) st wr.heap.size d w' → Calls Try.prog 26 #[.pointer (some ⟨h, 0, none⟩), d.val] w' (fun e w'' => e = .returned (.int .i64 (st.err ((rm : Int) - tot) d : Nat)) ∧ Bo false w2 g h rm (k + 1) (k + 1) (st.nxt ((rm : Int) - tot) d) (st.nxt ((rm : Int) - tot) d) wr.heap.size d w'')) :=
          hide (fun w' i => do_both i hck (by have := hsa.1; omega) HF.out HT.out (by omega) hrm2 (by omega))
        obtain ⟨tot', ht1, ht2⟩ := nxt_tot HT.out ((rm : Int) - tot) d hsa.1
        have hf2 := nxt_fall HF.out ((rm : Int) - tot) d hck
        have HSA : Hid (∀ w', Bo false w2 g h rm (k + 1) (k + 1) (st.nxt ((rm : Int) - tot) d) (st.nxt ((rm : Int) - tot) d) wr.heap.size d w' → Calls Try.prog 27 #[.pointer (some ⟨g, 0, none⟩), .pointer (some ⟨h, 0, none⟩)] w' (fun e w'' => e = .returned (.bool true) ∧ Bo false w2 g h rm (k + 1) (k + 1) (st.nxt ((rm : Int) - tot) d) (st.nxt ((rm : Int) - tot) d) wr.heap.size d w'')) :=
          hide (fun w' i => same_both i ht1 (by omega) hrm2 (by omega) (by omega))
        obtain ⟨E, hE⟩ : ∃ E, E = st.err ((rm : Int) - tot) d := ⟨_, rfl⟩
        obtain ⟨T, hT⟩ : ∃ T, T = st.nxt ((rm : Int) - tot) d := ⟨_, rfl⟩
        rw [← hE, ← hT] at HPL HDO
        rw [← hT] at HSA ht1 hf2
        clear hE hT
        have HT' := hide ht1
        have HF' := hide hf2
        have HI0 := hide i0
        have hcel := i0.cells
        obtain ⟨dk, dn', dm, dt, dx⟩ := d
        have q0 : wr.cell? ⟨xx, o + k * 5, none⟩ = some (.int .i64 dk) := hcell 0 _ rfl
        have q1 : wr.cell? ⟨xx, o + k * 5 + 1, none⟩ = some (.int .i64 dn') := hcell 1 _ rfl
        have q2 : wr.cell? ⟨xx, o + k * 5 + 2, none⟩ = some (S dm) := hcell 2 _ rfl
        have q3 : wr.cell? ⟨xx, o + k * 5 + 3, none⟩ = some (S dt) := hcell 3 _ rfl
        have q4 : wr.cell? ⟨xx, o + k * 5 + 4, none⟩ = some (S dx) := hcell 4 _ rfl
        clear hcell hck hsa ht1 hf2 HD HM HT HF i0
        obtain ⟨wA, hwA⟩ : ∃ wA, wA = wr.alloc (.cells #[.int .i64 dk, .int .i64 dn', S dm, S dt, S dx] 49) := ⟨_, rfl⟩
        rw [← hwA] at hcel HI0
        have i4 := HI0.out.drew
        go_wp2_with fail
        rw [← hwA]
        clear hwA
        first | (go_region_held3 (fun w' => w'.cell? ⟨wr.heap.size, 0, none⟩ = some (.int .i64 dk) ∧ w'.cell? ⟨wr.heap.size, 1, none⟩ = some (.int .i64 dn') ∧ w'.cell? ⟨wr.heap.size, 2, none⟩ = some (S dm) ∧ w'.cell? ⟨wr.heap.size, 3, none⟩ = some (S dt) ∧ w'.cell? ⟨wr.heap.size, 4, none⟩ = some (S dx))
          (first | exact hcel | assumption | exact i5.cells | exact i6.cells | exact i7.cells | fail)
          (first
            | (go_at_call 25; (with_reducible refine (HPL.out _ i4).mono ?_); rintro e w5 ⟨rfl, i5⟩)
            | (go_at_call 26; (with_reducible refine (HDO.out _ i5).mono ?_); rintro e w6 ⟨rfl, i6⟩)
            | (go_at_call 27; (with_reducible refine (HSA.out _ i6).mono ?_); rintro e w7 ⟨rfl, i7⟩)
            | fail)) | fail
        have HI7 := hide i7
        clear i4 i5 i6 i7 HPL HDO HSA HI0 hcel q0 q1 q2 q3 q4
        obtain ⟨⟨b7, N7, n7, c7, A7, hd7, hn7⟩, ⟨bm7, Nm7, nm7, cm7, Am7, ac7, hm7, hnm7, _⟩, _, _⟩ := HI7.out
        have hm7d := hm7.1
        cases hdn : T.dn with
        | true =>
          rw [hdn] at hd7 hm7d
          have HRE := hide (read_down g b7 n7 c7 A7 rm T.fall name w7 hd7.blk)
          have hkn := key_S hname
          have hFm := mfiles_any w2.heap.size h bm7 Nm7 nm7 cm7 Am7 ac7 rm T.fall true T.F w7 hm7d (by omega) (by omega)
          rw [fold_eq ac7 _ hm7.2.2, hm7.2.1] at hFm
          have HFM := hide hFm
          have HMD := hide hm7d
          have HIR := hide HI7.out
          clear hFm hd7 hm7 hm7d HI7
          go_wp2_with fail
          refine HRE.out.mono ?_
          rintro e w8 ⟨rfl, hw8⟩
          subst hw8
          go_wp2_with fail
          refine HFM.out.mono ?_
          rintro e w9 ⟨b9, rfl, ⟨D, hD, hRd⟩, hb9, _⟩
          have hRd : Reads D T.R := hRd
          have hB := (hRd.2 name).1
          have hV := (hRd.2 name).2 (S [])
          obtain ⟨bb, hbb⟩ : ∃ bb, bb = (T.R name).isSome := ⟨_, rfl⟩
          obtain ⟨oo, hoo⟩ : ∃ oo, oo = (T.R name).getD [] := ⟨_, rfl⟩
          have hoo' : ((T.R name).map S).getD (S []) = S oo := by rw [hoo]; cases T.R name <;> rfl
          rw [← hbb] at hB
          rw [hoo'] at hV
          clear hbb hoo hoo'
          have HI9 := hide (HIR.out.below hb9)
          have c4 : w9.cell? ⟨h, 4, none⟩ = some (.bool true) := (HMD.out.below hb9).blk.cell 4
          clear hRd hb9 HFM HMD HIR HRE
          go_wp2_with (at_lookup; refine lookup_held2 _ rfl _ _ 54 rfl 9 9 klaw Try.underlying54 (zero_str _) _ _ D rfl hD _ _ rfl hkn (S oo) bb hV hB ?_)
          go_roundw
          case rel =>
            obtain ⟨⟨b7, N7, n7, c7, A7, hd9, hn9⟩, ⟨bm7, Nm7, nm7, cm7, Am7, ac7, hm9, hnm9, _⟩, _, hbb9⟩ := HI9.out
            exact ⟨k + 1, b7, N7, n7, c7, A7, bm7, Nm7, nm7, cm7, Am7, ac7, T, tot', by omega, by go_num, hd9, hn9, hm9, hnm9, HT'.out, by omega, HF'.out, hbb9⟩
          case measure => simp [intOf]; omega
        | false =>
          rw [hdn] at hd7 hm7d
          have hre := read_dk w2.heap.size g b7 N7 n7 c7 A7 T.cs rm T.fall T.F T.R name hname w7 hd7 (by omega) (by omega) rfl
          cases hRn : T.R name with
          | none =>
            rw [hRn] at hre
            simp only [Option.getD_none, Option.isSome_none, Bool.false_eq_true, if_false] at hre
            have HRE := hide hre
            clear hre
            have hkn := key_S hname
            have HFE2 : Hid (ac7.foldl actDo T.F = T.R) := hide (by rw [fold_eq ac7 _ hm7.2.2, hm7.2.1]; rfl)
            have HMD := hide hm7d
            have HIR := hide HI7.out
            clear hd7 hm7 hm7d HI7
            go_wp2_with fail
            refine HRE.out.mono ?_
            rintro e w8 ⟨rfl, hb8⟩
            have HB8 := hide hb8
            clear hb8
            go_wp2_with fail
            refine (mfiles_any w2.heap.size h bm7 Nm7 nm7 cm7 Am7 ac7 rm T.fall false T.F w8 (HMD.out.below HB8.out) (by omega) (by omega)).mono ?_
            rintro e w9 ⟨b9, rfl, ⟨D, hD, hRd⟩, hb9, _⟩
            have hRd : Reads D T.R := by rw [HFE2.out] at hRd; exact hRd
            have hB := (hRd.2 name).1
            have hV := (hRd.2 name).2 (S [])
            rw [hRn] at hB hV
            simp only [Option.isSome_none, Option.map_none, Option.getD_none] at hB hV
            have HI9 := hide ((HIR.out.below HB8.out).below hb9)
            have c4 : w9.cell? ⟨h, 4, none⟩ = some (.bool false) := ((HMD.out.below HB8.out).below hb9).blk.cell 4
            clear hRd hb9 HMD HIR HRE HFE2
            go_wp2_with (at_lookup; refine lookup_held2 _ rfl _ _ 54 rfl 9 9 klaw Try.underlying54 (zero_str _) _ _ D rfl hD _ _ rfl hkn (S []) false hV hB ?_)
            go_roundw
            case rel =>
              obtain ⟨⟨b7, N7, n7, c7, A7, hd9, hn9⟩, ⟨bm7, Nm7, nm7, cm7, Am7, ac7, hm9, hnm9, _⟩, _, hbb9⟩ := HI9.out
              exact ⟨k + 1, b7, N7, n7, c7, A7, bm7, Nm7, nm7, cm7, Am7, ac7, T, tot', by omega, by go_num, hd9, hn9, hm9, hnm9, HT'.out, by omega, HF'.out, hbb9⟩
            case measure => simp [intOf]; omega
          | some oo =>
            rw [hRn] at hre
            simp only [Option.getD_some, Option.isSome_some, if_true] at hre
            have HRE := hide hre
            clear hre
            have hkn := key_S hname
            have HFE2 : Hid (ac7.foldl actDo T.F = T.R) := hide (by rw [fold_eq ac7 _ hm7.2.2, hm7.2.1]; rfl)
            have HMD := hide hm7d
            have HIR := hide HI7.out
            clear hd7 hm7 hm7d HI7
            go_wp2_with fail
            refine HRE.out.mono ?_
            rintro e w8 ⟨rfl, hb8⟩
            have HB8 := hide hb8
            clear hb8
            go_wp2_with fail
            refine (mfiles_any w2.heap.size h bm7 Nm7 nm7 cm7 Am7 ac7 rm T.fall false T.F w8 (HMD.out.below HB8.out) (by omega) (by omega)).mono ?_
            rintro e w9 ⟨b9, rfl, ⟨D, hD, hRd⟩, hb9, _⟩
            have hRd : Reads D T.R := by rw [HFE2.out] at hRd; exact hRd
            have hB := (hRd.2 name).1
            have hV := (hRd.2 name).2 (S [])
            rw [hRn] at hB hV
            simp only [Option.isSome_some, Option.map_some, Option.getD_some] at hB hV
            have HI9 := hide ((HIR.out.below HB8.out).below hb9)
            have c4 : w9.cell? ⟨h, 4, none⟩ = some (.bool false) := ((HMD.out.below HB8.out).below hb9).blk.cell 4
            clear hRd hb9 HMD HIR HRE HFE2
            go_wp2_with (at_lookup; refine lookup_held2 _ rfl _ _ 54 rfl 9 9 klaw Try.underlying54 (zero_str _) _ _ D rfl hD _ _ rfl hkn (S oo) true hV hB ?_)
            go_roundw
            case rel =>
              obtain ⟨⟨b7, N7, n7, c7, A7, hd9, hn9⟩, ⟨bm7, Nm7, nm7, cm7, Am7, ac7, hm9, hnm9, _⟩, _, hbb9⟩ := HI9.out
              exact ⟨k + 1, b7, N7, n7, c7, A7, bm7, Nm7, nm7, cm7, Am7, ac7, T, tot', by omega, by go_num, hd9, hn9, hm9, hnm9, HT'.out, by omega, HF'.out, hbb9⟩
            case measure => simp [intOf]; omega
      · have HBF := hide (HB2.out.trans (HB.out.mono HB2.out.size))
        go_wp2_with fail
        go_ret
        exact ⟨rfl, HBF.out⟩
end Go.Proofs.Ytkgljicibjlabaa
