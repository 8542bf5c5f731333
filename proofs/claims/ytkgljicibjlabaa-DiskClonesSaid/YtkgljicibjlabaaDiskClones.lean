/- DiskClones, walked: it returns true for every input. -/
import Derived.Test.YtkgljicibjlabaaDiskNil
namespace Go.Proofs.Ytkgljicibjlabaa
open Go.RowKit Go.Maps

theorem Dk.weakB {w : World} {B B' g b N n c : Nat} {A : Option Addr} {cs : List Ch} {room : Nat} {fall : Int} {dn : Bool} {F : Fl} (h : Dk w B g b N n c A cs room fall dn F) (hB : B' ≤ B) : Dk w B' g b N n c A cs room fall dn F :=
  ⟨h.blk, h.txt, ⟨h.own.1, h.own.2.imp id (fun ⟨q, cap, cur, e1, e2, e3⟩ => ⟨q, cap, cur, e1, Nat.le_trans hB e2, e3⟩)⟩, h.ok, Nat.le_trans hB h.bB, Nat.le_trans hB h.gB⟩

set_option maxRecDepth 100000 in
set_option maxHeartbeats 8000000 in
theorem clones_law (x : Int) (A1 : Option Addr) (n1 c1 : Nat) (l1 : List Ac) (A2 : Option Addr) (n2 c2 : Nat) (l2 : List Ac) (w : World)
    (h1 : ActsAt w (fun k => w.heap.size ≤ k) A1 n1 l1) (h2 : ActsAt w (fun k => w.heap.size ≤ k) A2 n2 l2) :
    Calls Try.prog 10 #[.int .i64 x, .slice A1 n1 c1, .slice A2 n2 c2] w (Gives w (.bool true)) := by
  have H1 := hide h1
  have H2 := hide h2
  clear h1 h2
  go_enter Try.func10, Try.ntmps10
  go_wp2_with fail
  refine (head_any w).mono ?_
  rintro e w1 ⟨rfl, hb1⟩
  have HFE := hide (few_any A1 n1 c1 l1 w1 ((H1.out.below hb1).weak' hb1.size))
  go_wp2_with fail
  refine HFE.out.mono ?_
  rintro e w1' ⟨R1, rfl, hb1', hR1⟩
  have hB1 := hb1.trans (hb1'.mono hb1.size)
  have HRF1 := hide hR1
  clear hR1 hb1' hb1 HFE
  cases R1 with
  | false =>
    go_wp2_with fail
    go_ret
    exact ⟨rfl, hB1⟩
  | true =>
  have HFE := hide (few_any A2 n2 c2 l2 w1' ((H2.out.below hB1).weak' hB1.size))
  go_wp2_with fail
  refine HFE.out.mono ?_
  rintro e w2 ⟨R3, rfl, hb2, hR3⟩
  have hB2 := hB1.trans (hb2.mono hB1.size)
  have HRF3 := hide hR3
  clear hR3 hb2 hB1 HFE
  cases R3 with
  | false =>
    go_wp2_with fail
    go_ret
    exact ⟨rfl, hB2⟩
  | true =>
  obtain ⟨hsm1, hn1⟩ := HRF1.out (by simp)
  obtain ⟨hsm2, hn2⟩ := HRF3.out (by simp)
  have HS1 := hide hsm1
  have HS2 := hide hsm2
  clear hsm1 hsm2 HRF1 HRF3
  obtain ⟨rm, hrm, hrm2, hnew⟩ := new_any x w2
  have HNW := hide hnew
  have HMN := hide (mnew_any x rm hrm)
  clear hnew hrm
  go_wp2_with fail
  refine HNW.out.mono ?_
  rintro e w3 ⟨g, b, rfl, h3, hb3⟩
  have HD3 := hide h3
  have HB3 := hide hb3
  clear h3 hb3 HNW
  go_wp2_with fail
  refine (HMN.out w3).mono ?_
  rintro e w4 ⟨h, bm, rfl, h4, hb4⟩
  have hd4 := HD3.out.below hb4
  have hb34 := HB3.out.size
  have HD4 : Hid (Dk w4 w2.heap.size g b 0 0 0 none [] rm (-1) false F0) := hide hd4
  have HM4 : Hid (MdS w4 w2.heap.size h bm 0 0 0 none [] rm ⟨F0, [], -1, false⟩) := hide ⟨⟨h4.blk, h4.txt, by simpa using World.ownsRow_nil w4 w2.heap.size 49 5, h4.ok, by have := h4.bB; omega, by have := h4.hB; omega⟩, rfl, by simp⟩
  have HB4 := hide (HB3.out.trans (hb4.mono hb34))
  have HB2 := hide hB2
  clear hd4 h4 hb4 HD3 HB3 HMN hB2
  have hl1 := H1.out.2.1
  have hl2 := H2.out.2.1
  go_wp2_with fail
  go_loopw [35] (fun i wr => ∃ (k b N n' c' : Nat) (A' : Option Addr) (bm Nm nm cm : Nat) (Am : Option Addr) (ac' : List Ac) (st : St) (tf : Nat), k ≤ n1 ∧ i = .int .i64 k ∧ Dk wr w2.heap.size g b N n' c' A' st.cs rm st.fall st.dn st.F ∧ N + n' ≤ k ∧
    MdS wr w2.heap.size h bm Nm nm cm Am ac' rm st ∧ Nm + nm ≤ k ∧ Tot st.F tf ∧ tf + 100 * st.cs.length ≤ 100 * k ∧ (∀ c ∈ st.cs, smallC c) ∧ (-1 ≤ st.fall ∧ st.fall ≤ 9223372036854775807) ∧ Below w2.heap.size w2 wr) (fun i _ => n1 - (intOf i).toNat)
  case atStart => exact ⟨0, b, 0, 0, 0, none, bm, 0, 0, 0, none, [], ⟨F0, [], -1, false⟩, 0, Nat.zero_le _, rfl, HD4.out, by omega, HM4.out, by omega, Tot.none, by simp, by simp, ⟨by show (-1 : Int) ≤ -1; omega, by show (-1 : Int) ≤ _; omega⟩, HB4.out⟩
  case round =>
    obtain ⟨k, b, N, n', c', A', bm, Nm, nm, cm, Am, ac', st, tf, hk, rfl, hd, hN, hm, hNm, hTF, htf, hsc, hfl, hBr⟩ := hrel
    have HD := hide hd
    have HM := hide hm
    have HTF := hide hTF
    have HSC := hide hsc
    have HF := hide hfl
    have HB := hide hBr
    clear hd hm hTF hsc hfl hBr HD4 HM4 HB4
    obtain ⟨tot, hT, htot⟩ := fold_tot st.cs HTF.out HSC.out
    have hT : Tot st.R tot := hT
    have HT := hide hT
    clear hT
    by_cases hlt : k < n1
    · obtain ⟨xx, o, rfl, _, _, hcell⟩ := Rd.rec_ (size := 5) (fun _ => rfl) (H1.out.1.below (HB2.out.trans (HB.out.mono HB2.out.size))) hl1 k hlt
      have hlk : k < l1.length := by omega
      have hck := H1.out.2.2.1 _ (List.getElem_mem hlk)
      have hsa := HS1.out _ (List.getElem_mem hlk)
      obtain ⟨d, hd⟩ : ∃ d, d = l1[k] := ⟨_, rfl⟩
      rw [← hd] at hcell hck hsa
      clear hd
      have hba := (Below.refl wr.heap.size wr).alloc (Nat.le_refl _) (.cells #[.int .i64 d.k, .int .i64 d.n, S d.nm, S d.to, S d.tx] 49)
      have i0 : Bo true w2 g h rm k k st st wr.heap.size d (wr.alloc (.cells #[.int .i64 d.k, .int .i64 d.n, S d.nm, S d.to, S d.tx] 49)) :=
        ⟨⟨b, N, n', c', A', HD.out.below hba, hN⟩, ⟨bm, Nm, nm, cm, Am, ac', ⟨HM.out.1.below hba, HM.out.2⟩, hNm, fun _ e => by have := (own_base' HM.out.1.own e).2; omega⟩, Blk.new _ _ _, HB.out.trans (hba.mono HB.out.size)⟩
      have HPL := hide (play_both i0 hck (by have := hsa.1; omega) HF.out.2 HT.out (by omega) hrm2 (by omega))
      have HDO : Hid (∀ w', Bo true w2 g h rm (k + 1) k (st.nxt ((rm : Int) - tot) d) st wr.heap.size d w' → Calls Try.prog 26 #[.pointer (some ⟨h, 0, none⟩), d.val] w' (fun e w'' => e = .returned (.int .i64 (st.err ((rm : Int) - tot) d : Nat)) ∧ Bo false w2 g h rm (k + 1) (k + 1) (st.nxt ((rm : Int) - tot) d) (st.nxt ((rm : Int) - tot) d) wr.heap.size d w'')) :=
        hide (fun w' i => do_both i hck (by have := hsa.1; omega) HF.out HT.out (by omega) hrm2 (by omega))
      obtain ⟨tf', ht1, ht2, ht3⟩ := nxt_inv HTF.out htf HSC.out ((rm : Int) - tot) d hsa.1
      have hf2 := nxt_fall HF.out ((rm : Int) - tot) d hck
      obtain ⟨E, hE⟩ : ∃ E, E = st.err ((rm : Int) - tot) d := ⟨_, rfl⟩
      obtain ⟨T, hT⟩ : ∃ T, T = st.nxt ((rm : Int) - tot) d := ⟨_, rfl⟩
      rw [← hE, ← hT] at HPL HDO
      rw [← hT] at ht1 ht2 ht3 hf2
      clear hE hT
      have HT' := hide ht1
      have HT3 := hide ht3
      have HF' := hide hf2
      obtain ⟨s0, s1, s2, s3, s4⟩ := i0.cells
      obtain ⟨dk, dn', dm, dt, dx⟩ := d
      have q0 : wr.cell? ⟨xx, o + k * 5, none⟩ = some (.int .i64 dk) := hcell 0 _ rfl
      have q1 : wr.cell? ⟨xx, o + k * 5 + 1, none⟩ = some (.int .i64 dn') := hcell 1 _ rfl
      have q2 : wr.cell? ⟨xx, o + k * 5 + 2, none⟩ = some (S dm) := hcell 2 _ rfl
      have q3 : wr.cell? ⟨xx, o + k * 5 + 3, none⟩ = some (S dt) := hcell 3 _ rfl
      have q4 : wr.cell? ⟨xx, o + k * 5 + 4, none⟩ = some (S dx) := hcell 4 _ rfl
      clear hcell hck hsa ht1 ht3 hf2 HD HM HT HF HTF HSC i0 hba
      go_wp2_with fail
      refine HPL.out.mono ?_
      rintro e w5 ⟨rfl, i5⟩
      obtain ⟨s0, s1, s2, s3, s4⟩ := i5.cells
      have HI5 := hide i5
      clear i5 HPL
      go_wp2_with fail
      refine (HDO.out w5 HI5.out).mono ?_
      rintro e w6 ⟨rfl, i6⟩
      have HI6 := hide i6
      clear i6 HDO HI5 s0 s1 s2 s3 s4
      go_wp2_with fail
      go_roundw
      case rel =>
        obtain ⟨⟨b7, N7, n7, c7, A7, hd9, hn9⟩, ⟨bm7, Nm7, nm7, cm7, Am7, ac7, hm9, hnm9, _⟩, _, hbb9⟩ := HI6.out
        exact ⟨k + 1, b7, N7, n7, c7, A7, bm7, Nm7, nm7, cm7, Am7, ac7, T, tf', by omega, by go_num, hd9, hn9, hm9, hnm9, HT'.out, by omega, HT3.out, HF'.out, hbb9⟩
      case measure => simp [intOf]; omega
    · obtain rfl : k = n1 := by omega
      have HCL := hide (clone_dk w2.heap.size g b N n' c' A' st.cs rm st.fall st.dn st.F wr HD.out (by omega))
      go_wp2_with fail
      refine HCL.out.mono ?_
      rintro e w5 ⟨g2, b2, cc, AA, rfl, h5, hb5⟩
      have hlk : ∀ q, (Value.slice AA n' cc).ownBlock = some q → (Value.slice A' n' c').ownBlock ≠ some q := fun q hq e => by
        have h1 := (own_base' h5.own hq).1
        have h2 := (own_base' HD.out.own e).2
        omega
      have hne : g ≠ g2 := by have := HD.out.blk.lt; have := h5.gB; omega
      have HLK := hide hlk
      have HNE := hide hne
      have HC5 := hide (h5.weakB HB.out.size)
      have HD5 := hide (HD.out.below hb5)
      have HM5 : Hid (MdS w5 w2.heap.size h bm Nm nm cm Am ac' rm st) := hide ⟨HM.out.1.below hb5, HM.out.2⟩
      have HB5 := hide (HB.out.trans (hb5.mono HB.out.size))
      clear h5 hb5 hlk hne HCL HD HM HB hlt
      go_wp2_with fail
      obtain ⟨wo, rfl⟩ : ∃ wo : World, wo = wr := ⟨_, rfl⟩
      go_loopw [50] (fun i wr => ∃ (j b N3 n3 c3 : Nat) (A3 : Option Addr) (bm Nm nm cm : Nat) (Am : Option Addr) (ac' : List Ac) (sd : St) (tf : Nat), j ≤ n2 ∧ i = .int .i64 j ∧ Dk wr w2.heap.size g b N3 n3 c3 A3 sd.cs rm sd.fall sd.dn sd.F ∧ N3 + n3 ≤ k + j ∧
        (∀ q, (Value.slice AA n' cc).ownBlock = some q → (Value.slice A3 n3 c3).ownBlock ≠ some q) ∧ MdS wr w2.heap.size h bm Nm nm cm Am ac' rm st ∧ Nm + nm ≤ k ∧ Tot sd.F tf ∧ tf + 100 * sd.cs.length ≤ 100 * k + 100 * j ∧ (∀ c ∈ sd.cs, smallC c) ∧
        (-1 ≤ sd.fall ∧ sd.fall ≤ 9223372036854775807) ∧ Below w2.heap.size w2 wr ∧ RunP rm st (l2.take j) sd ∧ Dk wr w2.heap.size g2 b2 N n' cc AA st.cs rm st.fall st.dn st.F) (fun i _ => n2 - (intOf i).toNat)
      case atStart => exact ⟨0, b, N, n', c', A', bm, Nm, nm, cm, Am, ac', st, tf, Nat.zero_le _, rfl, HD5.out, by omega, HLK.out, HM5.out, by omega, HTF.out, by omega, HSC.out, HF.out, HB5.out, rfl, HC5.out⟩
      case round =>
        clear HD5 HM5 HLK HC5 HB5
        obtain ⟨j, b, N3, n3, c3, A3, bm, Nm, nm, cm, Am, ac', sd, tf2, hj, rfl, hd, hN3, hlk, hm, hNm2, hTF2, htf2, hsc2, hfl2, hBr, hrun, hc⟩ := hrel
        have HD := hide hd
        have HLK := hide hlk
        have HM := hide hm
        have HTF2 := hide hTF2
        have HSC2 := hide hsc2
        have HF2 := hide hfl2
        have HB := hide hBr
        have HRU := hide hrun
        have HC := hide hc
        clear hd hlk hm hTF2 hsc2 hfl2 hBr hrun hc
        obtain ⟨tot2, hT2, htot2⟩ := fold_tot sd.cs HTF2.out HSC2.out
        have hT2 : Tot sd.R tot2 := hT2
        have HT2 := hide hT2
        clear hT2
        by_cases hlt : j < n2
        · obtain ⟨xx, o, rfl, _, _, hcell⟩ := Rd.rec_ (size := 5) (fun _ => rfl) (H2.out.1.below (HB2.out.trans (HB.out.mono HB2.out.size))) hl2 j hlt
          have hlk2 : j < l2.length := by omega
          have hck := H2.out.2.2.1 _ (List.getElem_mem hlk2)
          have hsa := HS2.out _ (List.getElem_mem hlk2)
          have hru2 : RunP rm st (l2.take (j + 1)) (sd.nxt ((rm : Int) - tot2) l2[j]) := by rw [takeS hlk2]; exact HRU.out.snoc _ _ HT2.out
          obtain ⟨d, hd⟩ : ∃ d, d = l2[j] := ⟨_, rfl⟩
          rw [← hd] at hcell hck hsa hru2
          clear hd
          have hba := (Below.refl wr.heap.size wr).alloc (Nat.le_refl _) (.cells #[.int .i64 d.k, .int .i64 d.n, S d.nm, S d.to, S d.tx] 49)
          have i0 : Bv true w2 g h g2 rm (k + j) k sd st wr.heap.size d b2 N n' cc AA st (wr.alloc (.cells #[.int .i64 d.k, .int .i64 d.n, S d.nm, S d.to, S d.tx] 49)) :=
            ⟨⟨b, N3, n3, c3, A3, HD.out.below hba, hN3, HLK.out⟩, ⟨bm, Nm, nm, cm, Am, ac', ⟨HM.out.1.below hba, HM.out.2⟩, hNm2, fun _ e => by have := (own_base' HM.out.1.own e).2; omega⟩, Blk.new _ _ _, HB.out.trans (hba.mono HB.out.size), HC.out.below hba, HNE.out.symm⟩
          have HPL := hide (play_v i0 hck (by have := hsa.1; omega) HF2.out.2 HT2.out (by omega) hrm2 (by omega))
          obtain ⟨tf', ht1, ht2, ht3⟩ := nxt_inv HTF2.out htf2 HSC2.out ((rm : Int) - tot2) d hsa.1
          have hf2 := nxt_fall HF2.out ((rm : Int) - tot2) d hck
          obtain ⟨E, hE⟩ : ∃ E, E = sd.err ((rm : Int) - tot2) d := ⟨_, rfl⟩
          obtain ⟨T, hT⟩ : ∃ T, T = sd.nxt ((rm : Int) - tot2) d := ⟨_, rfl⟩
          rw [← hE, ← hT] at HPL
          rw [← hT] at ht1 ht2 ht3 hf2 hru2
          clear hE hT
          have HT' := hide ht1
          have HT3 := hide ht3
          have HF' := hide hf2
          have HRU2 := hide hru2
          obtain ⟨s0, s1, s2, s3, s4⟩ := i0.cells
          obtain ⟨dk, dn', dm, dt, dx⟩ := d
          have q0 : wr.cell? ⟨xx, o + j * 5, none⟩ = some (.int .i64 dk) := hcell 0 _ rfl
          have q1 : wr.cell? ⟨xx, o + j * 5 + 1, none⟩ = some (.int .i64 dn') := hcell 1 _ rfl
          have q2 : wr.cell? ⟨xx, o + j * 5 + 2, none⟩ = some (S dm) := hcell 2 _ rfl
          have q3 : wr.cell? ⟨xx, o + j * 5 + 3, none⟩ = some (S dt) := hcell 3 _ rfl
          have q4 : wr.cell? ⟨xx, o + j * 5 + 4, none⟩ = some (S dx) := hcell 4 _ rfl
          clear hcell hck hsa ht1 ht3 hf2 hru2 HD HM HT2 HF2 HTF2 HSC2 i0 hba HLK HC HRU
          go_wp2_with fail
          refine HPL.out.mono ?_
          rintro e w6 ⟨rfl, i6⟩
          have HI6 := hide i6
          clear i6 HPL s0 s1 s2 s3 s4
          go_wp2_with fail
          go_roundw
          case rel =>
            obtain ⟨⟨b7, N7, n7, c7, A7, hd9, hn9, hlk9⟩, ⟨bm7, Nm7, nm7, cm7, Am7, ac7, hm9, hnm9, _⟩, _, hbb9, hcc9, _⟩ := HI6.out
            exact ⟨j + 1, b7, N7, n7, c7, A7, bm7, Nm7, nm7, cm7, Am7, ac7, T, tf', by omega, by go_num, hd9, by omega, hlk9, hm9, hnm9, HT'.out, by omega, HT3.out, HF'.out, hbb9, HRU2.out, hcc9⟩
          case measure => simp [intOf]; omega
        · obtain rfl : j = n2 := by omega
          have hru3 := HRU.out
          rw [List.take_of_length_le (by omega)] at hru3
          have HRUD := hide hru3
          have hRm : ac'.foldl actDo st.F = st.R := by rw [fold_eq ac' _ HM.out.2.2, HM.out.2.1]; rfl
          have HSM := hide (same_any w2.heap.size g2 b2 N n' cc AA st.cs w2.heap.size h bm Nm nm cm Am ac' rm st.fall st.fall st.dn st.F st.F st.R tot wr HC.out HM.out.1 rfl hRm (by omega) (by omega) (by omega) (by omega) HT.out (by omega) hrm2)
          clear hru3 hRm hlt
          go_wp2_with fail
          refine HSM.out.mono ?_
          rintro e w6 ⟨rfl, hb6⟩
          have HD6 := hide (HD.out.below hb6)
          have HC6 := hide (HC.out.below hb6)
          have HM6 : Hid (MdS w6 w2.heap.size h bm Nm nm cm Am ac' rm st) := hide ⟨HM.out.1.below hb6, HM.out.2⟩
          have HB6 := hide (HB.out.trans (hb6.mono HB.out.size))
          have HLK6 := hide (fun q hq e => HLK.out q e hq : ∀ q, (Value.slice A3 n3 c3).ownBlock = some q → (Value.slice AA n' cc).ownBlock ≠ some q)
          clear hb6 HSM HD HC HM HB HLK HRU
          go_wp2_with fail
          obtain ⟨b0, rfl⟩ : ∃ b0 : Nat, b0 = b := ⟨_, rfl⟩
          obtain ⟨wp, rfl⟩ : ∃ wp : World, wp = wr := ⟨_, rfl⟩
          go_loopw [64] (fun i wr => ∃ (q b N5 n5 c5 : Nat) (A5 : Option Addr) (bm Nm nm cm : Nat) (Am : Option Addr) (ac' : List Ac) (s3 : St) (tf : Nat), q ≤ j ∧ i = .int .i64 q ∧ Dk wr w2.heap.size g2 b N5 n5 c5 A5 s3.cs rm s3.fall s3.dn s3.F ∧ N5 + n5 ≤ k + q ∧
            (∀ r, (Value.slice A3 n3 c3).ownBlock = some r → (Value.slice A5 n5 c5).ownBlock ≠ some r) ∧ MdS wr w2.heap.size h bm Nm nm cm Am ac' rm s3 ∧ Nm + nm ≤ k + q ∧ Tot s3.F tf ∧ tf + 100 * s3.cs.length ≤ 100 * k + 100 * q ∧ (∀ c ∈ s3.cs, smallC c) ∧
            (-1 ≤ s3.fall ∧ s3.fall ≤ 9223372036854775807) ∧ Below w2.heap.size w2 wr ∧ RunP rm st (l2.take q) s3 ∧ Dk wr w2.heap.size g b0 N3 n3 c3 A3 sd.cs rm sd.fall sd.dn sd.F) (fun i _ => j - (intOf i).toNat)
          case atStart => exact ⟨0, b2, N, n', cc, AA, bm, Nm, nm, cm, Am, ac', st, tf, Nat.zero_le _, rfl, HC6.out, by omega, HLK6.out, HM6.out, by omega, HTF.out, by omega, HSC.out, HF.out, HB6.out, rfl, HD6.out⟩
          case round =>
            clear HD6 HM6 HLK6 HC6 HB6
            obtain ⟨q, b5, N5, n5, c5, A5, bm, Nm, nm, cm, Am, ac', s3, tf3, hq, rfl, hc, hN5, hlk, hm, hNm3, hTF3, htf3, hsc3, hfl3, hBr, hrun, hd⟩ := hrel
            have HC := hide hc
            have HLK := hide hlk
            have HM := hide hm
            have HTF3 := hide hTF3
            have HSC3 := hide hsc3
            have HF3 := hide hfl3
            have HB := hide hBr
            have HRU := hide hrun
            have HD := hide hd
            clear hd hlk hm hTF3 hsc3 hfl3 hBr hrun hc
            obtain ⟨tot3, hT3, htot3⟩ := fold_tot s3.cs HTF3.out HSC3.out
            have hT3 : Tot s3.R tot3 := hT3
            have HT3' := hide hT3
            clear hT3
            by_cases hlt : q < j
            · obtain ⟨xx, o, rfl, _, _, hcell⟩ := Rd.rec_ (size := 5) (fun _ => rfl) (H2.out.1.below (HB2.out.trans (HB.out.mono HB2.out.size))) hl2 q hlt
              have hlk2 : q < l2.length := by omega
              have hck := H2.out.2.2.1 _ (List.getElem_mem hlk2)
              have hsa := HS2.out _ (List.getElem_mem hlk2)
              have hru2 : RunP rm st (l2.take (q + 1)) (s3.nxt ((rm : Int) - tot3) l2[q]) := by rw [takeS hlk2]; exact HRU.out.snoc _ _ HT3'.out
              obtain ⟨d, hd⟩ : ∃ d, d = l2[q] := ⟨_, rfl⟩
              rw [← hd] at hcell hck hsa hru2
              clear hd
              have hba := (Below.refl wr.heap.size wr).alloc (Nat.le_refl _) (.cells #[.int .i64 d.k, .int .i64 d.n, S d.nm, S d.to, S d.tx] 49)
              have i0 : Bv true w2 g2 h g rm (k + q) (k + q) s3 s3 wr.heap.size d b0 N3 n3 c3 A3 sd (wr.alloc (.cells #[.int .i64 d.k, .int .i64 d.n, S d.nm, S d.to, S d.tx] 49)) :=
                ⟨⟨b5, N5, n5, c5, A5, HC.out.below hba, hN5, HLK.out⟩, ⟨bm, Nm, nm, cm, Am, ac', ⟨HM.out.1.below hba, HM.out.2⟩, hNm3, fun _ e => by have := (own_base' HM.out.1.own e).2; omega⟩, Blk.new _ _ _, HB.out.trans (hba.mono HB.out.size), HD.out.below hba, HNE.out⟩
              have HPL : Hid (∀ w', Bv true w2 g2 h g rm (k + q) (k + q) s3 s3 wr.heap.size d b0 N3 n3 c3 A3 sd w' → Calls Try.prog 25 #[.pointer (some ⟨g2, 0, none⟩), d.val] w' (fun e w'' => e = .returned (.int .i64 (s3.err ((rm : Int) - tot3) d : Nat)) ∧ Bv true w2 g2 h g rm (k + q + 1) (k + q) (s3.nxt ((rm : Int) - tot3) d) s3 wr.heap.size d b0 N3 n3 c3 A3 sd w'')) :=
                hide (fun w' i => play_v i hck (by have := hsa.1; omega) HF3.out.2 HT3'.out (by omega) hrm2 (by omega))
              have HDO : Hid (∀ w', Bv true w2 g2 h g rm (k + q + 1) (k + q) (s3.nxt ((rm : Int) - tot3) d) s3 wr.heap.size d b0 N3 n3 c3 A3 sd w' → Calls Try.prog 26 #[.pointer (some ⟨h, 0, none⟩), d.val] w' (fun e w'' => e = .returned (.int .i64 (s3.err ((rm : Int) - tot3) d : Nat)) ∧ Bv false w2 g2 h g rm (k + q + 1) (k + q + 1) (s3.nxt ((rm : Int) - tot3) d) (s3.nxt ((rm : Int) - tot3) d) wr.heap.size d b0 N3 n3 c3 A3 sd w'')) :=
                hide (fun w' i => do_v i hck (by have := hsa.1; omega) HF3.out HT3'.out (by omega) hrm2 (by omega))
              obtain ⟨tf', ht1, ht2, ht3⟩ := nxt_inv HTF3.out htf3 HSC3.out ((rm : Int) - tot3) d hsa.1
              have hf2 := nxt_fall HF3.out ((rm : Int) - tot3) d hck
              obtain ⟨E, hE⟩ : ∃ E, E = s3.err ((rm : Int) - tot3) d := ⟨_, rfl⟩
              obtain ⟨T, hT⟩ : ∃ T, T = s3.nxt ((rm : Int) - tot3) d := ⟨_, rfl⟩
              rw [← hE, ← hT] at HPL HDO
              rw [← hT] at ht1 ht2 ht3 hf2 hru2
              clear hE hT
              have HT' := hide ht1
              have HT3 := hide ht3
              have HF' := hide hf2
              have HRU2 := hide hru2
              have HI0 := hide i0
              have hcel := i0.cells
              obtain ⟨dk, dn', dm, dt, dx⟩ := d
              have q0 : wr.cell? ⟨xx, o + q * 5, none⟩ = some (.int .i64 dk) := hcell 0 _ rfl
              have q1 : wr.cell? ⟨xx, o + q * 5 + 1, none⟩ = some (.int .i64 dn') := hcell 1 _ rfl
              have q2 : wr.cell? ⟨xx, o + q * 5 + 2, none⟩ = some (S dm) := hcell 2 _ rfl
              have q3 : wr.cell? ⟨xx, o + q * 5 + 3, none⟩ = some (S dt) := hcell 3 _ rfl
              have q4 : wr.cell? ⟨xx, o + q * 5 + 4, none⟩ = some (S dx) := hcell 4 _ rfl
              clear hcell hck hsa ht1 ht3 hf2 hru2 HD HM HT3' HF3 HTF3 HSC3 i0 hba HLK HC HRU
              obtain ⟨wA, hwA⟩ : ∃ wA, wA = wr.alloc (.cells #[.int .i64 dk, .int .i64 dn', S dm, S dt, S dx] 49) := ⟨_, rfl⟩
              rw [← hwA] at hcel HI0
              have i4 := HI0.out.drew
              go_wp2_with fail
              rw [← hwA]
              clear hwA
              first | (go_region_held3 (fun w' => w'.cell? ⟨wr.heap.size, 0, none⟩ = some (.int .i64 dk) ∧ w'.cell? ⟨wr.heap.size, 1, none⟩ = some (.int .i64 dn') ∧ w'.cell? ⟨wr.heap.size, 2, none⟩ = some (S dm) ∧ w'.cell? ⟨wr.heap.size, 3, none⟩ = some (S dt) ∧ w'.cell? ⟨wr.heap.size, 4, none⟩ = some (S dx))
                (first | exact hcel | assumption | exact i5.cells | exact i6.cells | fail)
                (first
                  | (go_at_call 25; (with_reducible refine (HPL.out _ i4).mono ?_); rintro e w5 ⟨rfl, i5⟩)
                  | (go_at_call 26; (with_reducible refine (HDO.out _ i5).mono ?_); rintro e w6 ⟨rfl, i6⟩)
                  | fail)) | fail
              have HI6 := hide i6
              clear i4 i5 i6 HPL HDO HI0 hcel q0 q1 q2 q3 q4
              go_wp2_with fail
              go_roundw
              case rel =>
                obtain ⟨⟨b7, N7, n7, c7, A7, hd9, hn9, hlk9⟩, ⟨bm7, Nm7, nm7, cm7, Am7, ac7, hm9, hnm9, _⟩, _, hbb9, hcc9, _⟩ := HI6.out
                exact ⟨q + 1, b7, N7, n7, c7, A7, bm7, Nm7, nm7, cm7, Am7, ac7, T, tf', by omega, by go_num, hd9, by omega, hlk9, hm9, by omega, HT'.out, by omega, HT3.out, HF'.out, hbb9, HRU2.out, hcc9⟩
              case measure => simp [intOf]; omega
            · obtain rfl : q = j := by omega
              have hru4 := HRU.out
              rw [List.take_of_length_le (by omega)] at hru4
              have hsd : sd = s3 := RunP.uniq l2 HRUD.out hru4
              subst hsd
              have hRm : ac'.foldl actDo sd.F = sd.R := by rw [fold_eq ac' _ HM.out.2.2, HM.out.2.1]; rfl
              have HRM := hide hRm
              clear hru4 hRm hlt HRUD HRU
              go_wp2_with fail
              refine (read_nil [102] wr).mono ?_
              rintro e w7 ⟨rfl, hw7⟩
              subst hw7
              go_wp2_with fail
              refine (fall_nil 3 w7).mono ?_
              rintro e w7' ⟨rfl, hw7⟩
              subst hw7
              go_wp2_with fail
              refine (same_any w2.heap.size g2 b5 N5 n5 c5 A5 sd.cs w2.heap.size h bm Nm nm cm Am ac' rm sd.fall sd.fall sd.dn sd.F sd.F sd.R tot3 w7' HC.out HM.out.1 rfl HRM.out (by omega) (by omega) (by omega) (by omega) HT3'.out (by omega) hrm2).mono ?_
              rintro e w8 ⟨rfl, hb8⟩
              have HD8 := hide (HD.out.below hb8)
              have HM8 := hide (HM.out.1.below hb8)
              have HB8 := hide (HB.out.trans (hb8.mono HB.out.size))
              clear hb8 HD HM HB HC
              go_wp2_with fail
              refine (same_any w2.heap.size g b0 N3 n3 c3 A3 sd.cs w2.heap.size h bm Nm nm cm Am ac' rm sd.fall sd.fall sd.dn sd.F sd.F sd.R tot3 w8 HD8.out HM8.out rfl HRM.out (by omega) (by omega) (by omega) (by omega) HT3'.out (by omega) hrm2).mono ?_
              rintro e w9 ⟨rfl, hb9⟩
              have HB9 := hide (HB2.out.trans ((HB8.out.trans (hb9.mono HB8.out.size)).mono HB2.out.size))
              clear hb9 HD8 HM8 HB8
              go_wp2_with fail
              refine (write_nil [102] [] w9).mono ?_
              rintro e w10 ⟨rfl, hw10⟩
              subst hw10
              go_wp2_with fail
              refine (sync_nil w10).mono ?_
              rintro e w11 ⟨rfl, hw11⟩
              subst hw11
              go_wp2_with fail
              refine (down_nil w11).mono ?_
              rintro e w12 ⟨rfl, hw12⟩
              subst hw12
              go_wp2_with fail
              refine (room_nil w12).mono ?_
              rintro e w13 ⟨rfl, hw13⟩
              subst hw13
              go_wp2_with fail
              refine (clone_nil w13).mono ?_
              rintro e w14 ⟨rfl, hw14⟩
              subst hw14
              have hba := (Below.refl w14.heap.size w14).alloc (Nat.le_refl _) (.cells #[.bool true] 4)
              have HBA := hide hba
              clear hba
              go_wp2_with fail
              refine (crash_nil _ _).mono ?_
              rintro e w15 ⟨g15, b15, rfl, h15, hb15⟩
              have hs15 := HBA.out.trans (hb15.mono HBA.out.size)
              have HB15 := hide (HB9.out.trans (hs15.mono HB9.out.size))
              have HRO := hide (room_any g15 b15 0 0 0 [] none 4194304 (-1) false F0 F0 0 w15 h15.blk h15.txt h15.rd h15.len (by omega) (by omega) h15.ok rfl Tot.none (by omega) (by omega))
              clear h15 hb15 hs15 HBA HB9
              go_wp2_with fail
              refine HRO.out.mono ?_
              rintro e w16 ⟨rfl, hb16⟩
              have HB16 := hide (HB15.out.trans (hb16.mono HB15.out.size))
              clear hb16 HRO HB15
              rw [show (((4194304 : Nat) : Int) - ((0 : Nat) : Int)) = 4194304 by omega]
              go_wp2_with fail
              refine (names_nil w16).mono ?_
              rintro e w17 ⟨rfl, hw17⟩
              subst hw17
              go_wp2_with fail
              go_ret
              exact ⟨rfl, HB16.out⟩
end Go.Proofs.Ytkgljicibjlabaa
