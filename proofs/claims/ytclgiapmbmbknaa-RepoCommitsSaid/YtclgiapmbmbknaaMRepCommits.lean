/- RepoCommits, walked; no statement of the seat is proved here. (Written by gen/repcommits.py.) -/
import Derived.Test.YtclgiapmbmbknaaMRepCommitL
import Derived.Deep.DeepCutAuto
namespace Go.Proofs.Ytclgiapmbmbknaa
open Go.RowKit Go.Maps
set_option linter.unusedVariables false
set_option linter.unusedSimpArgs false

set_option maxRecDepth 100000 in
set_option maxHeartbeats 8000000 in
theorem commits_walk (w : World) (A0 : Option Addr) (n0 c0 : Nat) (X : List Stp) (r0 : Rd w (fun b => w.heap.size ≤ b) 5 A0 n0 (X.flatMap Stp.cells)) (hX : X.length = n0) (m0 : n0 ≤ 9223372036854775807) (hS : ∀ x ∈ X, x.at_ w (fun b => w.heap.size ≤ b)) (room : Int) :
    Calls Try.prog 5 #[.slice A0 n0 c0, .int .i64 room] w (Gives w (.bool true)) := by
  have HR0 := hide r0
  have HXL := hide hX
  have HSS := hide hS
  have HH := hide (head_any w)
  clear r0 hX hS
  go_enter Try.func5, Try.ntmps5
  go_upto_region 3 with (go_at_call 6; refine HH.out.mono ?_; rintro e w1 ⟨rfl, hb1⟩; have HB1 := hide hb1; clear hb1)
  by_cases h0 : n0 ≤ 10
  case neg =>
    go_wp2_with fail
    go_ret
    exact ⟨rfl, HB1.out⟩
  case pos =>
    obtain ⟨N, hN, hNb⟩ := i64_low' 11 2047 (by omega) rfl room
    replace hNb : bits .and .i64 room 2047 = (N : Int) := hNb
    have HNW := hide (new_ds N (by omega) w1)
    go_upto_region 6 with (go_at_call 7; refine HNW.out.mono ?_; rintro e w2 ⟨g, rfl, hd2, hb2⟩; have HD2 := hide hd2; have HB2 := hide (HB1.out.trans (hb2.mono HB1.out.size)); clear hd2 hb2)
    have HWB : Hid (w.heap.size ≤ w1.heap.size) := hide HB1.out.size
    obtain ⟨B, hB⟩ : ∃ B, B = w1.heap.size := ⟨_, rfl⟩
    rw [← hB] at HD2 HWB
    clear hB HNW HB1 hNb
    go_upto_region 7 with fail
    obtain ⟨w3, hw3⟩ : ∃ x, x = w2.alloc (.cells #[] 44) := ⟨_, rfl⟩
    obtain ⟨ql, hql⟩ : ∃ q, q = w2.heap.size := ⟨_, rfl⟩
    have HB23 : Hid (Below w2.heap.size w2 w3) := hide (by rw [hw3]; exact (Below.refl _ w2).alloc (Nat.le_refl _) _)
    have HL3 : Hid (LiX w3 w.heap.size [] (some ⟨ql, 0, none⟩) 0 0) := hide (by
      rw [hw3, hql]
      exact ⟨[], rfl, rfl, World.ownsRow_made w2 #[] 0 (base := w.heap.size) (e := 44) (size := 66) HB2.out.size (by decide) rfl, (fun e he => by cases he), rfl⟩)
    have HC3 : Hid (Calm w3 B g N 0 [] ⟨fun _ => none, [], -1, false⟩ ∧ w.heap.size ≤ B) := hide ⟨⟨HD2.out.below HB23.out, OkX.nil, rfl, rfl, Exact.none, by show (-1 : Int) < 0; omega⟩, HWB.out⟩
    have HB3 : Hid (Below w.heap.size w w3) := hide (HB2.out.trans (HB23.out.mono HB2.out.size))
    rw [← hw3, ← hql]
    clear hw3 hql HB23 HD2 HB2 HWB
    go_wp2_with fail
    go_loopw [5, 6, 30] (fun v5 v6 v30 wr => ∃ (t : Nat) (O : List (Nat × Nat)) (s : Ds) (g B : Nat) (AL : Option Addr) (nL cL : Nat), t ≤ n0 ∧ v5 = .pointer (some ⟨g, 0, none⟩) ∧ v6 = .slice AL nL cL ∧ v30 = .int .i64 t ∧ Hid (Calm wr B g N (400 * t) O s ∧ w.heap.size ≤ B) ∧ Hid (LiX wr w.heap.size O AL nL cL) ∧ Hid (Below w.heap.size w wr)) (fun _ _ u _ => n0 - (intOf u).toNat)
    case atStart => exact ⟨0, [], _, g, B, _, 0, 0, Nat.zero_le _, rfl, rfl, rfl, HC3, HL3, HB3⟩
    case round =>
      clear HC3 HL3 HB3
      obtain ⟨t, O, s, g, B, AL, nL, cL, ht, rfl, rfl, rfl, HC, HL, HB⟩ := hrel
      by_cases hlt : t < n0
      case neg =>
        obtain rfl : t = n0 := by omega
        go_wp2_with fail
        go_ret
        exact ⟨rfl, HB.out⟩
      case pos =>
        obtain ⟨x, o, rfl, _, _, hcs⟩ := Rd.rec_ (f := Stp.cells) (size := 5) (fun _ => rfl) (HR0.out.below HB.out) HXL.out t hlt
        have hxm : X[t]'(by rw [HXL.out]; exact hlt) ∈ X := List.getElem_mem _
        have hst := HSS.out _ hxm
        generalize X[t]'(by rw [HXL.out]; exact hlt) = sp at hcs hst
        obtain ⟨nA, nk, nc, ns, seed, fall, kA, kk, kc, ks, again⟩ := sp
        have q0 := hcs 0 (.slice nA nk nc) rfl
        have q1 := hcs 1 (.int .i64 seed) rfl
        have q2 := hcs 2 (.int .i64 fall) rfl
        have q3 := hcs 3 (.slice kA kk kc) rfl
        have q4 := hcs 4 (.int .i64 again) rfl
        rw [Nat.add_zero] at q0
        have HNR : Hid (Rd w (fun b => w.heap.size ≤ b) 1 nA nk (ns.map (Value.int .i64)) ∧ Rd w (fun b => w.heap.size ≤ b) 1 kA kk (ks.map Value.bool) ∧ ks.length = kk) := hide ⟨hst.nr, hst.kr, hst.kl⟩
        clear hcs hst hxm
        go_upto_region 10 with fail
        obtain ⟨w5, hw5⟩ : ∃ x, x = wr.alloc (.cells #[.slice nA nk nc, .int .i64 seed, .int .i64 fall, .slice kA kk kc, .int .i64 again] 56) := ⟨_, rfl⟩
        obtain ⟨qs, hqs⟩ : ∃ q, q = wr.heap.size := ⟨_, rfl⟩
        have HB45 : Hid (Below wr.heap.size wr w5) := hide (by rw [hw5]; exact (Below.refl _ wr).alloc (Nat.le_refl _) _)
        have HQS5 : Hid (Blk w5 qs 56 #[.slice nA nk nc, .int .i64 seed, .int .i64 fall, .slice kA kk kc, .int .i64 again]) := hide (by rw [hw5, hqs]; exact Blk.new _ _ _)
        rw [← hw5, ← hqs]
        clear hw5 hqs q0 q1 q2 q3 q4
        have HC5 : Hid (Calm w5 B g N (400 * t) O s ∧ w.heap.size ≤ B) := hide ⟨HC.out.1.below HB45.out, HC.out.2⟩
        have HL5 := hide (HL.out.onb HB45.out)
        have HB5 : Hid (Below w.heap.size w w5) := hide (HB.out.trans (HB45.out.mono HB.out.size))
        clear HC HL HB HB45
        have p0 : w5.cell? ⟨qs, 0, none⟩ = some (.slice nA nk nc) := HQS5.out.cell 0
        have p1 : w5.cell? ⟨qs, 1, none⟩ = some (.int .i64 seed) := HQS5.out.cell 1
        have p3 : w5.cell? ⟨qs, 3, none⟩ = some (.slice kA kk kc) := HQS5.out.cell 3
        by_cases hn20 : nk ≤ 20
        case neg =>
          go_wp2_with fail
          go_ret
          exact ⟨rfl, HB5.out⟩
        case pos =>
          by_cases hk40 : kk ≤ 40
          case neg =>
            go_wp2_with fail
            go_ret
            exact ⟨rfl, HB5.out⟩
          case pos =>
            have HMD := hide (made_any w5 nA nk nc ns ((HNR.out.1.below HB5.out).weak (fun b h1 h2 => by omega)) hn20 seed)
            obtain ⟨P, hP⟩ : ∃ P, P = madeX ns seed := ⟨_, rfl⟩
            have HPO : Hid (OkX P) := hide (by rw [hP]; exact madeX_ok ns seed)
            rw [← hP] at HMD
            clear hP
            go_upto_region 13 with (go_at_call 8; refine HMD.out.mono ?_; rintro e w6 ⟨A5, c5, L5, A6, n6, c6, rfl, hpl5, hli5, hn6, hf6, hb5⟩; have HLl := hide (LiX.mk_ hpl5 hli5); have HN6 := hide hn6; have HFO := hide hf6; have HB56 := hide hb5; clear hpl5 hli5 hn6 hf6 hb5)
            obtain ⟨nl, hnl⟩ : ∃ n, n = L5.length := ⟨_, rfl⟩
            rw [← hnl] at HLl ⊢
            clear hnl
            obtain ⟨qr, hqr⟩ : ∃ q, q = w6.heap.size := ⟨_, rfl⟩
            have HQW : Hid (w.heap.size ≤ qr) := hide (by rw [hqr]; exact Nat.le_trans HB5.out.size HB56.out.size)
            go_upto_region 14 with fail
            obtain ⟨w7, hw7⟩ : ∃ x, x = w6.alloc (.cells #[.pointer (some ⟨g, 0, none⟩)] 34) := ⟨_, rfl⟩
            have HB67 : Hid (Below w6.heap.size w6 w7) := hide (by rw [hw7]; exact (Below.refl _ w6).alloc (Nat.le_refl _) _)
            have HQR7 : Hid (Blk w7 qr 34 #[.pointer (some ⟨g, 0, none⟩)]) := hide (by rw [hw7, hqr]; exact Blk.new _ _ _)
            rw [← hw7, ← hqr]
            clear hw7 hqr p0 p1 p3 HMD
            have HB57 : Hid (Below w5.heap.size w5 w7) := hide (HB56.out.trans (HB67.out.mono HB56.out.size))
            have HC7 : Hid (Calm w7 B g N (400 * t) O s ∧ w.heap.size ≤ B) := hide ⟨HC5.out.1.below HB57.out, HC5.out.2⟩
            have HL7 := hide (HL5.out.onb HB57.out)
            have HLl7 : Hid (LiX w7 w.heap.size P A5 nl c5) := hide ((HLl.out.onb HB67.out).base HB5.out.size)
            have HFO7 := hide (own_keep (F := fun _ => False) HFO.out (Keep.of_below HB67.out (fun k h1 h2 => by omega)) (fun _ _ h => h))
            have HQS7 := hide (HQS5.out.below HB57.out HQS5.out.lt)
            have HB7 : Hid (Below w.heap.size w w7) := hide (HB5.out.trans (HB57.out.mono HB5.out.size))
            obtain ⟨B6, hB6⟩ : ∃ b, b = w5.heap.size := ⟨_, rfl⟩
            rw [← hB6] at HFO7
            clear HC5 HL5 HLl HFO HQS5 HB5 HB56 HB67 HB57 hB6
            have p2 : w7.cell? ⟨qs, 2, none⟩ = some (.int .i64 fall) := HQS7.out.cell 2
            have hBw7 : Hid (B ≤ w7.heap.size) := hide (by have := HC7.out.1.dat.lt; omega)
            obtain ⟨fb, hfb⟩ : ∃ b, b = decide (bits .and .i64 fall 1 = 1) := ⟨_, rfl⟩
            have HFB : Hid (∀ _ : Unit, fb = decide (bits .and .i64 fall 1 = 1)) := hide (fun _ => hfb)
            clear hfb
            go_upto_if 58 with fail
            go_cut [11] (fun v wx => v = .pointer (some ⟨qr, 0, none⟩) ∧ ∃ s1 : Ds, Hid (DAt wx B g N (400 * t) s1 ∧ s1.dn = false ∧ s1.cs = [] ∧ Exact O s1.F ∧ (fb = false → s1.fall < 0)) ∧ Hid (Fr B w7 wx))
            case first =>
              obtain ⟨y, hy31, hyb⟩ := i64_low' 5 31 (by omega) rfl (fall / 2)
              replace hyb : bits .and .i64 (fall / 2) 31 = (y : Int) := hyb
              rcases bit1 fall with hb1 | hb1
              · have hf : fb = false := by rw [HFB.out ()]; exact decide_eq_false (by rw [hb1]; omega)
                go_wp2_with fail
                go_meet
                exact ⟨rfl, s, hide ⟨HC7.out.1.dat, HC7.out.1.dn, HC7.out.1.cs, HC7.out.1.ex, fun _ => HC7.out.1.fall⟩, hide (Fr.below (Below.refl _ _) hBw7.out)⟩
              · have hf : fb = true := by rw [HFB.out ()]; exact decide_eq_true hb1
                go_wp2_with (go_at_call 19; refine (fall_ds B g N (400 * t) s w7 HC7.out.1.dat (y : Int) (by omega)).mono ?_; rintro e w8 ⟨rfl, hd8, hf8⟩; have HD8 := hide hd8; have HF8 := hide hf8; clear hd8 hf8)
                go_meet
                exact ⟨rfl, _, hide ⟨HD8.out, HC7.out.1.dn, HC7.out.1.cs, HC7.out.1.ex, fun e => by rw [hf] at e; cases e⟩, HF8⟩
            case rest =>
              obtain ⟨rfl, s1, HD1, HF1⟩ := hcut
              have HQSc := hide (HF1.out.far qs _ _ (by decide) (by decide) HQS7.out)
              have HQRc := hide (HF1.out.far qr _ _ (by decide) (by decide) HQR7.out)
              have HLc := hide (HL7.out.fr HF1.out)
              have HLlc := hide (HLl7.out.fr HF1.out)
              have HFOc := hide (HF1.out.own HFO7.out (by decide) (by decide))
              have HOO : Hid (OkX O ∧ w.heap.size ≤ B) := hide ⟨HC7.out.1.ok, HC7.out.2⟩
              have HBc : Hid (Below w.heap.size w wc) := hide (HB7.out.trans (HF1.out.bel.mono HC7.out.2))
              clear HC7 HL7 HLl7 HFO7 HQS7 HQR7 HF1 HB7 hBw7 p2
              have q0 : wc.cell? ⟨qr, 0, none⟩ = some (.pointer (some ⟨g, 0, none⟩)) := HQRc.out.cell 0
              go_upto_region 17 with (go_at_call 9; refine (commit_x (P := P) (fb := fb) HD1.out.1 HOO.out.1 HPO.out HD1.out.2.1 HD1.out.2.2.1 HD1.out.2.2.2.1 HD1.out.2.2.2.2 (by omega) (by omega) HLlc.out HFOc.out HN6.out).mono ?_; rintro e w8 ⟨s2, x2, rfl, hd2, hf2, hx2⟩; have HD2 := hide hd2; have HF2 := hide hf2; have HX2 := hide hx2; clear hd2 hf2 hx2)
              have HQS8 := hide (HF2.out.far qs _ _ (by decide) (by decide) HQSc.out)
              have HQR8 := hide (HF2.out.far qr _ _ (by decide) (by decide) HQRc.out)
              have HL8 := hide (HLc.out.fr HF2.out)
              have HLl8 := hide (HLlc.out.fr HF2.out)
              have HB8 : Hid (Below w.heap.size w w8) := hide (HBc.out.trans (HF2.out.bel.mono HOO.out.2))
              clear HD1 HQSc HQRc HLc HLlc HFOc HF2 HBc q0
              rcases HX2.out with ⟨rfl, hx1, hx3⟩ | ⟨rfl, hx1, hx3, hx4, hx5⟩ | ⟨rfl, hx1, hx3, hx4, hx5⟩
              · as_aux_lemma =>
                  have HE : Hid (s2.dn = true ∧ Either O P s2) := hide ⟨hx1, hx3⟩
                  clear hx1 hx3
                  go_upto_region 30 with (go_at_call 20; refine (down_ds B g N (400 * t + 100) s2 w8 HD2.out).mono ?_; rintro e w9 ⟨he, hw⟩; rw [HE.out.1] at he; subst he; have HB89 : Hid (Below w8.heap.size w8 w9) := hide (by rw [hw]; exact Below.refl _ _); clear hw)
                  have HQS9 := hide (HQS8.out.below HB89.out HQS8.out.lt)
                  have HQR9 := hide (HQR8.out.below HB89.out HQR8.out.lt)
                  have HL9 := hide (HL8.out.onb HB89.out)
                  have HLl9 := hide (HLl8.out.onb HB89.out)
                  have HB9 : Hid (Below w.heap.size w w9) := hide (HB8.out.trans (HB89.out.mono HB8.out.size))
                  have HD9 := hide (HD2.out.below HB89.out)
                  have p3 : w9.cell? ⟨qs, 3, none⟩ = some (.slice kA kk kc) := HQS9.out.cell 3
                  obtain ⟨Q, hQO, hQ, hgood⟩ : ∃ Q, OkX Q ∧ (Q = O ∨ Q = P) ∧ Good Q ((kept ks s2.cs).foldl chDo s2.F) := by rcases HE.out.2 ks with h | h; exact ⟨O, HOO.out.1, .inl rfl, h⟩; exact ⟨P, HPO.out, .inr rfl, h⟩
                  have HQQ : Hid (OkX Q ∧ (Q = O ∨ Q = P)) := hide ⟨hQO, hQ⟩
                  have HGD := hide hgood
                  have HKR : Hid (∀ W, Below w.heap.size w W → Rd W (fun k => W.heap.size ≤ k) 1 kA kk (ks.map Value.bool)) := hide (fun W hb => (HNR.out.2.1.below hb).weak (fun b h1 h2 => by have := hb.size; omega))
                  clear hQO hQ hgood HQS8 HQR8 HL8 HLl8 HB8 HB89 HD2 HX2
                  go_upto_region 31 with (go_at_call 17; refine (crash_x HD9.out HQQ.out.1 ks HGD.out (by omega) (by omega) (HKR.out w9 HB9.out) HNR.out.2.2).mono ?_; rintro e w10 ⟨g3, s3, rfl, hu10, hc10, hf10, hb10⟩; have HU10 := hide (And.intro hu10 hf10); have HB910 := hide hb10; clear hu10 hc10 hf10 hb10)
                  have HQS10 := hide (HQS9.out.below HB910.out HQS9.out.lt)
                  have HQR10 := hide (HQR9.out.below HB910.out HQR9.out.lt)
                  have HL10 := hide (HL9.out.onb HB910.out)
                  have HLl10 := hide (HLl9.out.onb HB910.out)
                  have HB10 : Hid (Below w.heap.size w w10) := hide (HB9.out.trans (HB910.out.mono HB9.out.size))
                  have HW9 : Hid (w.heap.size ≤ w9.heap.size) := hide HB9.out.size
                  obtain ⟨B9, hB9⟩ : ∃ b, b = w9.heap.size := ⟨_, rfl⟩
                  rw [← hB9] at HU10 HW9
                  clear hB9 HQS9 HQR9 HL9 HLl9 HB9 HD9 HGD HB910 p3
                  have p4 : w10.cell? ⟨qs, 4, none⟩ = some (.int .i64 again) := HQS10.out.cell 4
                  go_upto_if 107 with fail
                  go_cut [5] (fun v wx => ∃ (g3 B3 : Nat) (s3 : Ds), v = .pointer (some ⟨g3, 0, none⟩) ∧ Hid (Up wx B3 g3 N (400 * t + 160) Q s3 ∧ s3.fall < 0 ∧ w.heap.size ≤ B3) ∧ Hid (Blk wx qs 56 #[.slice nA nk nc, .int .i64 seed, .int .i64 fall, .slice kA kk kc, .int .i64 again]) ∧ Hid (∃ u : Value, Blk wx qr 34 #[u]) ∧ Hid (LiX wx w.heap.size O AL nL cL) ∧ Hid (LiX wx w.heap.size P A5 nl c5) ∧ Hid (Below w.heap.size w wx))
                  case first =>
                    obtain ⟨y, hy15, hyb⟩ := i64_low' 4 15 (by omega) rfl (again / 2)
                    replace hyb : bits .and .i64 (again / 2) 15 = (y : Int) := hyb
                    rcases bit1 again with hb1 | hb1
                    · go_wp2_with fail
                      go_meet
                      exact ⟨g3, B9, s3, rfl, hide ⟨{ HU10.out.1 with dat := HU10.out.1.dat.mono (by omega) }, HU10.out.2, HW9.out⟩, HQS10, hide ⟨_, HQR10.out⟩, HL10, HLl10, HB10⟩
                    · go_upto_region 33 with (go_at_call 19; refine (fall_ds B9 g3 N (400 * t + 100) s3 w10 HU10.out.1.dat (y : Int) (by omega)).mono ?_; rintro e w11 ⟨rfl, hd11, hf11⟩; have HD11 := hide hd11; have HF11 := hide hf11; clear hd11 hf11)
                      have HQS11 := hide (HF11.out.far qs _ _ (by decide) (by decide) HQS10.out)
                      have HQR11 := hide (HF11.out.far qr _ _ (by decide) (by decide) HQR10.out)
                      have HL11 := hide (HL10.out.fr HF11.out)
                      have HLl11 := hide (HLl10.out.fr HF11.out)
                      have HB11 : Hid (Below w.heap.size w w11) := hide (HB10.out.trans (HF11.out.bel.mono HW9.out))
                      have HU11 : Hid (Up w11 B9 g3 N (400 * t + 100) Q { s3 with fall := max (y : Int) 0 }) := hide ⟨HD11.out, HQQ.out.1, HU10.out.1.dn, ⟨HU10.out.1.hs.good, HU10.out.1.hs.harm⟩⟩
                      have f0 := HQR11.out.frozen 0
                      have q0 : w11.cell? ⟨qr, 0, none⟩ = some (.pointer (some ⟨g, 0, none⟩)) := HQR11.out.cell 0
                      go_upto_region 34 with fail
                      obtain ⟨w12, hw12⟩ : ∃ x, x = w11.setCell ⟨qr, 0, none⟩ (.pointer (some ⟨g3, 0, none⟩)) := ⟨_, rfl⟩
                      have HK12 : Hid (Keep (fun k => k = qr) w11 w12) := hide (by rw [hw12]; exact (Keep.refl (fun k => k = qr) w11).setCell (p := ⟨qr, 0, none⟩) (fun _ => rfl) _)
                      have HQR12 : Hid (Blk w12 qr 34 #[.pointer (some ⟨g3, 0, none⟩)]) := hide (by rw [hw12]; exact HQR11.out.set_ 0 _)
                      rw [← hw12]
                      clear hw12
                      have HU12 := hide ({ HU11.out with dat := (HU11.out).dat.store HQR11.out (by decide) (by decide) HK12.out })
                      have HQS12 := hide (HQS11.out.keep HK12.out (fun e => (HQS11.out.ne_ HQR11.out (by decide)) e))
                      have HL12 := hide (HL11.out.store HQR11.out (by decide) (by decide) HK12.out)
                      have HLl12 := hide (HLl11.out.store HQR11.out (by decide) (by decide) HK12.out)
                      have HB12 : Hid (Below w.heap.size w w12) := hide (HB11.out.trans (HK12.out.below (B := w.heap.size) HB11.out.size (fun k hk => by rw [hk]; exact HQW.out)))
                      clear HU11 HQS11 HL11 HLl11 HB11 HK12 HQR11 f0 q0
                      have q0 : w12.cell? ⟨qr, 0, none⟩ = some (.pointer (some ⟨g3, 0, none⟩)) := HQR12.out.cell 0
                      go_upto_region 35 with (go_at_call 10; refine (recov_x HU12.out (by omega)).mono ?_; rintro e w13 ⟨s13, x13, A13, n13, c13, rfl, hx13, hl13, hd13, hf13, hh13, _⟩; have HX13 := hide hx13; have HD13 := hide hd13; have HF13 := hide hf13; have HH13 := hide hh13; clear hx13 hl13 hd13 hf13 hh13)
                      have HQS13 := hide (HF13.out.far qs _ _ (by decide) (by decide) HQS12.out)
                      have HQR13 := hide (HF13.out.far qr _ _ (by decide) (by decide) HQR12.out)
                      have HL13 := hide (HL12.out.fr HF13.out)
                      have HLl13 := hide (HLl12.out.fr HF13.out)
                      have HB13 : Hid (Below w.heap.size w w13) := hide (HB12.out.trans (HF13.out.bel.mono HW9.out))
                      have HGK := hide (HH13.out.kept HQQ.out.1 ks)
                      have p3 : w13.cell? ⟨qs, 3, none⟩ = some (.slice kA kk kc) := HQS13.out.cell 3
                      clear HQS12 HQR12 HL12 HLl12 HB12 HU12 HF13 q0
                      rcases HX13.out with rfl | rfl
                      · go_wp2_with (go_at_call 17; refine (crash_x HD13.out HQQ.out.1 ks HGK.out (by omega) (by omega) (HKR.out w13 HB13.out) HNR.out.2.2).mono ?_; rintro e w14 ⟨g14, s14, rfl, hu14, hc14, hf14, hb14⟩; have HU14 := hide (And.intro hu14 hf14); have HB14 := hide hb14; clear hu14 hc14 hf14 hb14)
                        go_meet
                        exact ⟨g14, w13.heap.size, s14, rfl, hide ⟨HU14.out.1, HU14.out.2, HB13.out.size⟩, hide (HQS13.out.below HB14.out HQS13.out.lt), hide ⟨_, HQR13.out.below HB14.out HQR13.out.lt⟩, hide (HL13.out.onb HB14.out), hide (HLl13.out.onb HB14.out), hide (HB13.out.trans (HB14.out.mono HB13.out.size))⟩
                      · go_wp2_with (go_at_call 17; refine (crash_x HD13.out HQQ.out.1 ks HGK.out (by omega) (by omega) (HKR.out w13 HB13.out) HNR.out.2.2).mono ?_; rintro e w14 ⟨g14, s14, rfl, hu14, hc14, hf14, hb14⟩; have HU14 := hide (And.intro hu14 hf14); have HB14 := hide hb14; clear hu14 hc14 hf14 hb14)
                        go_meet
                        exact ⟨g14, w13.heap.size, s14, rfl, hide ⟨HU14.out.1, HU14.out.2, HB13.out.size⟩, hide (HQS13.out.below HB14.out HQS13.out.lt), hide ⟨_, HQR13.out.below HB14.out HQR13.out.lt⟩, hide (HL13.out.onb HB14.out), hide (HLl13.out.onb HB14.out), hide (HB13.out.trans (HB14.out.mono HB13.out.size))⟩
                  case rest =>
                    obtain ⟨g4, B4, s4, rfl, HU4, HQS11, HQR4, HL11, HLl11, HB11⟩ := hcut
                    clear HU10 HQS10 HQR10 HL10 HLl10 HB10 p4
                    obtain ⟨u4, hqr4⟩ := HQR4.out
                    have HQR11 := hide hqr4
                    clear hqr4 HQR4
                    have HU11 : Hid (Up wc B4 g4 N (400 * t + 160) Q s4) := hide HU4.out.1
                    have HW4 : Hid (s4.fall < 0 ∧ w.heap.size ≤ B4) := hide HU4.out.2
                    have f0 := HQR11.out.frozen 0
                    have q0 : wc.cell? ⟨qr, 0, none⟩ = some u4 := HQR11.out.cell 0
                    clear HU4
                    go_upto_region 39 with fail
                    obtain ⟨w12, hw12⟩ : ∃ x, x = wc.setCell ⟨qr, 0, none⟩ (.pointer (some ⟨g4, 0, none⟩)) := ⟨_, rfl⟩
                    have HK12 : Hid (Keep (fun k => k = qr) wc w12) := hide (by rw [hw12]; exact (Keep.refl (fun k => k = qr) wc).setCell (p := ⟨qr, 0, none⟩) (fun _ => rfl) _)
                    have HQR12 : Hid (Blk w12 qr 34 #[.pointer (some ⟨g4, 0, none⟩)]) := hide (by rw [hw12]; exact HQR11.out.set_ 0 _)
                    rw [← hw12]
                    clear hw12
                    have HU12 := hide ({ HU11.out with dat := (HU11.out).dat.store HQR11.out (by decide) (by decide) HK12.out })
                    have HQS12 := hide (HQS11.out.keep HK12.out (fun e => (HQS11.out.ne_ HQR11.out (by decide)) e))
                    have HL12 := hide (HL11.out.store HQR11.out (by decide) (by decide) HK12.out)
                    have HLl12 := hide (HLl11.out.store HQR11.out (by decide) (by decide) HK12.out)
                    have HB12 : Hid (Below w.heap.size w w12) := hide (HB11.out.trans (HK12.out.below (B := w.heap.size) HB11.out.size (fun k hk => by rw [hk]; exact HQW.out)))
                    clear HU11 HQS11 HL11 HLl11 HB11 HK12 HQR11 f0 q0
                    have q0 : w12.cell? ⟨qr, 0, none⟩ = some (.pointer (some ⟨g4, 0, none⟩)) := HQR12.out.cell 0
                    go_upto_region 40 with (go_at_call 10; refine (recov_x HU12.out (by omega)).mono ?_; rintro e w13 ⟨s13, x13, A13, n13, c13, rfl, _, hl13, _, hf13, _, hx13⟩; obtain ⟨rfl, hc13⟩ := hx13 HW4.out.1; have HC13 := hide hc13; have HF13 := hide hf13; have HG13 := hide (hl13.base HB12.out.size); clear hl13 hc13 hf13 hx13)
                    have HQR13 := hide (HF13.out.far qr _ _ (by decide) (by decide) HQR12.out)
                    have HL13 := hide (HL12.out.fr HF13.out)
                    have HLl13 := hide (HLl12.out.fr HF13.out)
                    have HB13 : Hid (Below w.heap.size w w13) := hide (HB12.out.trans (HF13.out.bel.mono HW4.out.2))
                    clear HQS12 HQR12 HL12 HLl12 HB12 HU12 HF13 q0
                    by_cases hqo : Q = O
                    case neg =>
                      have hqp : Q = P := HQQ.out.2.resolve_left hqo
                      have HS1 := hide (same_x HQQ.out.1 HOO.out.1 HG13.out HL13.out)
                      rw [decide_eq_false hqo] at HS1
                      go_upto_region 42 with (first
                        | (go_at_call_of 18 (Value.slice AL nL cL); refine HS1.out.mono ?_; rintro e w14 ⟨rfl, hb14⟩; have HB14 := hide hb14; clear hb14)
                        | (go_at_call_of 18 (Value.slice A5 nl c5); have hs := same_x HQQ.out.1 HPO.out (HG13.out.onb HB14.out) (HLl13.out.onb HB14.out); rw [decide_eq_true hqp] at hs; refine hs.mono ?_; clear hs; rintro e w15 ⟨rfl, hb15⟩; have HB15 := hide (HB14.out.trans (hb15.mono HB14.out.size)); clear hb15)
                        | (go_at_call 16; refine (whole_x (HC13.out.below HB15.out) (by omega) (HG13.out.onb HB15.out)).mono ?_; rintro e w16 ⟨rfl, hb16⟩; have HB16 := hide (HB15.out.trans (hb16.mono HB15.out.size)); clear hb16))
                      have HC16 := hide (HC13.out.below HB16.out)
                      have HG16 := hide (HG13.out.onb HB16.out)
                      have HQR16 := hide (HQR13.out.below HB16.out HQR13.out.lt)
                      have HBW16 : Hid (Below w.heap.size w w16) := hide (HB13.out.trans (HB16.out.mono HB13.out.size))
                      have q0 : w16.cell? ⟨qr, 0, none⟩ = some (.pointer (some ⟨g4, 0, none⟩)) := HQR16.out.cell 0
                      go_upto_region 43 with (go_at_call 10; refine (recov_x HC16.out.up (by omega)).mono ?_; rintro e w17 ⟨s17, x17, A17, n17, c17, rfl, _, hl17, _, hf17, _, hx17⟩; obtain ⟨rfl, hc17⟩ := hx17 HC16.out.fall; have HC17 := hide hc17; have HF17 := hide hf17; have HA17 := hide hl17; clear hl17 hc17 hf17 hx17)
                      have HG17 := hide (HG16.out.fr HF17.out)
                      have HB17 : Hid (Below w.heap.size w w17) := hide (HBW16.out.trans (HF17.out.bel.mono HW4.out.2))
                      have HS2 := hide (same_x HQQ.out.1 HQQ.out.1 HA17.out HG17.out)
                      rw [decide_eq_true (rfl : Q = Q)] at HS2
                      clear HC16 HG16 HQR16 HBW16 q0 HF17
                      go_wp2_with (first
                        | (go_at_call 18; refine HS2.out.mono ?_; rintro e w18 ⟨rfl, hb18⟩; have HB18 := hide hb18; clear hb18)
                        | (go_at_call 17; refine (crash_ok (HC17.out.below HB18.out) (by omega) (by omega)).mono ?_; rintro e w19 ⟨g19, s19, rfl, hc19, hb19⟩; have HC19 := hide hc19; have HB19 := hide (HB18.out.trans (hb19.mono HB18.out.size)); clear hc19 hb19)
                        | (go_at_call 16; refine (whole_x HC19.out (by omega) (HG17.out.onb HB19.out)).mono ?_; rintro e w20 ⟨rfl, hb20⟩; have HB20 := hide (HB19.out.trans (hb20.mono HB19.out.size)); clear hb20))
                      go_roundw
                      · exact ⟨t + 1, Q, s17, g4, B4, A13, n13, c13, by omega, rfl, rfl, by go_num, hide ⟨{ HC17.out.below HB20.out with dat := (HC17.out.below HB20.out).dat.mono (by omega) }, HW4.out.2⟩, hide (HG17.out.onb HB20.out), hide (HB17.out.trans (HB20.out.mono HB17.out.size))⟩
                      · simp [intOf]; omega
                    case pos =>
                      have HS1 := hide (same_x HQQ.out.1 HOO.out.1 HG13.out HL13.out)
                      rw [decide_eq_true hqo] at HS1
                      go_upto_region 42 with (first
                        | (go_at_call 18; refine HS1.out.mono ?_; rintro e w15 ⟨rfl, hb15⟩; have HB15 := hide hb15; clear hb15)
                        | (go_at_call 16; refine (whole_x (HC13.out.below HB15.out) (by omega) (HG13.out.onb HB15.out)).mono ?_; rintro e w16 ⟨rfl, hb16⟩; have HB16 := hide (HB15.out.trans (hb16.mono HB15.out.size)); clear hb16))
                      have HC16 := hide (HC13.out.below HB16.out)
                      have HG16 := hide (HG13.out.onb HB16.out)
                      have HQR16 := hide (HQR13.out.below HB16.out HQR13.out.lt)
                      have HBW16 : Hid (Below w.heap.size w w16) := hide (HB13.out.trans (HB16.out.mono HB13.out.size))
                      have q0 : w16.cell? ⟨qr, 0, none⟩ = some (.pointer (some ⟨g4, 0, none⟩)) := HQR16.out.cell 0
                      go_upto_region 43 with (go_at_call 10; refine (recov_x HC16.out.up (by omega)).mono ?_; rintro e w17 ⟨s17, x17, A17, n17, c17, rfl, _, hl17, _, hf17, _, hx17⟩; obtain ⟨rfl, hc17⟩ := hx17 HC16.out.fall; have HC17 := hide hc17; have HF17 := hide hf17; have HA17 := hide hl17; clear hl17 hc17 hf17 hx17)
                      have HG17 := hide (HG16.out.fr HF17.out)
                      have HB17 : Hid (Below w.heap.size w w17) := hide (HBW16.out.trans (HF17.out.bel.mono HW4.out.2))
                      have HS2 := hide (same_x HQQ.out.1 HQQ.out.1 HA17.out HG17.out)
                      rw [decide_eq_true (rfl : Q = Q)] at HS2
                      clear HC16 HG16 HQR16 HBW16 q0 HF17
                      go_wp2_with (first
                        | (go_at_call 18; refine HS2.out.mono ?_; rintro e w18 ⟨rfl, hb18⟩; have HB18 := hide hb18; clear hb18)
                        | (go_at_call 17; refine (crash_ok (HC17.out.below HB18.out) (by omega) (by omega)).mono ?_; rintro e w19 ⟨g19, s19, rfl, hc19, hb19⟩; have HC19 := hide hc19; have HB19 := hide (HB18.out.trans (hb19.mono HB18.out.size)); clear hc19 hb19)
                        | (go_at_call 16; refine (whole_x HC19.out (by omega) (HG17.out.onb HB19.out)).mono ?_; rintro e w20 ⟨rfl, hb20⟩; have HB20 := hide (HB19.out.trans (hb20.mono HB19.out.size)); clear hb20))
                      go_roundw
                      · exact ⟨t + 1, Q, s17, g4, B4, A13, n13, c13, by omega, rfl, rfl, by go_num, hide ⟨{ HC17.out.below HB20.out with dat := (HC17.out.below HB20.out).dat.mono (by omega) }, HW4.out.2⟩, hide (HG17.out.onb HB20.out), hide (HB17.out.trans (HB20.out.mono HB17.out.size))⟩
                      · simp [intOf]; omega
              · as_aux_lemma =>
                  have HE : Hid (s2.dn = false ∧ s2.cs = [] ∧ Exact O s2.F ∧ (fb = false → s2.fall < 0)) := hide ⟨hx1, hx3, hx4, hx5⟩
                  clear hx1 hx3 hx4 hx5
                  go_upto_region 29 with (go_at_call 16; refine (whole_y HD2.out HOO.out.1 HE.out.1 HE.out.2.1 HE.out.2.2.1 (by omega) HL8.out).mono ?_; rintro e w9 ⟨rfl, hb9⟩; have HB89 := hide hb9; clear hb9)
                  have p2 : w9.cell? ⟨qs, 2, none⟩ = some (.int .i64 fall) := (HQS8.out.below HB89.out HQS8.out.lt).cell 2
                  rcases bit1 fall with hb1 | hb1
                  · have hf : fb = false := by rw [HFB.out ()]; exact decide_eq_false (by rw [hb1]; omega)
                    go_wp2_with fail
                    go_roundw
                    · exact ⟨t + 1, O, s2, g, B, AL, nL, cL, by omega, rfl, rfl, by go_num, hide ⟨⟨(HD2.out.below HB89.out).mono (by omega), HOO.out.1, HE.out.1, HE.out.2.1, HE.out.2.2.1, HE.out.2.2.2 hf⟩, HOO.out.2⟩, hide (HL8.out.onb HB89.out), hide (HB8.out.trans (HB89.out.mono HB8.out.size))⟩
                    · simp [intOf]; omega
                  · go_upto_region 30 with fail
                    clear p2
                    have HQS9 := hide (HQS8.out.below HB89.out HQS8.out.lt)
                    have HQR9 := hide (HQR8.out.below HB89.out HQR8.out.lt)
                    have HL9 := hide (HL8.out.onb HB89.out)
                    have HLl9 := hide (HLl8.out.onb HB89.out)
                    have HB9 : Hid (Below w.heap.size w w9) := hide (HB8.out.trans (HB89.out.mono HB8.out.size))
                    have HD9 := hide (HD2.out.below HB89.out)
                    have p3 : w9.cell? ⟨qs, 3, none⟩ = some (.slice kA kk kc) := HQS9.out.cell 3
                    obtain ⟨Q, hQO, hQ, hgood⟩ : ∃ Q, OkX Q ∧ (Q = O ∨ Q = P) ∧ Good Q ((kept ks s2.cs).foldl chDo s2.F) := ⟨O, HOO.out.1, .inl rfl, by rw [HE.out.2.1, kept_nil_cs]; exact HE.out.2.2.1.good⟩
                    have HQQ : Hid (OkX Q ∧ (Q = O ∨ Q = P)) := hide ⟨hQO, hQ⟩
                    have HGD := hide hgood
                    have HKR : Hid (∀ W, Below w.heap.size w W → Rd W (fun k => W.heap.size ≤ k) 1 kA kk (ks.map Value.bool)) := hide (fun W hb => (HNR.out.2.1.below hb).weak (fun b h1 h2 => by have := hb.size; omega))
                    clear hQO hQ hgood HQS8 HQR8 HL8 HLl8 HB8 HB89 HD2 HX2
                    go_upto_region 31 with (go_at_call 17; refine (crash_x HD9.out HQQ.out.1 ks HGD.out (by omega) (by omega) (HKR.out w9 HB9.out) HNR.out.2.2).mono ?_; rintro e w10 ⟨g3, s3, rfl, hu10, hc10, hf10, hb10⟩; have HU10 := hide (And.intro hu10 hf10); have HB910 := hide hb10; clear hu10 hc10 hf10 hb10)
                    have HQS10 := hide (HQS9.out.below HB910.out HQS9.out.lt)
                    have HQR10 := hide (HQR9.out.below HB910.out HQR9.out.lt)
                    have HL10 := hide (HL9.out.onb HB910.out)
                    have HLl10 := hide (HLl9.out.onb HB910.out)
                    have HB10 : Hid (Below w.heap.size w w10) := hide (HB9.out.trans (HB910.out.mono HB9.out.size))
                    have HW9 : Hid (w.heap.size ≤ w9.heap.size) := hide HB9.out.size
                    obtain ⟨B9, hB9⟩ : ∃ b, b = w9.heap.size := ⟨_, rfl⟩
                    rw [← hB9] at HU10 HW9
                    clear hB9 HQS9 HQR9 HL9 HLl9 HB9 HD9 HGD HB910 p3
                    have p4 : w10.cell? ⟨qs, 4, none⟩ = some (.int .i64 again) := HQS10.out.cell 4
                    go_upto_if 107 with fail
                    go_cut [5] (fun v wx => ∃ (g3 B3 : Nat) (s3 : Ds), v = .pointer (some ⟨g3, 0, none⟩) ∧ Hid (Up wx B3 g3 N (400 * t + 160) Q s3 ∧ s3.fall < 0 ∧ w.heap.size ≤ B3) ∧ Hid (Blk wx qs 56 #[.slice nA nk nc, .int .i64 seed, .int .i64 fall, .slice kA kk kc, .int .i64 again]) ∧ Hid (∃ u : Value, Blk wx qr 34 #[u]) ∧ Hid (LiX wx w.heap.size O AL nL cL) ∧ Hid (LiX wx w.heap.size P A5 nl c5) ∧ Hid (Below w.heap.size w wx))
                    case first =>
                      as_aux_lemma =>
                        obtain ⟨y, hy15, hyb⟩ := i64_low' 4 15 (by omega) rfl (again / 2)
                        replace hyb : bits .and .i64 (again / 2) 15 = (y : Int) := hyb
                        rcases bit1 again with hb1 | hb1
                        · go_wp2_with fail
                          go_meet
                          exact ⟨g3, B9, s3, rfl, hide ⟨{ HU10.out.1 with dat := HU10.out.1.dat.mono (by omega) }, HU10.out.2, HW9.out⟩, HQS10, hide ⟨_, HQR10.out⟩, HL10, HLl10, HB10⟩
                        · go_upto_region 33 with (go_at_call 19; refine (fall_ds B9 g3 N (400 * t + 100) s3 w10 HU10.out.1.dat (y : Int) (by omega)).mono ?_; rintro e w11 ⟨rfl, hd11, hf11⟩; have HD11 := hide hd11; have HF11 := hide hf11; clear hd11 hf11)
                          have HQS11 := hide (HF11.out.far qs _ _ (by decide) (by decide) HQS10.out)
                          have HQR11 := hide (HF11.out.far qr _ _ (by decide) (by decide) HQR10.out)
                          have HL11 := hide (HL10.out.fr HF11.out)
                          have HLl11 := hide (HLl10.out.fr HF11.out)
                          have HB11 : Hid (Below w.heap.size w w11) := hide (HB10.out.trans (HF11.out.bel.mono HW9.out))
                          have HU11 : Hid (Up w11 B9 g3 N (400 * t + 100) Q { s3 with fall := max (y : Int) 0 }) := hide ⟨HD11.out, HQQ.out.1, HU10.out.1.dn, ⟨HU10.out.1.hs.good, HU10.out.1.hs.harm⟩⟩
                          have f0 := HQR11.out.frozen 0
                          have q0 : w11.cell? ⟨qr, 0, none⟩ = some (.pointer (some ⟨g, 0, none⟩)) := HQR11.out.cell 0
                          go_upto_region 34 with fail
                          obtain ⟨w12, hw12⟩ : ∃ x, x = w11.setCell ⟨qr, 0, none⟩ (.pointer (some ⟨g3, 0, none⟩)) := ⟨_, rfl⟩
                          have HK12 : Hid (Keep (fun k => k = qr) w11 w12) := hide (by rw [hw12]; exact (Keep.refl (fun k => k = qr) w11).setCell (p := ⟨qr, 0, none⟩) (fun _ => rfl) _)
                          have HQR12 : Hid (Blk w12 qr 34 #[.pointer (some ⟨g3, 0, none⟩)]) := hide (by rw [hw12]; exact HQR11.out.set_ 0 _)
                          rw [← hw12]
                          clear hw12
                          have HU12 := hide ({ HU11.out with dat := (HU11.out).dat.store HQR11.out (by decide) (by decide) HK12.out })
                          have HQS12 := hide (HQS11.out.keep HK12.out (fun e => (HQS11.out.ne_ HQR11.out (by decide)) e))
                          have HL12 := hide (HL11.out.store HQR11.out (by decide) (by decide) HK12.out)
                          have HLl12 := hide (HLl11.out.store HQR11.out (by decide) (by decide) HK12.out)
                          have HB12 : Hid (Below w.heap.size w w12) := hide (HB11.out.trans (HK12.out.below (B := w.heap.size) HB11.out.size (fun k hk => by rw [hk]; exact HQW.out)))
                          clear HU11 HQS11 HL11 HLl11 HB11 HK12 HQR11 f0 q0
                          have q0 : w12.cell? ⟨qr, 0, none⟩ = some (.pointer (some ⟨g3, 0, none⟩)) := HQR12.out.cell 0
                          go_upto_region 35 with (go_at_call 10; refine (recov_x HU12.out (by omega)).mono ?_; rintro e w13 ⟨s13, x13, A13, n13, c13, rfl, hx13, hl13, hd13, hf13, hh13, _⟩; have HX13 := hide hx13; have HD13 := hide hd13; have HF13 := hide hf13; have HH13 := hide hh13; clear hx13 hl13 hd13 hf13 hh13)
                          have HQS13 := hide (HF13.out.far qs _ _ (by decide) (by decide) HQS12.out)
                          have HQR13 := hide (HF13.out.far qr _ _ (by decide) (by decide) HQR12.out)
                          have HL13 := hide (HL12.out.fr HF13.out)
                          have HLl13 := hide (HLl12.out.fr HF13.out)
                          have HB13 : Hid (Below w.heap.size w w13) := hide (HB12.out.trans (HF13.out.bel.mono HW9.out))
                          have HGK := hide (HH13.out.kept HQQ.out.1 ks)
                          have p3 : w13.cell? ⟨qs, 3, none⟩ = some (.slice kA kk kc) := HQS13.out.cell 3
                          clear HQS12 HQR12 HL12 HLl12 HB12 HU12 HF13 q0
                          rcases HX13.out with rfl | rfl
                          · go_wp2_with (go_at_call 17; refine (crash_x HD13.out HQQ.out.1 ks HGK.out (by omega) (by omega) (HKR.out w13 HB13.out) HNR.out.2.2).mono ?_; rintro e w14 ⟨g14, s14, rfl, hu14, hc14, hf14, hb14⟩; have HU14 := hide (And.intro hu14 hf14); have HB14 := hide hb14; clear hu14 hc14 hf14 hb14)
                            go_meet
                            exact ⟨g14, w13.heap.size, s14, rfl, hide ⟨HU14.out.1, HU14.out.2, HB13.out.size⟩, hide (HQS13.out.below HB14.out HQS13.out.lt), hide ⟨_, HQR13.out.below HB14.out HQR13.out.lt⟩, hide (HL13.out.onb HB14.out), hide (HLl13.out.onb HB14.out), hide (HB13.out.trans (HB14.out.mono HB13.out.size))⟩
                          · go_wp2_with (go_at_call 17; refine (crash_x HD13.out HQQ.out.1 ks HGK.out (by omega) (by omega) (HKR.out w13 HB13.out) HNR.out.2.2).mono ?_; rintro e w14 ⟨g14, s14, rfl, hu14, hc14, hf14, hb14⟩; have HU14 := hide (And.intro hu14 hf14); have HB14 := hide hb14; clear hu14 hc14 hf14 hb14)
                            go_meet
                            exact ⟨g14, w13.heap.size, s14, rfl, hide ⟨HU14.out.1, HU14.out.2, HB13.out.size⟩, hide (HQS13.out.below HB14.out HQS13.out.lt), hide ⟨_, HQR13.out.below HB14.out HQR13.out.lt⟩, hide (HL13.out.onb HB14.out), hide (HLl13.out.onb HB14.out), hide (HB13.out.trans (HB14.out.mono HB13.out.size))⟩
                    case rest =>
                      obtain ⟨g4, B4, s4, rfl, HU4, HQS11, HQR4, HL11, HLl11, HB11⟩ := hcut
                      clear HU10 HQS10 HQR10 HL10 HLl10 HB10 p4
                      obtain ⟨u4, hqr4⟩ := HQR4.out
                      have HQR11 := hide hqr4
                      clear hqr4 HQR4
                      have HU11 : Hid (Up wc B4 g4 N (400 * t + 160) Q s4) := hide HU4.out.1
                      have HW4 : Hid (s4.fall < 0 ∧ w.heap.size ≤ B4) := hide HU4.out.2
                      have f0 := HQR11.out.frozen 0
                      have q0 : wc.cell? ⟨qr, 0, none⟩ = some u4 := HQR11.out.cell 0
                      clear HU4
                      go_upto_region 39 with fail
                      obtain ⟨w12, hw12⟩ : ∃ x, x = wc.setCell ⟨qr, 0, none⟩ (.pointer (some ⟨g4, 0, none⟩)) := ⟨_, rfl⟩
                      have HK12 : Hid (Keep (fun k => k = qr) wc w12) := hide (by rw [hw12]; exact (Keep.refl (fun k => k = qr) wc).setCell (p := ⟨qr, 0, none⟩) (fun _ => rfl) _)
                      have HQR12 : Hid (Blk w12 qr 34 #[.pointer (some ⟨g4, 0, none⟩)]) := hide (by rw [hw12]; exact HQR11.out.set_ 0 _)
                      rw [← hw12]
                      clear hw12
                      have HU12 := hide ({ HU11.out with dat := (HU11.out).dat.store HQR11.out (by decide) (by decide) HK12.out })
                      have HQS12 := hide (HQS11.out.keep HK12.out (fun e => (HQS11.out.ne_ HQR11.out (by decide)) e))
                      have HL12 := hide (HL11.out.store HQR11.out (by decide) (by decide) HK12.out)
                      have HLl12 := hide (HLl11.out.store HQR11.out (by decide) (by decide) HK12.out)
                      have HB12 : Hid (Below w.heap.size w w12) := hide (HB11.out.trans (HK12.out.below (B := w.heap.size) HB11.out.size (fun k hk => by rw [hk]; exact HQW.out)))
                      clear HU11 HQS11 HL11 HLl11 HB11 HK12 HQR11 f0 q0
                      have q0 : w12.cell? ⟨qr, 0, none⟩ = some (.pointer (some ⟨g4, 0, none⟩)) := HQR12.out.cell 0
                      go_upto_region 40 with (go_at_call 10; refine (recov_x HU12.out (by omega)).mono ?_; rintro e w13 ⟨s13, x13, A13, n13, c13, rfl, _, hl13, _, hf13, _, hx13⟩; obtain ⟨rfl, hc13⟩ := hx13 HW4.out.1; have HC13 := hide hc13; have HF13 := hide hf13; have HG13 := hide (hl13.base HB12.out.size); clear hl13 hc13 hf13 hx13)
                      have HQR13 := hide (HF13.out.far qr _ _ (by decide) (by decide) HQR12.out)
                      have HL13 := hide (HL12.out.fr HF13.out)
                      have HLl13 := hide (HLl12.out.fr HF13.out)
                      have HB13 : Hid (Below w.heap.size w w13) := hide (HB12.out.trans (HF13.out.bel.mono HW4.out.2))
                      clear HQS12 HQR12 HL12 HLl12 HB12 HU12 HF13 q0
                      by_cases hqo : Q = O
                      case neg =>
                        as_aux_lemma =>
                          have hqp : Q = P := HQQ.out.2.resolve_left hqo
                          have HS1 := hide (same_x HQQ.out.1 HOO.out.1 HG13.out HL13.out)
                          rw [decide_eq_false hqo] at HS1
                          go_upto_region 42 with (first
                            | (go_at_call_of 18 (Value.slice AL nL cL); refine HS1.out.mono ?_; rintro e w14 ⟨rfl, hb14⟩; have HB14 := hide hb14; clear hb14)
                            | (go_at_call_of 18 (Value.slice A5 nl c5); have hs := same_x HQQ.out.1 HPO.out (HG13.out.onb HB14.out) (HLl13.out.onb HB14.out); rw [decide_eq_true hqp] at hs; refine hs.mono ?_; clear hs; rintro e w15 ⟨rfl, hb15⟩; have HB15 := hide (HB14.out.trans (hb15.mono HB14.out.size)); clear hb15)
                            | (go_at_call 16; refine (whole_x (HC13.out.below HB15.out) (by omega) (HG13.out.onb HB15.out)).mono ?_; rintro e w16 ⟨rfl, hb16⟩; have HB16 := hide (HB15.out.trans (hb16.mono HB15.out.size)); clear hb16))
                          have HC16 := hide (HC13.out.below HB16.out)
                          have HG16 := hide (HG13.out.onb HB16.out)
                          have HQR16 := hide (HQR13.out.below HB16.out HQR13.out.lt)
                          have HBW16 : Hid (Below w.heap.size w w16) := hide (HB13.out.trans (HB16.out.mono HB13.out.size))
                          have q0 : w16.cell? ⟨qr, 0, none⟩ = some (.pointer (some ⟨g4, 0, none⟩)) := HQR16.out.cell 0
                          go_upto_region 43 with (go_at_call 10; refine (recov_x HC16.out.up (by omega)).mono ?_; rintro e w17 ⟨s17, x17, A17, n17, c17, rfl, _, hl17, _, hf17, _, hx17⟩; obtain ⟨rfl, hc17⟩ := hx17 HC16.out.fall; have HC17 := hide hc17; have HF17 := hide hf17; have HA17 := hide hl17; clear hl17 hc17 hf17 hx17)
                          have HG17 := hide (HG16.out.fr HF17.out)
                          have HB17 : Hid (Below w.heap.size w w17) := hide (HBW16.out.trans (HF17.out.bel.mono HW4.out.2))
                          have HS2 := hide (same_x HQQ.out.1 HQQ.out.1 HA17.out HG17.out)
                          rw [decide_eq_true (rfl : Q = Q)] at HS2
                          clear HC16 HG16 HQR16 HBW16 q0 HF17
                          go_wp2_with (first
                            | (go_at_call 18; refine HS2.out.mono ?_; rintro e w18 ⟨rfl, hb18⟩; have HB18 := hide hb18; clear hb18)
                            | (go_at_call 17; refine (crash_ok (HC17.out.below HB18.out) (by omega) (by omega)).mono ?_; rintro e w19 ⟨g19, s19, rfl, hc19, hb19⟩; have HC19 := hide hc19; have HB19 := hide (HB18.out.trans (hb19.mono HB18.out.size)); clear hc19 hb19)
                            | (go_at_call 16; refine (whole_x HC19.out (by omega) (HG17.out.onb HB19.out)).mono ?_; rintro e w20 ⟨rfl, hb20⟩; have HB20 := hide (HB19.out.trans (hb20.mono HB19.out.size)); clear hb20))
                          go_roundw
                          · exact ⟨t + 1, Q, s17, g4, B4, A13, n13, c13, by omega, rfl, rfl, by go_num, hide ⟨{ HC17.out.below HB20.out with dat := (HC17.out.below HB20.out).dat.mono (by omega) }, HW4.out.2⟩, hide (HG17.out.onb HB20.out), hide (HB17.out.trans (HB20.out.mono HB17.out.size))⟩
                          · simp [intOf]; omega
                      case pos =>
                        as_aux_lemma =>
                          have HS1 := hide (same_x HQQ.out.1 HOO.out.1 HG13.out HL13.out)
                          rw [decide_eq_true hqo] at HS1
                          go_upto_region 42 with (first
                            | (go_at_call 18; refine HS1.out.mono ?_; rintro e w15 ⟨rfl, hb15⟩; have HB15 := hide hb15; clear hb15)
                            | (go_at_call 16; refine (whole_x (HC13.out.below HB15.out) (by omega) (HG13.out.onb HB15.out)).mono ?_; rintro e w16 ⟨rfl, hb16⟩; have HB16 := hide (HB15.out.trans (hb16.mono HB15.out.size)); clear hb16))
                          have HC16 := hide (HC13.out.below HB16.out)
                          have HG16 := hide (HG13.out.onb HB16.out)
                          have HQR16 := hide (HQR13.out.below HB16.out HQR13.out.lt)
                          have HBW16 : Hid (Below w.heap.size w w16) := hide (HB13.out.trans (HB16.out.mono HB13.out.size))
                          have q0 : w16.cell? ⟨qr, 0, none⟩ = some (.pointer (some ⟨g4, 0, none⟩)) := HQR16.out.cell 0
                          go_upto_region 43 with (go_at_call 10; refine (recov_x HC16.out.up (by omega)).mono ?_; rintro e w17 ⟨s17, x17, A17, n17, c17, rfl, _, hl17, _, hf17, _, hx17⟩; obtain ⟨rfl, hc17⟩ := hx17 HC16.out.fall; have HC17 := hide hc17; have HF17 := hide hf17; have HA17 := hide hl17; clear hl17 hc17 hf17 hx17)
                          have HG17 := hide (HG16.out.fr HF17.out)
                          have HB17 : Hid (Below w.heap.size w w17) := hide (HBW16.out.trans (HF17.out.bel.mono HW4.out.2))
                          have HS2 := hide (same_x HQQ.out.1 HQQ.out.1 HA17.out HG17.out)
                          rw [decide_eq_true (rfl : Q = Q)] at HS2
                          clear HC16 HG16 HQR16 HBW16 q0 HF17
                          go_wp2_with (first
                            | (go_at_call 18; refine HS2.out.mono ?_; rintro e w18 ⟨rfl, hb18⟩; have HB18 := hide hb18; clear hb18)
                            | (go_at_call 17; refine (crash_ok (HC17.out.below HB18.out) (by omega) (by omega)).mono ?_; rintro e w19 ⟨g19, s19, rfl, hc19, hb19⟩; have HC19 := hide hc19; have HB19 := hide (HB18.out.trans (hb19.mono HB18.out.size)); clear hc19 hb19)
                            | (go_at_call 16; refine (whole_x HC19.out (by omega) (HG17.out.onb HB19.out)).mono ?_; rintro e w20 ⟨rfl, hb20⟩; have HB20 := hide (HB19.out.trans (hb20.mono HB19.out.size)); clear hb20))
                          go_roundw
                          · exact ⟨t + 1, Q, s17, g4, B4, A13, n13, c13, by omega, rfl, rfl, by go_num, hide ⟨{ HC17.out.below HB20.out with dat := (HC17.out.below HB20.out).dat.mono (by omega) }, HW4.out.2⟩, hide (HG17.out.onb HB20.out), hide (HB17.out.trans (HB20.out.mono HB17.out.size))⟩
                          · simp [intOf]; omega
              · as_aux_lemma =>
                  have HE : Hid (s2.dn = false ∧ s2.cs = [] ∧ Exact P s2.F ∧ (fb = false → s2.fall < 0)) := hide ⟨hx1, hx3, hx4, hx5⟩
                  clear hx1 hx3 hx4 hx5
                  go_upto_region 29 with (go_at_call 16; refine (whole_y HD2.out HPO.out HE.out.1 HE.out.2.1 HE.out.2.2.1 (by omega) HLl8.out).mono ?_; rintro e w9 ⟨rfl, hb9⟩; have HB89 := hide hb9; clear hb9)
                  have p2 : w9.cell? ⟨qs, 2, none⟩ = some (.int .i64 fall) := (HQS8.out.below HB89.out HQS8.out.lt).cell 2
                  rcases bit1 fall with hb1 | hb1
                  · have hf : fb = false := by rw [HFB.out ()]; exact decide_eq_false (by rw [hb1]; omega)
                    go_wp2_with fail
                    go_roundw
                    · exact ⟨t + 1, P, s2, g, B, A5, nl, c5, by omega, rfl, rfl, by go_num, hide ⟨⟨(HD2.out.below HB89.out).mono (by omega), HPO.out, HE.out.1, HE.out.2.1, HE.out.2.2.1, HE.out.2.2.2 hf⟩, HOO.out.2⟩, hide (HLl8.out.onb HB89.out), hide (HB8.out.trans (HB89.out.mono HB8.out.size))⟩
                    · simp [intOf]; omega
                  · go_upto_region 30 with fail
                    clear p2
                    have HQS9 := hide (HQS8.out.below HB89.out HQS8.out.lt)
                    have HQR9 := hide (HQR8.out.below HB89.out HQR8.out.lt)
                    have HL9 := hide (HL8.out.onb HB89.out)
                    have HLl9 := hide (HLl8.out.onb HB89.out)
                    have HB9 : Hid (Below w.heap.size w w9) := hide (HB8.out.trans (HB89.out.mono HB8.out.size))
                    have HD9 := hide (HD2.out.below HB89.out)
                    have p3 : w9.cell? ⟨qs, 3, none⟩ = some (.slice kA kk kc) := HQS9.out.cell 3
                    obtain ⟨Q, hQO, hQ, hgood⟩ : ∃ Q, OkX Q ∧ (Q = P ∨ Q = P) ∧ Good Q ((kept ks s2.cs).foldl chDo s2.F) := ⟨P, HPO.out, .inl rfl, by rw [HE.out.2.1, kept_nil_cs]; exact HE.out.2.2.1.good⟩
                    have HQQ : Hid (OkX Q ∧ (Q = P ∨ Q = P)) := hide ⟨hQO, hQ⟩
                    have HGD := hide hgood
                    have HKR : Hid (∀ W, Below w.heap.size w W → Rd W (fun k => W.heap.size ≤ k) 1 kA kk (ks.map Value.bool)) := hide (fun W hb => (HNR.out.2.1.below hb).weak (fun b h1 h2 => by have := hb.size; omega))
                    clear hQO hQ hgood HQS8 HQR8 HL8 HLl8 HB8 HB89 HD2 HX2
                    go_upto_region 31 with (go_at_call 17; refine (crash_x HD9.out HQQ.out.1 ks HGD.out (by omega) (by omega) (HKR.out w9 HB9.out) HNR.out.2.2).mono ?_; rintro e w10 ⟨g3, s3, rfl, hu10, hc10, hf10, hb10⟩; have HU10 := hide (And.intro hu10 hf10); have HB910 := hide hb10; clear hu10 hc10 hf10 hb10)
                    have HQS10 := hide (HQS9.out.below HB910.out HQS9.out.lt)
                    have HQR10 := hide (HQR9.out.below HB910.out HQR9.out.lt)
                    have HL10 := hide (HL9.out.onb HB910.out)
                    have HLl10 := hide (HLl9.out.onb HB910.out)
                    have HB10 : Hid (Below w.heap.size w w10) := hide (HB9.out.trans (HB910.out.mono HB9.out.size))
                    have HW9 : Hid (w.heap.size ≤ w9.heap.size) := hide HB9.out.size
                    obtain ⟨B9, hB9⟩ : ∃ b, b = w9.heap.size := ⟨_, rfl⟩
                    rw [← hB9] at HU10 HW9
                    clear hB9 HQS9 HQR9 HL9 HLl9 HB9 HD9 HGD HB910 p3
                    have p4 : w10.cell? ⟨qs, 4, none⟩ = some (.int .i64 again) := HQS10.out.cell 4
                    go_upto_if 107 with fail
                    go_cut [5] (fun v wx => ∃ (g3 B3 : Nat) (s3 : Ds), v = .pointer (some ⟨g3, 0, none⟩) ∧ Hid (Up wx B3 g3 N (400 * t + 160) Q s3 ∧ s3.fall < 0 ∧ w.heap.size ≤ B3) ∧ Hid (Blk wx qs 56 #[.slice nA nk nc, .int .i64 seed, .int .i64 fall, .slice kA kk kc, .int .i64 again]) ∧ Hid (∃ u : Value, Blk wx qr 34 #[u]) ∧ Hid (LiX wx w.heap.size O AL nL cL) ∧ Hid (LiX wx w.heap.size P A5 nl c5) ∧ Hid (Below w.heap.size w wx))
                    case first =>
                      as_aux_lemma =>
                        obtain ⟨y, hy15, hyb⟩ := i64_low' 4 15 (by omega) rfl (again / 2)
                        replace hyb : bits .and .i64 (again / 2) 15 = (y : Int) := hyb
                        rcases bit1 again with hb1 | hb1
                        · go_wp2_with fail
                          go_meet
                          exact ⟨g3, B9, s3, rfl, hide ⟨{ HU10.out.1 with dat := HU10.out.1.dat.mono (by omega) }, HU10.out.2, HW9.out⟩, HQS10, hide ⟨_, HQR10.out⟩, HL10, HLl10, HB10⟩
                        · go_upto_region 33 with (go_at_call 19; refine (fall_ds B9 g3 N (400 * t + 100) s3 w10 HU10.out.1.dat (y : Int) (by omega)).mono ?_; rintro e w11 ⟨rfl, hd11, hf11⟩; have HD11 := hide hd11; have HF11 := hide hf11; clear hd11 hf11)
                          have HQS11 := hide (HF11.out.far qs _ _ (by decide) (by decide) HQS10.out)
                          have HQR11 := hide (HF11.out.far qr _ _ (by decide) (by decide) HQR10.out)
                          have HL11 := hide (HL10.out.fr HF11.out)
                          have HLl11 := hide (HLl10.out.fr HF11.out)
                          have HB11 : Hid (Below w.heap.size w w11) := hide (HB10.out.trans (HF11.out.bel.mono HW9.out))
                          have HU11 : Hid (Up w11 B9 g3 N (400 * t + 100) Q { s3 with fall := max (y : Int) 0 }) := hide ⟨HD11.out, HQQ.out.1, HU10.out.1.dn, ⟨HU10.out.1.hs.good, HU10.out.1.hs.harm⟩⟩
                          have f0 := HQR11.out.frozen 0
                          have q0 : w11.cell? ⟨qr, 0, none⟩ = some (.pointer (some ⟨g, 0, none⟩)) := HQR11.out.cell 0
                          go_upto_region 34 with fail
                          obtain ⟨w12, hw12⟩ : ∃ x, x = w11.setCell ⟨qr, 0, none⟩ (.pointer (some ⟨g3, 0, none⟩)) := ⟨_, rfl⟩
                          have HK12 : Hid (Keep (fun k => k = qr) w11 w12) := hide (by rw [hw12]; exact (Keep.refl (fun k => k = qr) w11).setCell (p := ⟨qr, 0, none⟩) (fun _ => rfl) _)
                          have HQR12 : Hid (Blk w12 qr 34 #[.pointer (some ⟨g3, 0, none⟩)]) := hide (by rw [hw12]; exact HQR11.out.set_ 0 _)
                          rw [← hw12]
                          clear hw12
                          have HU12 := hide ({ HU11.out with dat := (HU11.out).dat.store HQR11.out (by decide) (by decide) HK12.out })
                          have HQS12 := hide (HQS11.out.keep HK12.out (fun e => (HQS11.out.ne_ HQR11.out (by decide)) e))
                          have HL12 := hide (HL11.out.store HQR11.out (by decide) (by decide) HK12.out)
                          have HLl12 := hide (HLl11.out.store HQR11.out (by decide) (by decide) HK12.out)
                          have HB12 : Hid (Below w.heap.size w w12) := hide (HB11.out.trans (HK12.out.below (B := w.heap.size) HB11.out.size (fun k hk => by rw [hk]; exact HQW.out)))
                          clear HU11 HQS11 HL11 HLl11 HB11 HK12 HQR11 f0 q0
                          have q0 : w12.cell? ⟨qr, 0, none⟩ = some (.pointer (some ⟨g3, 0, none⟩)) := HQR12.out.cell 0
                          go_upto_region 35 with (go_at_call 10; refine (recov_x HU12.out (by omega)).mono ?_; rintro e w13 ⟨s13, x13, A13, n13, c13, rfl, hx13, hl13, hd13, hf13, hh13, _⟩; have HX13 := hide hx13; have HD13 := hide hd13; have HF13 := hide hf13; have HH13 := hide hh13; clear hx13 hl13 hd13 hf13 hh13)
                          have HQS13 := hide (HF13.out.far qs _ _ (by decide) (by decide) HQS12.out)
                          have HQR13 := hide (HF13.out.far qr _ _ (by decide) (by decide) HQR12.out)
                          have HL13 := hide (HL12.out.fr HF13.out)
                          have HLl13 := hide (HLl12.out.fr HF13.out)
                          have HB13 : Hid (Below w.heap.size w w13) := hide (HB12.out.trans (HF13.out.bel.mono HW9.out))
                          have HGK := hide (HH13.out.kept HQQ.out.1 ks)
                          have p3 : w13.cell? ⟨qs, 3, none⟩ = some (.slice kA kk kc) := HQS13.out.cell 3
                          clear HQS12 HQR12 HL12 HLl12 HB12 HU12 HF13 q0
                          rcases HX13.out with rfl | rfl
                          · go_wp2_with (go_at_call 17; refine (crash_x HD13.out HQQ.out.1 ks HGK.out (by omega) (by omega) (HKR.out w13 HB13.out) HNR.out.2.2).mono ?_; rintro e w14 ⟨g14, s14, rfl, hu14, hc14, hf14, hb14⟩; have HU14 := hide (And.intro hu14 hf14); have HB14 := hide hb14; clear hu14 hc14 hf14 hb14)
                            go_meet
                            exact ⟨g14, w13.heap.size, s14, rfl, hide ⟨HU14.out.1, HU14.out.2, HB13.out.size⟩, hide (HQS13.out.below HB14.out HQS13.out.lt), hide ⟨_, HQR13.out.below HB14.out HQR13.out.lt⟩, hide (HL13.out.onb HB14.out), hide (HLl13.out.onb HB14.out), hide (HB13.out.trans (HB14.out.mono HB13.out.size))⟩
                          · go_wp2_with (go_at_call 17; refine (crash_x HD13.out HQQ.out.1 ks HGK.out (by omega) (by omega) (HKR.out w13 HB13.out) HNR.out.2.2).mono ?_; rintro e w14 ⟨g14, s14, rfl, hu14, hc14, hf14, hb14⟩; have HU14 := hide (And.intro hu14 hf14); have HB14 := hide hb14; clear hu14 hc14 hf14 hb14)
                            go_meet
                            exact ⟨g14, w13.heap.size, s14, rfl, hide ⟨HU14.out.1, HU14.out.2, HB13.out.size⟩, hide (HQS13.out.below HB14.out HQS13.out.lt), hide ⟨_, HQR13.out.below HB14.out HQR13.out.lt⟩, hide (HL13.out.onb HB14.out), hide (HLl13.out.onb HB14.out), hide (HB13.out.trans (HB14.out.mono HB13.out.size))⟩
                    case rest =>
                      obtain ⟨g4, B4, s4, rfl, HU4, HQS11, HQR4, HL11, HLl11, HB11⟩ := hcut
                      clear HU10 HQS10 HQR10 HL10 HLl10 HB10 p4
                      obtain ⟨u4, hqr4⟩ := HQR4.out
                      have HQR11 := hide hqr4
                      clear hqr4 HQR4
                      have HU11 : Hid (Up wc B4 g4 N (400 * t + 160) Q s4) := hide HU4.out.1
                      have HW4 : Hid (s4.fall < 0 ∧ w.heap.size ≤ B4) := hide HU4.out.2
                      have f0 := HQR11.out.frozen 0
                      have q0 : wc.cell? ⟨qr, 0, none⟩ = some u4 := HQR11.out.cell 0
                      clear HU4
                      go_upto_region 39 with fail
                      obtain ⟨w12, hw12⟩ : ∃ x, x = wc.setCell ⟨qr, 0, none⟩ (.pointer (some ⟨g4, 0, none⟩)) := ⟨_, rfl⟩
                      have HK12 : Hid (Keep (fun k => k = qr) wc w12) := hide (by rw [hw12]; exact (Keep.refl (fun k => k = qr) wc).setCell (p := ⟨qr, 0, none⟩) (fun _ => rfl) _)
                      have HQR12 : Hid (Blk w12 qr 34 #[.pointer (some ⟨g4, 0, none⟩)]) := hide (by rw [hw12]; exact HQR11.out.set_ 0 _)
                      rw [← hw12]
                      clear hw12
                      have HU12 := hide ({ HU11.out with dat := (HU11.out).dat.store HQR11.out (by decide) (by decide) HK12.out })
                      have HQS12 := hide (HQS11.out.keep HK12.out (fun e => (HQS11.out.ne_ HQR11.out (by decide)) e))
                      have HL12 := hide (HL11.out.store HQR11.out (by decide) (by decide) HK12.out)
                      have HLl12 := hide (HLl11.out.store HQR11.out (by decide) (by decide) HK12.out)
                      have HB12 : Hid (Below w.heap.size w w12) := hide (HB11.out.trans (HK12.out.below (B := w.heap.size) HB11.out.size (fun k hk => by rw [hk]; exact HQW.out)))
                      clear HU11 HQS11 HL11 HLl11 HB11 HK12 HQR11 f0 q0
                      have q0 : w12.cell? ⟨qr, 0, none⟩ = some (.pointer (some ⟨g4, 0, none⟩)) := HQR12.out.cell 0
                      go_upto_region 40 with (go_at_call 10; refine (recov_x HU12.out (by omega)).mono ?_; rintro e w13 ⟨s13, x13, A13, n13, c13, rfl, _, hl13, _, hf13, _, hx13⟩; obtain ⟨rfl, hc13⟩ := hx13 HW4.out.1; have HC13 := hide hc13; have HF13 := hide hf13; have HG13 := hide (hl13.base HB12.out.size); clear hl13 hc13 hf13 hx13)
                      have HQR13 := hide (HF13.out.far qr _ _ (by decide) (by decide) HQR12.out)
                      have HL13 := hide (HL12.out.fr HF13.out)
                      have HLl13 := hide (HLl12.out.fr HF13.out)
                      have HB13 : Hid (Below w.heap.size w w13) := hide (HB12.out.trans (HF13.out.bel.mono HW4.out.2))
                      clear HQS12 HQR12 HL12 HLl12 HB12 HU12 HF13 q0
                      by_cases hqo : Q = P
                      case neg =>
                        as_aux_lemma =>
                          exact absurd (HQQ.out.2.elim id id) hqo
                      case pos =>
                        as_aux_lemma =>
                          have HS1 := hide (same_x HQQ.out.1 HPO.out HG13.out HLl13.out)
                          rw [decide_eq_true hqo] at HS1
                          go_upto_region 42 with (first
                            | (go_at_call 18; refine HS1.out.mono ?_; rintro e w15 ⟨rfl, hb15⟩; have HB15 := hide hb15; clear hb15)
                            | (go_at_call 16; refine (whole_x (HC13.out.below HB15.out) (by omega) (HG13.out.onb HB15.out)).mono ?_; rintro e w16 ⟨rfl, hb16⟩; have HB16 := hide (HB15.out.trans (hb16.mono HB15.out.size)); clear hb16))
                          have HC16 := hide (HC13.out.below HB16.out)
                          have HG16 := hide (HG13.out.onb HB16.out)
                          have HQR16 := hide (HQR13.out.below HB16.out HQR13.out.lt)
                          have HBW16 : Hid (Below w.heap.size w w16) := hide (HB13.out.trans (HB16.out.mono HB13.out.size))
                          have q0 : w16.cell? ⟨qr, 0, none⟩ = some (.pointer (some ⟨g4, 0, none⟩)) := HQR16.out.cell 0
                          go_upto_region 43 with (go_at_call 10; refine (recov_x HC16.out.up (by omega)).mono ?_; rintro e w17 ⟨s17, x17, A17, n17, c17, rfl, _, hl17, _, hf17, _, hx17⟩; obtain ⟨rfl, hc17⟩ := hx17 HC16.out.fall; have HC17 := hide hc17; have HF17 := hide hf17; have HA17 := hide hl17; clear hl17 hc17 hf17 hx17)
                          have HG17 := hide (HG16.out.fr HF17.out)
                          have HB17 : Hid (Below w.heap.size w w17) := hide (HBW16.out.trans (HF17.out.bel.mono HW4.out.2))
                          have HS2 := hide (same_x HQQ.out.1 HQQ.out.1 HA17.out HG17.out)
                          rw [decide_eq_true (rfl : Q = Q)] at HS2
                          clear HC16 HG16 HQR16 HBW16 q0 HF17
                          go_wp2_with (first
                            | (go_at_call 18; refine HS2.out.mono ?_; rintro e w18 ⟨rfl, hb18⟩; have HB18 := hide hb18; clear hb18)
                            | (go_at_call 17; refine (crash_ok (HC17.out.below HB18.out) (by omega) (by omega)).mono ?_; rintro e w19 ⟨g19, s19, rfl, hc19, hb19⟩; have HC19 := hide hc19; have HB19 := hide (HB18.out.trans (hb19.mono HB18.out.size)); clear hc19 hb19)
                            | (go_at_call 16; refine (whole_x HC19.out (by omega) (HG17.out.onb HB19.out)).mono ?_; rintro e w20 ⟨rfl, hb20⟩; have HB20 := hide (HB19.out.trans (hb20.mono HB19.out.size)); clear hb20))
                          go_roundw
                          · exact ⟨t + 1, Q, s17, g4, B4, A13, n13, c13, by omega, rfl, rfl, by go_num, hide ⟨{ HC17.out.below HB20.out with dat := (HC17.out.below HB20.out).dat.mono (by omega) }, HW4.out.2⟩, hide (HG17.out.onb HB20.out), hide (HB17.out.trans (HB20.out.mono HB17.out.size))⟩
                          · simp [intOf]; omega
end Go.Proofs.Ytclgiapmbmbknaa
