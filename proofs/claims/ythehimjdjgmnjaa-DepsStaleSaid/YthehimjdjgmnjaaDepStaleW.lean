/- DepsStale, walked; no statement of the seat is proved here. (Written by gen/depstale.py out of gen/depstale.src.) -/
import Derived.Test.YthehimjdjgmnjaaDepSt5
import Derived.Test.YthehimjdjgmnjaaAppRdD
import Derived.BigQuiet
import Derived.Deep.DeepCutAuto
import Derived.Deep.RegionHeld3
namespace Go.Proofs.Ythehimjdjgmnjaa
open Go.RowKit Go.Maps Go.Sort
set_option linter.unusedVariables false
set_option linter.unusedSimpArgs false

abbrev Trn.cells (x : Trn) : List Value := [.int .i64 x.K, .int .i64 x.N]
def Trn.ok (x : Trn) : Prop := (-9223372036854775808 ≤ x.K ∧ x.K ≤ 9223372036854775807) ∧ -9223372036854775808 ≤ x.N ∧ x.N ≤ 9223372036854775807
theorem tx_le (s : List UInt8) (B : Nat) (h : s.length ≤ B) (hB : B ≤ 1000000) : (tx s).length ≤ B + 9 := by
  have := vi_len_9 s.length (by omega)
  unfold tx
  rw [List.length_append]
  omega
/-- A face that is few, its super's name a little longer. -/
theorem lite_le {f : Fc} {w : World} {F : Nat → Prop} (h : f.at_ w F) (hn : f.n.length ≤ 60) (hs : f.su.length ≤ 200) (hfl : f.fl ≤ 12) (hml : f.ml ≤ 12) (hf : ∀ v ∈ f.fs, v.few) (hm : ∀ m ∈ f.ms, m.few) : (fcL f.pl).length ≤ 1099511627000 := by
  have tyle : ∀ t : Ty, t.n.length ≤ 60 → (tyL t).length ≤ 70 := fun t ht => by
    have := tx_le t.n 60 ht (by omega)
    have h1 : (fl t.a).length = 1 := by cases t.a <;> rfl
    unfold tyL
    rw [List.length_append]
    omega
  have h1 := tx_le f.n 60 hn (by omega)
  have h2 := tx_le f.su 200 hs (by omega)
  have h3 : f.fs.length ≤ 12 := by rw [h.1.2.1]; exact hfl
  have h4 : f.ms.length ≤ 12 := by rw [h.2.1.2.1]; exact hml
  have h5 := vi_len_9 f.fs.length (by omega)
  have h6 := vi_len_9 f.ms.length (by omega)
  have h7 := catAll_len (f := vrL) (l := f.fs) 139 (fun v hv => by
    have a := hf v hv
    have b := tx_le v.n 60 a.1 (by omega)
    have c := tyle v.t a.2
    unfold vrL
    rw [List.length_append]
    omega)
  have h8 := catAll_len (f := sgL) (l := f.ms.map Sg.pl) 1000 (fun q hq => by
    obtain ⟨m, hmm, rfl⟩ := List.mem_map.1 hq
    have a := hm m hmm
    have b := tx_le m.n 60 a.1 (by omega)
    have c := tyle m.r a.2.1
    have hl : m.ps.length ≤ 10 := by rw [(h.2.1.2.2.2 m hmm).2.1]; exact a.2.2.1
    have d := vi_len_9 m.ps.length (by omega)
    have e := catAll_len (f := tyL) (l := m.ps) 70 (fun p hp => tyle p (a.2.2.2 p hp))
    have h1 : (fl m.st).length = 1 := by cases m.st <;> rfl
    have e2 : 70 * m.ps.length ≤ 700 := by omega
    show (tx m.n ++ (fl m.st ++ (tyL m.r ++ (vi m.ps.length ++ catAll tyL m.ps)))).length ≤ 1000
    simp only [List.length_append]
    omega)
  rw [List.length_map] at h8
  show (tx f.n ++ (tx f.su ++ (vi f.fs.length ++ (catAll vrL f.fs ++ (vi (f.ms.map Sg.pl).length ++ catAll sgL (f.ms.map Sg.pl)))))).length ≤ _
  simp only [List.length_append, List.length_map]
  omega
theorem few_le2 {f : Fc} {w : World} {F : Nat → Prop} (h : f.at_ w F) (hf : f.few) : (fcL f.pl).length ≤ 1099511627000 := lite_le h hf.2.2.1 (by have := hf.2.2.2.1; omega) hf.1 hf.2.1 hf.2.2.2.2.1 hf.2.2.2.2.2

theorem txS_len (n : List UInt8) : (txS n).length = 32 := sumM_len _
theorem EnOw.mk0 (w : World) (B : Nat) (n d : List UInt8) (h : d.length = 32) : EnOw w B ⟨n, d, none, 0, 0, [], []⟩ := ⟨h, fun r hr => (by cases hr), rfl, by simp, World.ownsRow_nil _ _ _ _⟩
theorem EnOw.mk1 (w : World) (B : Nat) (n d : List UInt8) (A : Option Addr) (k c : Nat) (rs : List Rdq) (h : d.length = 32) (h1 : RdsOk rs) (h2 : rs.length = k) (h3 : k ≤ 10) (h4 : w.ownsRow B 77 33 (.slice A k c) k (rs.flatMap Rdq.cells)) : EnOw w B ⟨n, d, A, k, c, rs, []⟩ := ⟨h, h1, h2, h3, h4⟩
theorem pl_app {L : List Enq} {T : List Fc} {R : List Sl} {kl : List Bool} {t : Nat} {n d : List UInt8} {A : Option Addr} {k c : Nat} {rs : List Rdq} (h : L.map Enq.pl = E1 T R kl t) (hk : knA kl t = true) (hn : n = nmG t) (hd : d = txS (nmG t)) (hr : rs = (rdA R t).map (rdOf T)) : (L ++ [(⟨n, d, A, k, c, rs, []⟩ : Enq)]).map Enq.pl = E1 T R kl (t + 1) := by
  rw [List.map_append, h, E1, if_pos hk, ← hd, ← hn, ← hr] <;> rfl
theorem en_reads {n d : List UInt8} {A : Option Addr} {k c : Nat} {rs : List Rdq} (ev0 : Array Value) (h : ev0 = (Enq.cells ⟨n, d, none, 0, 0, [], []⟩).toArray) : ev0.setIfInBounds 33 (.slice A k c) = (Enq.cells ⟨n, d, A, k, c, rs, []⟩).toArray := by
  rw [h]
  have hl := dpad_len d
  simp [Enq.cells, List.set_append, hl]
theorem S1.set_ {w wr : World} {B nb bm g m s : Nat} {T : List Fc} {L : List Enq} {Al : Option Addr} {cl nT N : Nat} {F : Fd} {q : Nat} {cs : Array Value} (h : S1 w B nb bm g m s T L Al cl nT N F wr) (hq : Blk wr q 39 cs) (i : Nat) (v : Value) (hB : B ≤ q) (hown : (Value.slice Al L.length cl).ownBlock ≠ some q) : S1 w B nb bm g m s T L Al cl nT N F (wr.setCell ⟨q, i, none⟩ v) := by
  have hk : Keep (fun b => b = q) wr (wr.setCell ⟨q, i, none⟩ v) := (Keep.refl (fun b => b = q) wr).setCell (p := ⟨q, i, none⟩) (fun _ => rfl) v
  exact { h with
    own := own_keep h.own hk (fun k hk e => hown (by rw [hk, e]))
    en := fun e he => (h.en e he).keep hk (fun k hk e2 => own_blk_ne (h.en e he).own hq (by decide) (by rw [hk, e2]))
    tab := h.tab.keep hk (by have := h.lt; omega) (by have := h.lt; omega) (by have := h.lt; omega)
    dg := h.dg.of_block (hk.block bm h.dg.lt (dg_ne_blk h.dg hq).symm)
    nm := h.nm.keep hk (fun e => by have h1 := h.nm; rw [e] at h1; unfold Blk at h1 hq; rw [h1] at hq; cases hq)
    be := h.be.trans (hk.below h.be.size (fun k hk => by rw [hk]; have := h.lt; omega))
    lt := by have := h.lt; have := hk.size; omega }

set_option maxRecDepth 100000 in
set_option maxHeartbeats 8000000 in
theorem stale_walk (A : Option Addr) (n c : Nat) (T : List Fc) (A1 : Option Addr) (n1 c1 : Nat) (R : List Sl) (A2 : Option Addr) (n2 c2 : Nat) (X : List Trn) (A3 : Option Addr) (n3 c3 : Nat) (kl : List Bool) (w : World)
    (h : FcsAt w (fun k => w.heap.size ≤ k) A n T)
    (hR : Rd w (fun k => w.heap.size ≤ k) 1 A1 n1 (R.flatMap Sl.cells)) (hRl : R.length = n1) (hRb : n1 ≤ 9223372036854775807) (hRo : ∀ x ∈ R, x.at_ w (fun k => w.heap.size ≤ k))
    (hX : Rd w (fun k => w.heap.size ≤ k) 2 A2 n2 (X.flatMap Trn.cells)) (hXl : X.length = n2) (hXb : n2 ≤ 9223372036854775807) (hXo : ∀ x ∈ X, x.ok)
    (hk : Rd w (fun k => w.heap.size ≤ k) 1 A3 n3 (kl.map Value.bool)) (hkl : kl.length = n3) (hkb : n3 ≤ 9223372036854775807) :
    Calls Try.prog 3 #[.slice A n c, .slice A1 n1 c1, .slice A2 n2 c2, .slice A3 n3 c3] w (Gives w (.bool true)) := by
  have HF := hide h
  have hAb := h.2.2.1
  have HR := hide hR
  have HRL := hide hRl
  have HRO := hide hRo
  have HX := hide hX
  have HXL := hide hXl
  have HXO := hide hXo
  have HKN := hide hk
  have HKL := hide hkl
  clear h hR hRl hRo hX hXl hXo hk hkl
  have hmm := @run_makeMap Try.prog
  go_enter Try.func3, Try.ntmps3
  go_wp2_with fail
  refine (head_any w).mono ?_
  rintro e w1 ⟨rfl, hb1⟩
  have HF1 := hide (HF.out.below hb1)
  go_wp2_with fail
  refine (fewlist_any A n c T w1 (HF1.out.weak (fun k hk => Nat.le_trans hb1.size hk))).mono ?_
  rintro e w2 ⟨B, rfl, hb2', hB⟩
  have hb2 : Below w.heap.size w w2 := hb1.trans (hb2'.mono hb1.size)
  have HB2 := hide hb2
  clear hb1 hb2' HF1 hb2
  cases B with
  | false =>
    go_wp2_with fail
    go_ret
    exact ⟨rfl, HB2.out⟩
  | true =>
    have HFW := hide (hB rfl)
    clear hB
    by_cases h10 : n1 ≤ 10
    case neg =>
      have hd : ((10 : Int) < (n1 : Int)) := by omega
      go_wp2_with fail
      go_ret
      exact ⟨rfl, HB2.out⟩
    by_cases h11 : n2 ≤ 10
    case neg =>
      have hd : ((10 : Int) < (n2 : Int)) := by omega
      go_wp2_with fail
      go_ret
      exact ⟨rfl, HB2.out⟩
    by_cases h12 : n3 ≤ 20
    case neg =>
      have hd : ((20 : Int) < (n3 : Int)) := by omega
      go_wp2_with fail
      go_ret
      exact ⟨rfl, HB2.out⟩
    have HFF2 : Hid (FcsAt w2 (fun k => w2.heap.size ≤ k) A n T) := hide ((HF.out.below HB2.out).weak (fun k hk => Nat.le_trans HB2.out.size hk))
    go_wp2_with fail
    refine (new_any A n c T w2 HFF2.out (by have := HFW.out.1; omega)).mono ?_
    rintro e w3 ⟨g, m, s, rfl, hT3, hb3, hg, hm, hs⟩
    have HT3 := hide hT3
    have HS0 : Hid (w.heap.size ≤ s ∧ w.heap.size ≤ g ∧ w.heap.size ≤ m) := hide (by have := HB2.out.size; omega)
    have HB3 : Hid (Below w.heap.size w w3) := hide (HB2.out.trans (hb3.mono HB2.out.size))
    clear hT3 hb3 hg hm hs HFF2 HB2
    go_upto_region 9 with fail
    obtain ⟨B, hB⟩ : ∃ x, x = w3.heap.size := ⟨_, rfl⟩
    obtain ⟨bm, hbm⟩ : ∃ x, x = w3.heap.size + 1 := ⟨_, rfl⟩
    obtain ⟨nb, hnb⟩ : ∃ x, x = w3.heap.size + 1 + 1 := ⟨_, rfl⟩
    obtain ⟨wI, hwI⟩ : ∃ wI, wI = ((w3.alloc (.cells #[] 39)).alloc (.map #[] 0)).alloc (.cells #[.string { data := #[65] }, .string { data := #[66] }, .string { data := #[67] }, .string { data := #[68] }] 9) := ⟨_, rfl⟩
    have HS : Hid (S1 w B nb bm g m s T [] (some ⟨B, 0, none⟩) 0 0 0 (F1 0) wI) := hide (by
      have hb : Below w3.heap.size w3 wI := by rw [hwI]; exact (((Below.refl _ w3).alloc (Nat.le_refl _) _).alloc (by simp) _).alloc (by simp; omega) _
      refine ⟨?_, fun e he => (by cases he), HT3.out.below hb, ?_, ?_, HB3.out.trans (hb.mono HB3.out.size), ?_⟩
      · have h0 := World.ownsRow_lit (e := 39) (base := w3.heap.size) (size := 66) w3 #[] 0 (Nat.le_refl _) (by unfold maxLen; omega) rfl
        rw [hwI, hB]
        exact own_keep (F := fun _ => False) h0 (((Keep.refl _ _).alloc _).alloc _) (fun _ _ h => h)
      · rw [hwI, hbm]
        have h0 := DgIs.made (w3.alloc (.cells #[] 39))
        rw [World.size_alloc] at h0
        exact h0.below ((Below.refl _ _).alloc (Nat.le_refl _) _)
      · rw [hwI, hnb]
        have h0 := Blk.new ((w3.alloc (.cells #[] 39)).alloc (.map #[] 0)) 9 #[S [65], S [66], S [67], S [68]]
        rwa [World.size_alloc, World.size_alloc] at h0
      · have h1 := HT3.out.blk.lt
        have h2 := HT3.out.faces.lt
        have h3 := HT3.out.slt
        have h4 := HS0.out
        have h5 := hb.size
        omega)
    rw [← hwI, ← hnb, ← hbm, ← hB]
    clear hwI hnb hbm hmm
    have HLB : Hid (B = w3.heap.size) := hide hB
    clear hB
    have HOK : Hid (FcsOk w T) := hide (fun f hf => ⟨HF.out.2.2.2 f hf, few_le2 (HF.out.2.2.2 f hf) (HFW.out.2 f hf)⟩)
    obtain ⟨ze, hze⟩ : ∃ z, z = ZE := ⟨_, rfl⟩
    have hzero : ∀ w, (zeroValue 39).run Try.prog w = .ok (.agg ze) w := fun w => by rw [hze]; exact zero_en w
    have HZS : Hid (ze.size = 66) := hide (by rw [hze]; rfl)
    have HZC : Hid ((Value.agg ZE).cells.size = 66) := hide rfl
    clear hze
    go_wp2_with fail
    go_loopw [10, 59] (fun u i wr => ∃ (t : Nat) (L : List Enq) (Al : Option Addr) (cl : Nat), t ≤ 4 ∧ u = .slice Al L.length cl ∧ i = .int .i64 t ∧ Hid (S1 w B nb bm g m s T L Al cl (10 * t) t (F1 t) wr) ∧ Hid (L.map Enq.pl = E1 T R kl t)) (fun _ i _ => 4 - (intOf i).toNat)
    case atStart => exact ⟨0, [], some ⟨B, 0, none⟩, 0, by omega, rfl, rfl, HS, hide rfl⟩
    case round =>
      obtain ⟨t, L, Al, cl, ht, rfl, rfl, HSR, HPL⟩ := hrel
      have HLN : Hid (L.length ≤ 4) := hide (by
        have h1 : L.length = (E1 T R kl t).length := by rw [← HPL.out, List.length_map]
        have h2 : ∀ t, (E1 T R kl t).length ≤ t := fun t => by
          induction t with
          | zero => simp [E1]
          | succ t ih =>
            simp only [E1, List.length_append]
            split <;> simp <;> omega
        have := h2 t
        omega)
      have hln9 : L.length ≤ 9223372036854775807 := by have := HLN.out; omega
      by_cases hlt : t < 4
      case neg =>
        obtain rfl : t = 4 := by omega
        clear hlt
        have HLI : Hid (Lite w (fun k => w.heap.size ≤ k) 0 T) := hide (Lite.of_few HF.out.2.2.2 HFW.out.2)
        have HRN : Hid (Rd (wr.alloc (.cells #[] 47)) (fun k => w.heap.size ≤ k) 4 A n (T.flatMap Fc.cells)) := hide ((HF.out.below HSR.out.be).1.alloc _)
        have HONE : Hid (∀ u ∈ T.flatMap Fc.cells, u.oneCell' = true) := hide (fcs_one T)
        have HOWN : Hid ((wr.alloc (.cells #[] 47)).ownsRow B 47 4 (.slice (some ⟨wr.heap.size, 0, none⟩) 0 0) 0 []) := hide (own_base_mono (World.ownsRow_lit (base := wr.heap.size) wr #[] 0 (Nat.le_refl _) (by unfold maxLen; omega) rfl) (by have := HSR.out.lt; omega))
        have hn8 : n ≤ 8 := HFW.out.1
        go_upto_region 22 with (at_builtin; go_loud (refine app_rd rfl (.tmp 108) (.tmp 109) 22 rfl B 47 _ 4 80 Try.underlying22 fc_info rfl (by decide) _ 0 [] rfl HOWN.out A n c (T.flatMap Fc.cells) rfl HRN.out HONE.out (by unfold maxLen; omega) (by omega) (by have := HSR.out.lt; simp; omega) ?_); intro An cn w5 hown5 hg5 _; simp only [Nat.zero_add, List.nil_append] at hown5 ⊢; have HOWN5 := hide hown5; have HG5 := hide hg5; clear hown5 hg5)
        have HS2 : Hid (S2 w B nb bm g m s T L Al cl 4 (trFs (F1 4) (X.take 0)) An n cn (trTs T (X.take 0)) w5) := hide ⟨(HSR.out.below_ ((Below.refl _ wr).alloc (Nat.le_refl _) _)).row HOWN.out (by decide) (by decide) (by decide) (((Keep.refl _ (wr.alloc (.cells #[] 47)))).grown HG5.out (fun i hi _ => hi.symm)), HOWN5.out⟩
        clear HOWN5 HG5 HOWN HRN HONE HSR
        go_wp2_with fail
        go_loopw [113] (fun i wr => ∃ t : Nat, t ≤ n2 ∧ i = .int .i64 t ∧ Hid (S2 w B nb bm g m s T L Al cl (4 + t) (trFs (F1 4) (X.take t)) An n cn (trTs T (X.take t)) wr)) (fun i _ => n2 - (intOf i).toNat)
        case atStart => exact ⟨0, Nat.zero_le _, rfl, HS2⟩
        case round =>
          clear HS2
          obtain ⟨t, ht, rfl, HSR⟩ := hrel
          by_cases hlt : t < n2
          case neg =>
            obtain rfl : n2 = t := by omega
            clear hlt
            go_upto_region 38 with fail
            rw [show X.take n2 = X from List.take_of_length_le (by have := HXL.out; omega)] at HSR
            have HUW : Hid (FcsOk w (trTs T X)) := hide (fun f hf => by
              obtain ⟨a1, a2, a3, a4, a5, a6, a7⟩ := trTs_lite HLI.out X (by have := HXL.out; omega) f hf
              exact ⟨a1, lite_le a1 a2 (by have := HXL.out; omega) a4 a5 a6 a7⟩)
            have HUL : Hid ((trTs T X).length = n) := hide (by rw [trTs_len, HF.out.2.1])
            have HFO : Hid (FdOk (trFs (F1 4) X)) := hide (trFs_ok (F1_ok 4 (Nat.le_refl _)) X)
            obtain ⟨U, hU⟩ : ∃ U, U = trTs T X := ⟨_, rfl⟩
            obtain ⟨F, hF⟩ : ∃ F, F = trFs (F1 4) X := ⟨_, rfl⟩
            rw [← hU] at HUW HUL HSR
            rw [← hF] at HFO HSR
            clear hU hF HX HXO HXL HLI HS HT3 HB3 HS0 HLB HZS hzero
            have HFU : Hid (FcsAt wr (fun k => wr.heap.size ≤ k) An n U) := hide ⟨(Rd.of_ownB HSR.out.now).weak (fun k h1 h2 => by omega), HUL.out, hAb, fun f hf => ((HUW.out f hf).1.below HSR.out.s1.be).weak (fun k hk => Nat.le_trans HSR.out.s1.be.size hk)⟩
            go_upto_region 39 with (go_at_call 7; refine (new_any An n cn U wr HFU.out (by omega)).mono ?_; rintro e w6 ⟨g2, m2, s2, rfl, hT6, hb6, hg6, hm6, hs6⟩; have HT6 := hide hT6; have HB6 := hide hb6; have HS6 := hide (And.intro hg6 (And.intro hm6 hs6)); clear hT6 hb6 hg6 hm6 hs6)
            have HS : Hid (S2 w B nb bm g m s T L Al cl (4 + n2) F An n cn U w6) := hide (HSR.out.below_ HB6.out)
            have HB0 : Hid (w.heap.size ≤ w6.heap.size) := hide (Nat.le_trans HSR.out.s1.be.size HB6.out.size)
            have HS62 : Hid (wr.heap.size ≤ s2) := hide HS6.out.2.2
            have HBW : Hid (B ≤ wr.heap.size) := hide HSR.out.s1.lt.2.2.2.2.2.2.2.2
            have HFN : Hid (∀ W, Below w6.heap.size w6 W → FcsAt W (fun k => W.heap.size ≤ k) An n U) := hide (fun W hb => ⟨(Rd.of_ownB (own_keep (F := fun _ => False) HS.out.now (Keep.of_below hb (fun k h1 h2 => by omega)) (fun _ _ h => h))).weak (fun k h1 h2 => by omega), HUL.out, hAb, fun f hf => ((HUW.out f hf).1.below (HS.out.s1.be.trans (hb.mono HB0.out))).weak (fun k hk => Nat.le_trans (HS.out.s1.be.trans (hb.mono HB0.out)).size hk)⟩)
            have HLR6 : Hid (Rd w6 (fun b => b = s2) 66 Al L.length (L.flatMap Enq.cells)) := hide (((Rd.of_ownB HSR.out.s1.own).weak (G := fun b => b = s2) (fun k h1 h2 => by have := HS62.out; omega)).keep (Keep.of_below HB6.out (fun k h1 h2 => by omega)))
            have HEO6 : Hid (∀ e ∈ L, EnOk w6 s2 e) := hide (fun e he => by
              have h := HSR.out.s1.en e he
              exact ⟨h.es, h.ok, h.rl, by have := h.rk; omega, ((Rd.of_ownB h.own).weak (G := fun b => b = s2) (fun k h1 h2 => by have := HS62.out; omega)).keep (Keep.of_below HB6.out (fun k h1 h2 => by omega))⟩)
            have HBS2 : Hid (bm ≠ s2) := hide (by have := HSR.out.s1.dg.lt; have := HS62.out; omega)
            have HS2W : Hid (w.heap.size ≤ s2) := hide (Nat.le_trans HSR.out.s1.be.size HS62.out)
            clear HFU HSR HB6 HS6
            have HOW0 : Hid ((w6.alloc (.cells #[] 9)).ownsRow w6.heap.size 9 1 (.slice (some ⟨w6.heap.size, 0, none⟩) 0 0) 0 []) := hide (World.ownsRow_lit (base := w6.heap.size) w6 #[] 0 (Nat.le_refl _) (by unfold maxLen; omega) rfl)
            have HBE0 : Hid (Below w6.heap.size w6 (w6.alloc (.cells #[] 9))) := hide ((Below.refl _ w6).alloc (Nat.le_refl _) _)
            have HZC1 : Hid ((S []).cells.size = 1) := hide rfl
            obtain ⟨zc, hzc⟩ : ∃ z, z = ZC := ⟨_, rfl⟩
            have hzero2 : ∀ w, (zeroValue 35).run Try.prog w = .ok (.agg zc) w := fun w => by rw [hzc]; exact zero_dig w
            have HZS : Hid (zc.size = 32) := hide (by rw [hzc]; rfl)
            clear hzc
            go_wp2_with fail
            go_loopw [169, 22] (fun i u wr => ∃ (t : Nat) (cnt cw : Nat) (Aw : Option Addr), t ≤ 4 ∧ i = .int .i64 t ∧ u = .slice Aw cnt cw ∧ Hid (cnt = (W1 T U R kl F t).length) ∧ Hid (wr.ownsRow w6.heap.size 9 1 (.slice Aw cnt cw) cnt ((W1 T U R kl F t).map S)) ∧ Hid (Below w6.heap.size w6 wr)) (fun i _ _ => 4 - (intOf i).toNat)
            case atStart => exact ⟨0, 0, 0, _, by omega, rfl, rfl, hide rfl, HOW0, HBE0⟩
            case round =>
              clear HOW0 HBE0
              obtain ⟨t, cnt, cw, Aw, ht, rfl, rfl, HCN, HOW, HBE⟩ := hrel
              have hcnt : cnt ≤ 4 := by
                have h1 : ∀ t, (W1 T U R kl F t).length ≤ t := fun t => by
                  induction t with
                  | zero => simp [W1]
                  | succ t ih =>
                    simp only [W1, List.length_append]
                    split <;> simp <;> omega
                have h2 := h1 t
                have := HCN.out
                omega
              by_cases hlt : t < 4
              case neg =>
                obtain rfl : t = 4 := by omega
                clear hlt
                have HSW := hide (HS.out.below_ HBE.out)
                have HLR : Hid (Rd wr (fun b => b = s2) 66 Al L.length (L.flatMap Enq.cells)) := hide (HLR6.out.keep (Keep.of_below HBE.out (fun k h1 h2 => by omega)))
                have HEO : Hid (∀ e ∈ L, EnOk wr s2 e) := hide (fun e he => { HEO6.out e he with rr := (HEO6.out e he).rr.keep (Keep.of_below HBE.out (fun k h1 h2 => by omega)) })
                have HCK := hide (stale_any w g2 m2 s2 0 bm (4 + n2) U Al L.length cl L F wr (HT6.out.below HBE.out) (by omega) (by omega) (by have := HLN.out; omega) rfl HLR.out HEO.out HSW.out.s1.dg HBS2.out (fun k d hk => ⟨(HFO.out k d hk).1, nmA_short (HFO.out k d hk).2⟩) HUW.out HSW.out.s1.be HS2W.out)
                have HS2L : Hid (s2 < w6.heap.size) := hide HT6.out.slt
                go_upto_region 56 with (go_at_call 11; refine HCK.out.mono ?_; rintro e wS ⟨A9, c9, l9, rfl, hN9, hO9, hK9⟩; have he9 : l9.filter (staleM U L F) = W1 T U R kl F 4 := filter_is HPL.out hN9 (fun k hk => by obtain ⟨d, hd⟩ := Option.isSome_iff_exists.1 hk; exact (HFO.out k d hd).2); rw [he9, ← HCN.out] at hO9; rw [he9, ← HCN.out]; have HO9 := hide hO9; have HK9 := hide hK9; clear hN9 hO9 hK9 he9 l9)
                have HOS : Hid (wS.ownsRow w6.heap.size 9 1 (.slice Aw cnt cw) cnt ((W1 T U R kl F 4).map S)) := hide (own_keep HOW.out HK9.out (fun k hk e => by have := own_base HOW.out hk; have := HS2L.out; omega))
                have HBS : Hid (Below w.heap.size w wS) := hide (HSW.out.s1.be.trans (HK9.out.below (B := w.heap.size) HSW.out.s1.be.size (fun k hk => by rw [hk]; exact HS2W.out)))
                obtain ⟨Wl, hWl⟩ : ∃ l, l = W1 T U R kl F 4 := ⟨_, rfl⟩
                have HWL : Hid (Wl.length = cnt) := hide (by rw [hWl]; exact HCN.out.symm)
                rw [← hWl] at HO9 HOS
                clear hWl HSW HLR HEO HCK HS2L HCN HOW HBE HK9
                go_wp2_with fail
                go_loopw [246] (fun i wr => ∃ t : Nat, t ≤ cnt ∧ i = .int .i64 t ∧ Hid (wr.ownsRow w6.heap.size 9 1 (.slice Aw cnt cw) cnt (Wl.map S)) ∧ Hid (∃ B9, wr.ownsRow B9 9 1 (.slice A9 cnt c9) cnt (Wl.map S)) ∧ Hid (Below w.heap.size w wr)) (fun i _ => cnt - (intOf i).toNat)
                case atStart => exact ⟨0, Nat.zero_le _, rfl, HOS, hide ⟨_, HO9.out⟩, HBS⟩
                case round =>
                  clear HOS HO9 HBS
                  obtain ⟨k, hk, rfl, HOS, HO9, HBS⟩ := hrel
                  by_cases hlk : k < cnt
                  case neg =>
                    go_wp2_with fail
                    go_ret
                    exact ⟨rfl, HBS.out⟩
                  have hkl : k < Wl.length := by rw [HWL.out]; exact hlk
                  obtain ⟨x, hx⟩ : ∃ x, x = Wl[k] := ⟨_, rfl⟩
                  have HOA := HOS
                  obtain ⟨y1, p1, rfl, _, _, hd1⟩ := Rd.rec_ (f := fun s => [S s]) (l := Wl) (size := 1) (fun _ => rfl) (by rw [← List.map_eq_flatMap]; exact Rd.of_ownB HOS.out) HWL.out k hlk
                  have HOB := HO9
                  obtain ⟨B9, hO9⟩ := HO9.out
                  obtain ⟨y2, p2, rfl, _, _, hd2⟩ := Rd.rec_ (f := fun s => [S s]) (l := Wl) (size := 1) (fun _ => rfl) (by rw [← List.map_eq_flatMap]; exact Rd.of_ownB hO9) HWL.out k hlk
                  have qa : wr.cell? ⟨y1, p1 + k, none⟩ = some (S x) := by have := hd1 0 (S x) (by rw [hx]; rfl); simpa using this
                  have qb : wr.cell? ⟨y2, p2 + k, none⟩ = some (S x) := by have := hd2 0 (S x) (by rw [hx]; rfl); simpa using this
                  clear hx hd1 hd2 hO9
                  go_upto_region 61 with fail
                  go_quiet (fail)
                  go_wp2_with fail
                  go_roundw
                  · exact ⟨k + 1, by omega, by go_num, HOA, HOB, hide (bdrewN HBS.out _)⟩
                  · simp [intOf]; omega
              obtain ⟨nm, hnm⟩ : ∃ x, x = nmG t := ⟨_, rfl⟩
              have HNM : Hid (∀ _ : Unit, nm = nmG t) := hide (fun _ => hnm)
              have HSX := hide (HS.out.below_ HBE.out)
              have q0 : wr.cell? ⟨nb, t, none⟩ = some (S nm) := by rw [hnm]; exact nm_cell HSX.out.s1.nm hlt
              have hnl : nm.length ≤ 1 := by rw [hnm]; exact nmG_short t
              have hkey := key_S (show short nm by unfold short; omega)
              obtain ⟨dd, hdd⟩ : ∃ d, d = (F nm).getD Z32 := ⟨_, rfl⟩
              have HDL : Hid (dd.length = 32) := hide (by
                rw [hdd]
                cases hf : F nm with
                | none => rfl
                | some d => exact (HFO.out nm d hf).1)
              obtain ⟨dz, hdz⟩ : ∃ z, z = darr dd := ⟨_, rfl⟩
              have HDZ : Hid (dz.size = 32 ∧ dz.all (·.oneCell') = true) := hide ⟨by rw [hdz, darr_size, HDL.out], by rw [hdz]; exact darr_one _⟩
              obtain ⟨is, his⟩ : ∃ b, b = (F nm).isSome := ⟨_, rfl⟩
              obtain ⟨D, hD1, hD2⟩ := HSX.out.s1.dg
              have hV : D.atKey (.string nm) (DataW.held (Value.agg ZC)) = DataW.held (Value.agg dz) := by
                rw [(hD2.2 nm).2, hdz, hdd]
                cases F nm with
                | none => show DataW.held (Value.agg ZC) = _; rw [ZC_is]; rfl
                | some d => rfl
              have hB := (hD2.2 nm).1
              rw [← his] at hB
              have HDX : Hid (dd = (F (nmG t)).getD Z32) := hide (by rw [← hnm]; exact hdd)
              have HIX : Hid (is = (F (nmG t)).isSome) := hide (by rw [← hnm]; exact his)
              have HDV : Hid (∀ _ : Unit, dz = darr dd) := hide (fun _ => hdz)
              clear hdd his hnm hdz
              obtain ⟨wE, hwE⟩ : ∃ wE, wE = (wr.alloc (.cells zc 35)).setCells wr.heap.size 0 dz.toList := ⟨_, rfl⟩
              have HBX := hide (box_any wr 35 zc dz (by rw [HDZ.out.1, HZS.out]))
              rw [← hwE] at HBX
              have HZT : Hid ((wr.alloc (.cells zc 35)).there wr.heap.size 0 dz.size) := hide ((Blk.new wr 35 zc).there_ (by rw [HDZ.out.1, HZS.out]))
              go_upto_region 44 with (first
                | (at_lookup; refine lookup_face _ rfl _ _ 32 rfl 9 35 klaw Try.underlying32 (zero_dig _) bm (4 + n2) D rfl hD1 _ _ rfl hkey (.agg dz) is hV hB ?_)
                | (refine wpList_store_mid rfl 35 (.tmp 25) (.tmp 178) rfl wr.heap.size 0 dz rfl rfl HZT.out (by rw [HDZ.out.1]; exact dig_info) HDZ.out.2 ?_))
              rw [← hwE]
              have HBQ : Hid (Below w6.heap.size w6 wE) := hide (HBE.out.trans (HBX.out.2.mono HBE.out.size))
              have HQ : Hid (Blk wE wr.heap.size 35 dz) := hide HBX.out.1
              have HOQ : Hid (wE.ownsRow w6.heap.size 9 1 (.slice Aw cnt cw) cnt ((W1 T U R kl F t).map S)) := hide (own_keep (F := fun _ => False) HOW.out (Keep.of_below HBX.out.2 (fun k h1 h2 => by omega)) (fun _ _ h => h))
              have HQ6 : Hid (w6.heap.size ≤ wr.heap.size) := hide HBE.out.size
              obtain ⟨q, hq⟩ : ∃ q, q = wr.heap.size := ⟨_, rfl⟩
              rw [← hq] at HQ HQ6 ⊢
              clear hwE HBX HZT hq hV hB hD1 hD2 HSX HBE HOW q0 hkey
              cases is with
              | false =>
                have HWN : Hid (W1 T U R kl F (t + 1) = W1 T U R kl F t) := hide (by rw [W1, ← HIX.out]; simp)
                go_wp2_with fail
                go_roundw
                · refine ⟨t + 1, cnt, cw, Aw, by omega, by go_num, rfl, ?_, ?_, HBQ⟩
                  · rw [HWN.out]; exact HCN
                  · rw [HWN.out]; exact HOQ
                · simp [intOf]; omega
              | true =>
                have HWN : Hid (W1 T U R kl F (t + 1) = W1 T U R kl F t ++ if stA T U R kl F t then [nm] else []) := hide (by rw [W1, ← HIX.out, HNM.out ()]; simp)
                obtain ⟨R1, hR1⟩ : ∃ b, b = (dd != txS nm) := ⟨_, rfl⟩
                have HST : Hid (stA T U R kl F t = (R1 || !knA kl t || (rdA R t).any (fun r => digM T r != digM U r))) := hide (by rw [hR1, HNM.out (), HDX.out]; rfl)
                have HSU := hide (fun W => sum_lit W ([116, 101, 120, 116, 32] ++ nm) (by simp; omega))
                rw [show sumM ([116, 101, 120, 116, 32] ++ nm) = txS nm from rfl] at HSU
                obtain ⟨ez, hez⟩ : ∃ z, z = darr (txS nm) := ⟨_, rfl⟩
                rw [← hez] at HSU
                have heq : ∀ w, (binOp .neq 35 (.agg dz) (.agg ez)).run Try.prog w = .ok (.bool R1) w := fun w => by rw [HDV.out (), hez, hR1]; exact run_neq_darr dd (txS nm) HDL.out (txS_len nm) w
                clear hez hR1 HDX
                go_upto_region 45 with fail
                go_cut [27] (fun v wx => v = .bool (R1 || !knA kl t) ∧ Hid (Below wE.heap.size wE wx))
                case first =>
                  have hdu := Try.underlying35
                  have hdi : (Try.prog.info? 35).map (·.size) = some dz.toList.length := by rw [Array.length_toList, HDZ.out.1]; exact dig_info
                  cases R1 with
                  | true =>
                    have HS3 : Hid (∀ w', Below wE.heap.size wE w' → w'.rangeAt q 0 dz.toList ∧ True) := hide (fun w' hb => ⟨(HQ.out.below hb HQ.out.lt).range, trivial⟩)
                    refine wp_region_noPanic ?_
                    refine wp_region_held_drew (S := fun w' => w'.rangeAt q 0 dz.toList ∧ True) (by kernel_rfl) (HS3.out _ ((Below.refl _ wE).drew)) (fun hHeld => ?_)
                    refine wpAnyH_take (i := 0) (by simp only [List.getElem?_toArray, List.getElem?_cons_zero]; rfl) (by kernel_rfl) (by kernel_rfl) (by kernel_rfl) (fun _ _ _ h => h) (yieldsIf_load_mid (by rfl) _ _ rfl q 0 rfl dz.toList _ (fun _ h => h.1) hdu rfl hdi) (by assumption) ?_
                    simp only [Act.put, List.setIfInBounds_toArray, List.set_cons_zero, List.set_cons_succ, Array.toArray_toList]
                    refine wpAnyH_take (i := 1) (v := ?_) (by simp only [List.getElem?_toArray, List.getElem?_cons_zero, List.getElem?_cons_succ]; rfl) (by kernel_rfl) (by kernel_rfl) (by kernel_rfl) (fun _ _ _ h => h) (Or.inl ⟨by rfl, ?_⟩) (by assumption) ?_
                    rotate_left
                    · (intro wS hSw; have c1 := hSw.2; go_simp; try with_reducible rfl)
                    try simp only [Act.put, List.setIfInBounds_toArray, List.set_cons_zero, List.set_cons_succ]
                    refine wpAnyH_take (i := 2) (v := S ([116, 101, 120, 116, 32] ++ nm)) (by simp only [List.getElem?_toArray, List.getElem?_cons_zero, List.getElem?_cons_succ]; rfl) (by kernel_rfl) (by kernel_rfl) (by kernel_rfl) (fun _ _ _ h => h) (Or.inl ⟨by rfl, ?_⟩) (by assumption) ?_
                    · (intro wS hSw; go_simp; omega)
                    try simp only [Act.put, List.setIfInBounds_toArray, List.set_cons_zero, List.set_cons_succ]
                    refine wpAnyH_ready (rs := [3]) (by kernel_rfl) (by simp) ?_
                    refine AllReadyH.cons (by simp only [List.getElem?_toArray, List.getElem?_cons_zero, List.getElem?_cons_succ]; rfl) (fun K hK => ?_) AllReadyH.nil
                    go_simp
                    go_wp2_with fail
                    refine hK.out _ _ (HS3.out _ ((Below.refl _ wE).drew.alloc (Nat.le_refl _) _)) (fun hHeld => ?_)
                    clear hK K
                    try simp only [Act.put, List.setIfInBounds_toArray, List.set_cons_zero, List.set_cons_succ]
                    refine wpAnyH_ready (rs := [4]) (by kernel_rfl) (by simp) ?_
                    refine AllReadyH.cons (by simp only [List.getElem?_toArray, List.getElem?_cons_zero, List.getElem?_cons_succ]; rfl) (fun K hK => ?_) AllReadyH.nil
                    go_simp
                    go_at_call 8
                    refine (HSU.out wE.drew).mono ?_
                    rintro e wS ⟨rfl, hbS⟩
                    have HBS : Hid (Below wE.heap.size wE wS) := hide ((Below.refl _ wE).drew.trans hbS)
                    clear hbS
                    go_wp2_with fail
                    refine hK.out _ _ (HS3.out _ HBS.out) (fun hHeld => ?_)
                    clear hK K
                    try simp only [Act.put, List.setIfInBounds_toArray, List.set_cons_zero, List.set_cons_succ]
                    refine wpAnyH_take (i := 5) (v := ?_) (by simp only [List.getElem?_toArray, List.getElem?_cons_zero, List.getElem?_cons_succ]; rfl) (by kernel_rfl) (by kernel_rfl) (by kernel_rfl) (fun _ _ _ h => h) (Or.inl ⟨by rfl, ?_⟩) (by assumption) ?_
                    rotate_left
                    · (intro wS hSw; have c1 := hSw.2; go_simp; try with_reducible rfl)
                    try simp only [Act.put, List.setIfInBounds_toArray, List.set_cons_zero, List.set_cons_succ]
                    refine wpAnyH_take (i := 6) (v := ?_) (by simp only [List.getElem?_toArray, List.getElem?_cons_zero, List.getElem?_cons_succ]; rfl) (by kernel_rfl) (by kernel_rfl) (by kernel_rfl) (fun _ _ _ h => h) (Or.inl ⟨by rfl, ?_⟩) (by assumption) ?_
                    rotate_left
                    · (intro wS hSw; have c1 := hSw.2; go_simp; try with_reducible rfl)
                    try simp only [Act.put, List.setIfInBounds_toArray, List.set_cons_zero, List.set_cons_succ]
                    refine wpAnyH_take (i := 7) (v := undef) (by simp only [List.getElem?_toArray, List.getElem?_cons_zero, List.getElem?_cons_succ]; rfl) (by kernel_rfl) (by kernel_rfl) (by kernel_rfl) (fun _ _ _ h => h) (Or.inr ⟨by rfl, rfl⟩) (by assumption) ?_
                    try simp only [Act.put, List.setIfInBounds_toArray, List.set_cons_zero, List.set_cons_succ]
                    refine wpAnyH_take (i := 8) (v := undef) (by simp only [List.getElem?_toArray, List.getElem?_cons_zero, List.getElem?_cons_succ]; rfl) (by kernel_rfl) (by kernel_rfl) (by kernel_rfl) (fun _ _ _ h => h) (Or.inr ⟨by rfl, rfl⟩) (by assumption) ?_
                    try simp only [Act.put, List.setIfInBounds_toArray, List.set_cons_zero, List.set_cons_succ]
                    refine wpAnyH_take (i := 9) (v := undef) (by simp only [List.getElem?_toArray, List.getElem?_cons_zero, List.getElem?_cons_succ]; rfl) (by kernel_rfl) (by kernel_rfl) (by kernel_rfl) (fun _ _ _ h => h) (Or.inr ⟨by rfl, rfl⟩) (by assumption) ?_
                    try simp only [Act.put, List.setIfInBounds_toArray, List.set_cons_zero, List.set_cons_succ]
                    refine wpAnyH_take (i := 10) (v := undef) (by simp only [List.getElem?_toArray, List.getElem?_cons_zero, List.getElem?_cons_succ]; rfl) (by kernel_rfl) (by kernel_rfl) (by kernel_rfl) (fun _ _ _ h => h) (Or.inr ⟨by rfl, rfl⟩) (by assumption) ?_
                    try simp only [Act.put, List.setIfInBounds_toArray, List.set_cons_zero, List.set_cons_succ]
                    refine wpAnyH_take (i := 11) (v := undef) (by simp only [List.getElem?_toArray, List.getElem?_cons_zero, List.getElem?_cons_succ]; rfl) (by kernel_rfl) (by kernel_rfl) (by kernel_rfl) (fun _ _ _ h => h) (Or.inr ⟨by rfl, rfl⟩) (by assumption) ?_
                    try simp only [Act.put, List.setIfInBounds_toArray, List.set_cons_zero, List.set_cons_succ]
                    refine wpAnyH_take (i := 12) (v := undef) (by simp only [List.getElem?_toArray, List.getElem?_cons_zero, List.getElem?_cons_succ]; rfl) (by kernel_rfl) (by kernel_rfl) (by kernel_rfl) (fun _ _ _ h => h) (Or.inr ⟨by rfl, rfl⟩) (by assumption) ?_
                    try simp only [Act.put, List.setIfInBounds_toArray, List.set_cons_zero, List.set_cons_succ]
                    refine wpAnyH_take (i := 13) (v := undef) (by simp only [List.getElem?_toArray, List.getElem?_cons_zero, List.getElem?_cons_succ]; rfl) (by kernel_rfl) (by kernel_rfl) (by kernel_rfl) (fun _ _ _ h => h) (Or.inr ⟨by rfl, rfl⟩) (by assumption) ?_
                    try simp only [Act.put, List.setIfInBounds_toArray, List.set_cons_zero, List.set_cons_succ]
                    refine wpAnyH_take (i := 14) (v := undef) (by simp only [List.getElem?_toArray, List.getElem?_cons_zero, List.getElem?_cons_succ]; rfl) (by kernel_rfl) (by kernel_rfl) (by kernel_rfl) (fun _ _ _ h => h) (Or.inr ⟨by rfl, rfl⟩) (by assumption) ?_
                    try simp only [Act.put, List.setIfInBounds_toArray, List.set_cons_zero, List.set_cons_succ]
                    refine wpAnyH_take (i := 15) (v := undef) (by simp only [List.getElem?_toArray, List.getElem?_cons_zero, List.getElem?_cons_succ]; rfl) (by kernel_rfl) (by kernel_rfl) (by kernel_rfl) (fun _ _ _ h => h) (Or.inr ⟨by rfl, rfl⟩) (by assumption) ?_
                    try simp only [Act.put, List.setIfInBounds_toArray, List.set_cons_zero, List.set_cons_succ]
                    refine wpAnyH_take (i := 16) (v := undef) (by simp only [List.getElem?_toArray, List.getElem?_cons_zero, List.getElem?_cons_succ]; rfl) (by kernel_rfl) (by kernel_rfl) (by kernel_rfl) (fun _ _ _ h => h) (Or.inr ⟨by rfl, rfl⟩) (by assumption) ?_
                    try simp only [Act.put, List.setIfInBounds_toArray, List.set_cons_zero, List.set_cons_succ]
                    refine wpAnyH_take (i := 17) (v := undef) (by simp only [List.getElem?_toArray, List.getElem?_cons_zero, List.getElem?_cons_succ]; rfl) (by kernel_rfl) (by kernel_rfl) (by kernel_rfl) (fun _ _ _ h => h) (Or.inr ⟨by rfl, rfl⟩) (by assumption) ?_
                    try simp only [Act.put, List.setIfInBounds_toArray, List.set_cons_zero, List.set_cons_succ]
                    refine wpAnyH_take (i := 18) (v := ?_) (by simp only [List.getElem?_toArray, List.getElem?_cons_zero, List.getElem?_cons_succ]; rfl) (by kernel_rfl) (by kernel_rfl) (by kernel_rfl) (fun _ _ _ h => h) (Or.inl ⟨by rfl, ?_⟩) (by assumption) ?_
                    rotate_left
                    · (intro wS hSw; have c1 := hSw.2; go_simp; try with_reducible rfl)
                    try simp only [Act.put, List.setIfInBounds_toArray, List.set_cons_zero, List.set_cons_succ]
                    refine wpAnyH_take (i := 19) (v := ?_) (by simp only [List.getElem?_toArray, List.getElem?_cons_zero, List.getElem?_cons_succ]; rfl) (by kernel_rfl) (by kernel_rfl) (by kernel_rfl) (fun _ _ _ h => h) (Or.inl ⟨by rfl, ?_⟩) (by assumption) ?_
                    rotate_left
                    · (intro wS hSw; have c1 := hSw.2; go_simp; try with_reducible rfl)
                    try simp only [Act.put, List.setIfInBounds_toArray, List.set_cons_zero, List.set_cons_succ]
                    refine wpAnyH_done (by kernel_rfl) ?_ _
                    refine NoPanic.normal ?_
                    go_wp2_with fail
                    go_meet
                    exact ⟨rfl, HBS⟩
                  | false =>
                    by_cases h3 : t < n3
                    case neg =>
                      have d3 : decide ((t : Int) < (n3 : Int)) = false := by simp; omega
                      have HKT : Hid (knA kl t = true) := hide (by unfold knA; rw [List.getD_eq_getElem?_getD, List.getElem?_eq_none (by rw [HKL.out]; omega)]; rfl)
                      have HS3 : Hid (∀ w', Below wE.heap.size wE w' → w'.rangeAt q 0 dz.toList ∧ True) := hide (fun w' hb => ⟨(HQ.out.below hb HQ.out.lt).range, trivial⟩)
                      refine wp_region_noPanic ?_
                      refine wp_region_held_drew (S := fun w' => w'.rangeAt q 0 dz.toList ∧ True) (by kernel_rfl) (HS3.out _ ((Below.refl _ wE).drew)) (fun hHeld => ?_)
                      refine wpAnyH_take (i := 0) (by simp only [List.getElem?_toArray, List.getElem?_cons_zero]; rfl) (by kernel_rfl) (by kernel_rfl) (by kernel_rfl) (fun _ _ _ h => h) (yieldsIf_load_mid (by rfl) _ _ rfl q 0 rfl dz.toList _ (fun _ h => h.1) hdu rfl hdi) (by assumption) ?_
                      simp only [Act.put, List.setIfInBounds_toArray, List.set_cons_zero, List.set_cons_succ, Array.toArray_toList]
                      refine wpAnyH_take (i := 1) (v := ?_) (by simp only [List.getElem?_toArray, List.getElem?_cons_zero, List.getElem?_cons_succ]; rfl) (by kernel_rfl) (by kernel_rfl) (by kernel_rfl) (fun _ _ _ h => h) (Or.inl ⟨by rfl, ?_⟩) (by assumption) ?_
                      rotate_left
                      · (intro wS hSw; have c1 := hSw.2; go_simp; try with_reducible rfl)
                      try simp only [Act.put, List.setIfInBounds_toArray, List.set_cons_zero, List.set_cons_succ]
                      refine wpAnyH_take (i := 2) (v := S ([116, 101, 120, 116, 32] ++ nm)) (by simp only [List.getElem?_toArray, List.getElem?_cons_zero, List.getElem?_cons_succ]; rfl) (by kernel_rfl) (by kernel_rfl) (by kernel_rfl) (fun _ _ _ h => h) (Or.inl ⟨by rfl, ?_⟩) (by assumption) ?_
                      · (intro wS hSw; go_simp; omega)
                      try simp only [Act.put, List.setIfInBounds_toArray, List.set_cons_zero, List.set_cons_succ]
                      refine wpAnyH_ready (rs := [3]) (by kernel_rfl) (by simp) ?_
                      refine AllReadyH.cons (by simp only [List.getElem?_toArray, List.getElem?_cons_zero, List.getElem?_cons_succ]; rfl) (fun K hK => ?_) AllReadyH.nil
                      go_simp
                      go_wp2_with fail
                      refine hK.out _ _ (HS3.out _ ((Below.refl _ wE).drew.alloc (Nat.le_refl _) _)) (fun hHeld => ?_)
                      clear hK K
                      try simp only [Act.put, List.setIfInBounds_toArray, List.set_cons_zero, List.set_cons_succ]
                      refine wpAnyH_ready (rs := [4]) (by kernel_rfl) (by simp) ?_
                      refine AllReadyH.cons (by simp only [List.getElem?_toArray, List.getElem?_cons_zero, List.getElem?_cons_succ]; rfl) (fun K hK => ?_) AllReadyH.nil
                      go_simp
                      go_at_call 8
                      refine (HSU.out wE.drew).mono ?_
                      rintro e wS ⟨rfl, hbS⟩
                      have HBS : Hid (Below wE.heap.size wE wS) := hide ((Below.refl _ wE).drew.trans hbS)
                      clear hbS
                      go_wp2_with fail
                      refine hK.out _ _ (HS3.out _ HBS.out) (fun hHeld => ?_)
                      clear hK K
                      try simp only [Act.put, List.setIfInBounds_toArray, List.set_cons_zero, List.set_cons_succ]
                      refine wpAnyH_take (i := 5) (v := ?_) (by simp only [List.getElem?_toArray, List.getElem?_cons_zero, List.getElem?_cons_succ]; rfl) (by kernel_rfl) (by kernel_rfl) (by kernel_rfl) (fun _ _ _ h => h) (Or.inl ⟨by rfl, ?_⟩) (by assumption) ?_
                      rotate_left
                      · (intro wS hSw; have c1 := hSw.2; go_simp; try with_reducible rfl)
                      try simp only [Act.put, List.setIfInBounds_toArray, List.set_cons_zero, List.set_cons_succ]
                      refine wpAnyH_take (i := 6) (v := ?_) (by simp only [List.getElem?_toArray, List.getElem?_cons_zero, List.getElem?_cons_succ]; rfl) (by kernel_rfl) (by kernel_rfl) (by kernel_rfl) (fun _ _ _ h => h) (Or.inl ⟨by rfl, ?_⟩) (by assumption) ?_
                      rotate_left
                      · (intro wS hSw; have c1 := hSw.2; go_simp; try with_reducible rfl)
                      try simp only [Act.put, List.setIfInBounds_toArray, List.set_cons_zero, List.set_cons_succ]
                      refine wpAnyH_take (i := 7) (v := ?_) (by simp only [List.getElem?_toArray, List.getElem?_cons_zero, List.getElem?_cons_succ]; rfl) (by kernel_rfl) (by kernel_rfl) (by kernel_rfl) (fun _ _ _ h => h) (Or.inl ⟨by rfl, ?_⟩) (by assumption) ?_
                      rotate_left
                      · (intro wS hSw; have c1 := hSw.2; go_simp; try with_reducible rfl)
                      try simp only [Act.put, List.setIfInBounds_toArray, List.set_cons_zero, List.set_cons_succ]
                      refine wpAnyH_take (i := 8) (v := ?_) (by simp only [List.getElem?_toArray, List.getElem?_cons_zero, List.getElem?_cons_succ]; rfl) (by kernel_rfl) (by kernel_rfl) (by kernel_rfl) (fun _ _ _ h => h) (Or.inl ⟨by rfl, ?_⟩) (by assumption) ?_
                      rotate_left
                      · (intro wS hSw; have c1 := hSw.2; go_simp; try with_reducible rfl)
                      try simp only [Act.put, List.setIfInBounds_toArray, List.set_cons_zero, List.set_cons_succ]
                      refine wpAnyH_take (i := 9) (v := ?_) (by simp only [List.getElem?_toArray, List.getElem?_cons_zero, List.getElem?_cons_succ]; rfl) (by kernel_rfl) (by kernel_rfl) (by kernel_rfl) (fun _ _ _ h => h) (Or.inl ⟨by rfl, ?_⟩) (by assumption) ?_
                      rotate_left
                      · (intro wS hSw; have c1 := hSw.2; go_simp; try with_reducible rfl)
                      try simp only [Act.put, List.setIfInBounds_toArray, List.set_cons_zero, List.set_cons_succ]
                      refine wpAnyH_take (i := 10) (v := ?_) (by simp only [List.getElem?_toArray, List.getElem?_cons_zero, List.getElem?_cons_succ]; rfl) (by kernel_rfl) (by kernel_rfl) (by kernel_rfl) (fun _ _ _ h => h) (Or.inl ⟨by rfl, ?_⟩) (by assumption) ?_
                      rotate_left
                      · (intro wS hSw; have c1 := hSw.2; go_simp; try with_reducible rfl)
                      try simp only [Act.put, List.setIfInBounds_toArray, List.set_cons_zero, List.set_cons_succ]
                      refine wpAnyH_take (i := 11) (v := ?_) (by simp only [List.getElem?_toArray, List.getElem?_cons_zero, List.getElem?_cons_succ]; rfl) (by kernel_rfl) (by kernel_rfl) (by kernel_rfl) (fun _ _ _ h => h) (Or.inl ⟨by rfl, ?_⟩) (by assumption) ?_
                      rotate_left
                      · (intro wS hSw; have c1 := hSw.2; go_simp; try with_reducible rfl)
                      try simp only [Act.put, List.setIfInBounds_toArray, List.set_cons_zero, List.set_cons_succ]
                      refine wpAnyH_take (i := 12) (v := undef) (by simp only [List.getElem?_toArray, List.getElem?_cons_zero, List.getElem?_cons_succ]; rfl) (by kernel_rfl) (by kernel_rfl) (by kernel_rfl) (fun _ _ _ h => h) (Or.inr ⟨by rfl, rfl⟩) (by assumption) ?_
                      try simp only [Act.put, List.setIfInBounds_toArray, List.set_cons_zero, List.set_cons_succ]
                      refine wpAnyH_take (i := 13) (v := undef) (by simp only [List.getElem?_toArray, List.getElem?_cons_zero, List.getElem?_cons_succ]; rfl) (by kernel_rfl) (by kernel_rfl) (by kernel_rfl) (fun _ _ _ h => h) (Or.inr ⟨by rfl, rfl⟩) (by assumption) ?_
                      try simp only [Act.put, List.setIfInBounds_toArray, List.set_cons_zero, List.set_cons_succ]
                      refine wpAnyH_take (i := 14) (v := undef) (by simp only [List.getElem?_toArray, List.getElem?_cons_zero, List.getElem?_cons_succ]; rfl) (by kernel_rfl) (by kernel_rfl) (by kernel_rfl) (fun _ _ _ h => h) (Or.inr ⟨by rfl, rfl⟩) (by assumption) ?_
                      try simp only [Act.put, List.setIfInBounds_toArray, List.set_cons_zero, List.set_cons_succ]
                      refine wpAnyH_take (i := 15) (v := undef) (by simp only [List.getElem?_toArray, List.getElem?_cons_zero, List.getElem?_cons_succ]; rfl) (by kernel_rfl) (by kernel_rfl) (by kernel_rfl) (fun _ _ _ h => h) (Or.inr ⟨by rfl, rfl⟩) (by assumption) ?_
                      try simp only [Act.put, List.setIfInBounds_toArray, List.set_cons_zero, List.set_cons_succ]
                      refine wpAnyH_take (i := 16) (v := undef) (by simp only [List.getElem?_toArray, List.getElem?_cons_zero, List.getElem?_cons_succ]; rfl) (by kernel_rfl) (by kernel_rfl) (by kernel_rfl) (fun _ _ _ h => h) (Or.inr ⟨by rfl, rfl⟩) (by assumption) ?_
                      try simp only [Act.put, List.setIfInBounds_toArray, List.set_cons_zero, List.set_cons_succ]
                      refine wpAnyH_take (i := 17) (v := ?_) (by simp only [List.getElem?_toArray, List.getElem?_cons_zero, List.getElem?_cons_succ]; rfl) (by kernel_rfl) (by kernel_rfl) (by kernel_rfl) (fun _ _ _ h => h) (Or.inl ⟨by rfl, ?_⟩) (by assumption) ?_
                      rotate_left
                      · (intro wS hSw; have c1 := hSw.2; go_simp; try with_reducible rfl)
                      try simp only [Act.put, List.setIfInBounds_toArray, List.set_cons_zero, List.set_cons_succ]
                      refine wpAnyH_take (i := 18) (v := ?_) (by simp only [List.getElem?_toArray, List.getElem?_cons_zero, List.getElem?_cons_succ]; rfl) (by kernel_rfl) (by kernel_rfl) (by kernel_rfl) (fun _ _ _ h => h) (Or.inl ⟨by rfl, ?_⟩) (by assumption) ?_
                      rotate_left
                      · (intro wS hSw; have c1 := hSw.2; go_simp; try with_reducible rfl)
                      try simp only [Act.put, List.setIfInBounds_toArray, List.set_cons_zero, List.set_cons_succ]
                      refine wpAnyH_take (i := 19) (v := ?_) (by simp only [List.getElem?_toArray, List.getElem?_cons_zero, List.getElem?_cons_succ]; rfl) (by kernel_rfl) (by kernel_rfl) (by kernel_rfl) (fun _ _ _ h => h) (Or.inl ⟨by rfl, ?_⟩) (by assumption) ?_
                      rotate_left
                      · (intro wS hSw; have c1 := hSw.2; go_simp; try with_reducible rfl)
                      try simp only [Act.put, List.setIfInBounds_toArray, List.set_cons_zero, List.set_cons_succ]
                      refine wpAnyH_done (by kernel_rfl) ?_ _
                      refine NoPanic.normal ?_
                      go_wp2_with fail
                      go_meet
                      exact ⟨by rw [HKT.out] <;> rfl, HBS⟩
                    case pos =>
                      have d3 : decide ((t : Int) < (n3 : Int)) = true := by simp; omega
                      have hlk3 : t < kl.length := by rw [HKL.out]; exact h3
                      obtain ⟨x3, o3, rfl, _, hx3, hc3⟩ := Rd.rec_ (size := 1) (l := kl) (f := fun b => [Value.bool b]) (fun _ => rfl) (by rw [← List.map_eq_flatMap]; exact HKN.out.below (HS.out.s1.be.trans (HBQ.out.mono HB0.out))) HKL.out t h3
                      obtain ⟨kb, hkb⟩ : ∃ b, b = kl[t] := ⟨_, rfl⟩
                      have q3 : wE.cell? ⟨x3, o3 + t, none⟩ = some (.bool kb) := by have := hc3 0 (.bool kb) (by rw [hkb]; rfl); simpa using this
                      have HKT : Hid (knA kl t = kb) := hide (by unfold knA; rw [List.getD_eq_getElem?_getD, List.getElem?_eq_getElem hlk3, hkb]; rfl)
                      have HS3 : Hid (∀ w', Below wE.heap.size wE w' → w'.rangeAt q 0 dz.toList ∧ w'.cell? ⟨x3, o3 + t, none⟩ = some (.bool kb)) := hide (fun w' hb => ⟨(HQ.out.below hb HQ.out.lt).range, (hb.cell (p := ⟨x3, o3 + t, none⟩) hx3).trans q3⟩)
                      clear hc3 hkb q3
                      refine wp_region_noPanic ?_
                      refine wp_region_held_drew (S := fun w' => w'.rangeAt q 0 dz.toList ∧ w'.cell? ⟨x3, o3 + t, none⟩ = some (.bool kb)) (by kernel_rfl) (HS3.out _ ((Below.refl _ wE).drew)) (fun hHeld => ?_)
                      refine wpAnyH_take (i := 0) (by simp only [List.getElem?_toArray, List.getElem?_cons_zero]; rfl) (by kernel_rfl) (by kernel_rfl) (by kernel_rfl) (fun _ _ _ h => h) (yieldsIf_load_mid (by rfl) _ _ rfl q 0 rfl dz.toList _ (fun _ h => h.1) hdu rfl hdi) (by assumption) ?_
                      simp only [Act.put, List.setIfInBounds_toArray, List.set_cons_zero, List.set_cons_succ, Array.toArray_toList]
                      refine wpAnyH_take (i := 1) (v := ?_) (by simp only [List.getElem?_toArray, List.getElem?_cons_zero, List.getElem?_cons_succ]; rfl) (by kernel_rfl) (by kernel_rfl) (by kernel_rfl) (fun _ _ _ h => h) (Or.inl ⟨by rfl, ?_⟩) (by assumption) ?_
                      rotate_left
                      · (intro wS hSw; have c1 := hSw.2; go_simp; try with_reducible rfl)
                      try simp only [Act.put, List.setIfInBounds_toArray, List.set_cons_zero, List.set_cons_succ]
                      refine wpAnyH_take (i := 2) (v := S ([116, 101, 120, 116, 32] ++ nm)) (by simp only [List.getElem?_toArray, List.getElem?_cons_zero, List.getElem?_cons_succ]; rfl) (by kernel_rfl) (by kernel_rfl) (by kernel_rfl) (fun _ _ _ h => h) (Or.inl ⟨by rfl, ?_⟩) (by assumption) ?_
                      · (intro wS hSw; go_simp; omega)
                      try simp only [Act.put, List.setIfInBounds_toArray, List.set_cons_zero, List.set_cons_succ]
                      refine wpAnyH_ready (rs := [3]) (by kernel_rfl) (by simp) ?_
                      refine AllReadyH.cons (by simp only [List.getElem?_toArray, List.getElem?_cons_zero, List.getElem?_cons_succ]; rfl) (fun K hK => ?_) AllReadyH.nil
                      go_simp
                      go_wp2_with fail
                      refine hK.out _ _ (HS3.out _ ((Below.refl _ wE).drew.alloc (Nat.le_refl _) _)) (fun hHeld => ?_)
                      clear hK K
                      try simp only [Act.put, List.setIfInBounds_toArray, List.set_cons_zero, List.set_cons_succ]
                      refine wpAnyH_ready (rs := [4]) (by kernel_rfl) (by simp) ?_
                      refine AllReadyH.cons (by simp only [List.getElem?_toArray, List.getElem?_cons_zero, List.getElem?_cons_succ]; rfl) (fun K hK => ?_) AllReadyH.nil
                      go_simp
                      go_at_call 8
                      refine (HSU.out wE.drew).mono ?_
                      rintro e wS ⟨rfl, hbS⟩
                      have HBS : Hid (Below wE.heap.size wE wS) := hide ((Below.refl _ wE).drew.trans hbS)
                      clear hbS
                      go_wp2_with fail
                      refine hK.out _ _ (HS3.out _ HBS.out) (fun hHeld => ?_)
                      clear hK K
                      try simp only [Act.put, List.setIfInBounds_toArray, List.set_cons_zero, List.set_cons_succ]
                      refine wpAnyH_take (i := 5) (v := ?_) (by simp only [List.getElem?_toArray, List.getElem?_cons_zero, List.getElem?_cons_succ]; rfl) (by kernel_rfl) (by kernel_rfl) (by kernel_rfl) (fun _ _ _ h => h) (Or.inl ⟨by rfl, ?_⟩) (by assumption) ?_
                      rotate_left
                      · (intro wS hSw; have c1 := hSw.2; go_simp; try with_reducible rfl)
                      try simp only [Act.put, List.setIfInBounds_toArray, List.set_cons_zero, List.set_cons_succ]
                      refine wpAnyH_take (i := 6) (v := ?_) (by simp only [List.getElem?_toArray, List.getElem?_cons_zero, List.getElem?_cons_succ]; rfl) (by kernel_rfl) (by kernel_rfl) (by kernel_rfl) (fun _ _ _ h => h) (Or.inl ⟨by rfl, ?_⟩) (by assumption) ?_
                      rotate_left
                      · (intro wS hSw; have c1 := hSw.2; go_simp; try with_reducible rfl)
                      try simp only [Act.put, List.setIfInBounds_toArray, List.set_cons_zero, List.set_cons_succ]
                      refine wpAnyH_take (i := 7) (v := ?_) (by simp only [List.getElem?_toArray, List.getElem?_cons_zero, List.getElem?_cons_succ]; rfl) (by kernel_rfl) (by kernel_rfl) (by kernel_rfl) (fun _ _ _ h => h) (Or.inl ⟨by rfl, ?_⟩) (by assumption) ?_
                      rotate_left
                      · (intro wS hSw; have c1 := hSw.2; go_simp; try with_reducible rfl)
                      try simp only [Act.put, List.setIfInBounds_toArray, List.set_cons_zero, List.set_cons_succ]
                      refine wpAnyH_take (i := 8) (v := ?_) (by simp only [List.getElem?_toArray, List.getElem?_cons_zero, List.getElem?_cons_succ]; rfl) (by kernel_rfl) (by kernel_rfl) (by kernel_rfl) (fun _ _ _ h => h) (Or.inl ⟨by rfl, ?_⟩) (by assumption) ?_
                      rotate_left
                      · (intro wS hSw; have c1 := hSw.2; go_simp; try with_reducible rfl)
                      try simp only [Act.put, List.setIfInBounds_toArray, List.set_cons_zero, List.set_cons_succ]
                      refine wpAnyH_take (i := 9) (v := ?_) (by simp only [List.getElem?_toArray, List.getElem?_cons_zero, List.getElem?_cons_succ]; rfl) (by kernel_rfl) (by kernel_rfl) (by kernel_rfl) (fun _ _ _ h => h) (Or.inl ⟨by rfl, ?_⟩) (by assumption) ?_
                      rotate_left
                      · (intro wS hSw; have c1 := hSw.2; go_simp; try with_reducible rfl)
                      try simp only [Act.put, List.setIfInBounds_toArray, List.set_cons_zero, List.set_cons_succ]
                      refine wpAnyH_take (i := 10) (v := ?_) (by simp only [List.getElem?_toArray, List.getElem?_cons_zero, List.getElem?_cons_succ]; rfl) (by kernel_rfl) (by kernel_rfl) (by kernel_rfl) (fun _ _ _ h => h) (Or.inl ⟨by rfl, ?_⟩) (by assumption) ?_
                      rotate_left
                      · (intro wS hSw; have c1 := hSw.2; go_simp; try with_reducible rfl)
                      try simp only [Act.put, List.setIfInBounds_toArray, List.set_cons_zero, List.set_cons_succ]
                      refine wpAnyH_take (i := 11) (v := ?_) (by simp only [List.getElem?_toArray, List.getElem?_cons_zero, List.getElem?_cons_succ]; rfl) (by kernel_rfl) (by kernel_rfl) (by kernel_rfl) (fun _ _ _ h => h) (Or.inl ⟨by rfl, ?_⟩) (by assumption) ?_
                      rotate_left
                      · (intro wS hSw; have c1 := hSw.2; go_simp; try with_reducible rfl)
                      try simp only [Act.put, List.setIfInBounds_toArray, List.set_cons_zero, List.set_cons_succ]
                      refine wpAnyH_take (i := 12) (v := ?_) (by simp only [List.getElem?_toArray, List.getElem?_cons_zero, List.getElem?_cons_succ]; rfl) (by kernel_rfl) (by kernel_rfl) (by kernel_rfl) (fun _ _ _ h => h) (Or.inl ⟨by rfl, ?_⟩) (by assumption) ?_
                      rotate_left
                      · (intro wS hSw; have c1 := hSw.2; go_simp; try with_reducible rfl)
                      try simp only [Act.put, List.setIfInBounds_toArray, List.set_cons_zero, List.set_cons_succ]
                      refine wpAnyH_take (i := 13) (v := ?_) (by simp only [List.getElem?_toArray, List.getElem?_cons_zero, List.getElem?_cons_succ]; rfl) (by kernel_rfl) (by kernel_rfl) (by kernel_rfl) (fun _ _ _ h => h) (Or.inl ⟨by rfl, ?_⟩) (by assumption) ?_
                      rotate_left
                      · (intro wS hSw; have c1 := hSw.2; go_simp; try with_reducible rfl)
                      try simp only [Act.put, List.setIfInBounds_toArray, List.set_cons_zero, List.set_cons_succ]
                      refine wpAnyH_take (i := 14) (v := ?_) (by simp only [List.getElem?_toArray, List.getElem?_cons_zero, List.getElem?_cons_succ]; rfl) (by kernel_rfl) (by kernel_rfl) (by kernel_rfl) (fun _ _ _ h => h) (Or.inl ⟨by rfl, ?_⟩) (by assumption) ?_
                      rotate_left
                      · (intro wS hSw; have c1 := hSw.2; go_simp; try with_reducible rfl)
                      try simp only [Act.put, List.setIfInBounds_toArray, List.set_cons_zero, List.set_cons_succ]
                      refine wpAnyH_take (i := 15) (v := ?_) (by simp only [List.getElem?_toArray, List.getElem?_cons_zero, List.getElem?_cons_succ]; rfl) (by kernel_rfl) (by kernel_rfl) (by kernel_rfl) (fun _ _ _ h => h) (Or.inl ⟨by rfl, ?_⟩) (by assumption) ?_
                      rotate_left
                      · (intro wS hSw; have c1 := hSw.2; go_simp; try with_reducible rfl)
                      try simp only [Act.put, List.setIfInBounds_toArray, List.set_cons_zero, List.set_cons_succ]
                      refine wpAnyH_take (i := 16) (v := ?_) (by simp only [List.getElem?_toArray, List.getElem?_cons_zero, List.getElem?_cons_succ]; rfl) (by kernel_rfl) (by kernel_rfl) (by kernel_rfl) (fun _ _ _ h => h) (Or.inl ⟨by rfl, ?_⟩) (by assumption) ?_
                      rotate_left
                      · (intro wS hSw; have c1 := hSw.2; go_simp; try with_reducible rfl)
                      try simp only [Act.put, List.setIfInBounds_toArray, List.set_cons_zero, List.set_cons_succ]
                      refine wpAnyH_take (i := 17) (v := ?_) (by simp only [List.getElem?_toArray, List.getElem?_cons_zero, List.getElem?_cons_succ]; rfl) (by kernel_rfl) (by kernel_rfl) (by kernel_rfl) (fun _ _ _ h => h) (Or.inl ⟨by rfl, ?_⟩) (by assumption) ?_
                      rotate_left
                      · (intro wS hSw; have c1 := hSw.2; go_simp; try with_reducible rfl)
                      try simp only [Act.put, List.setIfInBounds_toArray, List.set_cons_zero, List.set_cons_succ]
                      refine wpAnyH_take (i := 18) (v := ?_) (by simp only [List.getElem?_toArray, List.getElem?_cons_zero, List.getElem?_cons_succ]; rfl) (by kernel_rfl) (by kernel_rfl) (by kernel_rfl) (fun _ _ _ h => h) (Or.inl ⟨by rfl, ?_⟩) (by assumption) ?_
                      rotate_left
                      · (intro wS hSw; have c1 := hSw.2; go_simp; try with_reducible rfl)
                      try simp only [Act.put, List.setIfInBounds_toArray, List.set_cons_zero, List.set_cons_succ]
                      refine wpAnyH_take (i := 19) (v := ?_) (by simp only [List.getElem?_toArray, List.getElem?_cons_zero, List.getElem?_cons_succ]; rfl) (by kernel_rfl) (by kernel_rfl) (by kernel_rfl) (fun _ _ _ h => h) (Or.inl ⟨by rfl, ?_⟩) (by assumption) ?_
                      rotate_left
                      · (intro wS hSw; have c1 := hSw.2; go_simp; try with_reducible rfl)
                      try simp only [Act.put, List.setIfInBounds_toArray, List.set_cons_zero, List.set_cons_succ]
                      refine wpAnyH_done (by kernel_rfl) ?_ _
                      refine NoPanic.normal ?_
                      go_wp2_with fail
                      go_meet
                      exact ⟨by rw [HKT.out] <;> rfl, HBS⟩
                case rest =>
                  obtain ⟨hv, HX⟩ := hcut
                  subst hv
                  clear HSU heq HDV HDZ HDL HNM hnl HIX
                  have HBC : Hid (Below w6.heap.size w6 wc) := hide (HBQ.out.trans (HX.out.mono HBQ.out.size))
                  have HOC : Hid (wc.ownsRow w6.heap.size 9 1 (.slice Aw cnt cw) cnt ((W1 T U R kl F t).map S)) := hide (own_keep (F := fun _ => False) HOQ.out (Keep.of_below HX.out (fun k h1 h2 => by omega)) (fun _ _ h => h))
                  clear HX HQ HOQ HBQ HQ6
                  obtain ⟨st, hst⟩ : ∃ b, b = (R1 || !knA kl t) := ⟨_, rfl⟩
                  rw [← hst] at HST ⊢
                  clear hst
                  cases st with
                  | true =>
                    have HSTF : Hid (stA T U R kl F t = true) := hide (by rw [HST.out]; rfl)
                    by_cases h1 : t < n1
                    go_upto_region 54 with (at_builtin; have e1 := HOC.out.alloc (.cells #[S nm] 9); have e2 : Blk (wc.alloc (.cells #[S nm] 9)) wc.heap.size 9 [S nm].toArray := Blk.new _ _ _; refine wpList_appB rfl (.tmp 230) (.tmp 232) 33 rfl w6.heap.size 9 (S []) 1 16 Try.underlying33 str_info3 HZC1.out (by decide) (.slice Aw cnt cw) cnt ((W1 T U R kl F t).map S) ?hs e1 wc.heap.size [S nm] ?hx ?hl e2 ?h1 ?h63 ?hbytes ?hbase ?h; (case hs => exact rfl); (case hx => exact rfl); (case hl => exact rfl); (case h1 => (intro v hv; obtain rfl := List.mem_singleton.1 hv; rfl)); (case h63 => (unfold maxLen; omega)); (case hbytes => omega); (case hbase => (have := HBC.out.size; simp; omega)); intro A4 c4 w9 hown9 hg9; clear e1 e2; have HOWN9 := hide hown9; have HG9 := hide hg9; clear hown9 hg9)
                    have HWT : Hid (W1 T U R kl F (t + 1) = W1 T U R kl F t ++ [nm]) := hide (by rw [HWN.out, HSTF.out]; simp)
                    have HCT : Hid (cnt + 1 = (W1 T U R kl F (t + 1)).length) := hide (by rw [HWT.out, List.length_append, ← HCN.out]; rfl)
                    have HOT : Hid (w9.ownsRow w6.heap.size 9 1 (.slice A4 (cnt + 1) c4) (cnt + 1) ((W1 T U R kl F (t + 1)).map S)) := hide (by rw [HWT.out, List.map_append]; exact HOWN9.out)
                    have HBT : Hid (Below w6.heap.size w6 w9) := hide (HBC.out.trans ((((Keep.refl _ wc).alloc _).grown HG9.out (fun i hi _ => hi.symm)).below (B := w6.heap.size) HBC.out.size (fun k hk => own_base HOC.out hk.symm)))
                    clear HOWN9 HG9
                    go_wp2_with fail
                    go_roundw
                    case rel => exact ⟨t + 1, cnt + 1, c4, A4, by omega, by go_num, rfl, HCT, HOT, HBT⟩
                    case measure => simp [intOf]; omega
                    go_upto_region 54 with (at_builtin; have e1 := HOC.out.alloc (.cells #[S nm] 9); have e2 : Blk (wc.alloc (.cells #[S nm] 9)) wc.heap.size 9 [S nm].toArray := Blk.new _ _ _; refine wpList_appB rfl (.tmp 230) (.tmp 232) 33 rfl w6.heap.size 9 (S []) 1 16 Try.underlying33 str_info3 HZC1.out (by decide) (.slice Aw cnt cw) cnt ((W1 T U R kl F t).map S) ?hs e1 wc.heap.size [S nm] ?hx ?hl e2 ?h1 ?h63 ?hbytes ?hbase ?h; (case hs => exact rfl); (case hx => exact rfl); (case hl => exact rfl); (case h1 => (intro v hv; obtain rfl := List.mem_singleton.1 hv; rfl)); (case h63 => (unfold maxLen; omega)); (case hbytes => omega); (case hbase => (have := HBC.out.size; simp; omega)); intro A4 c4 w9 hown9 hg9; clear e1 e2; have HOWN9 := hide hown9; have HG9 := hide hg9; clear hown9 hg9)
                    have HWT : Hid (W1 T U R kl F (t + 1) = W1 T U R kl F t ++ [nm]) := hide (by rw [HWN.out, HSTF.out]; simp)
                    have HCT : Hid (cnt + 1 = (W1 T U R kl F (t + 1)).length) := hide (by rw [HWT.out, List.length_append, ← HCN.out]; rfl)
                    have HOT : Hid (w9.ownsRow w6.heap.size 9 1 (.slice A4 (cnt + 1) c4) (cnt + 1) ((W1 T U R kl F (t + 1)).map S)) := hide (by rw [HWT.out, List.map_append]; exact HOWN9.out)
                    have HBT : Hid (Below w6.heap.size w6 w9) := hide (HBC.out.trans ((((Keep.refl _ wc).alloc _).grown HG9.out (fun i hi _ => hi.symm)).below (B := w6.heap.size) HBC.out.size (fun k hk => own_base HOC.out hk.symm)))
                    clear HOWN9 HG9
                    go_wp2_with fail
                    go_roundw
                    case rel => exact ⟨t + 1, cnt + 1, c4, A4, by omega, by go_num, rfl, HCT, HOT, HBT⟩
                    case measure => simp [intOf]; omega
                  | false =>
                    by_cases h1 : t < n1
                    case neg =>
                      have HSTF : Hid (stA T U R kl F t = false) := hide (by rw [HST.out]; unfold rdA; rw [List.getElem?_eq_none (by rw [List.length_map, HRL.out]; omega)]; rfl)
                      have HWF : Hid (W1 T U R kl F (t + 1) = W1 T U R kl F t) := hide (by rw [HWN.out, HSTF.out]; simp)
                      go_wp2_with fail
                      go_roundw
                      case rel =>
                        refine ⟨t + 1, cnt, cw, Aw, by omega, by go_num, rfl, ?_, ?_, HBC⟩
                        · rw [HWF.out]; exact HCN
                        · rw [HWF.out]; exact HOC
                      case measure => simp [intOf]; omega
                    case pos =>
                      have hlr : t < R.length := by rw [HRL.out]; exact h1
                      have HBW0 : Hid (Below w.heap.size w wc) := hide (HS.out.s1.be.trans (HBC.out.mono HB0.out))
                      obtain ⟨x1, o1, rfl, _, _, hc1⟩ := Rd.rec_ (f := Sl.cells) (size := 1) (fun _ => rfl) (HR.out.below HBW0.out) HRL.out t h1
                      have hro := HRO.out _ (List.getElem_mem hlr)
                      have HRT : Hid (rdA R t = (R[t]).ss) := hide (by unfold rdA; rw [List.getElem?_map, List.getElem?_eq_getElem hlr]; rfl)
                      obtain ⟨xs, hxs⟩ : ∃ x, x = R[t] := ⟨_, rfl⟩
                      rw [← hxs] at hc1 hro HRT
                      clear hxs
                      obtain ⟨xA, xk, xc, xss⟩ := xs
                      have qs : wc.cell? ⟨x1, o1 + t, none⟩ = some (.slice xA xk xc) := by have := hc1 0 _ rfl; simpa using this
                      obtain ⟨hro1, hro2, hro3, hro4⟩ := hro
                      simp only at hro1 hro2 hro3 hro4 HRT
                      have HO1 := hide hro1
                      have HO2 := hide hro2
                      have HO4 := hide hro4
                      clear hc1 hro1 hro2 hro4
                      go_wp2_with fail
                      go_loopw [214, 27] (fun i b wr => ∃ k : Nat, k ≤ xk ∧ i = .int .i64 k ∧ b = .bool ((xss.take k).any (fun r => digM T r != digM U r)) ∧ Hid (wr.ownsRow w6.heap.size 9 1 (.slice Aw cnt cw) cnt ((W1 T U R kl F t).map S)) ∧ Hid (Below w6.heap.size w6 wr)) (fun i _ _ => xk - (intOf i).toNat)
                      case atStart => exact ⟨0, Nat.zero_le _, rfl, rfl, HOC, HBC⟩
                      case round =>
                        clear HOC HBC qs
                        obtain ⟨k, hk, rfl, rfl, HOL, HBL⟩ := hrel
                        obtain ⟨bb, hbb⟩ : ∃ b, b = (xss.take k).any (fun r => digM T r != digM U r) := ⟨_, rfl⟩
                        rw [← hbb]
                        by_cases hlk : k < xk
                        case neg =>
                          have HSA : Hid (stA T U R kl F t = bb) := hide (by rw [HST.out, HRT.out, hbb, List.take_of_length_le (by rw [HO2.out]; omega)]; rfl)
                          clear hbb
                          cases bb with
                          | true =>
                            have HSTF : Hid (stA T U R kl F t = true) := HSA
                            go_upto_region 54 with (at_builtin; have e1 := HOL.out.alloc (.cells #[S nm] 9); have e2 : Blk (wr.alloc (.cells #[S nm] 9)) wr.heap.size 9 [S nm].toArray := Blk.new _ _ _; refine wpList_appB rfl (.tmp 230) (.tmp 232) 33 rfl w6.heap.size 9 (S []) 1 16 Try.underlying33 str_info3 HZC1.out (by decide) (.slice Aw cnt cw) cnt ((W1 T U R kl F t).map S) ?hs e1 wr.heap.size [S nm] ?hx ?hl e2 ?h1 ?h63 ?hbytes ?hbase ?h; (case hs => exact rfl); (case hx => exact rfl); (case hl => exact rfl); (case h1 => (intro v hv; obtain rfl := List.mem_singleton.1 hv; rfl)); (case h63 => (unfold maxLen; omega)); (case hbytes => omega); (case hbase => (have := HBL.out.size; simp; omega)); intro A4 c4 w9 hown9 hg9; clear e1 e2; have HOWN9 := hide hown9; have HG9 := hide hg9; clear hown9 hg9)
                            have HWT : Hid (W1 T U R kl F (t + 1) = W1 T U R kl F t ++ [nm]) := hide (by rw [HWN.out, HSTF.out]; simp)
                            have HCT : Hid (cnt + 1 = (W1 T U R kl F (t + 1)).length) := hide (by rw [HWT.out, List.length_append, ← HCN.out]; rfl)
                            have HOT : Hid (w9.ownsRow w6.heap.size 9 1 (.slice A4 (cnt + 1) c4) (cnt + 1) ((W1 T U R kl F (t + 1)).map S)) := hide (by rw [HWT.out, List.map_append]; exact HOWN9.out)
                            have HBT : Hid (Below w6.heap.size w6 w9) := hide (HBL.out.trans ((((Keep.refl _ wr).alloc _).grown HG9.out (fun i hi _ => hi.symm)).below (B := w6.heap.size) HBL.out.size (fun k hk => own_base HOL.out hk.symm)))
                            clear HOWN9 HG9
                            go_wp2_with fail
                            go_roundw
                            case rel => exact ⟨t + 1, cnt + 1, c4, A4, by omega, by go_num, rfl, HCT, HOT, HBT⟩
                            case measure => simp [intOf]; omega
                          | false =>
                            have HSTF : Hid (stA T U R kl F t = false) := HSA
                            have HWF : Hid (W1 T U R kl F (t + 1) = W1 T U R kl F t) := hide (by rw [HWN.out, HSTF.out]; simp)
                            go_wp2_with fail
                            go_roundw
                            case rel =>
                              refine ⟨t + 1, cnt, cw, Aw, by omega, by go_num, rfl, ?_, ?_, HBL⟩
                              · rw [HWF.out]; exact HCN
                              · rw [HWF.out]; exact HOL
                            case measure => simp [intOf]; omega
                        case pos =>
                          have hkx : k < xss.length := by rw [HO2.out]; exact hlk
                          have HBR0 : Hid (Below w.heap.size w wr) := hide (HS.out.s1.be.trans (HBL.out.mono HB0.out))
                          obtain ⟨y1, p1, rfl, _, _, hd1⟩ := Rd.rec_ (f := fun s => [S s]) (l := xss) (size := 1) (fun _ => rfl) (by rw [← List.map_eq_flatMap]; exact HO1.out.below HBR0.out) HO2.out k hlk
                          obtain ⟨rn, hrn⟩ : ∃ x, x = xss[k] := ⟨_, rfl⟩
                          have qr : wr.cell? ⟨y1, p1 + k, none⟩ = some (S rn) := by have := hd1 0 (S rn) (by rw [hrn]; rfl); simpa using this
                          obtain ⟨R2, hR2⟩ : ∃ b, b = (digM T rn != digM U rn) := ⟨_, rfl⟩
                          have HBN : Hid ((xss.take (k + 1)).any (fun r => digM T r != digM U r) = (bb || R2)) := hide (by rw [List.take_add_one, List.getElem?_eq_getElem hkx, List.any_append, hbb, hR2, hrn]; simp)
                          clear hbb hrn hd1
                          cases bb with
                          | true =>
                            go_wp2_with fail
                            go_roundw
                            · exact ⟨k + 1, by omega, by go_num, by rw [HBN.out]; rfl, HOL, HBL⟩
                            · simp [intOf]; omega
                          | false =>
                            obtain ⟨ea, hea⟩ : ∃ z, z = darr (digM T rn) := ⟨_, rfl⟩
                            obtain ⟨eb, heb⟩ : ∃ z, z = darr (digM U rn) := ⟨_, rfl⟩
                            have heq : ∀ w, (binOp .neq 35 (.agg ea) (.agg eb)).run Try.prog w = .ok (.bool R2) w := fun w => by rw [hea, heb, hR2]; exact run_neq_darr _ _ (digM_len _ _) (digM_len _ _) w
                            have HP1 := hide (page_any A n c T rn wr ((HF.out.below HBR0.out).weak (fun k hk => Nat.le_trans HBR0.out.size hk)) (fun f hf => (HOK.out f hf).2))
                            have HP2 : Hid (∀ W, Below w6.heap.size w6 W → Calls Try.prog 10 #[.slice An n cn, S rn] W (fun e w' => e = .returned (.agg eb) ∧ Below W.heap.size W w')) := hide (fun W hb => by
                              rw [heb]
                              exact page_any An n cn U rn W (HFN.out W hb) (fun f hf => (HUW.out f hf).2))
                            rw [← hea] at HP1
                            clear hea heb hR2
                            go_upto_region 51 with (first
                              | (go_at_call 10; refine HP1.out.mono ?_; rintro e wy ⟨rfl, hby⟩; have HBY : Hid (Below w6.heap.size w6 wy) := hide (HBL.out.trans (hby.mono HBL.out.size)); have HKY := hide hby; clear HP1 hby)
                              | (go_at_call 10; refine (HP2.out wy HBY.out).mono ?_; rintro e wx ⟨rfl, hbx⟩; have HBX : Hid (Below w6.heap.size w6 wx) := hide (HBY.out.trans (hbx.mono HBY.out.size)); have HKX := hide (HKY.out.trans (hbx.mono HKY.out.size)); clear HP2 hbx))
                            have HOX : Hid (wx.ownsRow w6.heap.size 9 1 (.slice Aw cnt cw) cnt ((W1 T U R kl F t).map S)) := hide (own_keep (F := fun _ => False) HOL.out (Keep.of_below HKX.out (fun k h1 h2 => by omega)) (fun _ _ h => h))
                            go_wp2_with fail
                            go_roundw
                            · exact ⟨k + 1, by omega, by go_num, by rw [HBN.out]; rfl, HOX, HBX⟩
                            · simp [intOf]; omega
          obtain ⟨x1, o1, rfl, _, _, hc1⟩ := Rd.rec_ (f := Trn.cells) (size := 2) (fun _ => rfl) (HX.out.below HSR.out.s1.be) HXL.out t hlt
          have hlx : t < X.length := by rw [HXL.out]; exact hlt
          have hxo := HXO.out _ (List.getElem_mem hlx)
          have HTK : Hid (X.take (t + 1) = X.take t ++ [X[t]]) := hide (by rw [List.take_add_one, List.getElem?_eq_getElem hlx]; rfl)
          obtain ⟨x, hx⟩ : ∃ x, x = X[t] := ⟨_, rfl⟩
          rw [← hx] at hc1 hxo HTK
          clear hx
          have HFN : Hid (trFs (F1 4) (X.take (t + 1)) = trF (trFs (F1 4) (X.take t)) x) := hide (by rw [HTK.out, trFs_snoc])
          have HTN : Hid (trTs T (X.take (t + 1)) = trT (trTs T (X.take t)) x) := hide (by rw [HTK.out, trTs_snoc])
          clear HTK
          have q0 : wr.cell? ⟨x1, o1 + t * 2, none⟩ = some (.int .i64 x.K) := hc1 0 _ rfl
          have q1 : wr.cell? ⟨x1, o1 + t * 2 + 1, none⟩ = some (.int .i64 x.N) := hc1 1 _ rfl
          clear hc1
          obtain ⟨U, hU⟩ : ∃ U, U = trTs T (X.take t) := ⟨_, rfl⟩
          obtain ⟨F, hF⟩ : ∃ F, F = trFs (F1 4) (X.take t) := ⟨_, rfl⟩
          have HUL : Hid (U.length = n) := hide (by rw [hU, trTs_len, HF.out.2.1])
          have HUB : Hid (∀ f ∈ U, f.su.length ≤ 1000) := hide (by
            rw [hU]
            intro f hf
            have h := (trTs_lite HLI.out (X.take t) (by rw [List.length_take]; omega) f hf).2.2.1
            rw [List.length_take] at h
            omega)
          rw [← hF, ← hU] at HSR
          rw [← hF] at HFN
          rw [← hU] at HTN
          clear hF hU
          obtain ⟨j, hj, hjx⟩ := and3 x.N
          have HNM : Hid (x.nm = nmG j) := hide (by unfold Trn.nm; rw [hjx, IntWalk.i64_in _ (by omega)]; rfl)
          obtain ⟨nm, hnm⟩ : ∃ x, x = nmG j := ⟨_, rfl⟩
          rw [← hnm] at HNM
          have q2 : ∀ o, (wr.alloc o).cell? ⟨nb, j, none⟩ = some (S nm) := fun o => by rw [hnm]; exact nm_cell (HSR.out.s1.nm.alloc o) hj
          have hnl : nm.length ≤ 1 := by rw [hnm]; exact nmG_short j
          clear hnm
          obtain ⟨kd, hkd, hk3, HKD⟩ : ∃ kd : Nat, wrap64 ((IntKind.u64.wrap x.K).tmod 3) = (kd : Int) ∧ kd < 3 ∧ Hid (x.kd = kd) := kd_of x
          obtain rfl | rfl | rfl : kd = 0 ∨ kd = 1 ∨ kd = 2 := by omega
          · have hk0 : wrap64 ((IntKind.u64.wrap x.K).tmod 3) = 0 := hkd
            clear hkd hk3
            have hkey := key_S (show short nm by unfold short; omega)
            obtain ⟨dz, hdz⟩ : ∃ z, z = darr (tnS nm) := ⟨_, rfl⟩
            have HDZ : Hid (∀ _ : Unit, dz = darr (tnS nm)) := hide (fun _ => hdz)
            go_upto_region 29 with fail
            refine name_world ?_
            intro wT hwT
            have HST : Hid (S2 w B nb bm g m s T L Al cl (4 + t) F An n cn U wT) := hide (by rw [hwT]; exact HSR.out.below_ ((Below.refl _ wr).alloc (Nat.le_refl _) _))
            clear hwT q0 q1 q2
            have HSU := hide (sum_lit wT ([116, 117, 114, 110, 101, 100, 32] ++ nm) (by simp; omega))
            rw [show sumM ([116, 117, 114, 110, 101, 100, 32] ++ nm) = tnS nm from rfl, ← hdz] at HSU
            clear hdz
            go_upto_region 37 with (first
              | (go_at_call 8; refine HSU.out.mono ?_; rintro e wS ⟨rfl, hbS⟩; have HSS := hide (HST.out.below_ hbS); clear hbS)
              | (at_mapUpdate; obtain ⟨D, hD1, hD2⟩ := HSS.out.s1.dg; refine wpList_mapUpdate_own _ rfl _ _ _ 32 rfl 9 35 klaw Try.underlying32 heldR bm (4 + t) D rfl hD1 (by unfold maxLen; omega) _ _ _ rfl rfl hkey (.held (.agg dz)) [] rfl ?_; intro wM hownM hgM; have HSM : Hid (S2 w B nb bm g m s T L Al cl (4 + (t + 1)) (trFs (F1 4) (X.take (t + 1))) An n cn (trTs T (X.take (t + 1))) wM) := hide (by
                  rw [HFN.out, HTN.out, trF, if_pos HKD.out, trT, if_neg (by rw [HKD.out]; decide), HNM.out]
                  exact HSS.out.upd ((Keep.refl _ wS).grown hgM (fun k hk _ => by injection hk with hk; exact hk.symm)) ⟨_, hownM, by have h9 := hD2.set nm (tnS nm); rw [dgV, ← HDZ.out ()] at h9; exact h9⟩); clear hownM hgM hD1 hD2))
            go_wp2_with fail
            go_roundw
            · exact ⟨t + 1, by omega, by go_num, HSM⟩
            · simp [intOf]; omega
          · have hk1 : wrap64 ((IntKind.u64.wrap x.K).tmod 3) = 1 := hkd
            clear hkd hk3
            go_upto_region 30 with fail
            refine name_world ?_
            intro wT hwT
            have HST : Hid (S2 w B nb bm g m s T L Al cl (4 + t) F An n cn U wT) := hide (by rw [hwT]; exact HSR.out.below_ ((Below.refl _ wr).alloc (Nat.le_refl _) _))
            clear hwT q0 q1 q2
            go_wp2_with fail
            go_loopw [142] (fun i wk => ∃ k : Nat, k ≤ n ∧ i = .int .i64 k ∧ Hid (S2 w B nb bm g m s T L Al cl (4 + t) F An n cn (suK nm U k) wk)) (fun i _ => n - (intOf i).toNat)
            case atStart => exact ⟨0, Nat.zero_le _, rfl, by rw [suK_zero]; exact HST⟩
            case round =>
              clear HST
              obtain ⟨k, hk, rfl, HSK⟩ := hrel
              by_cases hlk : k < n
              case neg =>
                obtain rfl : k = n := by omega
                have HSM : Hid (S2 w B nb bm g m s T L Al cl (4 + (t + 1)) (trFs (F1 4) (X.take (t + 1))) An k cn (trTs T (X.take (t + 1))) wr) := hide (by
                  have h := HSK.out
                  rw [suK_all (by rw [HUL.out]; exact Nat.le_refl _)] at h
                  rw [HFN.out, HTN.out, trF, if_neg (by rw [HKD.out]; decide), if_pos HKD.out, trT, if_pos HKD.out, HNM.out]
                  exact ⟨{ h.s1 with dg := h.s1.dg.mono (by omega) }, h.now⟩)
                go_wp2_with fail
                go_roundw
                · exact ⟨t + 1, by omega, by go_num, HSM⟩
                · simp [intOf]; omega
              have hkU : k < U.length := by rw [HUL.out]; exact hlk
              obtain ⟨gn, cgn, e1, _, _⟩ := HSK.out.now.form (by omega)
              injection e1 with e1 _ e3
              subst e1 e3
              obtain ⟨x9, o9, e9, hx9, _, hc9⟩ := Rd.rec_ (f := Fc.cells) (size := 4) (fun _ => rfl) (Rd.of_ownB HSK.out.now) (by rw [suK_len]; exact HUL.out) k hlk
              injection e9 with e9
              injection e9 with e9 e10
              subst e9 e10
              obtain ⟨f, hf⟩ : ∃ f, f = U[k] := ⟨_, rfl⟩
              rw [suK_get hkU, ← hf] at hc9
              have hsu : f.su.length ≤ 1000 := by rw [hf]; exact HUB.out _ (List.getElem_mem hkU)
              have HSX : Hid (suK nm U (k + 1) = if f.n = nm then (suK nm U k).set k { f with su := f.su ++ [88] } else suK nm U k) := hide (by rw [hf]; exact suK_step hkU)
              have HGT : Hid ((suK nm U k)[k]'(by rw [suK_len]; exact hkU) = f) := hide (by rw [hf]; exact suK_get hkU)
              clear hf
              have q0 : wr.cell? ⟨gn, k * 4, none⟩ = some (S f.n) := by have := hc9 0 _ rfl; simpa using this
              have q1 : wr.cell? ⟨gn, k * 4 + 1, none⟩ = some (S f.su) := by have := hc9 1 _ rfl; simpa using this
              have z1 := HSK.out.now.frozenAt (k * 4 + 1)
              by_cases he : f.n = nm
              · have hek : (f.n == nm) = true := by simpa using he
                have HSM : Hid (S2 w B nb bm g m s T L Al cl (4 + t) F (some ⟨gn, 0, none⟩) n cn (suK nm U (k + 1)) (wr.setCell ⟨gn, k * 4 + 1, none⟩ (S (f.su ++ [88])))) := hide (by
                  have h := HSK.out.stored (i := k) (x := f.su ++ [88]) (by rw [suK_len]; exact hkU)
                  rw [HGT.out] at h
                  rw [HSX.out, if_pos he]
                  exact h)
                clear he hc9
                go_wp2_with fail
                go_roundw
                · exact ⟨k + 1, by omega, by go_num, HSM⟩
                · simp [intOf]; omega
              · have hek : (f.n == nm) = false := by simpa using he
                have HSM : Hid (S2 w B nb bm g m s T L Al cl (4 + t) F (some ⟨gn, 0, none⟩) n cn (suK nm U (k + 1)) wr) := hide (by rw [HSX.out, if_neg he]; exact HSK.out)
                clear he hc9
                go_wp2_with fail
                go_roundw
                · exact ⟨k + 1, by omega, by go_num, HSM⟩
                · simp [intOf]; omega
          · have hk1 : wrap64 ((IntKind.u64.wrap x.K).tmod 3) = 2 := hkd
            clear hkd hk3
            have hkey := key_S (show short nm by unfold short; omega)
            go_upto_region 27 with fail
            refine name_world ?_
            intro wT hwT
            have HST : Hid (S2 w B nb bm g m s T L Al cl (4 + t) F An n cn U wT) := hide (by rw [hwT]; exact HSR.out.below_ ((Below.refl _ wr).alloc (Nat.le_refl _) _))
            clear hwT q0 q1 q2
            go_upto_region 37 with (at_delete; obtain ⟨D, hD1, hD2⟩ := HST.out.s1.dg; refine wpList_delete_own _ rfl _ _ 32 9 rfl 35 klaw Try.underlying32 heldR bm (4 + t) D rfl hD1 _ _ rfl hkey ?_; intro wM hownM hgM; have HSM : Hid (S2 w B nb bm g m s T L Al cl (4 + (t + 1)) (trFs (F1 4) (X.take (t + 1))) An n cn (trTs T (X.take (t + 1))) wM) := hide (by
                  rw [HFN.out, HTN.out, trF, if_neg (by rw [HKD.out]; decide), if_neg (by rw [HKD.out]; decide), trT, if_neg (by rw [HKD.out]; decide), HNM.out]
                  exact HST.out.upd ((Keep.refl _ wT).grown hgM.grown (fun k hk _ => by injection hk with hk; exact hk.symm)) ⟨_, hownM.mono (by omega), hD2.del nm⟩); clear hownM hgM hD1 hD2)
            go_wp2_with fail
            go_roundw
            · exact ⟨t + 1, by omega, by go_num, HSM⟩
            · simp [intOf]; omega

      obtain ⟨nm, hnm⟩ : ∃ x, x = nmG t := ⟨_, rfl⟩
      have HNM : Hid (∀ _ : Unit, nm = nmG t) := hide (fun _ => hnm)
      have q0 : wr.cell? ⟨nb, t, none⟩ = some (S nm) := by rw [hnm]; exact nm_cell HSR.out.nm hlt
      have hnl : nm.length ≤ 1 := by rw [hnm]; exact nmG_short t
      have hkey := key_S (show short nm by unfold short; omega)
      obtain ⟨dz, hdz⟩ : ∃ z, z = darr (txS nm) := ⟨_, rfl⟩
      have HDZ : Hid (∀ _ : Unit, dz = darr (txS nm)) := hide (fun _ => hdz)
      have HSU := hide (sum_lit wr ([116, 101, 120, 116, 32] ++ nm) (by simp; omega))
      rw [show sumM ([116, 101, 120, 116, 32] ++ nm) = txS nm from rfl, ← hdz] at HSU
      clear hdz hnm
      go_upto_region 12 with fail
      go_upto_region 13 with (first
        | (go_at_call 8; refine HSU.out.mono ?_; rintro e wS ⟨rfl, hbS⟩; have HSS := hide (HSR.out.below_ hbS); clear hbS)
        | (at_mapUpdate; obtain ⟨D, hD1, hD2⟩ := HSS.out.dg; refine wpList_mapUpdate_own _ rfl _ _ _ 32 rfl 9 35 klaw Try.underlying32 heldR bm t D rfl hD1 (by unfold maxLen; omega) _ _ _ rfl rfl hkey (.held (.agg dz)) [] rfl ?_; intro wM hownM hgM; have HSM : Hid (S1 w B nb bm g m s T L Al cl (10 * t) (t + 1) (F1 (t + 1)) wM) := hide (HSS.out.upd ((Keep.refl _ wS).grown hgM (fun k hk _ => by injection hk with hk; exact hk.symm)) ⟨_, hownM, by rw [F1, ← HNM.out ()]; have h9 := hD2.set nm (txS nm); rw [dgV, ← HDZ.out ()] at h9; exact h9⟩); clear hownM hgM hD1 hD2))
      clear HSU q0 HSS
      have hlook : (Instr.lookup 32 (.map (some bm)) (S nm) false).run Try.prog wM = .ok (.agg dz) wM := by
        rw [HDZ.out ()]
        exact DgIs.look HSM.out.dg (by unfold short; omega) (show F1 (t + 1) nm = some (txS nm) by rw [F1, ← HNM.out ()]; simp [Fd.set])
      obtain ⟨ev0, hev0⟩ : ∃ v, v = (Enq.cells ⟨nm, txS nm, none, 0, 0, [], []⟩).toArray := ⟨_, rfl⟩
      have HEV0 : Hid (∀ _ : Unit, ev0 = (Enq.cells ⟨nm, txS nm, none, 0, 0, [], []⟩).toArray) := hide (fun _ => hev0)
      have HE0 := hide (EnV.mk_ ⟨nm, txS nm, none, 0, 0, [], []⟩)
      rw [← hev0] at HE0
      clear hev0
      obtain ⟨wE, hwE⟩ : ∃ wE, wE = (wM.alloc (.cells ze 39)).setCells wM.heap.size 0 ev0.toList := ⟨_, rfl⟩
      have HBX := hide (box_any wM 39 ze ev0 (by rw [HE0.out.size, HZS.out]))
      rw [← hwE] at HBX
      have HZT : Hid ((wM.alloc (.cells ze 39)).there wM.heap.size 0 ev0.size) := hide ((Blk.new wM 39 ze).there_ (by rw [HE0.out.size, HZS.out]))
      have HQB : Hid (B ≤ wM.heap.size ∧ (Value.slice Al L.length cl).ownBlock ≠ some wM.heap.size) := hide ⟨HSM.out.lt.2.2.2.2.2.2.2.2, fun e => by have := (HSM.out.own.lt _ e).2; omega⟩
      by_cases h3 : t < n3
      case neg =>
        have HKT : Hid (knA kl t = true) := hide (by unfold knA; rw [List.getD_eq_getElem?_getD, List.getElem?_eq_none (by rw [HKL.out]; omega)]; rfl)
        go_upto_region 15 with (first
          | (refine wpList_enOf2 rfl (.tmp 81) (.tmp 84) rfl nm (txS nm) dz rfl rfl (HDZ.out ()) (txS_len nm) ev0 (HEV0.out ()) ?_)
          | (refine wpList_store_mid rfl 39 (.tmp 15) (.tmp 85) rfl wM.heap.size 0 ev0 rfl rfl HZT.out (by rw [HE0.out.size]; exact en_info) HE0.out.one ?_))
        rw [← hwE]
        clear hlook hwE
        have HSE : Hid (S1 w B nb bm g m s T L Al cl (10 * t) (t + 1) (F1 (t + 1)) wE) := hide (HSM.out.below_ HBX.out.2)
        have HQE : Hid (Blk wE wM.heap.size 39 ev0) := hide HBX.out.1
        obtain ⟨q, hq⟩ : ∃ q, q = wM.heap.size := ⟨_, rfl⟩
        rw [← hq] at HQE HQB ⊢
        clear hq HBX HZT
        by_cases hr1 : t < n1
        case neg =>
          have HRT : Hid (rdA R t = []) := hide (by unfold rdA; rw [List.getElem?_eq_none (by rw [List.length_map, HRL.out]; omega)]; rfl)
          obtain ⟨ev, hev⟩ : ∃ v, v = ev0 := ⟨_, rfl⟩
          have HEV : Hid (EnV ⟨nm, txS nm, none, 0, 0, [], []⟩ ev) := hide (by rw [hev]; exact HE0.out)
          have HEVI : Hid (∀ _ : Unit, ev = (Enq.cells ⟨nm, txS nm, none, 0, 0, [], []⟩).toArray) := hide (fun _ => by rw [hev]; exact HEV0.out ())
          have HQV : Hid (Blk wE q 39 ev) := hide (by rw [hev]; exact HQE.out)
          have HEO : Hid (EnOw wE B ⟨nm, txS nm, none, 0, 0, [], []⟩) := hide (EnOw.mk0 wE B nm (txS nm) (txS_len nm))
          clear hev
          go_upto_region 20 with (first
            | (refine wpList_load_mid rfl 39 (.tmp 15) rfl q 0 rfl ev.toList _ HQV.out.range Try.underlying39 rfl (by rw [Array.length_toList, HEV.out.size]; exact en_info) ?_; rw [Array.toArray_toList])
            | (refine wpList_part rfl 31 39 (.tmp 104) rfl 66 ev rfl HEV.out.size (by decide) (by decide) Try.underlying31 en_info2 ?_)
            | (at_builtin; have e1 := HSE.out.own.alloc (.cells ev 39); have e2 : Blk (wE.alloc (.cells ev 39)) wE.heap.size 39 ev.toList.toArray := (by rw [Array.toArray_toList]; exact Blk.new _ _ _); refine wpList_appB rfl (.tmp 103) (.tmp 105) 31 rfl B 39 (.agg ZE) 66 104 Try.underlying31 en_info3 HZC.out (by decide) (.slice Al L.length cl) L.length (L.flatMap Enq.cells) ?hs e1 wE.heap.size ev.toList ?hx ?hl e2 ?h1 ?h63 ?hbytes ?hbase ?h; (case hs => exact rfl); (case hx => exact rfl); (case hl => (rw [Array.length_toList]; exact HEV.out.size)); (case h1 => exact all_one HEV.out.one); (case h63 => (unfold maxLen; have := HLN.out; omega)); (case hbytes => (have := HLN.out; omega)); (case hbase => (have := HSE.out.lt; simp; omega)); intro A4 c4 w9 hown9 hg9; clear e1 e2; have HOWN9 := hide hown9; have HG9 := hide hg9; clear hown9 hg9))
          have HS9 : Hid (S1 w B nb bm g m s T (L ++ [(⟨nm, txS nm, none, 0, 0, [], []⟩ : Enq)]) A4 c4 (10 * t) (t + 1) (F1 (t + 1)) w9) := hide (HSE.out.app HEO.out (((Keep.refl _ wE).alloc _).grown HG9.out (fun i hi _ => hi.symm)) (by
            have h0 := HOWN9.out
            rw [HEVI.out (), List.toList_toArray] at h0
            exact h0))
          have HPL9 : Hid ((L ++ [(⟨nm, txS nm, none, 0, 0, [], []⟩ : Enq)]).map Enq.pl = E1 T R kl (t + 1)) := hide (pl_app HPL.out HKT.out (HNM.out ()) (by rw [HNM.out ()]) (by rw [HRT.out] <;> rfl))
          have HSN : Hid (S1 w B nb bm g m s T (L ++ [(⟨nm, txS nm, none, 0, 0, [], []⟩ : Enq)]) A4 c4 (10 * (t + 1)) (t + 1) (F1 (t + 1)) w9) := hide { HS9.out with tab := HS9.out.tab.mono (by omega) }
          clear HOWN9 HG9
          go_wp2_with fail
          go_roundw
          · exact ⟨t + 1, L ++ [(⟨nm, txS nm, none, 0, 0, [], []⟩ : Enq)], A4, c4, by omega, by simp, by go_num, HSN, HPL9⟩
          · simp [intOf]; omega
        case' pos => skip
        have hlr : t < R.length := by rw [HRL.out]; exact hr1
        obtain ⟨x1, o1, rfl, _, _, hc1⟩ := Rd.rec_ (f := Sl.cells) (size := 1) (fun _ => rfl) (HR.out.below HSE.out.be) HRL.out t hr1
        have hro := HRO.out _ (List.getElem_mem hlr)
        have HRT : Hid (rdA R t = (R[t]).ss) := hide (by unfold rdA; rw [List.getElem?_map, List.getElem?_eq_getElem hlr]; rfl)
        obtain ⟨xs, hxs⟩ : ∃ x, x = R[t] := ⟨_, rfl⟩
        rw [← hxs] at hc1 hro HRT
        clear hxs
        obtain ⟨xA, xk, xc, xss⟩ := xs
        have qs : wE.cell? ⟨x1, o1 + t, none⟩ = some (.slice xA xk xc) := by have := hc1 0 _ rfl; simpa using this
        obtain ⟨hro1, hro2, hro3, hro4⟩ := hro
        simp only at hro1 hro2 hro3 hro4 HRT
        have HO1 := hide (hro1.below HSE.out.be)
        have HO2 := hide hro2
        have HO4 := hide hro4
        clear hc1 hro1 hro2 hro4
        by_cases h1k : xk ≤ 10
        case neg =>
          have hd1 : ((10 : Int) < (xk : Int)) := by omega
          go_wp2_with fail
          go_ret
          exact ⟨rfl, HSE.out.be⟩
        have HRD := hide (reads_any w g m s (10 * t) T xA xk xc xss wE HSE.out.tab (by omega) (by omega) HO2.out HO4.out (HO1.out.weak (fun k h1 h2 => by have := HSE.out.lt; have := HSE.out.be.size; rcases h2 with h2 | h2 <;> omega)) HOK.out HSE.out.be (by have := HSE.out.lt; omega))
        go_upto_region 18 with fail
        go_upto_region 19 with (first
          | (go_at_call 9; refine HRD.out.mono ?_; rintro e w7 ⟨A5, c5, rfl, hown7, ht7, hk7⟩; have HOW7 := hide hown7; have HT7 := hide ht7; have HK7 := hide hk7; have HS7 := hide (HSE.out.rds hk7 ht7); have HQ7 := hide (HQE.out.keep hk7 (by obtain ⟨D, hD⟩ := HSE.out.tab.seen; exact blk_map_ne HQE.out hD)); have q33 := (HQ7.out.cell 33).trans HE0.out.cr; have z33 := HQ7.out.frozen 33; simp only at q33; clear hown7 ht7 hk7))
        refine name_world ?_
        intro w8 hw8
        obtain ⟨ev, hev⟩ : ∃ v, v = (Enq.cells ⟨nm, txS nm, A5, xk, c5, xss.map (rdOf T), []⟩).toArray := ⟨_, rfl⟩
        have HEV := hide (EnV.mk_ ⟨nm, txS nm, A5, xk, c5, xss.map (rdOf T), []⟩)
        rw [← hev] at HEV
        have HEVI : Hid (∀ _ : Unit, ev = (Enq.cells ⟨nm, txS nm, A5, xk, c5, xss.map (rdOf T), []⟩).toArray) := hide (fun _ => hev)
        have HQ8 : Hid (Blk w8 q 39 ev) := hide (by
          rw [hw8, hev, ← en_reads ev0 (HEV0.out ())]
          exact HQ7.out.set_ 33 _)
        have HS8 : Hid (S1 w B nb bm g m s T L Al cl (10 * t + xk) (t + 1) (F1 (t + 1)) w8) := hide (by
          rw [hw8]
          exact HS7.out.set_ HQ7.out _ _ HQB.out.1 HQB.out.2)
        have HEO : Hid (EnOw w8 B ⟨nm, txS nm, A5, xk, c5, xss.map (rdOf T), []⟩) := hide (EnOw.mk1 w8 B nm (txS nm) A5 xk c5 (xss.map (rdOf T)) (txS_len nm) (fun r hr => by
          obtain ⟨y, hy, rfl⟩ := List.mem_map.1 hr
          exact ⟨HO4.out y hy, digM_len _ _⟩) (by rw [List.length_map]; exact HO2.out) h1k (by
          rw [hw8]
          exact own_keep (own_base_mono HOW7.out HSE.out.lt.2.2.2.2.2.2.2.2) ((Keep.refl (fun b => b = q) w7).setCell (p := ⟨q, 33, none⟩) (fun _ => rfl) _) (fun k hk e => own_blk_ne HOW7.out HQ7.out (by decide) (by rw [hk, e]))))
        clear hw8 hev q33 z33 HQ7 HS7 HOW7 HT7 HK7 HRD qs
        go_upto_region 20 with (first
          | (refine wpList_load_mid rfl 39 (.tmp 15) rfl q 0 rfl ev.toList _ HQ8.out.range Try.underlying39 rfl (by rw [Array.length_toList, HEV.out.size]; exact en_info) ?_; rw [Array.toArray_toList])
          | (refine wpList_part rfl 31 39 (.tmp 104) rfl 66 ev rfl HEV.out.size (by decide) (by decide) Try.underlying31 en_info2 ?_)
          | (at_builtin; have e1 := HS8.out.own.alloc (.cells ev 39); have e2 : Blk (w8.alloc (.cells ev 39)) w8.heap.size 39 ev.toList.toArray := (by rw [Array.toArray_toList]; exact Blk.new _ _ _); refine wpList_appB rfl (.tmp 103) (.tmp 105) 31 rfl B 39 (.agg ZE) 66 104 Try.underlying31 en_info3 HZC.out (by decide) (.slice Al L.length cl) L.length (L.flatMap Enq.cells) ?hs e1 w8.heap.size ev.toList ?hx ?hl e2 ?h1 ?h63 ?hbytes ?hbase ?h; (case hs => exact rfl); (case hx => exact rfl); (case hl => (rw [Array.length_toList]; exact HEV.out.size)); (case h1 => exact all_one HEV.out.one); (case h63 => (unfold maxLen; have := HLN.out; omega)); (case hbytes => (have := HLN.out; omega)); (case hbase => (have := HS8.out.lt; simp; omega)); intro A4 c4 w9 hown9 hg9; clear e1 e2; have HOWN9 := hide hown9; have HG9 := hide hg9; clear hown9 hg9))
        have HS9 : Hid (S1 w B nb bm g m s T (L ++ [(⟨nm, txS nm, A5, xk, c5, xss.map (rdOf T), []⟩ : Enq)]) A4 c4 (10 * t + xk) (t + 1) (F1 (t + 1)) w9) := hide (HS8.out.app HEO.out (((Keep.refl _ w8).alloc _).grown HG9.out (fun i hi _ => hi.symm)) (by
          have h0 := HOWN9.out
          rw [HEVI.out (), List.toList_toArray] at h0
          exact h0))
        have HPL9 : Hid ((L ++ [(⟨nm, txS nm, A5, xk, c5, xss.map (rdOf T), []⟩ : Enq)]).map Enq.pl = E1 T R kl (t + 1)) := hide (pl_app HPL.out HKT.out (HNM.out ()) (by rw [HNM.out ()]) (by rw [HRT.out] <;> rfl))
        have HSN : Hid (S1 w B nb bm g m s T (L ++ [(⟨nm, txS nm, A5, xk, c5, xss.map (rdOf T), []⟩ : Enq)]) A4 c4 (10 * (t + 1)) (t + 1) (F1 (t + 1)) w9) := hide { HS9.out with tab := HS9.out.tab.mono (by omega) }
        clear HOWN9 HG9
        go_wp2_with fail
        go_roundw
        · exact ⟨t + 1, L ++ [(⟨nm, txS nm, A5, xk, c5, xss.map (rdOf T), []⟩ : Enq)], A4, c4, by omega, by simp, by go_num, HSN, HPL9⟩
        · simp [intOf]; omega
      case pos =>
        have hlk3 : t < kl.length := by rw [HKL.out]; exact h3
        obtain ⟨x3, o3, rfl, _, _, hc3⟩ := Rd.rec_ (size := 1) (l := kl) (f := fun b => [Value.bool b]) (fun _ => rfl) (by rw [← List.map_eq_flatMap]; exact HKN.out.below HSM.out.be) HKL.out t h3
        obtain ⟨kb, hkb⟩ : ∃ b, b = kl[t] := ⟨_, rfl⟩
        have q3 : wM.cell? ⟨x3, o3 + t, none⟩ = some (.bool kb) := by have := hc3 0 (.bool kb) (by rw [hkb]; rfl); simpa using this
        have HKT : Hid (knA kl t = kb) := hide (by unfold knA; rw [List.getD_eq_getElem?_getD, List.getElem?_eq_getElem hlk3, hkb]; rfl)
        clear hc3 hkb
        cases kb with
        | false =>
          have HPL9 : Hid (L.map Enq.pl = E1 T R kl (t + 1)) := hide (by rw [HPL.out, E1, HKT.out]; simp)
          clear hlook hwE
          go_wp2_with fail
          go_roundw
          · exact ⟨t + 1, L, Al, cl, by omega, rfl, by go_num, hide { HSM.out with tab := HSM.out.tab.mono (by omega) }, HPL9⟩
          · simp [intOf]; omega
        | true =>
          go_upto_region 15 with (first
            | (refine wpList_enOf2 rfl (.tmp 81) (.tmp 84) rfl nm (txS nm) dz rfl rfl (HDZ.out ()) (txS_len nm) ev0 (HEV0.out ()) ?_)
            | (refine wpList_store_mid rfl 39 (.tmp 15) (.tmp 85) rfl wM.heap.size 0 ev0 rfl rfl HZT.out (by rw [HE0.out.size]; exact en_info) HE0.out.one ?_))
          rw [← hwE]
          clear hlook hwE
          have HSE : Hid (S1 w B nb bm g m s T L Al cl (10 * t) (t + 1) (F1 (t + 1)) wE) := hide (HSM.out.below_ HBX.out.2)
          have HQE : Hid (Blk wE wM.heap.size 39 ev0) := hide HBX.out.1
          obtain ⟨q, hq⟩ : ∃ q, q = wM.heap.size := ⟨_, rfl⟩
          rw [← hq] at HQE HQB ⊢
          clear hq HBX HZT
          by_cases hr1 : t < n1
          case neg =>
            have HRT : Hid (rdA R t = []) := hide (by unfold rdA; rw [List.getElem?_eq_none (by rw [List.length_map, HRL.out]; omega)]; rfl)
            obtain ⟨ev, hev⟩ : ∃ v, v = ev0 := ⟨_, rfl⟩
            have HEV : Hid (EnV ⟨nm, txS nm, none, 0, 0, [], []⟩ ev) := hide (by rw [hev]; exact HE0.out)
            have HEVI : Hid (∀ _ : Unit, ev = (Enq.cells ⟨nm, txS nm, none, 0, 0, [], []⟩).toArray) := hide (fun _ => by rw [hev]; exact HEV0.out ())
            have HQV : Hid (Blk wE q 39 ev) := hide (by rw [hev]; exact HQE.out)
            have HEO : Hid (EnOw wE B ⟨nm, txS nm, none, 0, 0, [], []⟩) := hide (EnOw.mk0 wE B nm (txS nm) (txS_len nm))
            clear hev
            go_upto_region 20 with (first
              | (refine wpList_load_mid rfl 39 (.tmp 15) rfl q 0 rfl ev.toList _ HQV.out.range Try.underlying39 rfl (by rw [Array.length_toList, HEV.out.size]; exact en_info) ?_; rw [Array.toArray_toList])
              | (refine wpList_part rfl 31 39 (.tmp 104) rfl 66 ev rfl HEV.out.size (by decide) (by decide) Try.underlying31 en_info2 ?_)
              | (at_builtin; have e1 := HSE.out.own.alloc (.cells ev 39); have e2 : Blk (wE.alloc (.cells ev 39)) wE.heap.size 39 ev.toList.toArray := (by rw [Array.toArray_toList]; exact Blk.new _ _ _); refine wpList_appB rfl (.tmp 103) (.tmp 105) 31 rfl B 39 (.agg ZE) 66 104 Try.underlying31 en_info3 HZC.out (by decide) (.slice Al L.length cl) L.length (L.flatMap Enq.cells) ?hs e1 wE.heap.size ev.toList ?hx ?hl e2 ?h1 ?h63 ?hbytes ?hbase ?h; (case hs => exact rfl); (case hx => exact rfl); (case hl => (rw [Array.length_toList]; exact HEV.out.size)); (case h1 => exact all_one HEV.out.one); (case h63 => (unfold maxLen; have := HLN.out; omega)); (case hbytes => (have := HLN.out; omega)); (case hbase => (have := HSE.out.lt; simp; omega)); intro A4 c4 w9 hown9 hg9; clear e1 e2; have HOWN9 := hide hown9; have HG9 := hide hg9; clear hown9 hg9))
            have HS9 : Hid (S1 w B nb bm g m s T (L ++ [(⟨nm, txS nm, none, 0, 0, [], []⟩ : Enq)]) A4 c4 (10 * t) (t + 1) (F1 (t + 1)) w9) := hide (HSE.out.app HEO.out (((Keep.refl _ wE).alloc _).grown HG9.out (fun i hi _ => hi.symm)) (by
              have h0 := HOWN9.out
              rw [HEVI.out (), List.toList_toArray] at h0
              exact h0))
            have HPL9 : Hid ((L ++ [(⟨nm, txS nm, none, 0, 0, [], []⟩ : Enq)]).map Enq.pl = E1 T R kl (t + 1)) := hide (pl_app HPL.out HKT.out (HNM.out ()) (by rw [HNM.out ()]) (by rw [HRT.out] <;> rfl))
            have HSN : Hid (S1 w B nb bm g m s T (L ++ [(⟨nm, txS nm, none, 0, 0, [], []⟩ : Enq)]) A4 c4 (10 * (t + 1)) (t + 1) (F1 (t + 1)) w9) := hide { HS9.out with tab := HS9.out.tab.mono (by omega) }
            clear HOWN9 HG9
            go_wp2_with fail
            go_roundw
            · exact ⟨t + 1, L ++ [(⟨nm, txS nm, none, 0, 0, [], []⟩ : Enq)], A4, c4, by omega, by simp, by go_num, HSN, HPL9⟩
            · simp [intOf]; omega
          case' pos => skip
          have hlr : t < R.length := by rw [HRL.out]; exact hr1
          obtain ⟨x1, o1, rfl, _, _, hc1⟩ := Rd.rec_ (f := Sl.cells) (size := 1) (fun _ => rfl) (HR.out.below HSE.out.be) HRL.out t hr1
          have hro := HRO.out _ (List.getElem_mem hlr)
          have HRT : Hid (rdA R t = (R[t]).ss) := hide (by unfold rdA; rw [List.getElem?_map, List.getElem?_eq_getElem hlr]; rfl)
          obtain ⟨xs, hxs⟩ : ∃ x, x = R[t] := ⟨_, rfl⟩
          rw [← hxs] at hc1 hro HRT
          clear hxs
          obtain ⟨xA, xk, xc, xss⟩ := xs
          have qs : wE.cell? ⟨x1, o1 + t, none⟩ = some (.slice xA xk xc) := by have := hc1 0 _ rfl; simpa using this
          obtain ⟨hro1, hro2, hro3, hro4⟩ := hro
          simp only at hro1 hro2 hro3 hro4 HRT
          have HO1 := hide (hro1.below HSE.out.be)
          have HO2 := hide hro2
          have HO4 := hide hro4
          clear hc1 hro1 hro2 hro4
          by_cases h1k : xk ≤ 10
          case neg =>
            have hd1 : ((10 : Int) < (xk : Int)) := by omega
            go_wp2_with fail
            go_ret
            exact ⟨rfl, HSE.out.be⟩
          have HRD := hide (reads_any w g m s (10 * t) T xA xk xc xss wE HSE.out.tab (by omega) (by omega) HO2.out HO4.out (HO1.out.weak (fun k h1 h2 => by have := HSE.out.lt; have := HSE.out.be.size; rcases h2 with h2 | h2 <;> omega)) HOK.out HSE.out.be (by have := HSE.out.lt; omega))
          go_upto_region 18 with fail
          go_upto_region 19 with (first
            | (go_at_call 9; refine HRD.out.mono ?_; rintro e w7 ⟨A5, c5, rfl, hown7, ht7, hk7⟩; have HOW7 := hide hown7; have HT7 := hide ht7; have HK7 := hide hk7; have HS7 := hide (HSE.out.rds hk7 ht7); have HQ7 := hide (HQE.out.keep hk7 (by obtain ⟨D, hD⟩ := HSE.out.tab.seen; exact blk_map_ne HQE.out hD)); have q33 := (HQ7.out.cell 33).trans HE0.out.cr; have z33 := HQ7.out.frozen 33; simp only at q33; clear hown7 ht7 hk7))
          refine name_world ?_
          intro w8 hw8
          obtain ⟨ev, hev⟩ : ∃ v, v = (Enq.cells ⟨nm, txS nm, A5, xk, c5, xss.map (rdOf T), []⟩).toArray := ⟨_, rfl⟩
          have HEV := hide (EnV.mk_ ⟨nm, txS nm, A5, xk, c5, xss.map (rdOf T), []⟩)
          rw [← hev] at HEV
          have HEVI : Hid (∀ _ : Unit, ev = (Enq.cells ⟨nm, txS nm, A5, xk, c5, xss.map (rdOf T), []⟩).toArray) := hide (fun _ => hev)
          have HQ8 : Hid (Blk w8 q 39 ev) := hide (by
            rw [hw8, hev, ← en_reads ev0 (HEV0.out ())]
            exact HQ7.out.set_ 33 _)
          have HS8 : Hid (S1 w B nb bm g m s T L Al cl (10 * t + xk) (t + 1) (F1 (t + 1)) w8) := hide (by
            rw [hw8]
            exact HS7.out.set_ HQ7.out _ _ HQB.out.1 HQB.out.2)
          have HEO : Hid (EnOw w8 B ⟨nm, txS nm, A5, xk, c5, xss.map (rdOf T), []⟩) := hide (EnOw.mk1 w8 B nm (txS nm) A5 xk c5 (xss.map (rdOf T)) (txS_len nm) (fun r hr => by
            obtain ⟨y, hy, rfl⟩ := List.mem_map.1 hr
            exact ⟨HO4.out y hy, digM_len _ _⟩) (by rw [List.length_map]; exact HO2.out) h1k (by
            rw [hw8]
            exact own_keep (own_base_mono HOW7.out HSE.out.lt.2.2.2.2.2.2.2.2) ((Keep.refl (fun b => b = q) w7).setCell (p := ⟨q, 33, none⟩) (fun _ => rfl) _) (fun k hk e => own_blk_ne HOW7.out HQ7.out (by decide) (by rw [hk, e]))))
          clear hw8 hev q33 z33 HQ7 HS7 HOW7 HT7 HK7 HRD qs
          go_upto_region 20 with (first
            | (refine wpList_load_mid rfl 39 (.tmp 15) rfl q 0 rfl ev.toList _ HQ8.out.range Try.underlying39 rfl (by rw [Array.length_toList, HEV.out.size]; exact en_info) ?_; rw [Array.toArray_toList])
            | (refine wpList_part rfl 31 39 (.tmp 104) rfl 66 ev rfl HEV.out.size (by decide) (by decide) Try.underlying31 en_info2 ?_)
            | (at_builtin; have e1 := HS8.out.own.alloc (.cells ev 39); have e2 : Blk (w8.alloc (.cells ev 39)) w8.heap.size 39 ev.toList.toArray := (by rw [Array.toArray_toList]; exact Blk.new _ _ _); refine wpList_appB rfl (.tmp 103) (.tmp 105) 31 rfl B 39 (.agg ZE) 66 104 Try.underlying31 en_info3 HZC.out (by decide) (.slice Al L.length cl) L.length (L.flatMap Enq.cells) ?hs e1 w8.heap.size ev.toList ?hx ?hl e2 ?h1 ?h63 ?hbytes ?hbase ?h; (case hs => exact rfl); (case hx => exact rfl); (case hl => (rw [Array.length_toList]; exact HEV.out.size)); (case h1 => exact all_one HEV.out.one); (case h63 => (unfold maxLen; have := HLN.out; omega)); (case hbytes => (have := HLN.out; omega)); (case hbase => (have := HS8.out.lt; simp; omega)); intro A4 c4 w9 hown9 hg9; clear e1 e2; have HOWN9 := hide hown9; have HG9 := hide hg9; clear hown9 hg9))
          have HS9 : Hid (S1 w B nb bm g m s T (L ++ [(⟨nm, txS nm, A5, xk, c5, xss.map (rdOf T), []⟩ : Enq)]) A4 c4 (10 * t + xk) (t + 1) (F1 (t + 1)) w9) := hide (HS8.out.app HEO.out (((Keep.refl _ w8).alloc _).grown HG9.out (fun i hi _ => hi.symm)) (by
            have h0 := HOWN9.out
            rw [HEVI.out (), List.toList_toArray] at h0
            exact h0))
          have HPL9 : Hid ((L ++ [(⟨nm, txS nm, A5, xk, c5, xss.map (rdOf T), []⟩ : Enq)]).map Enq.pl = E1 T R kl (t + 1)) := hide (pl_app HPL.out HKT.out (HNM.out ()) (by rw [HNM.out ()]) (by rw [HRT.out] <;> rfl))
          have HSN : Hid (S1 w B nb bm g m s T (L ++ [(⟨nm, txS nm, A5, xk, c5, xss.map (rdOf T), []⟩ : Enq)]) A4 c4 (10 * (t + 1)) (t + 1) (F1 (t + 1)) w9) := hide { HS9.out with tab := HS9.out.tab.mono (by omega) }
          clear HOWN9 HG9
          go_wp2_with fail
          go_roundw
          · exact ⟨t + 1, L ++ [(⟨nm, txS nm, A5, xk, c5, xss.map (rdOf T), []⟩ : Enq)], A4, c4, by omega, by simp, by go_num, HSN, HPL9⟩
          · simp [intOf]; omega
end Go.Proofs.Ythehimjdjgmnjaa
