/- kilnlaw20.CompatClients, walked; no statement of the seat is proved here. (Written by gen/vcomp.py.) -/
import Derived.Test.YtmbegaobnpoefaaDoorMTk
import Derived.Test.YtmbegaobnpoefaaDoorMCliWith
import Derived.Test.YtmbegaobnpoefaaDoorMClsFew
import Derived.Test.YtmbegaobnpoefaaDoorMPassLawH
import Derived.Test.YtmbegaobnpoefaaDoorMArr
import Derived.Test.YtmbegaobnpoefaaDoorMCliChk
import Derived.Test.YtmbegaobnpoefaaDoorMPassesH
import Derived.Test.YtmbegaobnpoefaaDoorMFaceSameC
import Derived.Test.YtmbegaobnpoefaaDoorMHierKnownH
import Derived.BigRegion
import Derived.Deep.DeepCutAuto
import Derived.Deep.RegionHeld3
namespace Go.Proofs.YtmbegaobnpoefaaDoor
open Go.RowKit Go.Maps
set_option linter.unusedVariables false
set_option linter.unusedSimpArgs false
theorem i64_lowP (p : Nat) (m : Nat) (hp : p < 63) (hm : m = 2 ^ p - 1) (n : Int) : ∃ N : Nat, N ≤ m ∧ bits .and .i64 n (m : Int) = (N : Int) := by
 have hpp : 2 ^ p < 2 ^ 64 := Nat.pow_lt_pow_right (by decide) (by omega)
 have h1 : (BitVec.ofInt 64 (m : Int)).toNat = m := by
  rw [BitVec.toNat_ofInt]
  have : ((m : Int) % ((2 ^ 64 : Nat) : Int)).toNat = m % 2 ^ 64 := by omega
  rw [this, Nat.mod_eq_of_lt (by omega)]
 have h2 : (BitVec.ofInt 64 n &&& BitVec.ofInt 64 (m : Int)).toNat ≤ m := by
  rw [BitVec.toNat_and, h1]
  exact Nat.and_le_right
 have hp2 : 2 ^ p ≤ 2 ^ 62 := Nat.pow_le_pow_right (by decide) (by omega)
 refine ⟨(BitVec.ofInt 64 n &&& BitVec.ofInt 64 (m : Int)).toNat, h2, ?_⟩
 show IntKind.i64.wrap ((BitVec.ofInt 64 n &&& BitVec.ofInt 64 (m : Int)).toNat : Int) = _
 rw [IntWalk.i64_in _ (by omega)]
theorem file_info : (Tryd.prog.info? 52).map (fun i => (i.zero, i.size, i.bytes)) = some (some (.agg #[.string { data := #[] }, .string { data := #[] }, .slice none 0 0, .slice none 0 0, .slice none 0 0, .slice none 0 0, .slice none 0 0, .slice none 0 0, .slice none 0 0, .slice none 0 0]), 10, 224) := by kernel_rfl
theorem fl_one (l : List Fl) : ∀ u ∈ l.flatMap Fl.cells, u.oneCell' = true := by
 intro u hu
 obtain ⟨m, _, hm⟩ := List.mem_flatMap.1 hu
 simp only [Fl.cells, List.mem_cons, List.not_mem_nil, or_false] at hm
 rcases hm with rfl | rfl | rfl | rfl | rfl | rfl | rfl | rfl | rfl | rfl <;> rfl
theorem right_bl {f : Fl} {w : World} {F : Nat → Prop} (h : f.at_ w F) (hr : f.pl.right = true) : f.bl = f.f.ml := by
 simp only [FileP.right, Bool.and_eq_true, decide_eq_true_eq] at hr
 have h1 : (f.bs.map Bd.pl).length = (f.f.ms.map Sg.pl).length := hr.1.2
 simp only [List.length_map] at h1
 rw [← h.bL, h1]; exact h.fa.2.1.2.1
theorem six_of (x : Int) : ∃ q : Nat, wrap64 ((IntKind.u64.wrap x).tmod 6) = (q : Int) ∧ q < 6 := by
 have h0 : 0 ≤ IntKind.u64.wrap x := by simp [IntKind.wrap, IntKind.signed, IntKind.bits]; omega
 have h1 : 0 ≤ IntKind.u64.wrap x % 6 := Int.emod_nonneg _ (by decide)
 have h2 : IntKind.u64.wrap x % 6 < 6 := Int.emod_lt_of_pos _ (by decide)
 refine ⟨(IntKind.u64.wrap x % 6).toNat, ?_, by omega⟩
 rw [Int.tmod_eq_emod_of_nonneg h0, Int.toNat_of_nonneg h1]
 exact IntWalk.wrap64_in _ (by omega)
theorem FlsAt.below9 {w w' : World} {A : Option Addr} {n : Nat} {Fs : List Fl} (h : FlsAt w (fun k => w.heap.size ≤ k) A n Fs) (hb : Below w.heap.size w w') : FlsAt w' (fun k => w'.heap.size ≤ k) A n Fs :=
 ⟨(h.1.below hb).weak (fun _ _ hk => Nat.le_trans hb.size hk), h.2.1, h.2.2.1, fun f hf => ((h.2.2.2 f hf).below hb).weak (fun _ hk => Nat.le_trans hb.size hk)⟩
set_option maxRecDepth 100000 in
set_option maxHeartbeats 16000000 in
theorem compat_walk (A : Option Addr) (n c : Nat) (Fs : List Fl) (x1 x2 : Int) (rn : List UInt8) (ra : Bool) (w : World) (hm : Laid w) (h : FlsAt w (fun k => w.heap.size ≤ k) A n Fs) (hcap : ∀ f ∈ Fs, f.f.ml ≤ f.f.mc ∧ f.bl ≤ f.bc) (hrs : short rn) (hx1 : i64In x1) (hx2 : i64In x2) :
  Calls Tryd.prog 3 #[.slice A n c, .int .i64 x1, .int .i64 x2, .agg #[S rn, .bool ra]] w (Gives w (.bool true)) := by
 have HM := hide hm
 have HFL := hide h
 have HCAP := hide hcap
 have hl := h.2.1
 have hn63 := h.2.2.1
 clear hm h hcap
 go_enter Tryd.func3, Tryd.ntmps3
 go_upto_region 1 with fail
 refine name_world ?_
 intro w1 hw1
 obtain ⟨bx, hbx⟩ : ∃ y, y = w.heap.size := ⟨_, rfl⟩
 have hb1 : Below w.heap.size w w1 := by rw [hw1]; exact (Below.refl _ _).alloc (Nat.le_refl _) _
 have HBX : Hid (Blk w1 bx 24 #[S rn, .bool ra]) := hide (by rw [hw1, hbx]; exact Blk.new _ _ _)
 have HB1 := hide hb1
 rw [← hbx]
 have hbxw : w.heap.size ≤ bx ∧ bx < w1.heap.size := ⟨by omega, HBX.out.lt⟩
 clear hw1 hbx hb1
 have HH := hide (head_any w1)
 go_wp2_with fail
 refine HH.out.mono ?_
 rintro e w2 ⟨rfl, hb2⟩
 have HB2 : Hid (Below w.heap.size w w2) := hide (HB1.out.trans (hb2.mono HB1.out.size))
 have HBX2 := hide (HBX.out.below hb2 HBX.out.lt)
 have hs12 := hb2.size
 clear hb2 HB1 HBX HH
 have HFL2 := hide (HFL.out.below9 HB2.out)
 have HFW : Hid (Calls Tryd.prog 5 #[.slice A n c] w2 (Asks w2 (n ≤ 8 ∧ ∀ f ∈ Fs, f.few))) := hide (few14_any A n c Fs w2 HFL2.out.1 HFL2.out.2.1 HFL2.out.2.2.1 HFL2.out.2.2.2)
 go_wp2_with fail
 refine HFW.out.mono ?_
 rintro e w3 ⟨R0, rfl, hb3, hR⟩
 have HB3 : Hid (Below w.heap.size w w3) := hide (HB2.out.trans (hb3.mono HB2.out.size))
 have HBX3 := hide (HBX2.out.below hb3 HBX2.out.lt)
 have hs23 := hb3.size
 have HR := hide hR
 clear hb3 hR HB2 HBX2 HFL2 HFW
 cases R0
 case false =>
  go_wp2_with fail
  go_ret
  exact ⟨rfl, HB3.out⟩
 case true =>
  obtain ⟨hn8, hfw⟩ := HR.out rfl
  have HFEW := hide hfw
  clear HR hfw
  have x0 : w3.cell? ⟨bx, 0, none⟩ = some (S rn) := HBX3.out.cell 0
  have x1_ : w3.cell? ⟨bx, 1, none⟩ = some (.bool ra) := HBX3.out.cell 1
  by_cases hn0 : n = 0
  case pos =>
   subst hn0
   go_wp2_with fail
   go_ret
   exact ⟨rfl, HB3.out⟩
  case neg =>
   have hn0' : ((n : Int) == 0) = false := by rw [beq_eq_false_iff_ne]; omega
   by_cases hrl : 40 < rn.length
   case pos =>
    have hrl' : decide ((40 : Int) < (rn.length : Int)) = true := decide_eq_true (by omega)
    go_wp2_with fail
    go_ret
    exact ⟨rfl, HB3.out⟩
   case neg =>
    have hrl' : decide ((40 : Int) < (rn.length : Int)) = false := decide_eq_false (by omega)
    have HFL3 := hide (HFL.out.below9 HB3.out)
    have HLK : Hid (Calls Tryd.prog 6 #[.slice A n c] w3 (LinkEnd Fs w3)) := hide (link_any A n c Fs w3 (HM.out.below HB3.out (Nat.le_refl _)) HFL3.out hn8 (fun f hf => (fw_of_few (HFEW.out f hf)).m))
    go_wp2_with fail
    refine HLK.out.mono ?_
    rintro e w4 ⟨P, z, rfl, hz, hb4, him⟩
    have HZ := hide hz
    have HB34 := hide hb4
    have HIM := hide him
    clear hz hb4 him
    go_upto_region 6 with fail
    have HB4 : Hid (Below w.heap.size w w4) := hide (HB3.out.trans (HB34.out.mono HB3.out.size))
    have HBX4 := hide (HBX3.out.below HB34.out HBX3.out.lt)
    have hs34 := HB34.out.size
    clear HB34 HBX3 HB3 HLK HFL3 x0 x1_
    by_cases hz0 : z = 0
    case neg =>
     have hzb : (z != 0) = true := bne_iff_ne.2 hz0
     have HS : Hid (∀ w', Keep (fun _ => False) w4 w' → w'.cell? ⟨bx, 0, none⟩ = some (S rn)) := hide (fun w' hk => (HBX4.out.keep hk (fun h => h)).cell 0)
     have HR : Hid (Keep (fun _ => False) w4 w4.drew) := hide (Keep.refl _ _).drew
     refine wp_region_noPanic ?_
     refine tkB HS HR.out (fun hHeld => ?_)
     obtain ⟨w5, hw5⟩ : ∃ y, y = w4.drew := ⟨_, rfl⟩
     rw [← hw5] at hHeld HR ⊢
     clear hw5
     refine tkL 0 ?_ ?_ ?_
     rotate_left
     ·(intro wS hSw; go_simp; try with_reducible rfl)
     try simp only [sP]
     refine tkL 1 ?_ ?_ ?_
     rotate_left
     ·(intro wS hSw; go_simp; try with_reducible rfl)
     try simp only [sP]
     refine tkL 2 ?_ ?_ ?_
     rotate_left
     ·(intro wS hSw; go_simp; try with_reducible rfl)
     try simp only [sP]
     try simp only [hzb]
     refine tkR 3 ?_
     try simp only [sP]
     refine tkR 4 ?_
     try simp only [sP]
     refine tkR 5 ?_
     try simp only [sP]
     refine tkR 6 ?_
     try simp only [sP]
     refine tkL 7 ?_ ?_ ?_
     rotate_left
     ·(intro wS hSw; go_simp; try with_reducible rfl)
     try simp only [sP]
     refine tkL 8 ?_ ?_ ?_
     rotate_left
     ·(intro wS hSw; go_simp; try with_reducible rfl)
     try simp only [sP]
     refine tkR 9 ?_
     try simp only [sP]
     refine tkR 10 ?_
     try simp only [sP]
     refine tkR 11 ?_
     try simp only [sP]
     refine tkR 12 ?_
     try simp only [sP]
     refine tkR 13 ?_
     try simp only [sP]
     refine tkR 14 ?_
     try simp only [sP]
     refine tkR 15 ?_
     try simp only [sP]
     refine tkR 16 ?_
     try simp only [sP]
     refine tkL 17 ?_ ?_ ?_
     rotate_left
     ·(intro wS hSw; go_simp; try with_reducible rfl)
     try simp only [sP]
     refine wpAnyH_done (by kernel_rfl) ?_ _
     refine NoPanic.normal ?_
     have HB5 := hide (HB4.out.trans (HR.out.below (B := w.heap.size) (by omega) (fun _ h => h.elim)))
     go_wp2_with fail
     go_ret
     exact ⟨rfl, HB5.out⟩
    case pos =>
     obtain ⟨gi, g, m, s, mf, nn, nA, nc, rfl, him, hnn, hs3⟩ := HIM.out hz0
     have hLO := HZ.out.1 hz0
     subst hz0
     have HLO := hide hLO
     have hvg := vg_of hLO (by omega) (fun f hf => fw_of_few (HFEW.out f hf))
     obtain ⟨T, hT⟩ : ∃ T, T = Fs.map (·.f) := ⟨_, rfl⟩
     rw [← hT] at him hvg
     have HVG := hide hvg
     have HI := hide him
     have HTT := hide (fun _ : Unit => hT)
     clear hLO hvg hT HIM HZ
     have hgs := him.gis
     have hxs : ¬ bx = s := by omega
     have hslt : s < w4.heap.size := him.vt.tab.slt
     have HIMB := hide him.bk
     have HT := hide him.vt.tab
     clear him
     obtain ⟨Q1, hQ1⟩ : ∃ y, y = vAll T (Fs.map Fl.pl) := ⟨_, rfl⟩
     obtain ⟨KN, hKN⟩ : ∃ y, y = knownT T ⟨rn, ra⟩ := ⟨_, rfl⟩
     have HCK : Hid (∀ ww, ww = w4.drew → Calls Tryd.prog 7 #[.pointer (some ⟨gi, 0, none⟩)] ww (fun e w' => ∃ (z : Int) (c1 c2 : List UInt8) (i : Int), e = .returned (.agg #[.int .i64 z, S c1, S c2, .int .i64 i]) ∧ (z = 0 ↔ Q1 = true) ∧ Vt w' gi g m s T 4000000000000000 ∧ Keep (fun k => k = s) ww w')) := hide (fun ww hww => by subst hww; rw [hQ1]; exact chk_walk w4.drew gi g m s nn mf nc T Fs nA (HI.out.below (Below.refl _ _).drew) HVG.out (by omega))
     have HKN : Hid (∀ ww nn rr, Tab ww g m s T nn → nn ≤ 8000000000000000 → Blk ww rr 24 #[S rn, .bool ra] → rr ≠ s → Calls Tryd.prog 8 #[.pointer (some ⟨g, 0, none⟩), .slice (some ⟨rr, 0, none⟩) 1 1] ww (fun e w' => e = .returned (.bool KN) ∧ Tab w' g m s T (nn + 1) ∧ Keep (fun b => b = s) ww w')) := hide (fun ww nn rr ht hn hb hr => by
      have h9 := knownt_any g m s nn T (some ⟨rr, 0, none⟩) 1 1 [⟨rn, ra⟩] ww ht hn (Rd.of_blk hb hr rfl) rfl (by omega) (fun t ht => by rw [List.mem_singleton] at ht; subst ht; exact hrs)
      rw [hKN]
      simpa using h9)
     have HQ1 := hide (fun _ : Unit => hQ1)
     have HKNE := hide (fun _ : Unit => hKN)
     clear hQ1 hKN
     cases Q1
     case false =>
      have HS : Hid (∀ w', Keep (fun b => b = s) w4 w' → w'.cell? ⟨gi, 0, none⟩ = some (.pointer (some ⟨g, 0, none⟩)) ∧ w'.cell? ⟨bx, 0, none⟩ = some (S rn) ∧ w'.cell? ⟨bx, 1, none⟩ = some (.bool ra)) := hide (fun w' hk => by
       exact ⟨(HIMB.out.keep hk hgs).cell 0, (HBX4.out.keep hk hxs).cell 0, (HBX4.out.keep hk hxs).cell 1⟩
       )
      have HR : Hid (Keep (fun b => b = s) w4 w4.drew) := hide (Keep.refl _ _).drew
      replace HT := hide HT.out.drew
      refine wp_region_noPanic ?_
      refine tkB HS HR.out (fun hHeld => ?_)
      obtain ⟨w5, hw5⟩ : ∃ x, x = w4.drew := ⟨_, rfl⟩
      rw [← hw5] at hHeld HR HT ⊢
      have HX5 := hide (fun _ : Unit => hw5)
      clear hw5
      refine tkL 0 ?_ ?_ ?_
      rotate_left
      ·(rintro wS ⟨e0, e1, e2⟩; go_simp; try with_reducible rfl)
      try simp only [sP]
      refine tkL 1 ?_ ?_ ?_
      rotate_left
      ·(rintro wS ⟨e0, e1, e2⟩; go_simp; try with_reducible rfl)
      try simp only [sP]
      refine tkL 2 ?_ ?_ ?_
      rotate_left
      ·(rintro wS ⟨e0, e1, e2⟩; go_simp; try with_reducible rfl)
      try simp only [sP]
      refine tkL 3 ?_ ?_ ?_
      rotate_left
      ·(rintro wS ⟨e0, e1, e2⟩; go_simp; try with_reducible rfl)
      try simp only [sP]
      refine tkC 4 (fun K hK => ?_)
      try rw [if_pos (by rfl)]
      go_simp
      go_at_call 7
      refine (HCK.out _ (HX5.out ())).mono ?_
      rintro e w6 ⟨z2, c1, c2, i2, rfl, hz2, hv2, hk2⟩
      replace HT := hide hv2.tab
      replace HR := hide (HR.out.tr hk2)
      have hzb : (z2 != 0) = true := bne_iff_ne.2 (fun e => Bool.noConfusion (hz2.1 e))
      clear hz2 hv2 hk2
      have hfd : ∀ w : World, (Instr.field 32 (.agg #[.int .i64 z2, S c1, S c2, .int .i64 i2]) 0).run Tryd.prog w = .ok (.int .i64 z2) w := fun _ => by kernel_rfl
      try go_wp2_with fail
      refine hK.out _ _ (HS.out _ HR.out) (fun hHeld => ?_)
      clear hK K
      try simp only [sP]
      refine tkL 5 ?_ ?_ ?_
      rotate_left
      ·(rintro wS ⟨e0, e1, e2⟩; go_simp; try with_reducible rfl)
      try simp only [sP]
      refine tkL 6 ?_ ?_ ?_
      rotate_left
      ·(rintro wS ⟨e0, e1, e2⟩; go_simp; try with_reducible rfl)
      try simp only [sP]
      refine tkL 7 ?_ ?_ ?_
      rotate_left
      ·(rintro wS ⟨e0, e1, e2⟩; go_simp; try with_reducible rfl)
      try simp only [sP]
      refine tkL 8 ?_ ?_ ?_
      rotate_left
      ·(rintro wS ⟨e0, e1, e2⟩; go_simp; try with_reducible rfl)
      try simp only [sP]
      try simp only [hzb]
      refine tkR 9 ?_
      try simp only [sP]
      refine tkR 10 ?_
      try simp only [sP]
      refine tkR 11 ?_
      try simp only [sP]
      refine tkR 12 ?_
      try simp only [sP]
      refine tkR 13 ?_
      try simp only [sP]
      refine tkR 14 ?_
      try simp only [sP]
      refine tkR 15 ?_
      try simp only [sP]
      refine tkR 16 ?_
      try simp only [sP]
      refine tkL 17 ?_ ?_ ?_
      rotate_left
      ·(rintro wS ⟨e0, e1, e2⟩; go_simp; try with_reducible rfl)
      try simp only [sP]
      refine wpAnyH_done (by kernel_rfl) ?_ _
      refine NoPanic.normal ?_
      have HB6 := hide (HB4.out.trans ((HR.out.below (B := w.heap.size) (by omega) (fun k hk => by omega))))
      go_wp2_with fail
      go_ret
      exact ⟨rfl, HB6.out⟩
     case true =>
      have HS : Hid (∀ w', Keep (fun b => b = s) w4 w' → w'.cell? ⟨gi, 0, none⟩ = some (.pointer (some ⟨g, 0, none⟩)) ∧ w'.cell? ⟨bx, 0, none⟩ = some (S rn) ∧ w'.cell? ⟨bx, 1, none⟩ = some (.bool ra)) := hide (fun w' hk => by
       exact ⟨(HIMB.out.keep hk hgs).cell 0, (HBX4.out.keep hk hxs).cell 0, (HBX4.out.keep hk hxs).cell 1⟩
       )
      have HR : Hid (Keep (fun b => b = s) w4 w4.drew) := hide (Keep.refl _ _).drew
      replace HT := hide HT.out.drew
      refine wp_region_noPanic ?_
      refine tkB HS HR.out (fun hHeld => ?_)
      obtain ⟨w5, hw5⟩ : ∃ x, x = w4.drew := ⟨_, rfl⟩
      rw [← hw5] at hHeld HR HT ⊢
      have HX5 := hide (fun _ : Unit => hw5)
      clear hw5
      refine tkL 0 ?_ ?_ ?_
      rotate_left
      ·(rintro wS ⟨e0, e1, e2⟩; go_simp; try with_reducible rfl)
      try simp only [sP]
      refine tkL 1 ?_ ?_ ?_
      rotate_left
      ·(rintro wS ⟨e0, e1, e2⟩; go_simp; try with_reducible rfl)
      try simp only [sP]
      refine tkL 2 ?_ ?_ ?_
      rotate_left
      ·(rintro wS ⟨e0, e1, e2⟩; go_simp; try with_reducible rfl)
      try simp only [sP]
      refine tkL 3 ?_ ?_ ?_
      rotate_left
      ·(rintro wS ⟨e0, e1, e2⟩; go_simp; try with_reducible rfl)
      try simp only [sP]
      refine tkC 4 (fun K hK => ?_)
      try rw [if_pos (by rfl)]
      go_simp
      go_at_call 7
      refine (HCK.out _ (HX5.out ())).mono ?_
      rintro e w6 ⟨z2, c1, c2, i2, rfl, hz2, hv2, hk2⟩
      replace HT := hide hv2.tab
      replace HR := hide (HR.out.tr hk2)
      obtain rfl : z2 = 0 := hz2.2 rfl
      clear hz2 hv2 hk2
      have hfd : ∀ w : World, (Instr.field 32 (.agg #[.int .i64 0, S c1, S c2, .int .i64 i2]) 0).run Tryd.prog w = .ok (.int .i64 0) w := fun _ => by kernel_rfl
      try go_wp2_with fail
      refine hK.out _ _ (HS.out _ HR.out) (fun hHeld => ?_)
      clear hK K
      try simp only [sP]
      refine tkL 5 ?_ ?_ ?_
      rotate_left
      ·(rintro wS ⟨e0, e1, e2⟩; go_simp; try with_reducible rfl)
      try simp only [sP]
      refine tkL 6 ?_ ?_ ?_
      rotate_left
      ·(rintro wS ⟨e0, e1, e2⟩; go_simp; try with_reducible rfl)
      try simp only [sP]
      refine tkL 7 ?_ ?_ ?_
      rotate_left
      ·(rintro wS ⟨e0, e1, e2⟩; go_simp; try with_reducible rfl)
      try simp only [sP]
      refine tkL 8 ?_ ?_ ?_
      rotate_left
      ·(rintro wS ⟨e0, e1, e2⟩; go_simp; try with_reducible rfl)
      try simp only [sP]
      refine tkL 9 ?_ ?_ ?_
      rotate_left
      ·(rintro wS ⟨e0, e1, e2⟩; go_simp; try with_reducible rfl)
      try simp only [sP]
      refine tkL 10 ?_ ?_ ?_
      rotate_left
      ·(rintro wS ⟨e0, e1, e2⟩; go_simp; try with_reducible rfl)
      try simp only [sP]
      refine tkL 11 ?_ ?_ ?_
      rotate_left
      ·(rintro wS ⟨e0, e1, e2⟩; go_simp; try with_reducible rfl)
      try simp only [sP]
      refine tkL 12 ?_ ?_ ?_
      rotate_left
      ·(rintro wS ⟨e0, e1, e2⟩; go_simp; try with_reducible rfl)
      try simp only [sP]
      refine tkL 13 ?_ ?_ ?_
      rotate_left
      ·(rintro wS ⟨e0, e1, e2⟩; go_simp; try with_reducible rfl)
      try simp only [sP]
      refine tkC 14 (fun K hK => ?_)
      try rw [if_pos (by rfl)]
      go_simp
      try go_wp2_with fail
      refine hK.out _ _ (HS.out _ (HR.out.tr (keep_s' (s := s) ((Below.refl _ _).alloc (Nat.le_refl _) _)))) (fun hHeld => ?_)
      clear hK K
      try simp only [sP]
      obtain ⟨w7, hw7⟩ : ∃ y, y = w6.alloc (.cells #[S rn, .bool ra] 24) := ⟨_, rfl⟩
      obtain ⟨rB, hrB⟩ : ∃ y, y = w6.heap.size := ⟨_, rfl⟩
      have HBK : Hid (Blk w7 rB 24 #[S rn, .bool ra]) := hide (by rw [hw7, hrB]; exact Blk.new _ _ _)
      have hl_rB : w6.heap.size ≤ rB := by omega
      have hsz_rB := HR.out.size
      have hbel : Below w6.heap.size w6 w7 := by rw [hw7]; exact (Below.refl _ _).alloc (Nat.le_refl _) _
      replace HT := hide (HT.out.below hbel)
      replace HR := hide (HR.out.tr (keep_s' (s := s) hbel))
      rw [← hw7] at hHeld ⊢
      rw [← hrB]
      clear hw7 hrB hbel
      refine tkC 15 (fun K hK => ?_)
      try rw [if_pos (by rfl)]
      go_simp
      go_at_call 8
      refine (HKN.out _ _ _ HT.out (by omega) HBK.out (by omega)).mono ?_
      rintro e w8 ⟨rfl, ht8, hk8⟩
      replace HT := hide ht8
      replace HR := hide (HR.out.tr hk8)
      clear ht8 hk8
      try go_wp2_with fail
      refine hK.out _ _ (HS.out _ HR.out) (fun hHeld => ?_)
      clear hK K
      try simp only [sP]
      refine tkL 16 ?_ ?_ ?_
      rotate_left
      ·(rintro wS ⟨e0, e1, e2⟩; go_simp; try with_reducible rfl)
      try simp only [sP]
      refine tkL 17 ?_ ?_ ?_
      rotate_left
      ·(rintro wS ⟨e0, e1, e2⟩; go_simp; try with_reducible rfl)
      try simp only [sP]
      refine wpAnyH_done (by kernel_rfl) ?_ _
      refine NoPanic.normal ?_
      have HB8 := hide (HB4.out.trans ((HR.out.below (B := w.heap.size) (by omega) (fun k hk => by omega))))
      have HBX8 := hide (HBX4.out.keep HR.out hxs)
      have hs48 := HR.out.size
      clear HS HR HT HIMB HBK HKN HCK HI HBX4 HB4
      cases KN
      case false =>
       go_wp2_with fail
       go_ret
       exact ⟨rfl, HB8.out⟩
      case true =>
       have HFL8 := hide (HFL.out.below9 HB8.out)
       obtain ⟨N, hN, hNe⟩ := i64_lowP 8 255 (by decide) (by decide) x1
       have hNe' : bits .and .i64 x1 255 = (N : Int) := hNe
       clear hNe
       go_upto_region 9 with fail
       obtain ⟨k, hk, hke⟩ : ∃ k : Nat, k < n ∧ ((N : Int) % (n : Int)) = (k : Int) := ⟨N % n, Nat.mod_lt _ (by omega), by omega⟩
       rw [hke]
       clear hke hNe' hN
       have hj2 : k < Fs.length := by omega
       obtain ⟨bb, o, rfl, hbs, hbl2, hcx⟩ := Rd.rec_ (f := Fl.cells) (fun _ => rfl) HFL8.out.1 hl k hk
       obtain ⟨f, hf⟩ : ∃ f, f = Fs[k] := ⟨_, rfl⟩
       rw [← hf] at hcx
       have hfm : f ∈ Fs := hf ▸ List.getElem_mem hj2
       have HFJ := hide (fun _ : Unit => hf)
       clear hf
       have m0 : w8.cell? ⟨bb, o + k * 10, none⟩ = some (S f.f.n) := hcx 0 _ rfl
       have m1 : w8.cell? ⟨bb, o + k * 10 + 1, none⟩ = some (S f.f.su) := hcx 1 _ rfl
       have m2 : w8.cell? ⟨bb, o + k * 10 + 2, none⟩ = some (.slice f.f.fA f.f.fl f.f.fc) := hcx 2 _ rfl
       have m3 : w8.cell? ⟨bb, o + k * 10 + 3, none⟩ = some (.slice f.f.mA f.f.ml f.f.mc) := hcx 3 _ rfl
       have m4 : w8.cell? ⟨bb, o + k * 10 + 4, none⟩ = some (.slice f.nA f.nl f.nc) := hcx 4 _ rfl
       have m5 : w8.cell? ⟨bb, o + k * 10 + 5, none⟩ = some (.slice f.cA f.cl f.cc) := hcx 5 _ rfl
       have m6 : w8.cell? ⟨bb, o + k * 10 + 6, none⟩ = some (.slice f.tA f.tl f.tc) := hcx 6 _ rfl
       have m7 : w8.cell? ⟨bb, o + k * 10 + 7, none⟩ = some (.slice f.dA f.dl f.dc) := hcx 7 _ rfl
       have m8 : w8.cell? ⟨bb, o + k * 10 + 8, none⟩ = some (.slice f.mA f.ml f.mc) := hcx 8 _ rfl
       have m9 : w8.cell? ⟨bb, o + k * 10 + 9, none⟩ = some (.slice f.bA f.bl f.bc) := hcx 9 _ rfl
       clear hcx
       go_upto_region 10 with fail
       refine name_world ?_
       intro w9 hw9
       obtain ⟨bf, hbf⟩ : ∃ y, y = w8.heap.size := ⟨_, rfl⟩
       have hbe : Below w8.heap.size w8 w9 := by rw [hw9]; exact (Below.refl _ _).alloc (Nat.le_refl _) _
       have HF9 : Hid (Blk w9 bf 52 #[S f.f.n, S f.f.su, .slice f.f.fA f.f.fl f.f.fc, .slice f.f.mA f.f.ml f.f.mc, .slice f.nA f.nl f.nc, .slice f.cA f.cl f.cc, .slice f.tA f.tl f.tc, .slice f.dA f.dl f.dc, .slice f.mA f.ml f.mc, .slice f.bA f.bl f.bc]) := hide (by rw [hw9, hbf]; exact Blk.new _ _ _)
       have HB9 : Hid (Below w.heap.size w w9) := hide (HB8.out.trans (hbe.mono HB8.out.size))
       have HBX9 := hide (HBX8.out.below hbe HBX8.out.lt)
       rw [← hbf]
       have hs89 := hbe.size
       have hbf8 : w8.heap.size ≤ bf := by omega
       clear hw9 hbf hbe HB8 HBX8 HFL8 m0 m1 m2 m3 m4 m5 m6 m7 m8 m9
       go_cut [13] (fun v13 wx => ∃ nm : List UInt8, v13 = S nm ∧ Hid ([] < nm ∧ nm.length ≤ 40) ∧ Hid (Below w9.heap.size w9 wx))
       case first =>
        obtain ⟨q, hqe, hq⟩ := six_of x2
        rcases q with _ | _ | _ | _ | _ | _ | q
        ·have hq0 : wrap64 ((IntKind.u64.wrap x2).tmod 6) = 0 := hqe
         go_wp2_with fail
         go_meet
         exact ⟨[109], rfl, hide (by decide), hide ((Below.refl _ _).alloc (Nat.le_refl _) _)⟩
        ·have hq0 : wrap64 ((IntKind.u64.wrap x2).tmod 6) = 1 := hqe
         go_wp2_with fail
         go_meet
         exact ⟨[110], rfl, hide (by decide), hide ((Below.refl _ _).alloc (Nat.le_refl _) _)⟩
        ·have hq0 : wrap64 ((IntKind.u64.wrap x2).tmod 6) = 2 := hqe
         go_wp2_with fail
         go_meet
         exact ⟨[103, 101, 116], rfl, hide (by decide), hide ((Below.refl _ _).alloc (Nat.le_refl _) _)⟩
        ·have hq0 : wrap64 ((IntKind.u64.wrap x2).tmod 6) = 3 := hqe
         go_wp2_with fail
         go_meet
         exact ⟨[115, 117, 109], rfl, hide (by decide), hide ((Below.refl _ _).alloc (Nat.le_refl _) _)⟩
        ·have hq0 : wrap64 ((IntKind.u64.wrap x2).tmod 6) = 4 := hqe
         go_wp2_with fail
         go_meet
         exact ⟨[110, 101, 119, 49], rfl, hide (by decide), hide ((Below.refl _ _).alloc (Nat.le_refl _) _)⟩
        ·have hq0 : wrap64 ((IntKind.u64.wrap x2).tmod 6) = 5 := hqe
         go_wp2_with fail
         go_meet
         exact ⟨[122], rfl, hide (by decide), hide ((Below.refl _ _).alloc (Nat.le_refl _) _)⟩
        ·omega
       case rest =>
        obtain ⟨nm, rfl, HNM, HBC⟩ := hcut
        obtain ⟨w10, rfl⟩ : ∃ y : World, y = wc := ⟨_, rfl⟩
        have HB10 : Hid (Below w.heap.size w w10) := hide (HB9.out.trans (HBC.out.mono HB9.out.size))
        have HBX10 := hide (HBX9.out.below HBC.out HBX9.out.lt)
        have HF10 := hide (HF9.out.below HBC.out HF9.out.lt)
        have hs9 := HBC.out.size
        clear HB9 HBX9 HF9 HBC
        obtain ⟨Q, hQ⟩ : ∃ y, y = (methOf f.f nm).isSome := ⟨_, rfl⟩
        obtain ⟨V, hV⟩ : ∃ y, y = (methOf f.f nm).getD zeroSg := ⟨_, rfl⟩
        have HAT := hide ((HFL.out.2.2.2 f hfm))
        have HME : Hid (Calls Tryd.prog 9 #[f.f.val, S nm] w10 (fun e w' => e = .returned (.tuple #[.agg #[S V.n, .bool V.st, .slice V.A V.k V.c, S V.r.n, .bool V.r.a], .bool Q]) ∧ Below w10.heap.size w10 w')) := hide (by rw [hQ, hV]; exact facemethod_any f.f nm w10 (((HAT.out.below HB10.out).weak (fun k hk => by have := HB10.out.size; omega)).fa))
        have HQ := hide (fun _ : Unit => hQ)
        clear hQ hV
        have p0 : w10.cell? ⟨bf, 0, none⟩ = some (S f.f.n) := HF10.out.cell 0
        have p1 : w10.cell? ⟨bf, 1, none⟩ = some (S f.f.su) := HF10.out.cell 1
        have p2 : w10.cell? ⟨bf, 2, none⟩ = some (.slice f.f.fA f.f.fl f.f.fc) := HF10.out.cell 2
        have p3 : w10.cell? ⟨bf, 3, none⟩ = some (.slice f.f.mA f.f.ml f.f.mc) := HF10.out.cell 3
        go_wp2_with fail
        refine HME.out.mono ?_
        rintro e w11 ⟨rfl, hb11⟩
        have HB11 : Hid (Below w.heap.size w w11) := hide (HB10.out.trans (hb11.mono HB10.out.size))
        have HBX11 := hide (HBX10.out.below hb11 HBX10.out.lt)
        have HF11 := hide (HF10.out.below hb11 HF10.out.lt)
        have hs1011 := hb11.size
        clear hb11 HB10 HBX10 HF10 HME p0 p1 p2 p3
        cases Q
        case true =>
         go_wp2_with fail
         go_ret
         exact ⟨rfl, HB11.out.trans (((Below.refl _ _).alloc (Nat.le_refl _) _).mono HB11.out.size)⟩
        case false =>
         go_upto_region 14 with fail
         refine name_world ?_
         intro w12 hw12
         have hbe : Below w11.heap.size w11 w12 := by rw [hw12]; exact (Below.refl _ _).alloc (Nat.le_refl _) _
         have HB12 : Hid (Below w.heap.size w w12) := hide (HB11.out.trans (hbe.mono HB11.out.size))
         have HBX12 := hide (HBX11.out.below hbe HBX11.out.lt)
         have HF12 := hide (HF11.out.below hbe HF11.out.lt)
         have hs1112 := hbe.size
         clear hw12 hbe HB11 HBX11 HF11
         have HWI : Hid (Calls Tryd.prog 10 #[f.val, S nm, .agg #[S rn, .bool ra]] w12 (WithEnd f nm ⟨rn, ra⟩ w12)) := hide (with_any f nm rn ra w12 ((HAT.out.below HB12.out).weak (fun k hk => by have := HB12.out.size; omega)) (HCAP.out f hfm).1 (HCAP.out f hfm).2 (HFEW.out f hfm).fa.2.1 (right_bl HAT.out (HLO.out.right f hfm)) (HFEW.out f hfm).n (by have := HNM.out.2; unfold short; omega) hrs)
         have p0 : w12.cell? ⟨bf, 0, none⟩ = some (S f.f.n) := HF12.out.cell 0
         have p1 : w12.cell? ⟨bf, 1, none⟩ = some (S f.f.su) := HF12.out.cell 1
         have p2 : w12.cell? ⟨bf, 2, none⟩ = some (.slice f.f.fA f.f.fl f.f.fc) := HF12.out.cell 2
         have p3 : w12.cell? ⟨bf, 3, none⟩ = some (.slice f.f.mA f.f.ml f.f.mc) := HF12.out.cell 3
         have p4 : w12.cell? ⟨bf, 4, none⟩ = some (.slice f.nA f.nl f.nc) := HF12.out.cell 4
         have p5 : w12.cell? ⟨bf, 5, none⟩ = some (.slice f.cA f.cl f.cc) := HF12.out.cell 5
         have p6 : w12.cell? ⟨bf, 6, none⟩ = some (.slice f.tA f.tl f.tc) := HF12.out.cell 6
         have p7 : w12.cell? ⟨bf, 7, none⟩ = some (.slice f.dA f.dl f.dc) := HF12.out.cell 7
         have p8 : w12.cell? ⟨bf, 8, none⟩ = some (.slice f.mA f.ml f.mc) := HF12.out.cell 8
         have p9 : w12.cell? ⟨bf, 9, none⟩ = some (.slice f.bA f.bl f.bc) := HF12.out.cell 9
         have q0 : w12.cell? ⟨bx, 0, none⟩ = some (S rn) := HBX12.out.cell 0
         have q1 : w12.cell? ⟨bx, 1, none⟩ = some (.bool ra) := HBX12.out.cell 1
         go_wp2_with fail
         refine HWI.out.mono ?_
         rintro e w13 ⟨g, a, he, hb13, hga, ha, hlt, hge, hgp⟩
         have he' : e = .returned (.agg #[S g.f.n, S g.f.su, .slice g.f.fA g.f.fl g.f.fc, .slice g.f.mA g.f.ml g.f.mc, .slice g.nA g.nl g.nc, .slice g.cA g.cl g.cc, .slice g.tA g.tl g.tc, .slice g.dA g.dl g.dc, .slice g.mA g.ml g.mc, .slice g.bA g.bl g.bc]) := he
         subst he'
         have HB13 : Hid (Below w.heap.size w w13) := hide (HB12.out.trans (hb13.mono HB12.out.size))
         have HF13 := hide (HF12.out.below hb13 HF12.out.lt)
         have hs1213 := hb13.size
         have HGA := hide hga
         have HAL : Hid (passB f.f g.f = true ∧ LinkOk (Fs.set k g) ∧ vAll ((Fs.set k g).map (·.f)) ((Fs.set k g).map Fl.pl) = true ∧ ∀ f ∈ Fs.set k g, FwL f) := hide (by
          have hm0 : methOf f.f nm = none := by
           cases h9 : methOf f.f nm with
           | none => rfl
           | some x => have h8 := HQ.out (); rw [h9] at h8; cases h8
          have hT := HTT.out ()
          have hv := HQ1.out ()
          have hkn := HKNE.out ()
          rw [hT] at hv hkn
          have hfe := HFJ.out ()
          subst hfe
          exact with_all HFL.out.2.2.2 hga HLO.out hv.symm HFEW.out (by omega) hj2 hgp ha hlt hge hm0 hkn.symm HNM.out.1 HNM.out.2 (by show rn.length ≤ 40; omega))
         clear he ha hlt hge hgp hga hb13 HB12 HBX12 HF12 HWI HQ p0 p1 p2 p3 p4 p5 p6 p7 p8 p9 q0 q1
         go_upto_region 15 with fail
         refine name_world ?_
         intro w14 hw14
         obtain ⟨bg, hbg⟩ : ∃ y, y = w13.heap.size := ⟨_, rfl⟩
         have hbe : Below w13.heap.size w13 w14 := by rw [hw14]; exact (Below.refl _ _).alloc (Nat.le_refl _) _
         have HG14 : Hid (Blk w14 bg 52 #[S g.f.n, S g.f.su, .slice g.f.fA g.f.fl g.f.fc, .slice g.f.mA g.f.ml g.f.mc, .slice g.nA g.nl g.nc, .slice g.cA g.cl g.cc, .slice g.tA g.tl g.tc, .slice g.dA g.dl g.dc, .slice g.mA g.ml g.mc, .slice g.bA g.bl g.bc]) := hide (by rw [hw14, hbg]; exact Blk.new _ _ _)
         have HB14 : Hid (Below w.heap.size w w14) := hide (HB13.out.trans (hbe.mono HB13.out.size))
         have HF14 := hide (HF13.out.below hbe HF13.out.lt)
         have HGA14 := hide ((HGA.out.below hbe).weak (G := fun k => w14.heap.size ≤ k) (fun k hk => by have := hbe.size; omega))
         have hbg13 : w13.heap.size ≤ bg := by omega
         have hs1314 := hbe.size
         rw [← hbg]
         clear hw14 hbg hbe HB13 HF13 HGA
         have HPA : Hid (Calls Tryd.prog 11 #[f.f.val, g.f.val] w14 (Gives w14 (.bool true))) := hide (by have h9 := pass_any f.f g.f w14 (((HAT.out.below HB14.out).weak (fun k hk => by have := HB14.out.size; omega)).fa) HGA14.out.fa; rwa [HAL.out.1] at h9)
         have p0 : w14.cell? ⟨bf, 0, none⟩ = some (S f.f.n) := HF14.out.cell 0
         have p1 : w14.cell? ⟨bf, 1, none⟩ = some (S f.f.su) := HF14.out.cell 1
         have p2 : w14.cell? ⟨bf, 2, none⟩ = some (.slice f.f.fA f.f.fl f.f.fc) := HF14.out.cell 2
         have p3 : w14.cell? ⟨bf, 3, none⟩ = some (.slice f.f.mA f.f.ml f.f.mc) := HF14.out.cell 3
         have q0 : w14.cell? ⟨bg, 0, none⟩ = some (S g.f.n) := HG14.out.cell 0
         have q1 : w14.cell? ⟨bg, 1, none⟩ = some (S g.f.su) := HG14.out.cell 1
         have q2 : w14.cell? ⟨bg, 2, none⟩ = some (.slice g.f.fA g.f.fl g.f.fc) := HG14.out.cell 2
         have q3 : w14.cell? ⟨bg, 3, none⟩ = some (.slice g.f.mA g.f.ml g.f.mc) := HG14.out.cell 3
         go_wp2_with fail
         refine HPA.out.mono ?_
         rintro e w15 ⟨rfl, hb15⟩
         have HB15 : Hid (Below w.heap.size w w15) := hide (HB14.out.trans (hb15.mono HB14.out.size))
         have HG15 := hide (HG14.out.below hb15 HG14.out.lt)
         have HGA15 := hide ((HGA14.out.below hb15).weak (G := fun k => w15.heap.size ≤ k) (fun k hk => by have := hb15.size; omega))
         have hs1415 := hb15.size
         have hbg15 : bg < w15.heap.size := by have := HG14.out.lt; omega
         clear hb15 HB14 HG14 HGA14 HF14 HPA p0 p1 p2 p3 q0 q1 q2 q3
         go_upto_region 17 with fail
         obtain ⟨Wn, HWN⟩ : ∃ y : Nat, w15.heap.size ≤ y ∧ y ≤ w15.heap.size := ⟨_, Nat.le_refl _, Nat.le_refl _⟩
         have HOE := hide (own_empty (size := 10) (B := Wn) (Blk.new w15 52 #[]) HWN.2)
         have hbE : Below w15.heap.size w15 (w15.alloc (.cells #[] 52)) := (Below.refl _ _).alloc (Nat.le_refl _) _
         have HRE := hide ((HFL.out.1.below HB15.out).below (hbE.mono HB15.out.size))
         have hszE : (w15.alloc (.cells #[] 52)).heap.size = w15.heap.size + 1 := by simp
         have HSZE := hide (fun _ : Unit => hszE)
         have HBE := hide hbE
         clear hszE hbE
         go_upto_region 18 with (at_builtin; refine app_rd rfl (.tmp 93) (.tmp 94) 22 rfl Wn 52 _ 10 224 Tryd.underlying22 file_info rfl (by decide) (.slice (some ⟨w15.heap.size, 0, none⟩) 0 0) 0 [] rfl HOE.out (some ⟨bb, o, none⟩) n c (Fs.flatMap Fl.cells) rfl HRE.out (fl_one _) (by unfold maxLen; omega) (by omega) (by rw [HSZE.out ()]; omega) ?_; intro A5 c5 w16 hown hgrow _; simp only [Nat.zero_add, List.nil_append] at hown ⊢; have HO16 := hide hown; have hk16 : Keep (fun b => Wn ≤ b) (w15.alloc (.cells #[] 52)) w16 := (Keep.refl _ _).grown hgrow (fun k hk _ => (own_base HOE.out hk).1); have HK16 : Hid (Keep (fun b => Wn ≤ b) w15 w16) := hide ((keep_any (F := fun b => Wn ≤ b) HBE.out).tr hk16); clear hown hgrow hk16)
         obtain ⟨bn, rfl⟩ := own_some HO16.out (by omega)
         have HG16 := hide (HG15.out.keep HK16.out (by omega))
         have hbn := (own_base HO16.out (k := bn) rfl).1
         have hs1516 := HK16.out.size
         clear HOE HRE HSZE HBE HG15
         obtain ⟨_, _, hfz, _⟩ := rd_set10 HO16.out hj2 g (F := fun _ => False) (fun h => h)
         obtain ⟨b0, o0, he0, _, _, hcx⟩ := Rd.rec_ (f := Fl.cells) (fun _ => rfl) (own_rdF (F := fun _ => False) HO16.out (fun _ _ h => h)) hl k hk
         injection he0 with he0
         injection he0 with he1 he2
         subst he1 he2
         have q0 : w16.cell? ⟨bg, 0, none⟩ = some (S g.f.n) := HG16.out.cell 0
         have q1 : w16.cell? ⟨bg, 1, none⟩ = some (S g.f.su) := HG16.out.cell 1
         have q2 : w16.cell? ⟨bg, 2, none⟩ = some (.slice g.f.fA g.f.fl g.f.fc) := HG16.out.cell 2
         have q3 : w16.cell? ⟨bg, 3, none⟩ = some (.slice g.f.mA g.f.ml g.f.mc) := HG16.out.cell 3
         have q4 : w16.cell? ⟨bg, 4, none⟩ = some (.slice g.nA g.nl g.nc) := HG16.out.cell 4
         have q5 : w16.cell? ⟨bg, 5, none⟩ = some (.slice g.cA g.cl g.cc) := HG16.out.cell 5
         have q6 : w16.cell? ⟨bg, 6, none⟩ = some (.slice g.tA g.tl g.tc) := HG16.out.cell 6
         have q7 : w16.cell? ⟨bg, 7, none⟩ = some (.slice g.dA g.dl g.dc) := HG16.out.cell 7
         have q8 : w16.cell? ⟨bg, 8, none⟩ = some (.slice g.mA g.ml g.mc) := HG16.out.cell 8
         have q9 : w16.cell? ⟨bg, 9, none⟩ = some (.slice g.bA g.bl g.bc) := HG16.out.cell 9
         generalize Fs[k] = X0 at hcx
         have t0 : w16.cell? ⟨bn, k * 10, none⟩ = some (S X0.f.n) := by have h9 := hcx 0 _ rfl; rw [Nat.zero_add] at h9; exact h9
         have t1 : w16.cell? ⟨bn, k * 10 + 1, none⟩ = some (S X0.f.su) := by have h9 := hcx 1 _ rfl; rw [Nat.zero_add] at h9; exact h9
         have t2 : w16.cell? ⟨bn, k * 10 + 2, none⟩ = some (.slice X0.f.fA X0.f.fl X0.f.fc) := by have h9 := hcx 2 _ rfl; rw [Nat.zero_add] at h9; exact h9
         have t3 : w16.cell? ⟨bn, k * 10 + 3, none⟩ = some (.slice X0.f.mA X0.f.ml X0.f.mc) := by have h9 := hcx 3 _ rfl; rw [Nat.zero_add] at h9; exact h9
         have t4 : w16.cell? ⟨bn, k * 10 + 4, none⟩ = some (.slice X0.nA X0.nl X0.nc) := by have h9 := hcx 4 _ rfl; rw [Nat.zero_add] at h9; exact h9
         have t5 : w16.cell? ⟨bn, k * 10 + 5, none⟩ = some (.slice X0.cA X0.cl X0.cc) := by have h9 := hcx 5 _ rfl; rw [Nat.zero_add] at h9; exact h9
         have t6 : w16.cell? ⟨bn, k * 10 + 6, none⟩ = some (.slice X0.tA X0.tl X0.tc) := by have h9 := hcx 6 _ rfl; rw [Nat.zero_add] at h9; exact h9
         have t7 : w16.cell? ⟨bn, k * 10 + 7, none⟩ = some (.slice X0.dA X0.dl X0.dc) := by have h9 := hcx 7 _ rfl; rw [Nat.zero_add] at h9; exact h9
         have t8 : w16.cell? ⟨bn, k * 10 + 8, none⟩ = some (.slice X0.mA X0.ml X0.mc) := by have h9 := hcx 8 _ rfl; rw [Nat.zero_add] at h9; exact h9
         have t9 : w16.cell? ⟨bn, k * 10 + 9, none⟩ = some (.slice X0.bA X0.bl X0.bc) := by have h9 := hcx 9 _ rfl; rw [Nat.zero_add] at h9; exact h9
         clear hcx
         go_upto_region 19 with fail
         refine name_world ?_
         intro w17 hw17
         have hw17' : w17 = w16.setCells bn (k * 10) g.cells := hw17
         have HNW : Hid (Rd w17 (fun k => w17.heap.size ≤ k) 10 (some ⟨bn, 0, none⟩) n ((Fs.set k g).flatMap Fl.cells)) := hide (by rw [hw17']; exact (rd_set10 HO16.out hj2 g (fun h => by have h8 := (own_base HO16.out (k := bn) rfl).2; have h9 : (w16.setCells bn (k * 10) g.cells).heap.size = w16.heap.size := (by simp [Fl.cells, World.setCells]); omega)).2.1)
         have hk17 : Keep (fun b => w15.heap.size ≤ b) w15 w17 := (HK16.out.mono (fun k _ h => by omega)).trans' (show Keep (fun i => i = bn) w16 w17 by rw [hw17']; exact Keep.setCells (F := fun i => i = bn) (fun _ => rfl) _ _ (Keep.refl _ _)) (fun k _ h => by omega)
         have HB17 : Hid (Below w.heap.size w w17) := hide (HB15.out.trans (hk17.below (B := w.heap.size) HB15.out.size (fun k h => by have := HB15.out.size; omega)))
         have hs17 := hk17.size
         have HFL17 : Hid (FlsAt w17 (fun k => w17.heap.size ≤ k) (some ⟨bn, 0, none⟩) n (Fs.set k g)) := hide ⟨HNW.out, by simp [hl], hn63, fun x hx => by
          rcases List.mem_or_eq_of_mem_set hx with h9 | h9
          ·exact ((HFL.out.2.2.2 x h9).below HB17.out).weak (fun k hk => by have := HB17.out.size; omega)
          ·subst h9; exact (HGA15.out.keep hk17).weak (fun k hk => by omega)⟩
         have HLK2 : Hid (Calls Tryd.prog 6 #[.slice (some ⟨bn, 0, none⟩) n c5] w17 (LinkEnd (Fs.set k g) w17)) := hide (link_any _ n c5 _ w17 (HM.out.below HB17.out (Nat.le_refl _)) HFL17.out hn8 (fun x hx => (HAL.out.2.2.2 x hx).m))
         clear hw17 hw17' hk17 HNW HFL17 HO16 HK16 HG16 hfz HGA15 HB15 q0 t0 q1 t1 q2 t2 q3 t3 q4 t4 q5 t5 q6 t6 q7 t7 q8 t8 q9 t9
         go_wp2_with fail
         refine HLK2.out.mono ?_
         rintro e w18 ⟨P2, z, rfl, hz, hb18, him⟩
         obtain rfl : z = 0 := hz.2 HAL.out.2.1
         obtain ⟨gi2, g2, m2, s2, mf2, nn2, nA2, nc2, rfl, him2, hnn2, hs2⟩ := him rfl
         have hvg := vg_of HAL.out.2.1 (by simp; omega) HAL.out.2.2.2
         have HVG2 := hide hvg
         have HI2 := hide him2
         have HB18 : Hid (Below w.heap.size w w18) := hide (HB17.out.trans (hb18.mono HB17.out.size))
         have HIB2 := hide him2.bk
         have hgs2 := him2.gis
         have hs1718 := hb18.size
         have hB17 := HB17.out.size
         clear hz him hvg him2 hb18 HB17 HLK2
         have HCK2 : Hid (∀ ww, ww = w18 → Calls Tryd.prog 7 #[.pointer (some ⟨gi2, 0, none⟩)] ww (fun e w' => ∃ (c1 c2 : List UInt8) (i : Int), e = .returned (.agg #[.int .i64 0, S c1, S c2, .int .i64 i]) ∧ Keep (fun k => k = s2) ww w')) := hide (fun ww hww => by
          subst hww
          refine (chk_walk ww gi2 g2 m2 s2 nn2 mf2 nc2 _ _ nA2 HI2.out HVG2.out (by omega)).mono ?_
          rintro e w' ⟨z, c1, c2, i, rfl, hz, _, hk⟩
          obtain rfl : z = 0 := hz.2 HAL.out.2.2.1
          exact ⟨c1, c2, i, rfl, hk⟩)
         go_wp2_with fail
         refine (HCK2.out _ rfl).mono ?_
         rintro e w20 ⟨d1, d2, j2, rfl, hk2⟩
         have HR := hide hk2
         have hfd : ∀ w : World, (Instr.field 32 (.agg #[.int .i64 0, S d1, S d2, .int .i64 j2]) 0).run Tryd.prog w = .ok (.int .i64 0) w := fun _ => by kernel_rfl
         have HB20 := hide (HB18.out.trans ((HR.out.below (B := w.heap.size) (by omega) (fun k hk => by omega))))
         clear hk2
         go_wp2_with fail
         go_ret
         exact ⟨rfl, HB20.out⟩
end Go.Proofs.YtmbegaobnpoefaaDoor
