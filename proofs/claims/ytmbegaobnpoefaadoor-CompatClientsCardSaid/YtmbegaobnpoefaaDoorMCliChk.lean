/- verify.Check, walked; no statement of the seat is proved here. (Written by gen/vchk.py.) -/
import Derived.Test.YtmbegaobnpoefaaDoorMCliChkM
import Derived.Test.YtmbegaobnpoefaaDoorMCliRun
import Derived.BigRegion
namespace Go.Proofs.YtmbegaobnpoefaaDoor
open Go.RowKit Go.Maps
set_option linter.unusedVariables false
set_option linter.unusedSimpArgs false
theorem vfile_of {T : List Fc} {F : FileP} (h : ∀ j, j < F.f.ms.length → vAt T F j = true) : vFile T F = true := by
 unfold vFile
 rw [List.all_eq_true]
 intro j hj
 exact h j (List.mem_range.1 hj)
theorem vfile_not {T : List Fc} {F : FileP} {j : Nat} (hj : j < F.f.ms.length) (h : vAt T F j = false) : vFile T F = false := by
 cases hv : vFile T F with
 | false => rfl
 | true =>
  unfold vFile at hv
  rw [List.all_eq_true] at hv
  rw [hv j (List.mem_range.2 hj)] at h
  cases h
theorem vall_of {T : List Fc} {Fs : List Fl} (h : ∀ (i : Nat) (hi : i < Fs.length), vFile T Fs[i].pl = true) : vAll T (Fs.map Fl.pl) = true := by
 unfold vAll
 rw [List.all_eq_true]
 intro x hx
 rw [List.mem_map] at hx
 obtain ⟨f, hf, rfl⟩ := hx
 obtain ⟨i, hi, rfl⟩ := List.getElem_of_mem hf
 exact h i hi
theorem vall_not {T : List Fc} {Fs : List Fl} {f : Fl} (hf : f ∈ Fs) (h : vFile T f.pl = false) : vAll T (Fs.map Fl.pl) = false := by
 cases hv : vAll T (Fs.map Fl.pl) with
 | false => rfl
 | true =>
  unfold vAll at hv
  rw [List.all_eq_true] at hv
  rw [hv f.pl (List.mem_map_of_mem hf)] at h
  cases h
theorem fin4 {w wr : World} {gi g m s n r : Nat} {T : List Fc} (hv : Vt wr gi g m s T n) (hk : Keep (fun k => k = s) w wr) (hr : w.heap.size ≤ r) (hl : gi < w.heap.size ∧ g < w.heap.size ∧ m < w.heap.size ∧ s < w.heap.size) (a b c d : Value) (hn : n ≤ 4000000000000000) :
  Vt ((((wr.setCell ⟨r, 0, none⟩ a).setCell ⟨r, 1, none⟩ b).setCell ⟨r, 2, none⟩ c).setCell ⟨r, 3, none⟩ d) gi g m s T 4000000000000000 ∧ Keep (fun k => k = s) w ((((wr.setCell ⟨r, 0, none⟩ a).setCell ⟨r, 1, none⟩ b).setCell ⟨r, 2, none⟩ c).setCell ⟨r, 3, none⟩ d) := by
 have h1 : Keep (fun k => k = r) wr ((((wr.setCell ⟨r, 0, none⟩ a).setCell ⟨r, 1, none⟩ b).setCell ⟨r, 2, none⟩ c).setCell ⟨r, 3, none⟩ d) := ((((Keep.refl (fun k => k = r) wr).setCell (p := ⟨r, 0, none⟩) (fun _ => rfl) _).setCell (p := ⟨r, 1, none⟩) (fun _ => rfl) _).setCell (p := ⟨r, 2, none⟩) (fun _ => rfl) _).setCell (p := ⟨r, 3, none⟩) (fun _ => rfl) _
 exact ⟨(hv.far (B := w.heap.size) h1 (fun k e => by omega) hl).mono hn, hk.trans' h1 (fun k hk e => by omega)⟩
set_option maxRecDepth 100000 in
set_option maxHeartbeats 8000000 in
theorem chk_walk (w : World) (gi g m s n mf nc : Nat) (T : List Fc) (Fs : List Fl) (nA : Option Addr) (h : Im w (fun k => k = s ∨ w.heap.size ≤ k) gi g m s n mf T Fs nA nc) (v : Vg T Fs) (hn : n ≤ 800000000000000) :
  Calls Tryd.prog 7 #[.pointer (some ⟨gi, 0, none⟩)] w (fun e w' => ∃ (z : Int) (c1 c2 : List UInt8) (i : Int), e = .returned (.agg #[.int .i64 z, S c1, S c2, .int .i64 i]) ∧ (z = 0 ↔ vAll T (Fs.map Fl.pl) = true) ∧ Vt w' gi g m s T 4000000000000000 ∧ Keep (fun k => k = s) w w') := by
 obtain ⟨w1, hw1⟩ : ∃ x, x = w.alloc (.cells #[.int .i64 0, .string { data := #[] }, .string { data := #[] }, .int .i64 0] 32) := ⟨_, rfl⟩
 obtain ⟨r2, hr2⟩ : ∃ x, x = w.heap.size := ⟨_, rfl⟩
 have HZ : Hid (Blk w1 r2 32 #[.int .i64 0, .string { data := #[] }, .string { data := #[] }, .int .i64 0]) := hide (by rw [hw1, hr2]; exact Blk.new _ _ _)
 have hb1 : Below w.heap.size w w1 := by rw [hw1]; exact (Below.refl _ _).alloc (Nat.le_refl _) _
 have hs : s < w.heap.size := h.vt.tab.slt
 have hgl : gi < w.heap.size ∧ g < w.heap.size ∧ m < w.heap.size ∧ s < w.heap.size := ⟨h.bk.lt, h.vt.tab.blk.lt, h.vt.tab.faces.lt, hs⟩
 have HI1 := hide (h.below hb1)
 have HB1 := hide hb1
 have hs1 := hb1.size
 have HNM := hide (names_any gi Fs.length nc nA (Fs.map (·.f.n)) _ _ w1 HI1.out.bk (by rw [List.map_map]; exact HI1.out.nr.weak (G := fun k => w1.heap.size ≤ k) (fun k _ e => .inr (by omega))) (by have := v.len; omega))
 have HV := hide v
 clear h v hb1
 go_enter Tryd.func7, Tryd.ntmps7
 go_upto_region 1 with fail
 rw [← hw1, ← hr2]
 have hrr : w.heap.size ≤ r2 := by omega
 clear hw1 hr2
 go_upto_region 2 with (go_at_call 18; refine HNM.out.mono ?_; rintro e w2 ⟨A', c', rfl, ho, hb2⟩; have HO := hide ho; have HB2 := hide hb2; clear ho hb2)
 have HNR : Hid (Rd w2 (fun k => k = s) 1 A' Fs.length (Fs.map fun f => S f.f.n)) := hide (by have h9 := Rd.of_own2 (F := fun k => k = s) HO.out (fun k hk e => by omega); rw [List.map_map] at h9; exact h9)
 have HI2 := hide (HI1.out.below HB2.out)
 have HZ2 := hide (HZ.out.below HB2.out HZ.out.lt)
 have HKW : Hid (Keep (fun k => k = s) w w2) := hide (keep_any (HB1.out.trans (HB2.out.mono hs1)))
 have hr2s : ¬ r2 = s := by omega
 have hs2 := HB2.out.size
 have HVT : Hid (Vt w2 gi g m s T n) := hide HI2.out.vt
 clear HNM HO HB2 HB1 HZ HI1
 have hlen := HV.out.len
 go_loopw [14] (fun v14 wr => ∃ (i nn : Nat), i ≤ Fs.length ∧ v14 = .int .i64 (i : Int) ∧ Hid (Keep (fun k => k = s) w2 wr) ∧ Hid (Vt wr gi g m s T nn) ∧ nn ≤ n + 13 * 30000010000000 * i ∧ Hid (∀ (ii : Nat) (hi : ii < Fs.length), ii < i → vFile T Fs[ii].pl = true)) (fun v14 _ => Fs.length - (intOf v14).toNat)
 case atStart => exact ⟨0, n, Nat.zero_le _, rfl, hide (Keep.refl _ _), HVT, by omega, hide (fun ii _ h => absurd h (Nat.not_lt_zero _))⟩
 case round =>
  obtain ⟨i, nn, hi, rfl, HK, HVr, hnn, HD⟩ := hrel
  clear HVT
  have HIr : Hid (Im wr (fun k => k = s ∨ w.heap.size ≤ k) gi g m s nn mf T Fs nA nc) := hide (HI2.out.keep HVr.out HK.out (.inl rfl))
  have HZr := hide (HZ2.out.keep HK.out hr2s)
  by_cases hlt : i < Fs.length
  case neg =>
   have hil : i = Fs.length := by omega
   have HALL : Hid (∀ _ : Unit, vAll T (Fs.map Fl.pl) = true) := hide (fun _ => vall_of (fun ii hii => HD.out ii hii (by omega)))
   have z0 : wr.cell? ⟨r2, 0, none⟩ = some (.int .i64 0) := HZr.out.cell 0
   have z1 : wr.cell? ⟨r2, 1, none⟩ = some (.string { data := #[] }) := HZr.out.cell 1
   have z2 : wr.cell? ⟨r2, 2, none⟩ = some (.string { data := #[] }) := HZr.out.cell 2
   have z3 : wr.cell? ⟨r2, 3, none⟩ = some (.int .i64 0) := HZr.out.cell 3
   have zf := HZr.out.frozen
   go_wp2_with fail
   refine bodyPost_ret (v := .agg #[.int .i64 0, S [], S [], .int .i64 0]) ?_ rfl ?_
   ·simp [results, Tryd.results7, go_sem, z0, z1, z2, z3]
   ·have h9 := fin4 HVr.out (HKW.out.tr HK.out) hrr hgl (.int .i64 0) (.string { data := #[] }) (.string { data := #[] }) (.int .i64 0) (by omega)
    exact ⟨0, [], [], 0, rfl, ⟨fun _ => HALL.out (), fun _ => rfl⟩, h9.1, h9.2⟩
  case pos =>
   obtain ⟨f, hf⟩ : ∃ f, f = Fs[i] := ⟨_, rfl⟩
   have hfm : f ∈ Fs := hf ▸ List.getElem_mem hlt
   obtain ⟨bn, on_, rfl, hbn, _, hcn⟩ := Rd.at1 (HNR.out.keep HK.out) rfl i hlt
   rw [← hf] at hcn
   have hsf : short f.f.n := (HIr.out.at_ f hfm).fa.2.2.1
   have hfg : fget Fs f.f.n = some f := HIr.out.un f hfm
   have HFI : Hid (Calls Tryd.prog 19 #[.pointer (some ⟨gi, 0, none⟩), S f.f.n] wr (Gives wr (.tuple #[f.val, .bool true]))) := hide (by have h9 := file_any gi mf Fs.length Fs f.f.n _ _ wr HIr.out.bk HIr.out.fm hsf; unfold fileF at h9; rw [hfg] at h9; exact h9)
   clear hfg
   have HF := hide hf
   have HFM := hide hfm
   clear hf hfm
   go_upto_region 5 with (go_at_call 19; refine HFI.out.mono ?_; rintro e w3 ⟨rfl, hb3⟩; have HB3 := hide hb3; clear hb3)
   obtain ⟨w4, hw4⟩ : ∃ x, x = w3.alloc (.cells #[S f.f.n, S f.f.su, .slice f.f.fA f.f.fl f.f.fc, .slice f.f.mA f.f.ml f.f.mc, .slice f.nA f.nl f.nc, .slice f.cA f.cl f.cc, .slice f.tA f.tl f.tc, .slice f.dA f.dl f.dc, .slice f.mA f.ml f.mc, .slice f.bA f.bl f.bc] 52) := ⟨_, rfl⟩
   obtain ⟨r5, hr5⟩ : ∃ x, x = w3.heap.size := ⟨_, rfl⟩
   have hb4 : Below w3.heap.size w3 w4 := by rw [hw4]; exact (Below.refl _ _).alloc (Nat.le_refl _) _
   have HF5 : Hid (Blk w4 r5 52 #[S f.f.n, S f.f.su, .slice f.f.fA f.f.fl f.f.fc, .slice f.f.mA f.f.ml f.f.mc, .slice f.nA f.nl f.nc, .slice f.cA f.cl f.cc, .slice f.tA f.tl f.tc, .slice f.dA f.dl f.dc, .slice f.mA f.ml f.mc, .slice f.bA f.bl f.bc]) := hide (by rw [hw4, hr5]; exact Blk.new _ _ _)
   have hsz3 := HB3.out.size
   have hszr := HK.out.size
   have hr5w : w2.heap.size ≤ r5 := by omega
   have HB4 : Hid (Below wr.heap.size wr w4) := hide (HB3.out.trans (hb4.mono hsz3))
   rw [show (w3.alloc (.cells #[.string { data := f.f.n.toArray }, .string { data := f.f.su.toArray }, .slice f.f.fA f.f.fl f.f.fc, .slice f.f.mA f.f.ml f.f.mc, .slice f.nA f.nl f.nc, .slice f.cA f.cl f.cc, .slice f.tA f.tl f.tc, .slice f.dA f.dl f.dc, .slice f.mA f.ml f.mc, .slice f.bA f.bl f.bc] 52)) = w4 from hw4.symm]
   rw [← hr5]
   clear hw4 hr5 hb4
   have HK4 : Hid (Keep (fun k => k = s) w2 w4) := hide (HK.out.trans' (keep_any (F := fun _ => False) HB4.out) (fun _ _ h => h.elim))
   have HI4 := hide (HIr.out.below HB4.out)
   have HZ4 := hide (HZr.out.below HB4.out HZr.out.lt)
   have HV4 := hide HI4.out.vt
   have hr5s : ¬ r5 = s := by omega
   have hw4s := HB4.out.size
   clear HB3 HB4 HFI HVr HZr HIr hcn hsz3
   obtain ⟨mA, hmA⟩ : ∃ x, x = f.f.mA := ⟨_, rfl⟩
   have HMA := hide (fun _ : Unit => hmA)
   have c53 : w4.cell? ⟨r5, 3, none⟩ = some (.slice mA f.f.ml f.f.mc) := by rw [hmA]; exact HF5.out.cell 3
   clear hmA
   have hFA := hide (HI4.out.at_ f HFM.out)
   have hml : f.f.ms.length = f.f.ml := hFA.out.fa.2.1.2.1
   have hml2 : f.f.ml ≤ 13 := (HV.out.few f HFM.out).1
   go_wp2_with fail
   obtain ⟨wo, rfl⟩ : ∃ wo : World, wo = wr := ⟨_, rfl⟩
   go_loopw [28] (fun v28 wx => ∃ (j mm : Nat), j ≤ f.f.ml ∧ v28 = .int .i64 (j : Int) ∧ Hid (Keep (fun k => k = s) w4 wx) ∧ Hid (Vt wx gi g m s T mm) ∧ mm ≤ n + 13 * 30000010000000 * i + 30000010000000 * j ∧ Hid (∀ jj, jj < j → vAt T f.pl jj = true)) (fun v28 _ => f.f.ml - (intOf v28).toNat)
   case atStart => exact ⟨0, nn, Nat.zero_le _, rfl, hide (Keep.refl _ _), HV4, by omega, hide (fun jj h => absurd h (Nat.not_lt_zero _))⟩
   case round =>
    obtain ⟨j, mm, hj, rfl, HKx, HVx, hmm, HE⟩ := hrel
    clear HV4
    have HX := hide (HI4.out.keep HVx.out HKx.out (.inl rfl))
    have HF6 := hide (HF5.out.keep HKx.out hr5s)
    have HZx := hide (HZ4.out.keep HKx.out hr2s)
    have hwxs := HKx.out.size
    by_cases hjl : j < f.f.ml
    case neg =>
     have hvf : vFile T f.pl = true := vfile_of (fun jj h => HE.out jj (by have h9 : jj < (f.f.ms.map Sg.pl).length := h; rw [List.length_map] at h9; omega))
     have HVF := hide hvf
     clear hvf c53
     go_wp2_with fail
     go_roundw
     case rel => exact ⟨i + 1, mm, by omega, by go_num, hide (HK4.out.tr HKx.out), HVx, by omega, hide (fun ii hi hlt => by by_cases e : ii = i; subst e; rw [← HF.out]; exact HVF.out; exact HD.out ii hi (by omega))⟩
     case measure => simp [intOf]; omega
    case pos =>
     obtain ⟨hj1, hj2, hRc, h1N, hN100, hps, hsp, hsn, hsk, hlo, hsk1, hbk, hva⟩ := HV.out.at_ HFM.out (HX.out.at_ f HFM.out) j hjl (mm + 30000010000000) (by omega)
     have hFX := HX.out.at_ f HFM.out
     obtain ⟨bm, om, hmE, _, hbml, hmc⟩ := Rd.rec_ (f := Sg.cells) (fun _ => rfl) hFX.fa.2.1.1 hml j hjl
     obtain ⟨bb, ob, hbE, _, hbbl, hbc⟩ := Rd.rec_ (f := Bd.cells) (fun _ => rfl) hFX.br hFX.bL j (by have := hFX.bL; omega)
     have hbW := hFX.bW f.bs[j] (List.getElem_mem hj2)
     have hsW := hFX.fa.2.1.2.2.2 f.f.ms[j] (List.getElem_mem hj1)
     obtain ⟨sg, hsg⟩ : ∃ x, x = f.f.ms[j] := ⟨_, rfl⟩
     obtain ⟨b, hb⟩ : ∃ x, x = f.bs[j] := ⟨_, rfl⟩
     rw [← hsg] at hps hsp hva hsW
     rw [← hb] at hRc h1N hN100 hps hsk hlo hsk1 hbk hva hbW
     have hmc' : ∀ (i : Nat) (u : Value), (Sg.cells sg)[i]? = some u → wr.cell? ⟨bm, om + j * 5 + i, none⟩ = some u := by rw [hsg]; exact hmc
     have hbc' : ∀ (i : Nat) (u : Value), (Bd.cells b)[i]? = some u → wr.cell? ⟨bb, ob + j * 3 + i, none⟩ = some u := by rw [hb]; exact hbc
     have hjbl : j < f.bl := by have := hFX.bL; omega
     clear hsg hb hmc hbc hj1 hj2
     have hmA9 := (HMA.out ()).trans hmE
     subst hmA9
     clear hmE
     have m0 : wr.cell? ⟨bm, om + j * 5, none⟩ = some (S sg.n) := hmc' 0 _ rfl
     have m1 : wr.cell? ⟨bm, om + j * 5 + 1, none⟩ = some (.bool sg.st) := hmc' 1 _ rfl
     have m2 : wr.cell? ⟨bm, om + j * 5 + 2, none⟩ = some (.slice sg.A sg.k sg.c) := hmc' 2 _ rfl
     have m3 : wr.cell? ⟨bm, om + j * 5 + 3, none⟩ = some (S sg.r.n) := hmc' 3 _ rfl
     have m4 : wr.cell? ⟨bm, om + j * 5 + 4, none⟩ = some (.bool sg.r.a) := hmc' 4 _ rfl
     have HBC := hide hbc'
     have HBE := hide (fun _ : Unit => hbE)
     have HFX := hide hFX
     have HBW := hide hbW
     have HSW := hide hsW
     have HRC := hide hRc
     have HVA := hide (fun _ : Unit => hva)
     clear hbc' hmc' hbE hFX hbW hsW hRc hva c53
     go_upto_region 8 with fail
     obtain ⟨w6, hw6⟩ : ∃ x, x = wr.alloc (.cells #[S sg.n, .bool sg.st, .slice sg.A sg.k sg.c, S sg.r.n, .bool sg.r.a] 55) := ⟨_, rfl⟩
     obtain ⟨r8, hr8⟩ : ∃ x, x = wr.heap.size := ⟨_, rfl⟩
     have hb6 : Below wr.heap.size wr w6 := by rw [hw6]; exact (Below.refl _ _).alloc (Nat.le_refl _) _
     have HSB : Hid (Blk w6 r8 55 #[S sg.n, .bool sg.st, .slice sg.A sg.k sg.c, S sg.r.n, .bool sg.r.a]) := hide (by rw [hw6, hr8]; exact Blk.new _ _ _)
     have HF7 := hide (HF6.out.below hb6 HF6.out.lt)
     have HB6 := hide hb6
     have hr8w : wr.heap.size ≤ r8 := by omega
     rw [show (wr.alloc (.cells #[.string { data := sg.n.toArray }, .bool sg.st, .slice sg.A sg.k sg.c, .string { data := sg.r.n.toArray }, .bool sg.r.a] 55)) = w6 from hw6.symm]
     rw [← hr8]
     clear hw6 hr8 m0 m1 m2 m3 m4
     have d0 : w6.cell? ⟨r5, 0, none⟩ = some (S f.f.n) := HF7.out.cell 0
     have d1 : w6.cell? ⟨r5, 1, none⟩ = some (S f.f.su) := HF7.out.cell 1
     have d2 : w6.cell? ⟨r5, 2, none⟩ = some (.slice f.f.fA f.f.fl f.f.fc) := HF7.out.cell 2
     have d3 : w6.cell? ⟨r5, 3, none⟩ = some (.slice f.f.mA f.f.ml f.f.mc) := HF7.out.cell 3
     have d4 : w6.cell? ⟨r5, 4, none⟩ = some (.slice f.nA f.nl f.nc) := HF7.out.cell 4
     have d5 : w6.cell? ⟨r5, 5, none⟩ = some (.slice f.cA f.cl f.cc) := HF7.out.cell 5
     have d6 : w6.cell? ⟨r5, 6, none⟩ = some (.slice f.tA f.tl f.tc) := HF7.out.cell 6
     have d7 : w6.cell? ⟨r5, 7, none⟩ = some (.slice f.dA f.dl f.dc) := HF7.out.cell 7
     have d8 : w6.cell? ⟨r5, 8, none⟩ = some (.slice f.mA f.ml f.mc) := HF7.out.cell 8
     have d9 : w6.cell? ⟨r5, 9, none⟩ = some (.slice (some ⟨bb, ob, none⟩) f.bl f.bc) := by rw [← HBE.out ()]; exact HF7.out.cell 9
     have s0 : w6.cell? ⟨r8, 0, none⟩ = some (S sg.n) := HSB.out.cell 0
     have s1 : w6.cell? ⟨r8, 1, none⟩ = some (.bool sg.st) := HSB.out.cell 1
     have s2 : w6.cell? ⟨r8, 2, none⟩ = some (.slice sg.A sg.k sg.c) := HSB.out.cell 2
     have s3 : w6.cell? ⟨r8, 3, none⟩ = some (S sg.r.n) := HSB.out.cell 3
     have s4 : w6.cell? ⟨r8, 4, none⟩ = some (.bool sg.r.a) := HSB.out.cell 4
     have b0 : w6.cell? ⟨bb, ob + j * 3, none⟩ = some (.int .i64 b.lo) := by rw [← HBC.out 0 _ rfl]; exact (keep_any (F := fun _ => False) HB6.out).cell (p := ⟨bb, ob + j * 3, none⟩) hbbl (fun h => h)
     have b1 : w6.cell? ⟨bb, ob + j * 3 + 1, none⟩ = some (.int .i64 b.sk) := by rw [← HBC.out 1 _ rfl]; exact (keep_any (F := fun _ => False) HB6.out).cell (p := ⟨bb, ob + j * 3 + 1, none⟩) hbbl (fun h => h)
     have b2 : w6.cell? ⟨bb, ob + j * 3 + 2, none⟩ = some (.slice b.A b.k b.c) := by rw [← HBC.out 2 _ rfl]; exact (keep_any (F := fun _ => False) HB6.out).cell (p := ⟨bb, ob + j * 3 + 2, none⟩) hbbl (fun h => h)
     obtain ⟨w7, hw7⟩ : ∃ x, x = (w6.alloc (.cells (kCells gi f b sg (.slice none 0 0) (.slice none 0 0)) 79)).drew := ⟨_, rfl⟩
     obtain ⟨q, hq⟩ : ∃ x, x = w6.heap.size := ⟨_, rfl⟩
     have hb7 : Below w6.heap.size w6 w7 := by rw [hw7]; exact ((Below.refl _ _).alloc (Nat.le_refl _) _).drew
     have hkq : Blk w7 q 79 (kCells gi f b sg (.slice none 0 0) (.slice none 0 0)) := by rw [hw7, hq]; exact Blk.new _ _ _
     have hs7 : w7.heap.size = q + 1 := by rw [hw7, hq]; simp [World.drew]
     have hqw : wr.heap.size ≤ q := by rw [hq]; exact HB6.out.size
     have hr8q : r8 < q := by rw [hq]; exact HSB.out.lt
     have HB7 : Hid (Below wr.heap.size wr w7) := hide (HB6.out.trans (hb7.mono HB6.out.size))
     have HV7 := hide (HVx.out.below HB7.out)
     have hws : w.heap.size ≤ wr.heap.size := by have := HK.out.size; omega
     have HSY : Hid (Sy w7 w7.heap.size q gi g m s mm T f b sg (.slice none 0 0) (.slice none 0 0)) := hide ⟨⟨HV7.out, hkq, (HFX.out.keep (keep_any HB7.out)).weak (fun k e => by omega), (HBW.out.keep (keep_any HB7.out)).weak (fun k e => by omega), (HSW.out.keep (keep_any HB7.out)).weak (fun k e => by omega), by omega, Nat.le_refl _⟩, (HFX.out.keep (keep_any HB7.out)).weak (fun k e => by omega), (HBW.out.keep (keep_any HB7.out)).weak (fun k e => by omega), (HSW.out.keep (keep_any HB7.out)).weak (fun k e => by omega)⟩
     have HRUN := hide (run_any w7 w7.heap.size q gi g m s mm (mm + 30000010000000) b.code.length T f b sg HSY.out rfl HRC.out h1N hN100 hps hsp hsn (Nat.le_refl _) hsk hlo hsk1)
     have HS7 := hide (HSB.out.below hb7 HSB.out.lt)
     go_region
     have hlit : (w6.alloc (.cells #[.pointer (some ⟨gi, 0, none⟩), S f.f.n, S f.f.su, .slice f.f.fA f.f.fl f.f.fc, .slice f.f.mA f.f.ml f.f.mc, .slice f.nA f.nl f.nc, .slice f.cA f.cl f.cc, .slice f.tA f.tl f.tc, .slice f.dA f.dl f.dc, .slice f.mA f.ml f.mc, .slice (some ⟨bb, ob, none⟩) f.bl f.bc, .int .i64 b.lo, .int .i64 b.sk, .slice b.A b.k b.c, S sg.n, .bool sg.st, .slice sg.A sg.k sg.c, S sg.r.n, .bool sg.r.a, .slice none 0 0, .slice none 0 0] 79)).drew = w7 := by rw [hw7, ← HBE.out ()]
     rw [hlit, ← hq]
     clear hlit hw7 hq hb7 hkq HF7 HSB HB6 hb6 d0 d1 d2 d3 d4 d5 d6 d7 d8 d9 s0 s1 s2 s3 s4 b0 b1 b2 HBC HBE HFX HBW HSW HRC HSY HV7 hjbl
     go_upto_region 10 with (go_at_call 20; refine HRUN.out.mono ?_; rintro e w8 ⟨z, rfl, hz, hv8, hk8⟩; have HZZ := hide (fun _ : Unit => hz); have HV8 := hide hv8; have HK8 := hide hk8; clear hz hv8 hk8)
     have HKy : Hid (Keep (fun k => k = s) wr w8) := hide ((keep_any (F := fun k => k = s) HB7.out).trans' HK8.out (fun k hk e => by omega))
     have hva2 : vAt T f.pl j = decide (z < 0) := (HVA.out ()).trans (HZZ.out ()).symm
     have HV2 := hide hva2
     clear hva2
     by_cases hz0 : 0 ≤ z
     case neg =>
      have hvt : vAt T f.pl j = true := by rw [HV2.out]; exact decide_eq_true (by omega)
      have HVTT := hide hvt
      clear hvt
      go_wp2_with fail
      go_roundw
      case rel => exact ⟨j + 1, mm + 30000010000000, by omega, by go_num, hide (HKx.out.tr HKy.out), HV8, by omega, hide (fun jj hjj => by by_cases e : jj = j; subst e; exact HVTT.out; exact HE.out jj (by omega))⟩
      case measure => simp [intOf]; omega
     case pos =>
      have hvf : vAll T (Fs.map Fl.pl) = false := vall_not HFM.out (vfile_not (j := j) (by show j < (f.f.ms.map Sg.pl).length; rw [List.length_map]; omega) (by rw [HV2.out]; exact decide_eq_false (by omega)))
      have HVFF := hide hvf
      clear hvf
      have HZ8 := hide (HZx.out.keep HKy.out hr2s)
      have HS8 := hide (HS7.out.keep HK8.out (by omega))
      have z0 : w8.cell? ⟨r2, 0, none⟩ = some (.int .i64 0) := HZ8.out.cell 0
      have z1 : w8.cell? ⟨r2, 1, none⟩ = some (.string { data := #[] }) := HZ8.out.cell 1
      have z2 : w8.cell? ⟨r2, 2, none⟩ = some (.string { data := #[] }) := HZ8.out.cell 2
      have z3 : w8.cell? ⟨r2, 3, none⟩ = some (.int .i64 0) := HZ8.out.cell 3
      have zf := HZ8.out.frozen
      have s8 : w8.cell? ⟨r8, 0, none⟩ = some (S sg.n) := HS8.out.cell 0
      go_wp2_with fail
      refine bodyPost_ret (v := .agg #[.int .i64 31, S f.f.n, S sg.n, .int .i64 z]) ?_ rfl ?_
      ·simp [results, Tryd.results7, go_sem, z0, z1, z2, z3]
      ·have h9 := fin4 HV8.out (((HKW.out.tr HK4.out).tr HKx.out).tr HKy.out) hrr hgl (.int .i64 31) (S f.f.n) (S sg.n) (.int .i64 z) (by omega)
       exact ⟨31, f.f.n, sg.n, z, rfl, ⟨fun e => absurd e (by decide), fun e => by rw [HVFF.out] at e; cases e⟩, h9.1, h9.2⟩
end Go.Proofs.YtmbegaobnpoefaaDoor
