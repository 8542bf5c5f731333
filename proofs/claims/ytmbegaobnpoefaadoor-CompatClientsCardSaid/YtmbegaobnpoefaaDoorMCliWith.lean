/- kilnlaw20.with, walked; no statement of the seat is proved here. (Written by gen/vwith.py.) -/
import Derived.Test.YtmbegaobnpoefaaDoorMTk
import Derived.Test.YtmbegaobnpoefaaDoorMCliWithM
import Derived.Test.YtmbegaobnpoefaaDoorMCliChkM
import Derived.BigRegion
import Derived.Deep.DeepCutAuto
import Derived.Deep.CutBlock
import Derived.Deep.RegionHeld3
namespace Go.Proofs.YtmbegaobnpoefaaDoor
open Go.RowKit Go.Maps
set_option linter.unusedVariables false
set_option linter.unusedSimpArgs false
theorem sig_info : (Tryd.prog.info? 55).map (fun i => (i.zero, i.size, i.bytes)) = some (some (.agg #[.string { data := #[] }, .bool false, .slice none 0 0, .string { data := #[] }, .bool false]), 5, 72) := by kernel_rfl
theorem body_info : (Tryd.prog.info? 75).map (fun i => (i.zero, i.size, i.bytes)) = some (some (.agg #[.int .i64 0, .int .i64 0, .slice none 0 0]), 3, 40) := by kernel_rfl
theorem i64_info : (Tryd.prog.info? 2).map (fun i => (i.zero, i.size, i.bytes)) = some (some (.int .i64 0), 1, 8) := by kernel_rfl
theorem own_empty {w : World} {b B : Nat} {e : TypeId} {size : Nat} (h : Blk w b e #[]) (hB : B ≤ b) : w.ownsRow B e size (.slice (some ⟨b, 0, none⟩) 0 0) 0 [] :=
 ⟨by simp, .inr ⟨b, 0, #[], rfl, hB, h, by omega, by unfold maxLen; omega, by simp, by simp⟩⟩
theorem sg_one (l : List Sg) : ∀ u ∈ l.flatMap Sg.cells, u.oneCell' = true := by
 intro u hu
 obtain ⟨m, _, hm⟩ := List.mem_flatMap.1 hu
 simp only [Sg.cells, List.mem_cons, List.not_mem_nil, or_false] at hm
 rcases hm with rfl | rfl | rfl | rfl | rfl <;> rfl
theorem bd_one (l : List Bd) : ∀ u ∈ l.flatMap Bd.cells, u.oneCell' = true := by
 intro u hu
 obtain ⟨m, _, hm⟩ := List.mem_flatMap.1 hu
 simp only [Bd.cells, List.mem_cons, List.not_mem_nil, or_false] at hm
 rcases hm with rfl | rfl | rfl <;> rfl
def gW (fn su : List UInt8) (fA : Option Addr) (fl fc : Nat) (fs : List Vr) (A3 : Option Addr) (ml c3 : Nat) (ms : List Sg) (nA' : Option Addr) (nl' nc' : Nat) (nums : List Int) (cA : Option Addr) (cl cc : Nat) (cls : List (List UInt8)) (tA : Option Addr) (tl tc : Nat) (tys : List Ty) (dA : Option Addr) (dl dc : Nat) (fds : List FdP) (qA : Option Addr) (ql qc : Nat) (mts : List Mt) (A4 : Option Addr) (c4 : Nat) (bs : List Bd) (a : Nat) (nm rn : List UInt8) (ra : Bool) (bC : Nat) : Fl :=
 ⟨⟨fn, su, fA, fl, fc, fs, A3, ml + 1, c3, ms.take a ++ ⟨nm, true, none, 0, 0, [], ⟨rn, ra⟩⟩ :: ms.drop a⟩, nA', nl', nc', numsW ⟨rn, ra⟩ nums, cA, cl, cc, cls, tA, tl, tc, tys, dA, dl, dc, fds, qA, ql, qc, mts, A4, ml + 1, c4, bs.take a ++ ⟨0, 1, some ⟨bC, 0, none⟩, 2, 2, [insW ⟨rn, ra⟩ nums.length, (29, 0)]⟩ :: bs.drop a⟩
theorem insW_i64 (r : Ty) (k : Nat) (hk : k ≤ 9223372036854775807) : i64In (insW r k).1 ∧ i64In (insW r k).2 := by
 unfold insW
 split
 ·exact ⟨⟨by show (-9223372036854775808 : Int) ≤ 1; decide, by show (1 : Int) ≤ 9223372036854775807; decide⟩, ⟨by show (-9223372036854775808 : Int) ≤ (k : Int); omega, by show (k : Int) ≤ 9223372036854775807; omega⟩⟩
 ·split
  ·exact ⟨⟨by decide, by decide⟩, ⟨by decide, by decide⟩⟩
  ·exact ⟨⟨by decide, by decide⟩, ⟨by decide, by decide⟩⟩
theorem gW_at {w w4 w9 w12 w15 wF : World} {Wz Wy r6 bC a : Nat} {fn su nm rn : List UInt8} {ra : Bool} {fA mA nA nA' cA tA dA qA bA A3 A4 : Option Addr} {fl fc ml mc nl nc nl' nc' cl cc tl tc dl dc ql qc bc c3 c4 : Nat} {fs : List Vr} {ms : List Sg} {nums : List Int} {cls : List (List UInt8)} {tys : List Ty} {fds : List FdP} {mts : List Mt} {bs : List Bd} {x : Int × Int}
  (h : Fl.at_ w (fun k => w.heap.size ≤ k) ⟨⟨fn, su, fA, fl, fc, fs, mA, ml, mc, ms⟩, nA, nl, nc, nums, cA, cl, cc, cls, tA, tl, tc, tys, dA, dl, dc, fds, qA, ql, qc, mts, bA, ml, bc, bs⟩)
  (hbe : Below w.heap.size w w4) (hk49 : Keep (fun _ => False) w4 w9) (hk12 : Keep (fun _ => False) w9 w12) (hk15 : Keep (fun _ => False) w12 w15) (hkF : Keep (fun k => k = r6) w15 wF) (hr : w.heap.size ≤ r6 ∧ r6 < Wz ∧ r6 < Wy) (hz : w4.heap.size ≤ Wz) (ha : a ≤ ml) (hn : nl ≤ 20) (hm : ml ≤ 12) (hs : short nm) (hrs : short rn)
  (ho : w9.ownsRow Wz 55 5 (.slice A3 (ml + 1) c3) (ml + 1) (((ms.take a).flatMap Sg.cells ++ [S nm, .bool true, .slice none 0 0, S rn, .bool ra]) ++ (ms.drop a).flatMap Sg.cells))
  (hN : Rd w9 (fun k => w9.heap.size ≤ k ∨ k = r6) 1 nA' nl' ((numsW ⟨rn, ra⟩ nums).map (Value.int .i64))) (hl : nl' = (numsW ⟨rn, ra⟩ nums).length)
  (hb : w12.ownsRow Wy 75 3 (.slice A4 (ml + 1) c4) (ml + 1) (((bs.take a).flatMap Bd.cells ++ [.int .i64 0, .int .i64 1, .slice (some ⟨bC, 0, none⟩) 2 2]) ++ (bs.drop a).flatMap Bd.cells))
  (hC : Blk w12 bC 87 #[.int .i64 x.1, .int .i64 x.2, .int .i64 29, .int .i64 0]) (hbC : Wy ≤ bC) (hx : x = insW ⟨rn, ra⟩ nums.length) (hy : w9.heap.size ≤ Wy) :
  Below w.heap.size w wF ∧ Fl.at_ wF (fun k => wF.heap.size ≤ k) (gW fn su fA fl fc fs A3 ml c3 ms nA' nl' nc' nums cA cl cc cls tA tl tc tys dA dl dc fds qA ql qc mts A4 c4 bs a nm rn ra bC) := by
 subst hx
 have hk12F : Keep (fun k => k = r6) w12 wF := (hk15.mono (fun _ _ h => h.elim)).tr hkF
 have hk9F : Keep (fun k => k = r6) w9 wF := (hk12.mono (fun _ _ h => h.elim)).tr hk12F
 have hk4F : Keep (fun k => k = r6) w4 wF := (hk49.mono (fun _ _ h => h.elim)).tr hk9F
 have hB : Below w.heap.size w wF := hbe.trans (hk4F.below (B := w.heap.size) hbe.size (fun k e => by omega))
 have hf := (h.below hB).weak (G := fun k => wF.heap.size ≤ k) (fun k hk => by have := hB.size; omega)
 have hmL : ms.length = ml := h.fa.2.1.2.1
 have hbL : bs.length = ml := h.bL
 have hnL : nums.length = nl := h.po.nL
 have ho2 := own_keep ho hk9F (fun k hk e => by have := (own_base ho hk).1; omega)
 have hb2 := own_keep hb hk12F (fun k hk e => by have := (own_base hb hk).1; omega)
 have hC2 := hC.keep hk12F (by omega)
 refine ⟨hB, ⟨hf.fa.1, ⟨?_, ?_, ?_, fun m hm2 => ?_⟩, hf.fa.2.2⟩, { hf.po with nr := ?_, nL := hl.symm, nB := ?_, nW := fun y hy2 => ?_ }, ?_, ?_, ?_, fun y hy2 => ?_⟩
 ·have h9 := own_rdF (F := fun k => wF.heap.size ≤ k) ho2 (fun k hk e => by have := (own_base ho2 hk).2; omega)
  show Rd wF _ 5 A3 (ml + 1) ((ms.take a ++ ⟨nm, true, none, 0, 0, [], ⟨rn, ra⟩⟩ :: ms.drop a).flatMap Sg.cells)
  rw [List.flatMap_append, List.flatMap_cons]
  simpa using h9
 ·show (ms.take a ++ _ :: ms.drop a).length = ml + 1
  simp; omega
 ·show ml + 1 ≤ 9223372036854775807; omega
 ·rcases List.mem_append.1 hm2 with h9 | h9
  ·exact hf.fa.2.1.2.2.2 m (List.mem_of_mem_take h9)
  ·rcases List.mem_cons.1 h9 with h9 | h9
   ·subst h9
    exact ⟨Rd.nil _ _ _ _, rfl, by simp, hs, hrs, by simp⟩
   ·exact hf.fa.2.1.2.2.2 m (List.mem_of_mem_drop h9)
 ·exact (hN.keep (hk9F.mono (fun k _ e => .inr e))).weak (fun k hlt e => absurd e (Nat.not_le.2 hlt))
 ·show nl' ≤ 9223372036854775807
  rw [hl]; unfold numsW; split
  ·simp; omega
  ·omega
 ·have hy3 : y ∈ numsW ⟨rn, ra⟩ nums := hy2
  unfold numsW at hy3
  split at hy3
  ·rcases List.mem_append.1 hy3 with h9 | h9
   ·exact hf.po.nW y h9
   ·rw [List.mem_singleton] at h9; subst h9; exact ⟨by decide, by decide⟩
  ·exact hf.po.nW y hy3
 ·have h9 := own_rdF (F := fun k => wF.heap.size ≤ k) hb2 (fun k hk e => by have := (own_base hb2 hk).2; omega)
  show Rd wF _ 3 A4 (ml + 1) ((bs.take a ++ ⟨0, 1, some ⟨bC, 0, none⟩, 2, 2, [insW ⟨rn, ra⟩ nums.length, (29, 0)]⟩ :: bs.drop a).flatMap Bd.cells)
  rw [List.flatMap_append, List.flatMap_cons]
  simpa using h9
 ·show (bs.take a ++ _ :: bs.drop a).length = ml + 1
  simp; omega
 ·show ml + 1 ≤ 9223372036854775807; omega
 ·rcases List.mem_append.1 hy2 with h9 | h9
  ·exact hf.bW y (List.mem_of_mem_take h9)
  ·rcases List.mem_cons.1 h9 with h9 | h9
   ·subst h9
    refine ⟨Rd.of_blk (n := 2) (size := 2) hC2 (by have := hC2.lt; omega) rfl, rfl, by show (2 : Nat) ≤ 9223372036854775807; decide, ⟨by show (-9223372036854775808 : Int) ≤ 0; decide, by show (0 : Int) ≤ 9223372036854775807; decide⟩, ⟨by show (-9223372036854775808 : Int) ≤ 1; decide, by show (1 : Int) ≤ 9223372036854775807; decide⟩, fun z hz2 => ?_⟩
    rcases List.mem_cons.1 hz2 with h8 | h8
    ·subst h8; exact insW_i64 _ _ (by omega)
    ·rw [List.mem_singleton] at h8; subst h8; exact ⟨⟨by decide, by decide⟩, ⟨by decide, by decide⟩⟩
   ·exact hf.bW y (List.mem_of_mem_drop h9)
theorem gW_pl {a ml mc nl nc bc c3 c4 nl' nc' bC fl fc cl cc tl tc dl dc ql qc : Nat} {fn su nm rn : List UInt8} {ra : Bool} {fA mA nA nA' cA tA dA qA bA A3 A4 : Option Addr} {fs : List Vr} {ms : List Sg} {nums : List Int} {cls : List (List UInt8)} {tys : List Ty} {fds : List FdP} {mts : List Mt} {bs : List Bd} :
  (gW fn su fA fl fc fs A3 ml c3 ms nA' nl' nc' nums cA cl cc cls tA tl tc tys dA dl dc fds qA ql qc mts A4 c4 bs a nm rn ra bC).pl = withM (Fl.pl ⟨⟨fn, su, fA, fl, fc, fs, mA, ml, mc, ms⟩, nA, nl, nc, nums, cA, cl, cc, cls, tA, tl, tc, tys, dA, dl, dc, fds, qA, ql, qc, mts, bA, ml, bc, bs⟩) nm ⟨rn, ra⟩ a := by
 simp [gW, Fl.pl, withM, Fc.pl, Fl.ppl, sigW, bodyW, List.map_append, List.map_take, List.map_drop, Sg.pl, Bd.pl]
def WithEnd (f : Fl) (nm : List UInt8) (r : Ty) (w : World) (e : Ending) (w' : World) : Prop :=
 ∃ (g : Fl) (a : Nat), e = .returned g.val ∧ Below w.heap.size w w' ∧ g.at_ w' (fun k => w'.heap.size ≤ k) ∧ a ≤ f.f.ml ∧ (∀ (k : Nat) (hk : k < f.f.ms.length), k < a → Op.bytesLess f.f.ms[k].n nm = true) ∧ (∀ (hk : a < f.f.ms.length), Op.bytesLess f.f.ms[a].n nm = false) ∧ g.pl = withM f.pl nm r a
set_option maxRecDepth 100000 in
set_option maxHeartbeats 16000000 in
theorem with_any (f : Fl) (nm : List UInt8) (rn : List UInt8) (ra : Bool) (w : World) (h : f.at_ w (fun k => w.heap.size ≤ k)) (hc1 : f.f.ml ≤ f.f.mc) (hc2 : f.bl ≤ f.bc) (hm : f.f.ml ≤ 12) (hb : f.bl = f.f.ml) (hn : f.nl ≤ 20) (hs : short nm) (hr : short rn) :
  Calls Tryd.prog 10 #[f.val, S nm, .agg #[S rn, .bool ra]] w (WithEnd f nm ⟨rn, ra⟩ w) := by
 have HAT := hide h
 have HF9 := hide (fun _ : Unit => h)
 obtain ⟨⟨fn, su, fA, fl, fc, fs, mA, ml, mc, ms⟩, nA, nl, nc, nums, cA, cl, cc, cls, tA, tl, tc, tys, dA, dl, dc, fds, qA, ql, qc, mts, bA, bl, bc, bs⟩ := f
 simp only at hc1 hc2 hm hb hn
 have hb' := hb.symm
 subst hb'
 have hmL : ms.length = ml := h.fa.2.1.2.1
 have hbL : bs.length = ml := h.bL
 have hnL : nums.length = nl := h.po.nL
 have HMR : Hid (Rd w (fun k => w.heap.size ≤ k) 5 mA ml (ms.flatMap Sg.cells)) := hide h.fa.2.1.1
 have HBR : Hid (Rd w (fun k => w.heap.size ≤ k) 3 bA ml (bs.flatMap Bd.cells)) := hide h.br
 have HNR : Hid (Rd w (fun k => w.heap.size ≤ k) 1 nA nl (nums.map (Value.int .i64))) := hide h.po.nr
 clear h
 go_enter Tryd.func10, Tryd.ntmps10
 go_upto_region 1 with fail
 refine name_world ?_
 intro w3 hw3
 obtain ⟨W0, hW0⟩ : ∃ y, y = w.heap.size := ⟨_, rfl⟩
 have hbe : Below w.heap.size w w3 := by rw [hw3]; exact (((Below.refl _ _).alloc (Nat.le_refl _) _).alloc (by simp) _).alloc (by simp; omega) _
 have HB3 : Hid (Blk w3 W0 52 #[S fn, S su, .slice fA fl fc, .slice mA ml mc, .slice nA nl nc, .slice cA cl cc, .slice tA tl tc, .slice dA dl dc, .slice qA ql qc, .slice bA ml bc]) := hide (by rw [hw3, hW0]; exact ((Blk.new _ _ _).alloc _).alloc _)
 have HT5 : Hid (Blk w3 (W0 + 1) 24 #[S rn, .bool ra]) := hide (by rw [hw3, hW0]; have h9 := Blk.new (w.alloc (.cells #[S fn, S su, .slice fA fl fc, .slice mA ml mc, .slice nA nl nc, .slice cA cl cc, .slice tA tl tc, .slice dA dl dc, .slice qA ql qc, .slice bA ml bc] 52)) 24 #[S rn, .bool ra]; rw [World.size_alloc] at h9; exact h9.alloc _)
 have HR6 : Hid (Blk w3 (W0 + 1 + 1) 52 #[.string { data := #[] }, .string { data := #[] }, .slice none 0 0, .slice none 0 0, .slice none 0 0, .slice none 0 0, .slice none 0 0, .slice none 0 0, .slice none 0 0, .slice none 0 0]) := hide (by rw [hw3, hW0]; have h9 := Blk.new ((w.alloc (.cells #[S fn, S su, .slice fA fl fc, .slice mA ml mc, .slice nA nl nc, .slice cA cl cc, .slice tA tl tc, .slice dA dl dc, .slice qA ql qc, .slice bA ml bc] 52)).alloc (.cells #[S rn, .bool ra] 24)) 52 #[.string { data := #[] }, .string { data := #[] }, .slice none 0 0, .slice none 0 0, .slice none 0 0, .slice none 0 0, .slice none 0 0, .slice none 0 0, .slice none 0 0, .slice none 0 0]; rw [World.size_alloc, World.size_alloc] at h9; exact h9)
 have HBE := hide hbe
 have hs3 : w3.heap.size = W0 + 3 := by rw [hw3, hW0]; simp
 clear hbe
 rw [← hW0]
 clear hw3
 obtain ⟨b5, hb5⟩ : ∃ y, y = W0 + 1 := ⟨_, rfl⟩
 obtain ⟨r6, hr6⟩ : ∃ y, y = b5 + 1 := ⟨_, rfl⟩
 rw [← hb5] at HT5 HR6
 rw [← hr6] at HR6
 rw [← hb5, ← hr6]
 have hbr : W0 < b5 ∧ b5 < r6 ∧ r6 < w3.heap.size := by omega
 have hW1 : w.heap.size ≤ W0 ∧ W0 ≤ w.heap.size := by omega
 clear hb5 hr6 hs3 hW0
 have c3 : w3.cell? ⟨W0, 3, none⟩ = some (.slice mA ml mc) := HB3.out.cell 3
 have HMR3 := hide (HMR.out.below HBE.out)
 go_upto_block 0 with fail
 go_cut [7] (fun v7 wx => ∃ a : Nat, a ≤ ml ∧ v7 = .int .i64 a ∧ wx = w3 ∧ Hid (∀ (k : Nat) (hk : k < ms.length), k < a → Op.bytesLess ms[k].n nm = true) ∧ Hid (∀ (hk : a < ms.length), Op.bytesLess ms[a].n nm = false))
 case rest =>
  obtain ⟨a, ha, rfl, hwc, HA, HQ⟩ := hcut
  have hac : a ≤ mc := by omega
  have hab : a ≤ bc := by omega
  have t0 : w3.cell? ⟨b5, 0, none⟩ = some (S rn) := HT5.out.cell 0
  have t1 : w3.cell? ⟨b5, 1, none⟩ = some (.bool ra) := HT5.out.cell 1
  rw [hwc]
  clear hwc
  go_upto_region 5 with fail
  refine name_world ?_
  intro w4 hw4
  have hb4 : Below w3.heap.size w3 w4 := by rw [hw4]; exact (Below.refl _ _).alloc (Nat.le_refl _) _
  obtain ⟨b8, hb8⟩ : ∃ y, y = w3.heap.size := ⟨_, rfl⟩
  have HSG : Hid (Blk w4 b8 55 #[S nm, .bool true, .slice none 0 0, S rn, .bool ra]) := hide (by rw [hw4, hb8]; exact Blk.new _ _ _)
  have HB4 := hide (HB3.out.below hb4 HB3.out.lt)
  have HT4 := hide (HT5.out.below hb4 HT5.out.lt)
  have HR4 := hide (HR6.out.below hb4 HR6.out.lt)
  have HBE4 : Hid (Below w.heap.size w w4) := hide (HBE.out.trans (hb4.mono HBE.out.size))
  have HM4 : Hid (Rd w4 (fun _ => False) 5 mA ml (ms.flatMap Sg.cells)) := hide ((HMR.out.below HBE4.out).weak (fun _ _ h => h.elim))
  rw [← hb8]
  have hb8b : w3.heap.size ≤ b8 := by omega
  have hw34 := hb4.size
  clear hw4 hb4 hb8 HB3 HT5 HR6 t0 t1 c3 HMR3
  obtain ⟨Wz, HWZ⟩ : ∃ y : Nat, w4.heap.size ≤ y ∧ y ≤ w4.heap.size := ⟨_, Nat.le_refl _, Nat.le_refl _⟩
  go_cut [9] (fun v9 wx => ∃ A2 c2, v9 = .slice A2 (a + 1) c2 ∧ Hid (wx.ownsRow Wz 55 5 (.slice A2 (a + 1) c2) (a + 1) ((ms.take a).flatMap Sg.cells ++ [S nm, .bool true, .slice none 0 0, S rn, .bool ra])) ∧ Hid (Keep (fun _ => False) w4 wx))
  case first =>
   have HS : Hid (∀ w', Keep (fun _ => False) w4 w' → w'.cell? ⟨W0, 3, none⟩ = some (.slice mA ml mc) ∧ w'.cell? ⟨b8, 0, none⟩ = some (S nm) ∧ w'.cell? ⟨b8, 1, none⟩ = some (.bool true) ∧ w'.cell? ⟨b8, 2, none⟩ = some (.slice none 0 0) ∧ w'.cell? ⟨b8, 3, none⟩ = some (S rn) ∧ w'.cell? ⟨b8, 4, none⟩ = some (.bool ra)) := hide (fun w' hk => by
    have t0 := HB4.out.keep hk (fun h => h)
    have t1 := HSG.out.keep hk (fun h => h)
    exact ⟨t0.cell 3, t1.cell 0, t1.cell 1, t1.cell 2, t1.cell 3, t1.cell 4⟩)
   have HR : Hid (Keep (fun _ => False) w4 w4.drew) := hide (Keep.refl _ _).drew
   refine wp_region_noPanic ?_
   refine tkB HS HR.out (fun hHeld => ?_)
   obtain ⟨x0, hx0⟩ : ∃ y, y = w4.drew := ⟨_, rfl⟩
   rw [← hx0] at hHeld HR ⊢
   clear hx0
   refine tkL 1 ?_ ?_ ?_
   rotate_left
   ·(rintro wS ⟨e0, e1, e2, e3, e4, e5⟩; go_simp; try with_reducible rfl)
   try simp only [sP]
   refine tkL 2 ?_ ?_ ?_
   rotate_left
   ·(rintro wS ⟨e0, e1, e2, e3, e4, e5⟩; go_simp; try with_reducible rfl)
   try simp only [sP]
   refine tkL 3 ?_ ?_ ?_
   rotate_left
   ·(rintro wS ⟨e0, e1, e2, e3, e4, e5⟩; go_simp; try with_reducible rfl)
   try simp only [sP]
   refine tkL 4 ?_ ?_ ?_
   rotate_left
   ·(rintro wS ⟨e0, e1, e2, e3, e4, e5⟩; go_simp; try with_reducible rfl)
   try simp only [sP]
   refine tkL 5 ?_ ?_ ?_
   rotate_left
   ·(rintro wS ⟨e0, e1, e2, e3, e4, e5⟩; go_simp; try with_reducible rfl)
   try simp only [sP]
   refine tkL 7 ?_ ?_ ?_
   rotate_left
   ·(rintro wS ⟨e0, e1, e2, e3, e4, e5⟩; go_simp; try with_reducible rfl)
   try simp only [sP]
   refine wpAnyH_ready (rs := [0, 8]) (by kernel_rfl) (by simp) ?_
   refine tkA _ (fun K hK => ?_) ?_
   ·go_simp
    try go_wp2_with fail
    refine hK.out _ _ (HS.out _ (HR.out.tr (keep_any (F := fun _ => False) ((Below.refl _ _).alloc (Nat.le_refl _) _)))) (fun hHeld => ?_)
    clear hK K
    try simp only [sP]
    obtain ⟨x1, hx1⟩ : ∃ y, y = x0.alloc (.cells #[] 55) := ⟨_, rfl⟩
    have hbx1 : Below x0.heap.size x0 x1 := by rw [hx1]; exact (Below.refl _ _).alloc (Nat.le_refl _) _
    rw [← hx1] at hHeld ⊢
    obtain ⟨bE, hz⟩ : ∃ y, y = x0.heap.size := ⟨_, rfl⟩
    have hnbE : Blk x1 bE 55 #[] := by rw [hx1, hz]; exact Blk.new _ _ _
    have hlbE : Wz ≤ bE := by have := HR.out.size; omega
    replace HR := hide (HR.out.tr (keep_any (F := fun _ => False) hbx1))
    have HO := hide (own_empty (size := 5) hnbE hlbE)
    rw [← hz]
    clear hx1 hz hnbE hbx1
    refine wpAnyH_ready (rs := [6, 8]) (by kernel_rfl) (by simp) ?_
    refine tkA _ (fun K hK => ?_) ?_
    ·have HRX := ((Rd.take (f := Sg.cells) (fun _ => rfl) HM4.out hmL ha).keep HR.out)
     have HON : ∀ u ∈ (((ms.take a).flatMap Sg.cells) : List Value), u.oneCell' = true := sg_one _
     refine wp_app (.tmp 36) (.tmp 41) 41 rfl Wz 55 _ 5 72 Tryd.underlying41 sig_info rfl (by decide) (.slice (some ⟨bE, 0, none⟩) 0 0) 0 [] rfl HO.out mA a mc ((ms.take a).flatMap Sg.cells) rfl HRX HON (by unfold maxLen; omega) (by omega) (by have := HR.out.size; omega) ?_
     intro A2 c2 x2 hown hg hloc
     simp only [Nat.zero_add, List.nil_append] at hown hloc ⊢
     have hk9 : Keep (fun b => Wz ≤ b) x1 x2 := (Keep.refl _ x1).grown hg (fun k hk _ => (own_base HO.out hk).1)
     replace HR := hide (HR.out.trans' hk9 (fun k hk e => by have := HWZ; omega))
     clear HO
     have HO := hide hown
     clear hown hg hloc hk9 HRX HON
     refine hK.out _ _ (HS.out _ HR.out) (fun hHeld => ?_)
     clear hK K
     try simp only [sP]
     skip
     refine tkC 8 (fun K hK => ?_)
     go_simp
     try go_wp2_with fail
     refine hK.out _ _ (HS.out _ (HR.out.tr (keep_any (F := fun _ => False) ((Below.refl _ _).alloc (Nat.le_refl _) _)))) (fun hHeld => ?_)
     clear hK K
     try simp only [sP]
     obtain ⟨x3, hx3⟩ : ∃ y, y = x2.alloc (.cells #[S nm, .bool true, .slice none 0 0, S rn, .bool ra] 55) := ⟨_, rfl⟩
     have hbx3 : Below x2.heap.size x2 x3 := by rw [hx3]; exact (Below.refl _ _).alloc (Nat.le_refl _) _
     rw [← hx3] at hHeld ⊢
     obtain ⟨bN, hz⟩ : ∃ y, y = x2.heap.size := ⟨_, rfl⟩
     have hnbN : Blk x3 bN 55 #[S nm, .bool true, .slice none 0 0, S rn, .bool ra] := by rw [hx3, hz]; exact Blk.new _ _ _
     have hlbN : Wz ≤ bN := by have := HR.out.size; omega
     have HNE : Hid (∀ k, (Value.slice A2 a c2).ownBlock = some k → k = bN → False) := hide (fun k hk e => by have h9 := (own_base HO.out hk).2; omega)
     replace HR := hide (HR.out.tr (keep_any (F := fun _ => False) hbx3))
     replace HO := hide (own_keep (F := fun _ => False) HO.out (keep_any hbx3) (fun _ _ h => h))
     have HB := hide hnbN
     have HBX : Hid (bN < x3.heap.size) := hide HB.out.lt
     rw [← hz]
     clear hx3 hz hnbN hbx3
     refine tkC 9 (fun K hK => ?_)
     have HRX := Rd.of_blk (F := fun _ => False) (size := 5) (n := 1) HB.out (fun h => h) rfl
     have HON : ∀ u ∈ ([S nm, .bool true, .slice none 0 0, S rn, .bool ra] : List Value), u.oneCell' = true := by intro u hu; simp at hu; rcases hu with rfl | rfl | rfl | rfl | rfl <;> rfl
     refine wp_app (.tmp 42) (.tmp 44) 41 rfl Wz 55 _ 5 72 Tryd.underlying41 sig_info rfl (by decide) (.slice A2 a c2) a ((ms.take a).flatMap Sg.cells) rfl HO.out (some ⟨bN, 0, none⟩) 1 1 [S nm, .bool true, .slice none 0 0, S rn, .bool ra] rfl HRX HON (by unfold maxLen; omega) (by omega) (by have := HR.out.size; omega) ?_
     intro A4 c4 x4 hown hg hloc
     have hk9 : Keep (fun b => Wz ≤ b) x3 x4 := (Keep.refl _ x3).grown hg (fun k hk _ => (own_base HO.out hk).1)
     replace HR := hide (HR.out.trans' hk9 (fun k hk e => by have := HWZ; omega))
     clear HO
     have HO := hide hown
     clear hown hg hloc hk9 HRX HON
     refine hK.out _ _ (HS.out _ HR.out) (fun hHeld => ?_)
     clear hK K
     try simp only [sP]
     refine tkL 10 ?_ ?_ ?_
     rotate_left
     ·(rintro wS ⟨e0, e1, e2, e3, e4, e5⟩; go_simp; try with_reducible rfl)
     try simp only [sP]
     refine wpAnyH_done (by kernel_rfl) ?_ _
     refine NoPanic.normal ?_
     go_wp2_with fail
     go_meet
     exact ⟨A4, c4, rfl, HO, HR⟩
    refine tkA _ (fun K hK => ?_) ?_
    ·go_simp
     try go_wp2_with fail
     refine hK.out _ _ (HS.out _ (HR.out.tr (keep_any (F := fun _ => False) ((Below.refl _ _).alloc (Nat.le_refl _) _)))) (fun hHeld => ?_)
     clear hK K
     try simp only [sP]
     obtain ⟨x2, hx2⟩ : ∃ y, y = x1.alloc (.cells #[S nm, .bool true, .slice none 0 0, S rn, .bool ra] 55) := ⟨_, rfl⟩
     have hbx2 : Below x1.heap.size x1 x2 := by rw [hx2]; exact (Below.refl _ _).alloc (Nat.le_refl _) _
     rw [← hx2] at hHeld ⊢
     obtain ⟨bN, hz⟩ : ∃ y, y = x1.heap.size := ⟨_, rfl⟩
     have hnbN : Blk x2 bN 55 #[S nm, .bool true, .slice none 0 0, S rn, .bool ra] := by rw [hx2, hz]; exact Blk.new _ _ _
     have hlbN : Wz ≤ bN := by have := HR.out.size; omega
     have HNE : Hid (∀ k, (Value.slice (some ⟨bE, 0, none⟩) 0 0).ownBlock = some k → k = bN → False) := hide (fun k hk e => by have h9 := (own_base HO.out hk).2; omega)
     replace HR := hide (HR.out.tr (keep_any (F := fun _ => False) hbx2))
     replace HO := hide (own_keep (F := fun _ => False) HO.out (keep_any hbx2) (fun _ _ h => h))
     have HB := hide hnbN
     have HBX : Hid (bN < x2.heap.size) := hide HB.out.lt
     rw [← hz]
     clear hx2 hz hnbN hbx2
     refine tkC 6 (fun K hK => ?_)
     have HRX := ((Rd.take (f := Sg.cells) (fun _ => rfl) HM4.out hmL ha).keep HR.out)
     have HON : ∀ u ∈ (((ms.take a).flatMap Sg.cells) : List Value), u.oneCell' = true := sg_one _
     refine wp_app (.tmp 36) (.tmp 41) 41 rfl Wz 55 _ 5 72 Tryd.underlying41 sig_info rfl (by decide) (.slice (some ⟨bE, 0, none⟩) 0 0) 0 [] rfl HO.out mA a mc ((ms.take a).flatMap Sg.cells) rfl HRX HON (by unfold maxLen; omega) (by omega) (by have := HR.out.size; omega) ?_
     intro A3 c3 x3 hown hg hloc
     simp only [Nat.zero_add, List.nil_append] at hown hloc ⊢
     have hk9 : Keep (fun b => Wz ≤ b) x2 x3 := (Keep.refl _ x2).grown hg (fun k hk _ => (own_base HO.out hk).1)
     replace HR := hide (HR.out.trans' hk9 (fun k hk e => by have := HWZ; omega))
     replace HB := hide (HB.out.keep ((Keep.refl (fun i => some i = _) x2).grown hg (fun i hi _ => hi.symm)) (fun e => HNE.out _ e.symm rfl))
     clear HO
     have HO := hide hown
     clear hown hg hloc hk9 HRX HON
     refine hK.out _ _ (HS.out _ HR.out) (fun hHeld => ?_)
     clear hK K
     try simp only [sP]
     skip
     refine tkC 9 (fun K hK => ?_)
     have HRX := Rd.of_blk (F := fun _ => False) (size := 5) (n := 1) HB.out (fun h => h) rfl
     have HON : ∀ u ∈ ([S nm, .bool true, .slice none 0 0, S rn, .bool ra] : List Value), u.oneCell' = true := by intro u hu; simp at hu; rcases hu with rfl | rfl | rfl | rfl | rfl <;> rfl
     refine wp_app (.tmp 42) (.tmp 44) 41 rfl Wz 55 _ 5 72 Tryd.underlying41 sig_info rfl (by decide) (.slice A3 a c3) a ((ms.take a).flatMap Sg.cells) rfl HO.out (some ⟨bN, 0, none⟩) 1 1 [S nm, .bool true, .slice none 0 0, S rn, .bool ra] rfl HRX HON (by unfold maxLen; omega) (by omega) (by have := HR.out.size; omega) ?_
     intro A4 c4 x4 hown hg hloc
     have hk9 : Keep (fun b => Wz ≤ b) x3 x4 := (Keep.refl _ x3).grown hg (fun k hk _ => (own_base HO.out hk).1)
     replace HR := hide (HR.out.trans' hk9 (fun k hk e => by have := HWZ; omega))
     clear HO
     have HO := hide hown
     clear hown hg hloc hk9 HRX HON
     refine hK.out _ _ (HS.out _ HR.out) (fun hHeld => ?_)
     clear hK K
     try simp only [sP]
     refine tkL 10 ?_ ?_ ?_
     rotate_left
     ·(rintro wS ⟨e0, e1, e2, e3, e4, e5⟩; go_simp; try with_reducible rfl)
     try simp only [sP]
     refine wpAnyH_done (by kernel_rfl) ?_ _
     refine NoPanic.normal ?_
     go_wp2_with fail
     go_meet
     exact ⟨A4, c4, rfl, HO, HR⟩
    exact AllReadyH.nil
   refine tkA _ (fun K hK => ?_) ?_
   ·go_simp
    try go_wp2_with fail
    refine hK.out _ _ (HS.out _ (HR.out.tr (keep_any (F := fun _ => False) ((Below.refl _ _).alloc (Nat.le_refl _) _)))) (fun hHeld => ?_)
    clear hK K
    try simp only [sP]
    obtain ⟨x1, hx1⟩ : ∃ y, y = x0.alloc (.cells #[S nm, .bool true, .slice none 0 0, S rn, .bool ra] 55) := ⟨_, rfl⟩
    have hbx1 : Below x0.heap.size x0 x1 := by rw [hx1]; exact (Below.refl _ _).alloc (Nat.le_refl _) _
    rw [← hx1] at hHeld ⊢
    obtain ⟨bN, hz⟩ : ∃ y, y = x0.heap.size := ⟨_, rfl⟩
    have hnbN : Blk x1 bN 55 #[S nm, .bool true, .slice none 0 0, S rn, .bool ra] := by rw [hx1, hz]; exact Blk.new _ _ _
    have hlbN : Wz ≤ bN := by have := HR.out.size; omega
    replace HR := hide (HR.out.tr (keep_any (F := fun _ => False) hbx1))
    have HB := hide hnbN
    have HBX : Hid (bN < x1.heap.size) := hide HB.out.lt
    rw [← hz]
    clear hx1 hz hnbN hbx1
    refine tkC 0 (fun K hK => ?_)
    go_simp
    try go_wp2_with fail
    refine hK.out _ _ (HS.out _ (HR.out.tr (keep_any (F := fun _ => False) ((Below.refl _ _).alloc (Nat.le_refl _) _)))) (fun hHeld => ?_)
    clear hK K
    try simp only [sP]
    obtain ⟨x2, hx2⟩ : ∃ y, y = x1.alloc (.cells #[] 55) := ⟨_, rfl⟩
    have hbx2 : Below x1.heap.size x1 x2 := by rw [hx2]; exact (Below.refl _ _).alloc (Nat.le_refl _) _
    rw [← hx2] at hHeld ⊢
    obtain ⟨bE, hz⟩ : ∃ y, y = x1.heap.size := ⟨_, rfl⟩
    have hnbE : Blk x2 bE 55 #[] := by rw [hx2, hz]; exact Blk.new _ _ _
    have hlbE : Wz ≤ bE := by have := HR.out.size; omega
    replace HR := hide (HR.out.tr (keep_any (F := fun _ => False) hbx2))
    replace HB := hide (HB.out.below hbx2 HB.out.lt)
    have HO := hide (own_empty (size := 5) hnbE hlbE)
    have HNE : Hid (∀ k, (Value.slice (some ⟨bE, 0, none⟩) 0 0).ownBlock = some k → k = bN → False) := hide (fun k hk e => by have hk2 : bE = k := (by simpa [Value.ownBlock] using hk); have := HBX.out; omega)
    rw [← hz]
    clear hx2 hz hnbE hbx2
    refine tkC 6 (fun K hK => ?_)
    have HRX := ((Rd.take (f := Sg.cells) (fun _ => rfl) HM4.out hmL ha).keep HR.out)
    have HON : ∀ u ∈ (((ms.take a).flatMap Sg.cells) : List Value), u.oneCell' = true := sg_one _
    refine wp_app (.tmp 36) (.tmp 41) 41 rfl Wz 55 _ 5 72 Tryd.underlying41 sig_info rfl (by decide) (.slice (some ⟨bE, 0, none⟩) 0 0) 0 [] rfl HO.out mA a mc ((ms.take a).flatMap Sg.cells) rfl HRX HON (by unfold maxLen; omega) (by omega) (by have := HR.out.size; omega) ?_
    intro A3 c3 x3 hown hg hloc
    simp only [Nat.zero_add, List.nil_append] at hown hloc ⊢
    have hk9 : Keep (fun b => Wz ≤ b) x2 x3 := (Keep.refl _ x2).grown hg (fun k hk _ => (own_base HO.out hk).1)
    replace HR := hide (HR.out.trans' hk9 (fun k hk e => by have := HWZ; omega))
    replace HB := hide (HB.out.keep ((Keep.refl (fun i => some i = _) x2).grown hg (fun i hi _ => hi.symm)) (fun e => HNE.out _ e.symm rfl))
    clear HO
    have HO := hide hown
    clear hown hg hloc hk9 HRX HON
    refine hK.out _ _ (HS.out _ HR.out) (fun hHeld => ?_)
    clear hK K
    try simp only [sP]
    skip
    refine tkC 9 (fun K hK => ?_)
    have HRX := Rd.of_blk (F := fun _ => False) (size := 5) (n := 1) HB.out (fun h => h) rfl
    have HON : ∀ u ∈ ([S nm, .bool true, .slice none 0 0, S rn, .bool ra] : List Value), u.oneCell' = true := by intro u hu; simp at hu; rcases hu with rfl | rfl | rfl | rfl | rfl <;> rfl
    refine wp_app (.tmp 42) (.tmp 44) 41 rfl Wz 55 _ 5 72 Tryd.underlying41 sig_info rfl (by decide) (.slice A3 a c3) a ((ms.take a).flatMap Sg.cells) rfl HO.out (some ⟨bN, 0, none⟩) 1 1 [S nm, .bool true, .slice none 0 0, S rn, .bool ra] rfl HRX HON (by unfold maxLen; omega) (by omega) (by have := HR.out.size; omega) ?_
    intro A4 c4 x4 hown hg hloc
    have hk9 : Keep (fun b => Wz ≤ b) x3 x4 := (Keep.refl _ x3).grown hg (fun k hk _ => (own_base HO.out hk).1)
    replace HR := hide (HR.out.trans' hk9 (fun k hk e => by have := HWZ; omega))
    clear HO
    have HO := hide hown
    clear hown hg hloc hk9 HRX HON
    refine hK.out _ _ (HS.out _ HR.out) (fun hHeld => ?_)
    clear hK K
    try simp only [sP]
    refine tkL 10 ?_ ?_ ?_
    rotate_left
    ·(rintro wS ⟨e0, e1, e2, e3, e4, e5⟩; go_simp; try with_reducible rfl)
    try simp only [sP]
    refine wpAnyH_done (by kernel_rfl) ?_ _
    refine NoPanic.normal ?_
    go_wp2_with fail
    go_meet
    exact ⟨A4, c4, rfl, HO, HR⟩
   exact AllReadyH.nil
  case rest =>
   obtain ⟨A2, c2, rfl, HO, HK⟩ := hcut
   obtain ⟨w5, rfl⟩ : ∃ y : World, y = wc := ⟨_, rfl⟩
   have HB5 := hide (HB4.out.keep HK.out (fun h => h))
   obtain ⟨cap, hcap⟩ : ∃ y, y = mc := ⟨_, rfl⟩
   have c3 : w5.cell? ⟨W0, 3, none⟩ = some (.slice mA ml cap) := by rw [hcap]; exact HB5.out.cell 3
   have hcap2 : ml ≤ cap := by omega
   clear hcap
   have HM5 := hide (HM4.out.keep HK.out)
   go_upto_region 6 with fail
   go_cut [9] (fun v9 wx => ∃ A3 c3', v9 = .slice A3 (ml + 1) c3' ∧ Hid (wx.ownsRow Wz 55 5 (.slice A3 (ml + 1) c3') (ml + 1) (((ms.take a).flatMap Sg.cells ++ [S nm, .bool true, .slice none 0 0, S rn, .bool ra]) ++ (ms.drop a).flatMap Sg.cells)) ∧ Hid (Keep (fun _ => False) w4 wx))
   case first =>
    by_cases hmc : cap = a
    case pos =>
     have HML : Hid (ml - a = 0) := hide (by omega)
     go_wp2_with (at_builtin; refine app_rd rfl (.tmp 46) (.tmp 51) 41 rfl Wz 55 _ 5 72 Tryd.underlying41 sig_info rfl (by decide) (.slice A2 (a + 1) c2) (a + 1) _ rfl HO.out _ (ml - a) _ ((ms.drop a).flatMap Sg.cells) rfl (by rw [show ml - a = 0 from HML.out]; exact Rd.none0 (F := fun _ => False) (f := Sg.cells) hmL (Nat.le_of_sub_eq_zero HML.out)) (sg_one _) (by unfold maxLen; omega) (by omega) (by have := HK.out.size; omega) ?_; intro A6 c6 w6 hown6 hgrow6 _; rw [show a + 1 + (ml - a) = ml + 1 by omega] at hown6; have HO6 := hide hown6; have hk6 : Keep (fun b => Wz ≤ b) w5 w6 := (Keep.refl _ w5).grown hgrow6 (fun k hk _ => (own_base HO.out hk).1); have HK6 := hide (HK.out.trans' hk6 (fun k hk e => by omega)); clear hown6 hgrow6 hk6)
     go_meet
     exact ⟨A6, c6, by rw [show a + 1 + (ml - a) = ml + 1 by omega], HO6, HK6⟩
    case neg =>
     by_cases hml : ml = a
     case pos =>
      have HML : Hid (ml - a = 0) := hide (by omega)
      clear hml
      go_wp2_with (at_builtin; refine app_rd rfl (.tmp 46) (.tmp 51) 41 rfl Wz 55 _ 5 72 Tryd.underlying41 sig_info rfl (by decide) (.slice A2 (a + 1) c2) (a + 1) _ rfl HO.out _ (ml - a) _ ((ms.drop a).flatMap Sg.cells) rfl (by rw [show ml - a = 0 from HML.out]; exact Rd.none0 (F := fun _ => False) (f := Sg.cells) hmL (Nat.le_of_sub_eq_zero HML.out)) (sg_one _) (by unfold maxLen; omega) (by omega) (by have := HK.out.size; omega) ?_; intro A6 c6 w6 hown6 hgrow6 _; rw [show a + 1 + (ml - a) = ml + 1 by omega] at hown6; have HO6 := hide hown6; have hk6 : Keep (fun b => Wz ≤ b) w5 w6 := (Keep.refl _ w5).grown hgrow6 (fun k hk _ => (own_base HO.out hk).1); have HK6 := hide (HK.out.trans' hk6 (fun k hk e => by omega)); clear hown6 hgrow6 hk6)
      go_meet
      exact ⟨A6, c6, by rw [show a + 1 + (ml - a) = ml + 1 by omega], HO6, HK6⟩
     case neg =>
      obtain ⟨bb, o, hA9, _, _, _⟩ := HM5.out.2 (by omega)
      subst hA9
      go_wp2_with (at_builtin; refine app_rd rfl (.tmp 46) (.tmp 51) 41 rfl Wz 55 _ 5 72 Tryd.underlying41 sig_info rfl (by decide) (.slice A2 (a + 1) c2) (a + 1) _ rfl HO.out _ (ml - a) _ ((ms.drop a).flatMap Sg.cells) rfl (Rd.drop (f := Sg.cells) (fun _ => rfl) (HM5.out) hmL ha) (sg_one _) (by unfold maxLen; omega) (by omega) (by have := HK.out.size; omega) ?_; intro A6 c6 w6 hown6 hgrow6 _; rw [show a + 1 + (ml - a) = ml + 1 by omega] at hown6; have HO6 := hide hown6; have hk6 : Keep (fun b => Wz ≤ b) w5 w6 := (Keep.refl _ w5).grown hgrow6 (fun k hk _ => (own_base HO.out hk).1); have HK6 := hide (HK.out.trans' hk6 (fun k hk e => by omega)); clear hown6 hgrow6 hk6)
      go_meet
      exact ⟨A6, c6, by rw [show a + 1 + (ml - a) = ml + 1 by omega], HO6, HK6⟩
   case rest =>
    obtain ⟨A3, c3', rfl, HO3, HK3⟩ := hcut
    clear HO HK HB5 c3 HM5
    obtain ⟨w6, rfl⟩ : ∃ y : World, y = wc := ⟨_, rfl⟩
    have HB6 := hide (HB4.out.keep HK3.out (fun h => h))
    have HT6 := hide (HT4.out.keep HK3.out (fun h => h))
    have HR6 := hide (HR4.out.keep HK3.out (fun h => h))
    have hw46 := HK3.out.size
    clear HB4 HT4 HR4 HSG
    go_upto_region 8 with fail
    refine name_world ?_
    intro w7 hw7
    have hb7 : Below w6.heap.size w6 w7 := by rw [hw7]; exact (Below.refl _ _).alloc (Nat.le_refl _) _
    obtain ⟨b10, hb10⟩ : ∃ y, y = w6.heap.size := ⟨_, rfl⟩
    have HI7 : Hid (Blk w7 b10 87 #[.int .i64 2, .int .i64 0]) := hide (by rw [hw7, hb10]; exact Blk.new _ _ _)
    have HB7 := hide (HB6.out.below hb7 HB6.out.lt)
    have HT7 := hide (HT6.out.below hb7 HT6.out.lt)
    have HR7 := hide (HR6.out.below hb7 HR6.out.lt)
    have HO7 := hide (own_keep (F := fun _ => False) HO3.out (keep_any hb7) (fun _ _ h => h))
    have HK7 := hide (HK3.out.tr (keep_any (F := fun _ => False) hb7))
    rw [← hb10]
    have hb10w : Wz ≤ b10 ∧ b10 < w7.heap.size ∧ w6.heap.size ≤ b10 := ⟨by omega, HI7.out.lt, by omega⟩
    clear hw7 hb10 hb7 HB6 HT6 HR6 HO3 HK3
    have t0 : w7.cell? ⟨b5, 0, none⟩ = some (S rn) := HT7.out.cell 0
    have t1 : w7.cell? ⟨b5, 1, none⟩ = some (.bool ra) := HT7.out.cell 1
    have i0 : w7.cell? ⟨b10, 0, none⟩ = some (.int .i64 2) := HI7.out.cell 0
    have i1 : w7.cell? ⟨b10, 1, none⟩ = some (.int .i64 0) := HI7.out.cell 1
    have if_ := HI7.out.frozen
    have HBT := HT7
    obtain ⟨QB, hQB⟩ : ∃ y : Bool, y = decide ((⟨rn, ra⟩ : Ty) = kB) := ⟨_, rfl⟩
    have HQB := hide (fun _ : Unit => hQB)
    clear hQB
    go_upto_region 8 with fail
    go_cut [61] (fun v wx => v = .bool QB ∧ wx = w7)
    case first =>
     by_cases hrn : rn = [98, 111, 111, 108]
     case pos =>
      subst hrn
      cases ra
      case false =>
       obtain rfl : QB = true := (HQB.out ()).trans (decide_eq_true rfl)
       go_wp2_with fail
       go_meet
       exact ⟨by rfl, rfl⟩
      case true =>
       obtain rfl : QB = false := (HQB.out ()).trans (decide_eq_false (by intro h; injection h with _ h; cases h))
       go_wp2_with fail
       go_meet
       exact ⟨by rfl, rfl⟩
     case neg =>
      obtain rfl : QB = false := (HQB.out ()).trans (decide_eq_false (by intro h; injection h with h _; exact hrn h))
      go_wp2_with fail
      go_meet
      exact ⟨by rfl, rfl⟩
    case rest =>
     obtain ⟨rfl, hwc⟩ := hcut
     rw [hwc]
     clear hwc
     go_upto_if 61 with fail
     go_cut [7] (fun v7 wx => v7 = .int .i64 a ∧ ∃ X1 : Int, Hid (X1 = if (⟨rn, ra⟩ : Ty) = kB then 32 else 2) ∧ Hid (Blk wx b10 87 #[.int .i64 X1, .int .i64 0]) ∧ Hid (Keep (fun k => k = b10) w7 wx))
     case first =>
      cases QB
      case true =>
       go_wp2_with fail
       go_meet
       have h9 := (HI7.out.set_ 0 (.int .i64 32)).set_ 1 (.int .i64 0)
       exact ⟨rfl, 32, hide (by rw [if_pos (of_decide_eq_true (HQB.out ()).symm)]), hide (by simpa using h9), hide (((Keep.refl (fun k => k = b10) w7).setCell (p := ⟨b10, 0, none⟩) (fun _ => rfl) _).setCell (p := ⟨b10, 1, none⟩) (fun _ => rfl) _)⟩
      case false =>
       go_wp2_with fail
       go_meet
       exact ⟨rfl, 2, hide (by rw [if_neg (of_decide_eq_false (HQB.out ()).symm)]), HI7, hide (Keep.refl _ _)⟩
     case rest =>
      obtain ⟨rfl, X1, HX1, HI8, HK8⟩ := hcut
      obtain ⟨w8, rfl⟩ : ∃ y : World, y = wc := ⟨_, rfl⟩
      have HB8 := hide (HB7.out.keep HK8.out (by omega))
      have HT8 := hide (HT7.out.keep HK8.out (by omega))
      have HR8 := hide (HR7.out.keep HK8.out (by omega))
      have HO8 := hide (own_keep HO7.out HK8.out (fun k hk e => own_blk_ne HO7.out HI7.out (by decide) (by rw [hk, e])))
      have hk48 : Keep (fun _ => False) w4 w8 := HK7.out.trans' HK8.out (fun k hk e => by omega)
      have HK48 := hide hk48
      have hw78 := HK8.out.size
      clear hk48 HB7 HT7 HR7 HO7 HK7 HK8 HI7 HBT t0 t1 i0 i1 if_
      have HN8 : Hid (Rd w8 (fun k => Wz ≤ k ∨ k = r6) 1 nA nl (nums.map (Value.int .i64))) := hide (((HNR.out.below HBE4.out).weak (G := fun k => Wz ≤ k ∨ k = r6) (fun k _ e => by omega)).keep (HK48.out.mono (fun _ _ h => h.elim)))
      have t0 : w8.cell? ⟨b5, 0, none⟩ = some (S rn) := HT8.out.cell 0
      have t1 : w8.cell? ⟨b5, 1, none⟩ = some (.bool ra) := HT8.out.cell 1
      have c4 : w8.cell? ⟨W0, 4, none⟩ = some (.slice nA nl nc) := HB8.out.cell 4
      have i0 : w8.cell? ⟨b10, 0, none⟩ = some (.int .i64 X1) := HI8.out.cell 0
      have i1 : w8.cell? ⟨b10, 1, none⟩ = some (.int .i64 0) := HI8.out.cell 1
      have if_ := HI8.out.frozen
      obtain ⟨QI, hQI⟩ : ∃ y : Bool, y = decide ((⟨rn, ra⟩ : Ty) = kI) := ⟨_, rfl⟩
      have HQI := hide (fun _ : Unit => hQI)
      clear hQI
      go_upto_region 11 with fail
      go_cut [73] (fun v wx => v = .bool QI ∧ wx = w8)
      case first =>
       by_cases hrn : rn = [105, 110, 116]
       case pos =>
        subst hrn
        cases ra
        case false =>
         obtain rfl : QI = true := (HQI.out ()).trans (decide_eq_true rfl)
         go_wp2_with fail
         go_meet
         exact ⟨by rfl, rfl⟩
        case true =>
         obtain rfl : QI = false := (HQI.out ()).trans (decide_eq_false (by intro h; injection h with _ h; cases h))
         go_wp2_with fail
         go_meet
         exact ⟨by rfl, rfl⟩
       case neg =>
        obtain rfl : QI = false := (HQI.out ()).trans (decide_eq_false (by intro h; injection h with h _; exact hrn h))
        go_wp2_with fail
        go_meet
        exact ⟨by rfl, rfl⟩
      case rest =>
       obtain ⟨rfl, hwc⟩ := hcut
       rw [hwc]
       clear hwc
       go_upto_if 73 with fail
       go_cut [11] (fun v11 wx => ∃ (nA' : Option Addr) (nl' nc' : Nat) (x : Int × Int), v11 = .slice nA' nl' nc' ∧ x = insW ⟨rn, ra⟩ nums.length ∧ nl' = (numsW ⟨rn, ra⟩ nums).length ∧ Hid (Rd wx (fun k => wx.heap.size ≤ k ∨ k = r6) 1 nA' nl' ((numsW ⟨rn, ra⟩ nums).map (Value.int .i64))) ∧ Hid (Blk wx b10 87 #[.int .i64 x.1, .int .i64 x.2]) ∧ Hid (Keep (fun k => k = b10) w8 wx))
       case first =>
        cases QI
        case false =>
         have hI : ¬ (⟨rn, ra⟩ : Ty) = kI := of_decide_eq_false (HQI.out ()).symm
         have e1 : insW ⟨rn, ra⟩ nums.length = (X1, 0) := by unfold insW; rw [if_neg hI, HX1.out]; split <;> rfl
         have e2 : numsW ⟨rn, ra⟩ nums = nums := by unfold numsW; rw [if_neg hI]
         have HE1 := hide (fun _ : Unit => e1)
         have HE2 := hide (fun _ : Unit => e2)
         clear hI e1 e2
         go_wp2_with fail
         go_meet
         exact ⟨nA, nl, nc, (X1, 0), rfl, (HE1.out ()).symm, by rw [HE2.out (), hnL], hide (by rw [HE2.out ()]; exact HN8.out.weak (fun k hlt e => e.elim (fun e => absurd hlt (by omega)) .inr)), HI8, hide (Keep.refl _ _)⟩
        case true =>
         have hI : (⟨rn, ra⟩ : Ty) = kI := of_decide_eq_true (HQI.out ()).symm
         have e1 : insW ⟨rn, ra⟩ nums.length = (1, (nums.length : Int)) := by unfold insW; rw [if_pos hI]
         have e2 : numsW ⟨rn, ra⟩ nums = nums ++ [7] := by unfold numsW; rw [if_pos hI]
         have HE1 := hide (fun _ : Unit => e1)
         have HE2 := hide (fun _ : Unit => e2)
         clear hI e1 e2
         obtain ⟨Wn, HWN⟩ : ∃ y : Nat, w8.heap.size ≤ y ∧ y ≤ w8.heap.size := ⟨_, Nat.le_refl _, Nat.le_refl _⟩
         have hbE : Below w8.heap.size w8 (w8.alloc (.cells #[] 2)) := (Below.refl _ _).alloc (Nat.le_refl _) _
         have HBE8 := hide hbE
         have HOE := hide (own_empty (size := 1) (B := Wn) (Blk.new w8 2 #[]) HWN.2)
         have c4' : (w8.alloc (.cells #[] 2)).cell? ⟨W0, 4, none⟩ = some (.slice nA nl nc) := (HB8.out.alloc _).cell 4
         have HNE := hide (HN8.out.keep (keep_any (F := fun k => Wz ≤ k ∨ k = r6) hbE))
         have hszE : (w8.alloc (.cells #[] 2)).heap.size = w8.heap.size + 1 := by simp
         have HSZE := hide (fun _ : Unit => hszE)
         clear hbE hszE
         go_upto_region 13 with (first | (at_builtin; refine app_rd rfl (.tmp 74) (.tmp 77) 44 rfl Wn 2 _ 1 8 Tryd.underlying44 i64_info rfl (by decide) (.slice (some ⟨w8.heap.size, 0, none⟩) 0 0) 0 [] rfl HOE.out nA nl nc (nums.map (Value.int .i64)) rfl HNE.out (by intro u hu; simp at hu; obtain ⟨y, _, rfl⟩ := hu; rfl) (by unfold maxLen; omega) (by omega) (by rw [HSZE.out ()]; omega) ?_; intro A5 c5 w9 hown9 hgrow9 _; simp only [Nat.zero_add, List.nil_append] at hown9 ⊢; have HO9 := hide hown9; have hk9 : Keep (fun b => Wn ≤ b) (w8.alloc (.cells #[] 2)) w9 := (Keep.refl _ _).grown hgrow9 (fun k hk _ => (own_base HOE.out hk).1); have HK9 : Hid (Keep (fun b => Wn ≤ b) w8 w9) := hide ((keep_any (F := fun b => Wn ≤ b) HBE8.out).tr hk9); clear hown9 hgrow9 hk9) | (at_builtin; refine app_rd rfl (.tmp 78) (.tmp 79) 44 rfl Wn 2 _ 1 8 Tryd.underlying44 i64_info rfl (by decide) (.slice A5 nl c5) nl _ rfl (HO9.out.alloc (.cells #[.int .i64 7] 2)) (F := fun _ => False) (some ⟨w9.heap.size, 0, none⟩) 1 1 [.int .i64 7] rfl (Rd.of_blk (Blk.new w9 2 #[.int .i64 7]) (fun h => h) rfl) (by intro u hu; simp at hu; subst hu; rfl) (by unfold maxLen; omega) (by omega) (by have := HK9.out.size; simp; omega) ?_; intro A6 c6 w10 hown10 hgrow10 _; have HO10 := hide hown10; have HK10 : Hid (Keep (fun b => Wn ≤ b) w8 w10) := hide ((HK9.out.alloc (.cells #[.int .i64 7] 2)).grown hgrow10 (fun k hk _ => (own_base HO9.out hk).1)); clear hown10 hgrow10))
         have HI10 := hide (HI8.out.keep HK10.out (by have := HI8.out.lt; omega))
         have HB10 := hide (HB8.out.keep HK10.out (by have := HB8.out.lt; omega))
         have c4 : w10.cell? ⟨W0, 4, none⟩ = some (.slice nA nl nc) := HB10.out.cell 4
         have i0 : w10.cell? ⟨b10, 0, none⟩ = some (.int .i64 X1) := HI10.out.cell 0
         have i1 : w10.cell? ⟨b10, 1, none⟩ = some (.int .i64 0) := HI10.out.cell 1
         have if_ := HI10.out.frozen
         have hb10w8 := HI8.out.lt
         go_wp2_with fail
         go_meet
         have h9 := (HI10.out.set_ 0 (.int .i64 1)).set_ 1 (.int .i64 (nl : Int))
         have hks : Keep (fun k => k = b10) w10 ((w10.setCell ⟨b10, 0, none⟩ (.int .i64 1)).setCell ⟨b10, 1, none⟩ (.int .i64 (nl : Int))) := ((Keep.refl (fun k => k = b10) w10).setCell (p := ⟨b10, 0, none⟩) (fun _ => rfl) _).setCell (p := ⟨b10, 1, none⟩) (fun _ => rfl) _
         have ho := own_keep HO10.out hks (fun k hk e => by have := (own_base HO10.out hk).1; omega)
         have h1 := own_rdF (F := fun k => ((w10.setCell ⟨b10, 0, none⟩ (.int .i64 1)).setCell ⟨b10, 1, none⟩ (.int .i64 (nl : Int))).heap.size ≤ k ∨ k = r6) ho (fun k hk e => by have := own_base ho hk; omega)
         exact ⟨A6, nl + 1, c6, (1, (nl : Int)), rfl, by rw [HE1.out (), hnL], by rw [HE2.out ()]; simp [hnL], hide (by rw [HE2.out (), List.map_append]; exact h1), hide (by simpa using h9), hide ((HK10.out.mono (fun k hlt e => absurd hlt (by omega))).tr hks)⟩
       case rest =>
        obtain ⟨nA', nl', nc', x, rfl, hx, hnl, HNN, HI9, HK9⟩ := hcut
        obtain ⟨w9, rfl⟩ : ∃ y : World, y = wc := ⟨_, rfl⟩
        have HXX := hide (fun _ : Unit => hx)
        have HNL := hide (fun _ : Unit => hnl)
        clear hx hnl HX1
        have HB9 := hide (HB8.out.keep HK9.out (by omega))
        have HR9 := hide (HR8.out.keep HK9.out (by omega))
        have HO9 := hide (own_keep HO8.out HK9.out (fun k hk e => own_blk_ne HO8.out HI8.out (by decide) (by rw [hk, e])))
        have HK49 : Hid (Keep (fun _ => False) w4 w9) := hide (HK48.out.trans' HK9.out (fun k hk e => by omega))
        have hw49 := HK49.out.size
        have HM9 : Hid (Rd w9 (fun _ => False) 3 bA ml (bs.flatMap Bd.cells)) := hide (((HBR.out.below HBE4.out).weak (fun _ _ h => h.elim)).keep HK49.out)
        have hr6z : r6 < Wz := by omega
        have hr6y : r6 < w9.heap.size := HR9.out.lt
        clear HB8 HT8 HR8 HO8 HK48 HN8 HK9 HI8 t0 t1 c4 i0 i1 if_
        obtain ⟨Wy, HWY⟩ : ∃ y : Nat, w9.heap.size ≤ y ∧ y ≤ w9.heap.size := ⟨_, Nat.le_refl _, Nat.le_refl _⟩
        go_upto_region 14 with fail
        go_cut [12] (fun v12 wx => ∃ A2 c2 bC, v12 = .slice A2 (a + 1) c2 ∧ Hid (wx.ownsRow Wy 75 3 (.slice A2 (a + 1) c2) (a + 1) ((bs.take a).flatMap Bd.cells ++ [.int .i64 0, .int .i64 1, .slice (some ⟨bC, 0, none⟩) 2 2])) ∧ Hid (Blk wx bC 87 #[.int .i64 x.1, .int .i64 x.2, .int .i64 29, .int .i64 0]) ∧ Wy ≤ bC ∧ Hid (Keep (fun _ => False) w9 wx))
        case first =>
         have HS : Hid (∀ w', Keep (fun _ => False) w9 w' → w'.cell? ⟨W0, 9, none⟩ = some (.slice bA ml bc) ∧ w'.cell? ⟨b10, 0, none⟩ = some (.int .i64 x.1) ∧ w'.cell? ⟨b10, 1, none⟩ = some (.int .i64 x.2)) := hide (fun w' hk => by
          have t0 := HB9.out.keep hk (fun h => h)
          have t1 := HI9.out.keep hk (fun h => h)
          exact ⟨t0.cell 9, t1.cell 0, t1.cell 1⟩)
         have HR : Hid (Keep (fun _ => False) w9 w9.drew) := hide (Keep.refl _ _).drew
         refine wp_region_noPanic ?_
         refine tkB HS HR.out (fun hHeld => ?_)
         obtain ⟨x0, hx0⟩ : ∃ y, y = w9.drew := ⟨_, rfl⟩
         rw [← hx0] at hHeld HR ⊢
         clear hx0
         refine tkL 1 ?_ ?_ ?_
         rotate_left
         ·(rintro wS ⟨e0, e1, e2⟩; go_simp; try with_reducible rfl)
         try simp only [sP]
         refine tkL 2 ?_ ?_ ?_
         rotate_left
         ·(rintro wS ⟨e0, e1, e2⟩; go_simp; try with_reducible rfl)
         try simp only [sP]
         refine tkL 3 ?_ ?_ ?_
         rotate_left
         ·(rintro wS ⟨e0, e1, e2⟩; go_simp; try with_reducible rfl)
         try simp only [sP]
         refine tkL 4 ?_ ?_ ?_
         rotate_left
         ·(rintro wS ⟨e0, e1, e2⟩; go_simp; try with_reducible rfl)
         try simp only [sP]
         refine tkL 6 ?_ ?_ ?_
         rotate_left
         ·(rintro wS ⟨e0, e1, e2⟩; go_simp; try with_reducible rfl)
         try simp only [sP]
         refine tkL 7 ?_ ?_ ?_
         rotate_left
         ·(rintro wS ⟨e0, e1, e2⟩; go_simp; try with_reducible rfl)
         try simp only [sP]
         refine wpAnyH_ready (rs := [0, 8]) (by kernel_rfl) (by simp) ?_
         refine tkA _ (fun K hK => ?_) ?_
         ·go_simp
          try go_wp2_with fail
          refine hK.out _ _ (HS.out _ (HR.out.tr (keep_any (F := fun _ => False) ((Below.refl _ _).alloc (Nat.le_refl _) _)))) (fun hHeld => ?_)
          clear hK K
          try simp only [sP]
          obtain ⟨x1, hx1⟩ : ∃ y, y = x0.alloc (.cells #[] 75) := ⟨_, rfl⟩
          have hbx1 : Below x0.heap.size x0 x1 := by rw [hx1]; exact (Below.refl _ _).alloc (Nat.le_refl _) _
          rw [← hx1] at hHeld ⊢
          obtain ⟨bE, hz⟩ : ∃ y, y = x0.heap.size := ⟨_, rfl⟩
          have hnbE : Blk x1 bE 75 #[] := by rw [hx1, hz]; exact Blk.new _ _ _
          have hlbE : Wy ≤ bE := by have := HR.out.size; omega
          replace HR := hide (HR.out.tr (keep_any (F := fun _ => False) hbx1))
          have HO := hide (own_empty (size := 3) hnbE hlbE)
          rw [← hz]
          clear hx1 hz hnbE hbx1
          refine wpAnyH_ready (rs := [5, 8]) (by kernel_rfl) (by simp) ?_
          refine tkA _ (fun K hK => ?_) ?_
          ·have HRX := ((Rd.take (f := Bd.cells) (fun _ => rfl) HM9.out hbL ha).keep HR.out)
           have HON : ∀ u ∈ (((bs.take a).flatMap Bd.cells) : List Value), u.oneCell' = true := bd_one _
           refine wp_app (.tmp 86) (.tmp 90) 50 rfl Wy 75 _ 3 40 Tryd.underlying50 body_info rfl (by decide) (.slice (some ⟨bE, 0, none⟩) 0 0) 0 [] rfl HO.out bA a bc ((bs.take a).flatMap Bd.cells) rfl HRX HON (by unfold maxLen; omega) (by omega) (by have := HR.out.size; omega) ?_
           intro A2 c2 x2 hown hg hloc
           simp only [Nat.zero_add, List.nil_append] at hown hloc ⊢
           have hk9 : Keep (fun b => Wy ≤ b) x1 x2 := (Keep.refl _ x1).grown hg (fun k hk _ => (own_base HO.out hk).1)
           replace HR := hide (HR.out.trans' hk9 (fun k hk e => by have := HWY; omega))
           clear HO
           have HO := hide hown
           clear hown hg hloc hk9 HRX HON
           refine hK.out _ _ (HS.out _ HR.out) (fun hHeld => ?_)
           clear hK K
           try simp only [sP]
           refine tkC 8 (fun K hK => ?_)
           go_simp
           try go_wp2_with fail
           refine hK.out _ _ (HS.out _ (HR.out.tr (keep_any (F := fun _ => False) ((Below.refl _ _).alloc (Nat.le_refl _) _)))) (fun hHeld => ?_)
           clear hK K
           try simp only [sP]
           obtain ⟨x3, hx3⟩ : ∃ y, y = x2.alloc (.cells #[.int .i64 x.1, .int .i64 x.2, .int .i64 29, .int .i64 0] 87) := ⟨_, rfl⟩
           have hbx3 : Below x2.heap.size x2 x3 := by rw [hx3]; exact (Below.refl _ _).alloc (Nat.le_refl _) _
           rw [← hx3] at hHeld ⊢
           obtain ⟨bC, hz⟩ : ∃ y, y = x2.heap.size := ⟨_, rfl⟩
           have hnbC : Blk x3 bC 87 #[.int .i64 x.1, .int .i64 x.2, .int .i64 29, .int .i64 0] := by rw [hx3, hz]; exact Blk.new _ _ _
           have hlbC : Wy ≤ bC := by have := HR.out.size; omega
           replace HR := hide (HR.out.tr (keep_any (F := fun _ => False) hbx3))
           replace HO := hide (own_keep (F := fun _ => False) HO.out (keep_any hbx3) (fun _ _ h => h))
           have HC := hide hnbC
           rw [← hz]
           clear hx3 hz hnbC hbx3
           refine tkL 9 ?_ ?_ ?_
           rotate_left
           ·(rintro wS ⟨e0, e1, e2⟩; go_simp; try with_reducible rfl)
           try simp only [sP]
           refine tkC 10 (fun K hK => ?_)
           go_simp
           try go_wp2_with fail
           refine hK.out _ _ (HS.out _ (HR.out.tr (keep_any (F := fun _ => False) ((Below.refl _ _).alloc (Nat.le_refl _) _)))) (fun hHeld => ?_)
           clear hK K
           try simp only [sP]
           obtain ⟨x4, hx4⟩ : ∃ y, y = x3.alloc (.cells #[.int .i64 0, .int .i64 1, .slice (some ⟨bC, 0, none⟩) 2 2] 75) := ⟨_, rfl⟩
           have hbx4 : Below x3.heap.size x3 x4 := by rw [hx4]; exact (Below.refl _ _).alloc (Nat.le_refl _) _
           rw [← hx4] at hHeld ⊢
           obtain ⟨bN, hz⟩ : ∃ y, y = x3.heap.size := ⟨_, rfl⟩
           have hnbN : Blk x4 bN 75 #[.int .i64 0, .int .i64 1, .slice (some ⟨bC, 0, none⟩) 2 2] := by rw [hx4, hz]; exact Blk.new _ _ _
           have hlbN : Wy ≤ bN := by have := HR.out.size; omega
           have HNE : Hid (∀ k, (Value.slice A2 a c2).ownBlock = some k → k = bN → False) := hide (fun k hk e => by have h9 := (own_base HO.out hk).2; omega)
           replace HR := hide (HR.out.tr (keep_any (F := fun _ => False) hbx4))
           replace HO := hide (own_keep (F := fun _ => False) HO.out (keep_any hbx4) (fun _ _ h => h))
           replace HC := hide (HC.out.below hbx4 HC.out.lt)
           have HB := hide hnbN
           have HBX : Hid (bN < x4.heap.size) := hide HB.out.lt
           rw [← hz]
           clear hx4 hz hnbN hbx4
           refine tkC 11 (fun K hK => ?_)
           have HRX := Rd.of_blk (F := fun _ => False) (size := 3) (n := 1) HB.out (fun h => h) rfl
           have HON : ∀ u ∈ ([.int .i64 0, .int .i64 1, .slice (some ⟨bC, 0, none⟩) 2 2] : List Value), u.oneCell' = true := by intro u hu; simp at hu; rcases hu with rfl | rfl | rfl <;> rfl
           refine wp_app (.tmp 91) (.tmp 96) 50 rfl Wy 75 _ 3 40 Tryd.underlying50 body_info rfl (by decide) (.slice A2 a c2) a ((bs.take a).flatMap Bd.cells) rfl HO.out (some ⟨bN, 0, none⟩) 1 1 [.int .i64 0, .int .i64 1, .slice (some ⟨bC, 0, none⟩) 2 2] rfl HRX HON (by unfold maxLen; omega) (by omega) (by have := HR.out.size; omega) ?_
           intro A5 c5 x5 hown hg hloc
           have hk9 : Keep (fun b => Wy ≤ b) x4 x5 := (Keep.refl _ x4).grown hg (fun k hk _ => (own_base HO.out hk).1)
           replace HR := hide (HR.out.trans' hk9 (fun k hk e => by have := HWY; omega))
           replace HC := hide (HC.out.keep ((Keep.refl (fun i => some i = _) x4).grown hg (fun i hi _ => hi.symm)) (fun e => own_blk_ne HO.out HC.out (by decide) e.symm))
           clear HO
           have HO := hide hown
           clear hown hg hloc hk9 HRX HON
           refine hK.out _ _ (HS.out _ HR.out) (fun hHeld => ?_)
           clear hK K
           try simp only [sP]
           refine tkL 12 ?_ ?_ ?_
           rotate_left
           ·(rintro wS ⟨e0, e1, e2⟩; go_simp; try with_reducible rfl)
           try simp only [sP]
           refine wpAnyH_done (by kernel_rfl) ?_ _
           refine NoPanic.normal ?_
           go_wp2_with fail
           go_meet
           exact ⟨A5, c5, bC, rfl, HO, HC, hlbC, HR⟩
          refine tkA _ (fun K hK => ?_) ?_
          ·go_simp
           try go_wp2_with fail
           refine hK.out _ _ (HS.out _ (HR.out.tr (keep_any (F := fun _ => False) ((Below.refl _ _).alloc (Nat.le_refl _) _)))) (fun hHeld => ?_)
           clear hK K
           try simp only [sP]
           obtain ⟨x2, hx2⟩ : ∃ y, y = x1.alloc (.cells #[.int .i64 x.1, .int .i64 x.2, .int .i64 29, .int .i64 0] 87) := ⟨_, rfl⟩
           have hbx2 : Below x1.heap.size x1 x2 := by rw [hx2]; exact (Below.refl _ _).alloc (Nat.le_refl _) _
           rw [← hx2] at hHeld ⊢
           obtain ⟨bC, hz⟩ : ∃ y, y = x1.heap.size := ⟨_, rfl⟩
           have hnbC : Blk x2 bC 87 #[.int .i64 x.1, .int .i64 x.2, .int .i64 29, .int .i64 0] := by rw [hx2, hz]; exact Blk.new _ _ _
           have hlbC : Wy ≤ bC := by have := HR.out.size; omega
           replace HR := hide (HR.out.tr (keep_any (F := fun _ => False) hbx2))
           replace HO := hide (own_keep (F := fun _ => False) HO.out (keep_any hbx2) (fun _ _ h => h))
           have HC := hide hnbC
           rw [← hz]
           clear hx2 hz hnbC hbx2
           refine tkL 9 ?_ ?_ ?_
           rotate_left
           ·(rintro wS ⟨e0, e1, e2⟩; go_simp; try with_reducible rfl)
           try simp only [sP]
           refine wpAnyH_ready (rs := [5, 10]) (by kernel_rfl) (by simp) ?_
           refine tkA _ (fun K hK => ?_) ?_
           ·have HRX := ((Rd.take (f := Bd.cells) (fun _ => rfl) HM9.out hbL ha).keep HR.out)
            have HON : ∀ u ∈ (((bs.take a).flatMap Bd.cells) : List Value), u.oneCell' = true := bd_one _
            refine wp_app (.tmp 86) (.tmp 90) 50 rfl Wy 75 _ 3 40 Tryd.underlying50 body_info rfl (by decide) (.slice (some ⟨bE, 0, none⟩) 0 0) 0 [] rfl HO.out bA a bc ((bs.take a).flatMap Bd.cells) rfl HRX HON (by unfold maxLen; omega) (by omega) (by have := HR.out.size; omega) ?_
            intro A3 c3 x3 hown hg hloc
            simp only [Nat.zero_add, List.nil_append] at hown hloc ⊢
            have hk9 : Keep (fun b => Wy ≤ b) x2 x3 := (Keep.refl _ x2).grown hg (fun k hk _ => (own_base HO.out hk).1)
            replace HR := hide (HR.out.trans' hk9 (fun k hk e => by have := HWY; omega))
            replace HC := hide (HC.out.keep ((Keep.refl (fun i => some i = _) x2).grown hg (fun i hi _ => hi.symm)) (fun e => own_blk_ne HO.out HC.out (by decide) e.symm))
            clear HO
            have HO := hide hown
            clear hown hg hloc hk9 HRX HON
            refine hK.out _ _ (HS.out _ HR.out) (fun hHeld => ?_)
            clear hK K
            try simp only [sP]
            refine tkC 10 (fun K hK => ?_)
            go_simp
            try go_wp2_with fail
            refine hK.out _ _ (HS.out _ (HR.out.tr (keep_any (F := fun _ => False) ((Below.refl _ _).alloc (Nat.le_refl _) _)))) (fun hHeld => ?_)
            clear hK K
            try simp only [sP]
            obtain ⟨x4, hx4⟩ : ∃ y, y = x3.alloc (.cells #[.int .i64 0, .int .i64 1, .slice (some ⟨bC, 0, none⟩) 2 2] 75) := ⟨_, rfl⟩
            have hbx4 : Below x3.heap.size x3 x4 := by rw [hx4]; exact (Below.refl _ _).alloc (Nat.le_refl _) _
            rw [← hx4] at hHeld ⊢
            obtain ⟨bN, hz⟩ : ∃ y, y = x3.heap.size := ⟨_, rfl⟩
            have hnbN : Blk x4 bN 75 #[.int .i64 0, .int .i64 1, .slice (some ⟨bC, 0, none⟩) 2 2] := by rw [hx4, hz]; exact Blk.new _ _ _
            have hlbN : Wy ≤ bN := by have := HR.out.size; omega
            have HNE : Hid (∀ k, (Value.slice A3 a c3).ownBlock = some k → k = bN → False) := hide (fun k hk e => by have h9 := (own_base HO.out hk).2; omega)
            replace HR := hide (HR.out.tr (keep_any (F := fun _ => False) hbx4))
            replace HO := hide (own_keep (F := fun _ => False) HO.out (keep_any hbx4) (fun _ _ h => h))
            replace HC := hide (HC.out.below hbx4 HC.out.lt)
            have HB := hide hnbN
            have HBX : Hid (bN < x4.heap.size) := hide HB.out.lt
            rw [← hz]
            clear hx4 hz hnbN hbx4
            refine tkC 11 (fun K hK => ?_)
            have HRX := Rd.of_blk (F := fun _ => False) (size := 3) (n := 1) HB.out (fun h => h) rfl
            have HON : ∀ u ∈ ([.int .i64 0, .int .i64 1, .slice (some ⟨bC, 0, none⟩) 2 2] : List Value), u.oneCell' = true := by intro u hu; simp at hu; rcases hu with rfl | rfl | rfl <;> rfl
            refine wp_app (.tmp 91) (.tmp 96) 50 rfl Wy 75 _ 3 40 Tryd.underlying50 body_info rfl (by decide) (.slice A3 a c3) a ((bs.take a).flatMap Bd.cells) rfl HO.out (some ⟨bN, 0, none⟩) 1 1 [.int .i64 0, .int .i64 1, .slice (some ⟨bC, 0, none⟩) 2 2] rfl HRX HON (by unfold maxLen; omega) (by omega) (by have := HR.out.size; omega) ?_
            intro A5 c5 x5 hown hg hloc
            have hk9 : Keep (fun b => Wy ≤ b) x4 x5 := (Keep.refl _ x4).grown hg (fun k hk _ => (own_base HO.out hk).1)
            replace HR := hide (HR.out.trans' hk9 (fun k hk e => by have := HWY; omega))
            replace HC := hide (HC.out.keep ((Keep.refl (fun i => some i = _) x4).grown hg (fun i hi _ => hi.symm)) (fun e => own_blk_ne HO.out HC.out (by decide) e.symm))
            clear HO
            have HO := hide hown
            clear hown hg hloc hk9 HRX HON
            refine hK.out _ _ (HS.out _ HR.out) (fun hHeld => ?_)
            clear hK K
            try simp only [sP]
            refine tkL 12 ?_ ?_ ?_
            rotate_left
            ·(rintro wS ⟨e0, e1, e2⟩; go_simp; try with_reducible rfl)
            try simp only [sP]
            refine wpAnyH_done (by kernel_rfl) ?_ _
            refine NoPanic.normal ?_
            go_wp2_with fail
            go_meet
            exact ⟨A5, c5, bC, rfl, HO, HC, hlbC, HR⟩
           refine tkA _ (fun K hK => ?_) ?_
           ·go_simp
            try go_wp2_with fail
            refine hK.out _ _ (HS.out _ (HR.out.tr (keep_any (F := fun _ => False) ((Below.refl _ _).alloc (Nat.le_refl _) _)))) (fun hHeld => ?_)
            clear hK K
            try simp only [sP]
            obtain ⟨x3, hx3⟩ : ∃ y, y = x2.alloc (.cells #[.int .i64 0, .int .i64 1, .slice (some ⟨bC, 0, none⟩) 2 2] 75) := ⟨_, rfl⟩
            have hbx3 : Below x2.heap.size x2 x3 := by rw [hx3]; exact (Below.refl _ _).alloc (Nat.le_refl _) _
            rw [← hx3] at hHeld ⊢
            obtain ⟨bN, hz⟩ : ∃ y, y = x2.heap.size := ⟨_, rfl⟩
            have hnbN : Blk x3 bN 75 #[.int .i64 0, .int .i64 1, .slice (some ⟨bC, 0, none⟩) 2 2] := by rw [hx3, hz]; exact Blk.new _ _ _
            have hlbN : Wy ≤ bN := by have := HR.out.size; omega
            have HNE : Hid (∀ k, (Value.slice (some ⟨bE, 0, none⟩) 0 0).ownBlock = some k → k = bN → False) := hide (fun k hk e => by have h9 := (own_base HO.out hk).2; omega)
            replace HR := hide (HR.out.tr (keep_any (F := fun _ => False) hbx3))
            replace HO := hide (own_keep (F := fun _ => False) HO.out (keep_any hbx3) (fun _ _ h => h))
            replace HC := hide (HC.out.below hbx3 HC.out.lt)
            have HB := hide hnbN
            have HBX : Hid (bN < x3.heap.size) := hide HB.out.lt
            rw [← hz]
            clear hx3 hz hnbN hbx3
            refine tkC 5 (fun K hK => ?_)
            have HRX := ((Rd.take (f := Bd.cells) (fun _ => rfl) HM9.out hbL ha).keep HR.out)
            have HON : ∀ u ∈ (((bs.take a).flatMap Bd.cells) : List Value), u.oneCell' = true := bd_one _
            refine wp_app (.tmp 86) (.tmp 90) 50 rfl Wy 75 _ 3 40 Tryd.underlying50 body_info rfl (by decide) (.slice (some ⟨bE, 0, none⟩) 0 0) 0 [] rfl HO.out bA a bc ((bs.take a).flatMap Bd.cells) rfl HRX HON (by unfold maxLen; omega) (by omega) (by have := HR.out.size; omega) ?_
            intro A4 c4 x4 hown hg hloc
            simp only [Nat.zero_add, List.nil_append] at hown hloc ⊢
            have hk9 : Keep (fun b => Wy ≤ b) x3 x4 := (Keep.refl _ x3).grown hg (fun k hk _ => (own_base HO.out hk).1)
            replace HR := hide (HR.out.trans' hk9 (fun k hk e => by have := HWY; omega))
            replace HB := hide (HB.out.keep ((Keep.refl (fun i => some i = _) x3).grown hg (fun i hi _ => hi.symm)) (fun e => HNE.out _ e.symm rfl))
            replace HC := hide (HC.out.keep ((Keep.refl (fun i => some i = _) x3).grown hg (fun i hi _ => hi.symm)) (fun e => own_blk_ne HO.out HC.out (by decide) e.symm))
            clear HO
            have HO := hide hown
            clear hown hg hloc hk9 HRX HON
            refine hK.out _ _ (HS.out _ HR.out) (fun hHeld => ?_)
            clear hK K
            try simp only [sP]
            refine tkC 11 (fun K hK => ?_)
            have HRX := Rd.of_blk (F := fun _ => False) (size := 3) (n := 1) HB.out (fun h => h) rfl
            have HON : ∀ u ∈ ([.int .i64 0, .int .i64 1, .slice (some ⟨bC, 0, none⟩) 2 2] : List Value), u.oneCell' = true := by intro u hu; simp at hu; rcases hu with rfl | rfl | rfl <;> rfl
            refine wp_app (.tmp 91) (.tmp 96) 50 rfl Wy 75 _ 3 40 Tryd.underlying50 body_info rfl (by decide) (.slice A4 a c4) a ((bs.take a).flatMap Bd.cells) rfl HO.out (some ⟨bN, 0, none⟩) 1 1 [.int .i64 0, .int .i64 1, .slice (some ⟨bC, 0, none⟩) 2 2] rfl HRX HON (by unfold maxLen; omega) (by omega) (by have := HR.out.size; omega) ?_
            intro A5 c5 x5 hown hg hloc
            have hk9 : Keep (fun b => Wy ≤ b) x4 x5 := (Keep.refl _ x4).grown hg (fun k hk _ => (own_base HO.out hk).1)
            replace HR := hide (HR.out.trans' hk9 (fun k hk e => by have := HWY; omega))
            replace HC := hide (HC.out.keep ((Keep.refl (fun i => some i = _) x4).grown hg (fun i hi _ => hi.symm)) (fun e => own_blk_ne HO.out HC.out (by decide) e.symm))
            clear HO
            have HO := hide hown
            clear hown hg hloc hk9 HRX HON
            refine hK.out _ _ (HS.out _ HR.out) (fun hHeld => ?_)
            clear hK K
            try simp only [sP]
            refine tkL 12 ?_ ?_ ?_
            rotate_left
            ·(rintro wS ⟨e0, e1, e2⟩; go_simp; try with_reducible rfl)
            try simp only [sP]
            refine wpAnyH_done (by kernel_rfl) ?_ _
            refine NoPanic.normal ?_
            go_wp2_with fail
            go_meet
            exact ⟨A5, c5, bC, rfl, HO, HC, hlbC, HR⟩
           exact AllReadyH.nil
          exact AllReadyH.nil
         refine tkA _ (fun K hK => ?_) ?_
         ·go_simp
          try go_wp2_with fail
          refine hK.out _ _ (HS.out _ (HR.out.tr (keep_any (F := fun _ => False) ((Below.refl _ _).alloc (Nat.le_refl _) _)))) (fun hHeld => ?_)
          clear hK K
          try simp only [sP]
          obtain ⟨x1, hx1⟩ : ∃ y, y = x0.alloc (.cells #[.int .i64 x.1, .int .i64 x.2, .int .i64 29, .int .i64 0] 87) := ⟨_, rfl⟩
          have hbx1 : Below x0.heap.size x0 x1 := by rw [hx1]; exact (Below.refl _ _).alloc (Nat.le_refl _) _
          rw [← hx1] at hHeld ⊢
          obtain ⟨bC, hz⟩ : ∃ y, y = x0.heap.size := ⟨_, rfl⟩
          have hnbC : Blk x1 bC 87 #[.int .i64 x.1, .int .i64 x.2, .int .i64 29, .int .i64 0] := by rw [hx1, hz]; exact Blk.new _ _ _
          have hlbC : Wy ≤ bC := by have := HR.out.size; omega
          replace HR := hide (HR.out.tr (keep_any (F := fun _ => False) hbx1))
          have HC := hide hnbC
          rw [← hz]
          clear hx1 hz hnbC hbx1
          refine tkL 9 ?_ ?_ ?_
          rotate_left
          ·(rintro wS ⟨e0, e1, e2⟩; go_simp; try with_reducible rfl)
          try simp only [sP]
          refine wpAnyH_ready (rs := [0, 10]) (by kernel_rfl) (by simp) ?_
          refine tkA _ (fun K hK => ?_) ?_
          ·go_simp
           try go_wp2_with fail
           refine hK.out _ _ (HS.out _ (HR.out.tr (keep_any (F := fun _ => False) ((Below.refl _ _).alloc (Nat.le_refl _) _)))) (fun hHeld => ?_)
           clear hK K
           try simp only [sP]
           obtain ⟨x2, hx2⟩ : ∃ y, y = x1.alloc (.cells #[] 75) := ⟨_, rfl⟩
           have hbx2 : Below x1.heap.size x1 x2 := by rw [hx2]; exact (Below.refl _ _).alloc (Nat.le_refl _) _
           rw [← hx2] at hHeld ⊢
           obtain ⟨bE, hz⟩ : ∃ y, y = x1.heap.size := ⟨_, rfl⟩
           have hnbE : Blk x2 bE 75 #[] := by rw [hx2, hz]; exact Blk.new _ _ _
           have hlbE : Wy ≤ bE := by have := HR.out.size; omega
           replace HR := hide (HR.out.tr (keep_any (F := fun _ => False) hbx2))
           replace HC := hide (HC.out.below hbx2 HC.out.lt)
           have HO := hide (own_empty (size := 3) hnbE hlbE)
           rw [← hz]
           clear hx2 hz hnbE hbx2
           refine wpAnyH_ready (rs := [5, 10]) (by kernel_rfl) (by simp) ?_
           refine tkA _ (fun K hK => ?_) ?_
           ·have HRX := ((Rd.take (f := Bd.cells) (fun _ => rfl) HM9.out hbL ha).keep HR.out)
            have HON : ∀ u ∈ (((bs.take a).flatMap Bd.cells) : List Value), u.oneCell' = true := bd_one _
            refine wp_app (.tmp 86) (.tmp 90) 50 rfl Wy 75 _ 3 40 Tryd.underlying50 body_info rfl (by decide) (.slice (some ⟨bE, 0, none⟩) 0 0) 0 [] rfl HO.out bA a bc ((bs.take a).flatMap Bd.cells) rfl HRX HON (by unfold maxLen; omega) (by omega) (by have := HR.out.size; omega) ?_
            intro A3 c3 x3 hown hg hloc
            simp only [Nat.zero_add, List.nil_append] at hown hloc ⊢
            have hk9 : Keep (fun b => Wy ≤ b) x2 x3 := (Keep.refl _ x2).grown hg (fun k hk _ => (own_base HO.out hk).1)
            replace HR := hide (HR.out.trans' hk9 (fun k hk e => by have := HWY; omega))
            replace HC := hide (HC.out.keep ((Keep.refl (fun i => some i = _) x2).grown hg (fun i hi _ => hi.symm)) (fun e => own_blk_ne HO.out HC.out (by decide) e.symm))
            clear HO
            have HO := hide hown
            clear hown hg hloc hk9 HRX HON
            refine hK.out _ _ (HS.out _ HR.out) (fun hHeld => ?_)
            clear hK K
            try simp only [sP]
            refine tkC 10 (fun K hK => ?_)
            go_simp
            try go_wp2_with fail
            refine hK.out _ _ (HS.out _ (HR.out.tr (keep_any (F := fun _ => False) ((Below.refl _ _).alloc (Nat.le_refl _) _)))) (fun hHeld => ?_)
            clear hK K
            try simp only [sP]
            obtain ⟨x4, hx4⟩ : ∃ y, y = x3.alloc (.cells #[.int .i64 0, .int .i64 1, .slice (some ⟨bC, 0, none⟩) 2 2] 75) := ⟨_, rfl⟩
            have hbx4 : Below x3.heap.size x3 x4 := by rw [hx4]; exact (Below.refl _ _).alloc (Nat.le_refl _) _
            rw [← hx4] at hHeld ⊢
            obtain ⟨bN, hz⟩ : ∃ y, y = x3.heap.size := ⟨_, rfl⟩
            have hnbN : Blk x4 bN 75 #[.int .i64 0, .int .i64 1, .slice (some ⟨bC, 0, none⟩) 2 2] := by rw [hx4, hz]; exact Blk.new _ _ _
            have hlbN : Wy ≤ bN := by have := HR.out.size; omega
            have HNE : Hid (∀ k, (Value.slice A3 a c3).ownBlock = some k → k = bN → False) := hide (fun k hk e => by have h9 := (own_base HO.out hk).2; omega)
            replace HR := hide (HR.out.tr (keep_any (F := fun _ => False) hbx4))
            replace HO := hide (own_keep (F := fun _ => False) HO.out (keep_any hbx4) (fun _ _ h => h))
            replace HC := hide (HC.out.below hbx4 HC.out.lt)
            have HB := hide hnbN
            have HBX : Hid (bN < x4.heap.size) := hide HB.out.lt
            rw [← hz]
            clear hx4 hz hnbN hbx4
            refine tkC 11 (fun K hK => ?_)
            have HRX := Rd.of_blk (F := fun _ => False) (size := 3) (n := 1) HB.out (fun h => h) rfl
            have HON : ∀ u ∈ ([.int .i64 0, .int .i64 1, .slice (some ⟨bC, 0, none⟩) 2 2] : List Value), u.oneCell' = true := by intro u hu; simp at hu; rcases hu with rfl | rfl | rfl <;> rfl
            refine wp_app (.tmp 91) (.tmp 96) 50 rfl Wy 75 _ 3 40 Tryd.underlying50 body_info rfl (by decide) (.slice A3 a c3) a ((bs.take a).flatMap Bd.cells) rfl HO.out (some ⟨bN, 0, none⟩) 1 1 [.int .i64 0, .int .i64 1, .slice (some ⟨bC, 0, none⟩) 2 2] rfl HRX HON (by unfold maxLen; omega) (by omega) (by have := HR.out.size; omega) ?_
            intro A5 c5 x5 hown hg hloc
            have hk9 : Keep (fun b => Wy ≤ b) x4 x5 := (Keep.refl _ x4).grown hg (fun k hk _ => (own_base HO.out hk).1)
            replace HR := hide (HR.out.trans' hk9 (fun k hk e => by have := HWY; omega))
            replace HC := hide (HC.out.keep ((Keep.refl (fun i => some i = _) x4).grown hg (fun i hi _ => hi.symm)) (fun e => own_blk_ne HO.out HC.out (by decide) e.symm))
            clear HO
            have HO := hide hown
            clear hown hg hloc hk9 HRX HON
            refine hK.out _ _ (HS.out _ HR.out) (fun hHeld => ?_)
            clear hK K
            try simp only [sP]
            refine tkL 12 ?_ ?_ ?_
            rotate_left
            ·(rintro wS ⟨e0, e1, e2⟩; go_simp; try with_reducible rfl)
            try simp only [sP]
            refine wpAnyH_done (by kernel_rfl) ?_ _
            refine NoPanic.normal ?_
            go_wp2_with fail
            go_meet
            exact ⟨A5, c5, bC, rfl, HO, HC, hlbC, HR⟩
           refine tkA _ (fun K hK => ?_) ?_
           ·go_simp
            try go_wp2_with fail
            refine hK.out _ _ (HS.out _ (HR.out.tr (keep_any (F := fun _ => False) ((Below.refl _ _).alloc (Nat.le_refl _) _)))) (fun hHeld => ?_)
            clear hK K
            try simp only [sP]
            obtain ⟨x3, hx3⟩ : ∃ y, y = x2.alloc (.cells #[.int .i64 0, .int .i64 1, .slice (some ⟨bC, 0, none⟩) 2 2] 75) := ⟨_, rfl⟩
            have hbx3 : Below x2.heap.size x2 x3 := by rw [hx3]; exact (Below.refl _ _).alloc (Nat.le_refl _) _
            rw [← hx3] at hHeld ⊢
            obtain ⟨bN, hz⟩ : ∃ y, y = x2.heap.size := ⟨_, rfl⟩
            have hnbN : Blk x3 bN 75 #[.int .i64 0, .int .i64 1, .slice (some ⟨bC, 0, none⟩) 2 2] := by rw [hx3, hz]; exact Blk.new _ _ _
            have hlbN : Wy ≤ bN := by have := HR.out.size; omega
            have HNE : Hid (∀ k, (Value.slice (some ⟨bE, 0, none⟩) 0 0).ownBlock = some k → k = bN → False) := hide (fun k hk e => by have h9 := (own_base HO.out hk).2; omega)
            replace HR := hide (HR.out.tr (keep_any (F := fun _ => False) hbx3))
            replace HO := hide (own_keep (F := fun _ => False) HO.out (keep_any hbx3) (fun _ _ h => h))
            replace HC := hide (HC.out.below hbx3 HC.out.lt)
            have HB := hide hnbN
            have HBX : Hid (bN < x3.heap.size) := hide HB.out.lt
            rw [← hz]
            clear hx3 hz hnbN hbx3
            refine tkC 5 (fun K hK => ?_)
            have HRX := ((Rd.take (f := Bd.cells) (fun _ => rfl) HM9.out hbL ha).keep HR.out)
            have HON : ∀ u ∈ (((bs.take a).flatMap Bd.cells) : List Value), u.oneCell' = true := bd_one _
            refine wp_app (.tmp 86) (.tmp 90) 50 rfl Wy 75 _ 3 40 Tryd.underlying50 body_info rfl (by decide) (.slice (some ⟨bE, 0, none⟩) 0 0) 0 [] rfl HO.out bA a bc ((bs.take a).flatMap Bd.cells) rfl HRX HON (by unfold maxLen; omega) (by omega) (by have := HR.out.size; omega) ?_
            intro A4 c4 x4 hown hg hloc
            simp only [Nat.zero_add, List.nil_append] at hown hloc ⊢
            have hk9 : Keep (fun b => Wy ≤ b) x3 x4 := (Keep.refl _ x3).grown hg (fun k hk _ => (own_base HO.out hk).1)
            replace HR := hide (HR.out.trans' hk9 (fun k hk e => by have := HWY; omega))
            replace HB := hide (HB.out.keep ((Keep.refl (fun i => some i = _) x3).grown hg (fun i hi _ => hi.symm)) (fun e => HNE.out _ e.symm rfl))
            replace HC := hide (HC.out.keep ((Keep.refl (fun i => some i = _) x3).grown hg (fun i hi _ => hi.symm)) (fun e => own_blk_ne HO.out HC.out (by decide) e.symm))
            clear HO
            have HO := hide hown
            clear hown hg hloc hk9 HRX HON
            refine hK.out _ _ (HS.out _ HR.out) (fun hHeld => ?_)
            clear hK K
            try simp only [sP]
            refine tkC 11 (fun K hK => ?_)
            have HRX := Rd.of_blk (F := fun _ => False) (size := 3) (n := 1) HB.out (fun h => h) rfl
            have HON : ∀ u ∈ ([.int .i64 0, .int .i64 1, .slice (some ⟨bC, 0, none⟩) 2 2] : List Value), u.oneCell' = true := by intro u hu; simp at hu; rcases hu with rfl | rfl | rfl <;> rfl
            refine wp_app (.tmp 91) (.tmp 96) 50 rfl Wy 75 _ 3 40 Tryd.underlying50 body_info rfl (by decide) (.slice A4 a c4) a ((bs.take a).flatMap Bd.cells) rfl HO.out (some ⟨bN, 0, none⟩) 1 1 [.int .i64 0, .int .i64 1, .slice (some ⟨bC, 0, none⟩) 2 2] rfl HRX HON (by unfold maxLen; omega) (by omega) (by have := HR.out.size; omega) ?_
            intro A5 c5 x5 hown hg hloc
            have hk9 : Keep (fun b => Wy ≤ b) x4 x5 := (Keep.refl _ x4).grown hg (fun k hk _ => (own_base HO.out hk).1)
            replace HR := hide (HR.out.trans' hk9 (fun k hk e => by have := HWY; omega))
            replace HC := hide (HC.out.keep ((Keep.refl (fun i => some i = _) x4).grown hg (fun i hi _ => hi.symm)) (fun e => own_blk_ne HO.out HC.out (by decide) e.symm))
            clear HO
            have HO := hide hown
            clear hown hg hloc hk9 HRX HON
            refine hK.out _ _ (HS.out _ HR.out) (fun hHeld => ?_)
            clear hK K
            try simp only [sP]
            refine tkL 12 ?_ ?_ ?_
            rotate_left
            ·(rintro wS ⟨e0, e1, e2⟩; go_simp; try with_reducible rfl)
            try simp only [sP]
            refine wpAnyH_done (by kernel_rfl) ?_ _
            refine NoPanic.normal ?_
            go_wp2_with fail
            go_meet
            exact ⟨A5, c5, bC, rfl, HO, HC, hlbC, HR⟩
           exact AllReadyH.nil
          refine tkA _ (fun K hK => ?_) ?_
          ·go_simp
           try go_wp2_with fail
           refine hK.out _ _ (HS.out _ (HR.out.tr (keep_any (F := fun _ => False) ((Below.refl _ _).alloc (Nat.le_refl _) _)))) (fun hHeld => ?_)
           clear hK K
           try simp only [sP]
           obtain ⟨x2, hx2⟩ : ∃ y, y = x1.alloc (.cells #[.int .i64 0, .int .i64 1, .slice (some ⟨bC, 0, none⟩) 2 2] 75) := ⟨_, rfl⟩
           have hbx2 : Below x1.heap.size x1 x2 := by rw [hx2]; exact (Below.refl _ _).alloc (Nat.le_refl _) _
           rw [← hx2] at hHeld ⊢
           obtain ⟨bN, hz⟩ : ∃ y, y = x1.heap.size := ⟨_, rfl⟩
           have hnbN : Blk x2 bN 75 #[.int .i64 0, .int .i64 1, .slice (some ⟨bC, 0, none⟩) 2 2] := by rw [hx2, hz]; exact Blk.new _ _ _
           have hlbN : Wy ≤ bN := by have := HR.out.size; omega
           replace HR := hide (HR.out.tr (keep_any (F := fun _ => False) hbx2))
           replace HC := hide (HC.out.below hbx2 HC.out.lt)
           have HB := hide hnbN
           have HBX : Hid (bN < x2.heap.size) := hide HB.out.lt
           rw [← hz]
           clear hx2 hz hnbN hbx2
           refine tkC 0 (fun K hK => ?_)
           go_simp
           try go_wp2_with fail
           refine hK.out _ _ (HS.out _ (HR.out.tr (keep_any (F := fun _ => False) ((Below.refl _ _).alloc (Nat.le_refl _) _)))) (fun hHeld => ?_)
           clear hK K
           try simp only [sP]
           obtain ⟨x3, hx3⟩ : ∃ y, y = x2.alloc (.cells #[] 75) := ⟨_, rfl⟩
           have hbx3 : Below x2.heap.size x2 x3 := by rw [hx3]; exact (Below.refl _ _).alloc (Nat.le_refl _) _
           rw [← hx3] at hHeld ⊢
           obtain ⟨bE, hz⟩ : ∃ y, y = x2.heap.size := ⟨_, rfl⟩
           have hnbE : Blk x3 bE 75 #[] := by rw [hx3, hz]; exact Blk.new _ _ _
           have hlbE : Wy ≤ bE := by have := HR.out.size; omega
           replace HR := hide (HR.out.tr (keep_any (F := fun _ => False) hbx3))
           replace HB := hide (HB.out.below hbx3 HB.out.lt)
           replace HC := hide (HC.out.below hbx3 HC.out.lt)
           have HO := hide (own_empty (size := 3) hnbE hlbE)
           have HNE : Hid (∀ k, (Value.slice (some ⟨bE, 0, none⟩) 0 0).ownBlock = some k → k = bN → False) := hide (fun k hk e => by have hk2 : bE = k := (by simpa [Value.ownBlock] using hk); have := HBX.out; omega)
           rw [← hz]
           clear hx3 hz hnbE hbx3
           refine tkC 5 (fun K hK => ?_)
           have HRX := ((Rd.take (f := Bd.cells) (fun _ => rfl) HM9.out hbL ha).keep HR.out)
           have HON : ∀ u ∈ (((bs.take a).flatMap Bd.cells) : List Value), u.oneCell' = true := bd_one _
           refine wp_app (.tmp 86) (.tmp 90) 50 rfl Wy 75 _ 3 40 Tryd.underlying50 body_info rfl (by decide) (.slice (some ⟨bE, 0, none⟩) 0 0) 0 [] rfl HO.out bA a bc ((bs.take a).flatMap Bd.cells) rfl HRX HON (by unfold maxLen; omega) (by omega) (by have := HR.out.size; omega) ?_
           intro A4 c4 x4 hown hg hloc
           simp only [Nat.zero_add, List.nil_append] at hown hloc ⊢
           have hk9 : Keep (fun b => Wy ≤ b) x3 x4 := (Keep.refl _ x3).grown hg (fun k hk _ => (own_base HO.out hk).1)
           replace HR := hide (HR.out.trans' hk9 (fun k hk e => by have := HWY; omega))
           replace HB := hide (HB.out.keep ((Keep.refl (fun i => some i = _) x3).grown hg (fun i hi _ => hi.symm)) (fun e => HNE.out _ e.symm rfl))
           replace HC := hide (HC.out.keep ((Keep.refl (fun i => some i = _) x3).grown hg (fun i hi _ => hi.symm)) (fun e => own_blk_ne HO.out HC.out (by decide) e.symm))
           clear HO
           have HO := hide hown
           clear hown hg hloc hk9 HRX HON
           refine hK.out _ _ (HS.out _ HR.out) (fun hHeld => ?_)
           clear hK K
           try simp only [sP]
           refine tkC 11 (fun K hK => ?_)
           have HRX := Rd.of_blk (F := fun _ => False) (size := 3) (n := 1) HB.out (fun h => h) rfl
           have HON : ∀ u ∈ ([.int .i64 0, .int .i64 1, .slice (some ⟨bC, 0, none⟩) 2 2] : List Value), u.oneCell' = true := by intro u hu; simp at hu; rcases hu with rfl | rfl | rfl <;> rfl
           refine wp_app (.tmp 91) (.tmp 96) 50 rfl Wy 75 _ 3 40 Tryd.underlying50 body_info rfl (by decide) (.slice A4 a c4) a ((bs.take a).flatMap Bd.cells) rfl HO.out (some ⟨bN, 0, none⟩) 1 1 [.int .i64 0, .int .i64 1, .slice (some ⟨bC, 0, none⟩) 2 2] rfl HRX HON (by unfold maxLen; omega) (by omega) (by have := HR.out.size; omega) ?_
           intro A5 c5 x5 hown hg hloc
           have hk9 : Keep (fun b => Wy ≤ b) x4 x5 := (Keep.refl _ x4).grown hg (fun k hk _ => (own_base HO.out hk).1)
           replace HR := hide (HR.out.trans' hk9 (fun k hk e => by have := HWY; omega))
           replace HC := hide (HC.out.keep ((Keep.refl (fun i => some i = _) x4).grown hg (fun i hi _ => hi.symm)) (fun e => own_blk_ne HO.out HC.out (by decide) e.symm))
           clear HO
           have HO := hide hown
           clear hown hg hloc hk9 HRX HON
           refine hK.out _ _ (HS.out _ HR.out) (fun hHeld => ?_)
           clear hK K
           try simp only [sP]
           refine tkL 12 ?_ ?_ ?_
           rotate_left
           ·(rintro wS ⟨e0, e1, e2⟩; go_simp; try with_reducible rfl)
           try simp only [sP]
           refine wpAnyH_done (by kernel_rfl) ?_ _
           refine NoPanic.normal ?_
           go_wp2_with fail
           go_meet
           exact ⟨A5, c5, bC, rfl, HO, HC, hlbC, HR⟩
          exact AllReadyH.nil
         exact AllReadyH.nil
        case rest =>
         obtain ⟨A2, c2, bC, rfl, HO, HC, hbC, HK⟩ := hcut
         obtain ⟨w11, rfl⟩ : ∃ y : World, y = wc := ⟨_, rfl⟩
         have HB11 := hide (HB9.out.keep HK.out (fun h => h))
         obtain ⟨cap, hcap⟩ : ∃ y, y = bc := ⟨_, rfl⟩
         have c3 : w11.cell? ⟨W0, 9, none⟩ = some (.slice bA ml cap) := by rw [hcap]; exact HB11.out.cell 9
         have hcap2 : ml ≤ cap := by omega
         clear hcap
         have HM11 := hide (HM9.out.keep HK.out)
         go_upto_region 15 with fail
         go_cut [12] (fun v12 wx => ∃ A3 c3', v12 = .slice A3 (ml + 1) c3' ∧ Hid (wx.ownsRow Wy 75 3 (.slice A3 (ml + 1) c3') (ml + 1) (((bs.take a).flatMap Bd.cells ++ [.int .i64 0, .int .i64 1, .slice (some ⟨bC, 0, none⟩) 2 2]) ++ (bs.drop a).flatMap Bd.cells)) ∧ Hid (Keep (fun _ => False) w9 wx) ∧ Hid (Blk wx bC 87 #[.int .i64 x.1, .int .i64 x.2, .int .i64 29, .int .i64 0]))
         case first =>
          by_cases hmc : cap = a
          case pos =>
           have HML : Hid (ml - a = 0) := hide (by omega)
           go_wp2_with (at_builtin; refine app_rd rfl (.tmp 98) (.tmp 102) 50 rfl Wy 75 _ 3 40 Tryd.underlying50 body_info rfl (by decide) (.slice A2 (a + 1) c2) (a + 1) _ rfl HO.out _ (ml - a) _ ((bs.drop a).flatMap Bd.cells) rfl (by rw [show ml - a = 0 from HML.out]; exact Rd.none0 (F := fun _ => False) (f := Bd.cells) hbL (Nat.le_of_sub_eq_zero HML.out)) (bd_one _) (by unfold maxLen; omega) (by omega) (by have := HK.out.size; omega) ?_; intro A6 c6 w12 hown6 hgrow12 _; rw [show a + 1 + (ml - a) = ml + 1 by omega] at hown6; have HO6 := hide hown6; have hk6 : Keep (fun b => Wy ≤ b) w11 w12 := (Keep.refl _ w11).grown hgrow12 (fun k hk _ => (own_base HO.out hk).1); have HK6 := hide (HK.out.trans' hk6 (fun k hk e => by omega)); have HCC := hide (HC.out.keep ((Keep.refl (fun i => some i = _) w11).grown hgrow12 (fun i hi _ => hi.symm)) (fun e => own_blk_ne HO.out HC.out (by decide) e.symm)); clear hown6 hgrow12 hk6)
           go_meet
           exact ⟨A6, c6, by rw [show a + 1 + (ml - a) = ml + 1 by omega], HO6, HK6, HCC⟩
          case neg =>
           by_cases hml : ml = a
           case pos =>
            have HML : Hid (ml - a = 0) := hide (by omega)
            clear hml
            go_wp2_with (at_builtin; refine app_rd rfl (.tmp 98) (.tmp 102) 50 rfl Wy 75 _ 3 40 Tryd.underlying50 body_info rfl (by decide) (.slice A2 (a + 1) c2) (a + 1) _ rfl HO.out _ (ml - a) _ ((bs.drop a).flatMap Bd.cells) rfl (by rw [show ml - a = 0 from HML.out]; exact Rd.none0 (F := fun _ => False) (f := Bd.cells) hbL (Nat.le_of_sub_eq_zero HML.out)) (bd_one _) (by unfold maxLen; omega) (by omega) (by have := HK.out.size; omega) ?_; intro A6 c6 w12 hown6 hgrow12 _; rw [show a + 1 + (ml - a) = ml + 1 by omega] at hown6; have HO6 := hide hown6; have hk6 : Keep (fun b => Wy ≤ b) w11 w12 := (Keep.refl _ w11).grown hgrow12 (fun k hk _ => (own_base HO.out hk).1); have HK6 := hide (HK.out.trans' hk6 (fun k hk e => by omega)); have HCC := hide (HC.out.keep ((Keep.refl (fun i => some i = _) w11).grown hgrow12 (fun i hi _ => hi.symm)) (fun e => own_blk_ne HO.out HC.out (by decide) e.symm)); clear hown6 hgrow12 hk6)
            go_meet
            exact ⟨A6, c6, by rw [show a + 1 + (ml - a) = ml + 1 by omega], HO6, HK6, HCC⟩
           case neg =>
            obtain ⟨bb, o, hA9, _, _, _⟩ := HM11.out.2 (by omega)
            subst hA9
            go_wp2_with (at_builtin; refine app_rd rfl (.tmp 98) (.tmp 102) 50 rfl Wy 75 _ 3 40 Tryd.underlying50 body_info rfl (by decide) (.slice A2 (a + 1) c2) (a + 1) _ rfl HO.out _ (ml - a) _ ((bs.drop a).flatMap Bd.cells) rfl (Rd.drop (f := Bd.cells) (fun _ => rfl) (HM11.out) hbL ha) (bd_one _) (by unfold maxLen; omega) (by omega) (by have := HK.out.size; omega) ?_; intro A6 c6 w12 hown6 hgrow12 _; rw [show a + 1 + (ml - a) = ml + 1 by omega] at hown6; have HO6 := hide hown6; have hk6 : Keep (fun b => Wy ≤ b) w11 w12 := (Keep.refl _ w11).grown hgrow12 (fun k hk _ => (own_base HO.out hk).1); have HK6 := hide (HK.out.trans' hk6 (fun k hk e => by omega)); have HCC := hide (HC.out.keep ((Keep.refl (fun i => some i = _) w11).grown hgrow12 (fun i hi _ => hi.symm)) (fun e => own_blk_ne HO.out HC.out (by decide) e.symm)); clear hown6 hgrow12 hk6)
            go_meet
            exact ⟨A6, c6, by rw [show a + 1 + (ml - a) = ml + 1 by omega], HO6, HK6, HCC⟩
         case rest =>
          obtain ⟨A4, c4', rfl, HOB, HK12, HC12⟩ := hcut
          obtain ⟨w12, rfl⟩ : ∃ y : World, y = wc := ⟨_, rfl⟩
          have HB12 := hide (HB9.out.keep HK12.out (fun h => h))
          have HR12 := hide (HR9.out.keep HK12.out (fun h => h))
          clear HO HC HK HB11 c3 HM11
          have hw912 := HK12.out.size
          have m0 : w12.cell? ⟨W0, 0, none⟩ = some (S fn) := HB12.out.cell 0
          have m1 : w12.cell? ⟨W0, 1, none⟩ = some (S su) := HB12.out.cell 1
          have m2 : w12.cell? ⟨W0, 2, none⟩ = some (.slice fA fl fc) := HB12.out.cell 2
          have m3 : w12.cell? ⟨W0, 3, none⟩ = some (.slice mA ml mc) := HB12.out.cell 3
          have m4 : w12.cell? ⟨W0, 4, none⟩ = some (.slice nA nl nc) := HB12.out.cell 4
          have m5 : w12.cell? ⟨W0, 5, none⟩ = some (.slice cA cl cc) := HB12.out.cell 5
          have m6 : w12.cell? ⟨W0, 6, none⟩ = some (.slice tA tl tc) := HB12.out.cell 6
          have m7 : w12.cell? ⟨W0, 7, none⟩ = some (.slice dA dl dc) := HB12.out.cell 7
          have m8 : w12.cell? ⟨W0, 8, none⟩ = some (.slice qA ql qc) := HB12.out.cell 8
          have m9 : w12.cell? ⟨W0, 9, none⟩ = some (.slice bA ml bc) := HB12.out.cell 9
          go_upto_region 17 with fail
          refine name_world ?_
          intro w13 hw13
          have hb13 : Below w12.heap.size w12 w13 := by rw [hw13]; exact (Below.refl _ _).alloc (Nat.le_refl _) _
          obtain ⟨b13, hb13e⟩ : ∃ y, y = w12.heap.size := ⟨_, rfl⟩
          have HG13 : Hid (Blk w13 b13 52 #[S fn, S su, .slice fA fl fc, .slice mA ml mc, .slice nA nl nc, .slice cA cl cc, .slice tA tl tc, .slice dA dl dc, .slice qA ql qc, .slice bA ml bc]) := hide (by rw [hw13, hb13e]; exact Blk.new _ _ _)
          have HB13 := hide (HB12.out.below hb13 HB12.out.lt)
          have HK13 : Hid (Keep (fun _ => False) w12 w13) := hide (keep_any hb13)
          rw [← hb13e]
          have hb13w : w12.heap.size ≤ b13 := by omega
          clear hw13 hb13 hb13e m0 m1 m2 m3 m4 m5 m6 m7 m8 m9
          have m0 : w13.cell? ⟨W0, 0, none⟩ = some (S fn) := HB13.out.cell 0
          have m1 : w13.cell? ⟨W0, 1, none⟩ = some (S su) := HB13.out.cell 1
          have m2 : w13.cell? ⟨W0, 2, none⟩ = some (.slice fA fl fc) := HB13.out.cell 2
          have g0 : w13.cell? ⟨b13, 0, none⟩ = some (S fn) := HG13.out.cell 0
          have g1 : w13.cell? ⟨b13, 1, none⟩ = some (S su) := HG13.out.cell 1
          have g2 : w13.cell? ⟨b13, 2, none⟩ = some (.slice fA fl fc) := HG13.out.cell 2
          have g3 : w13.cell? ⟨b13, 3, none⟩ = some (.slice mA ml mc) := HG13.out.cell 3
          have gf := HG13.out.frozen
          go_upto_region 18 with fail
          refine name_world ?_
          intro w14 hw14
          have HG14 : Hid (Blk w14 b13 52 #[S fn, S su, .slice fA fl fc, .slice A3 (ml + 1) c3', .slice nA nl nc, .slice cA cl cc, .slice tA tl tc, .slice dA dl dc, .slice qA ql qc, .slice bA ml bc]) := hide (by rw [hw14]; have h9 := (((HG13.out.set_ 0 (S fn)).set_ 1 (S su)).set_ 2 (.slice fA fl fc)).set_ 3 (.slice A3 (ml + 1) c3'); simpa using h9)
          have HK14 : Hid (Keep (fun _ => False) w12 w14) := hide (HK13.out.trans' (show Keep (fun k => k = b13) w13 w14 by rw [hw14]; exact ((((Keep.refl (fun k => k = b13) w13).setCell (p := ⟨b13, 0, none⟩) (fun _ => rfl) _).setCell (p := ⟨b13, 1, none⟩) (fun _ => rfl) _).setCell (p := ⟨b13, 2, none⟩) (fun _ => rfl) _).setCell (p := ⟨b13, 3, none⟩) (fun _ => rfl) _) (fun k hk e => by omega))
          clear hw14 gf m0 m1 m2 g0 g1 g2 g3
          have g4 : w14.cell? ⟨b13, 4, none⟩ = some (.slice nA nl nc) := HG14.out.cell 4
          have gf := HG14.out.frozen
          go_upto_region 19 with fail
          refine name_world ?_
          intro wa hwa
          have HGa : Hid (Blk wa b13 52 #[S fn, S su, .slice fA fl fc, .slice A3 (ml + 1) c3', .slice nA' nl' nc', .slice cA cl cc, .slice tA tl tc, .slice dA dl dc, .slice qA ql qc, .slice bA ml bc]) := hide (by rw [hwa]; have h9 := HG14.out.set_ 4 (.slice nA' nl' nc'); simpa using h9)
          have HKa : Hid (Keep (fun _ => False) w12 wa) := hide (HK14.out.trans' (show Keep (fun k => k = b13) w14 wa by rw [hwa]; exact (Keep.refl (fun k => k = b13) w14).setCell (p := ⟨b13, 4, none⟩) (fun _ => rfl) _) (fun k hk e => by omega))
          clear hwa gf g4
          have g9 : wa.cell? ⟨b13, 9, none⟩ = some (.slice bA ml bc) := HGa.out.cell 9
          have gf := HGa.out.frozen
          go_upto_region 20 with fail
          refine name_world ?_
          intro w15 hw15
          have HG15 : Hid (Blk w15 b13 52 #[S fn, S su, .slice fA fl fc, .slice A3 (ml + 1) c3', .slice nA' nl' nc', .slice cA cl cc, .slice tA tl tc, .slice dA dl dc, .slice qA ql qc, .slice A4 (ml + 1) c4']) := hide (by rw [hw15]; have h9 := HGa.out.set_ 9 (.slice A4 (ml + 1) c4'); simpa using h9)
          have HK15 : Hid (Keep (fun _ => False) w12 w15) := hide (HKa.out.trans' (show Keep (fun k => k = b13) wa w15 by rw [hw15]; exact (Keep.refl (fun k => k = b13) wa).setCell (p := ⟨b13, 9, none⟩) (fun _ => rfl) _) (fun k hk e => by omega))
          clear hw15 gf g9
          have HR15 := hide (HR12.out.keep HK15.out (fun h => h))
          have e0 : w15.cell? ⟨b13, 0, none⟩ = some (S fn) := HG15.out.cell 0
          have e1 : w15.cell? ⟨b13, 1, none⟩ = some (S su) := HG15.out.cell 1
          have e2 : w15.cell? ⟨b13, 2, none⟩ = some (.slice fA fl fc) := HG15.out.cell 2
          have e3 : w15.cell? ⟨b13, 3, none⟩ = some (.slice A3 (ml + 1) c3') := HG15.out.cell 3
          have e4 : w15.cell? ⟨b13, 4, none⟩ = some (.slice nA' nl' nc') := HG15.out.cell 4
          have e5 : w15.cell? ⟨b13, 5, none⟩ = some (.slice cA cl cc) := HG15.out.cell 5
          have e6 : w15.cell? ⟨b13, 6, none⟩ = some (.slice tA tl tc) := HG15.out.cell 6
          have e7 : w15.cell? ⟨b13, 7, none⟩ = some (.slice dA dl dc) := HG15.out.cell 7
          have e8 : w15.cell? ⟨b13, 8, none⟩ = some (.slice qA ql qc) := HG15.out.cell 8
          have e9 : w15.cell? ⟨b13, 9, none⟩ = some (.slice A4 (ml + 1) c4') := HG15.out.cell 9
          have d0 : w15.cell? ⟨r6, 0, none⟩ = some (S []) := HR15.out.cell 0
          have d1 : w15.cell? ⟨r6, 1, none⟩ = some (S []) := HR15.out.cell 1
          have d2 : w15.cell? ⟨r6, 2, none⟩ = some (.slice none 0 0) := HR15.out.cell 2
          have d3 : w15.cell? ⟨r6, 3, none⟩ = some (.slice none 0 0) := HR15.out.cell 3
          have d4 : w15.cell? ⟨r6, 4, none⟩ = some (.slice none 0 0) := HR15.out.cell 4
          have d5 : w15.cell? ⟨r6, 5, none⟩ = some (.slice none 0 0) := HR15.out.cell 5
          have d6 : w15.cell? ⟨r6, 6, none⟩ = some (.slice none 0 0) := HR15.out.cell 6
          have d7 : w15.cell? ⟨r6, 7, none⟩ = some (.slice none 0 0) := HR15.out.cell 7
          have d8 : w15.cell? ⟨r6, 8, none⟩ = some (.slice none 0 0) := HR15.out.cell 8
          have d9 : w15.cell? ⟨r6, 9, none⟩ = some (.slice none 0 0) := HR15.out.cell 9
          have df := HR15.out.frozen
          have HEND : Hid (∀ wF, Keep (fun k => k = r6) w15 wF → Below w.heap.size w wF ∧ Fl.at_ wF (fun k => wF.heap.size ≤ k) (gW fn su fA fl fc fs A3 ml c3' ms nA' nl' nc' nums cA cl cc cls tA tl tc tys dA dl dc fds qA ql qc mts A4 c4' bs a nm rn ra bC)) := hide (fun wF hkF => gW_at (HF9.out ()) HBE4.out HK49.out HK12.out HK15.out hkF ⟨by omega, by omega, by omega⟩ HWZ.1 ha hn hm hs hr HO9.out HNN.out (HNL.out ()) HOB.out HC12.out hbC (HXX.out ()) HWY.1)
          skip
          go_wp2_with fail
          obtain ⟨wF, hwF⟩ : ∃ y, y = (World.setCell (World.setCell (World.setCell (World.setCell (World.setCell (World.setCell (World.setCell (World.setCell (World.setCell (World.setCell w15 ⟨r6, 0, none⟩ (S fn)) ⟨r6, 1, none⟩ (S su)) ⟨r6, 2, none⟩ (.slice fA fl fc)) ⟨r6, 3, none⟩ (.slice A3 (ml + 1) c3')) ⟨r6, 4, none⟩ (.slice nA' nl' nc')) ⟨r6, 5, none⟩ (.slice cA cl cc)) ⟨r6, 6, none⟩ (.slice tA tl tc)) ⟨r6, 7, none⟩ (.slice dA dl dc)) ⟨r6, 8, none⟩ (.slice qA ql qc)) ⟨r6, 9, none⟩ (.slice A4 (ml + 1) c4')) := ⟨_, rfl⟩
          have hkf : Keep (fun k => k = r6) w15 wF := by rw [hwF]; exact (Keep.setCell (p := ⟨r6, 9, none⟩) (Keep.setCell (p := ⟨r6, 8, none⟩) (Keep.setCell (p := ⟨r6, 7, none⟩) (Keep.setCell (p := ⟨r6, 6, none⟩) (Keep.setCell (p := ⟨r6, 5, none⟩) (Keep.setCell (p := ⟨r6, 4, none⟩) (Keep.setCell (p := ⟨r6, 3, none⟩) (Keep.setCell (p := ⟨r6, 2, none⟩) (Keep.setCell (p := ⟨r6, 1, none⟩) (Keep.setCell (p := ⟨r6, 0, none⟩) (Keep.refl (fun k => k = r6) w15) (fun _ => rfl) _) (fun _ => rfl) _) (fun _ => rfl) _) (fun _ => rfl) _) (fun _ => rfl) _) (fun _ => rfl) _) (fun _ => rfl) _) (fun _ => rfl) _) (fun _ => rfl) _) (fun _ => rfl) _)
          have HRF : Hid (Blk wF r6 52 #[S fn, S su, .slice fA fl fc, .slice A3 (ml + 1) c3', .slice nA' nl' nc', .slice cA cl cc, .slice tA tl tc, .slice dA dl dc, .slice qA ql qc, .slice A4 (ml + 1) c4']) := hide (by rw [hwF]; have h9 := (Blk.set_ (Blk.set_ (Blk.set_ (Blk.set_ (Blk.set_ (Blk.set_ (Blk.set_ (Blk.set_ (Blk.set_ (Blk.set_ HR15.out 0 (S fn)) 1 (S su)) 2 (.slice fA fl fc)) 3 (.slice A3 (ml + 1) c3')) 4 (.slice nA' nl' nc')) 5 (.slice cA cl cc)) 6 (.slice tA tl tc)) 7 (.slice dA dl dc)) 8 (.slice qA ql qc)) 9 (.slice A4 (ml + 1) c4')); simpa using h9)
          rw [← hwF]
          obtain ⟨h1, h2⟩ := HEND.out _ hkf
          have HF1 := hide h1
          have HF2 := hide h2
          clear h1 h2 hwF hkf e0 e1 e2 e3 e4 e5 e6 e7 e8 e9 d0 d1 d2 d3 d4 d5 d6 d7 d8 d9 df
          have d0 : wF.cell? ⟨r6, 0, none⟩ = some (S fn) := HRF.out.cell 0
          have d1 : wF.cell? ⟨r6, 1, none⟩ = some (S su) := HRF.out.cell 1
          have d2 : wF.cell? ⟨r6, 2, none⟩ = some (.slice fA fl fc) := HRF.out.cell 2
          have d3 : wF.cell? ⟨r6, 3, none⟩ = some (.slice A3 (ml + 1) c3') := HRF.out.cell 3
          have d4 : wF.cell? ⟨r6, 4, none⟩ = some (.slice nA' nl' nc') := HRF.out.cell 4
          have d5 : wF.cell? ⟨r6, 5, none⟩ = some (.slice cA cl cc) := HRF.out.cell 5
          have d6 : wF.cell? ⟨r6, 6, none⟩ = some (.slice tA tl tc) := HRF.out.cell 6
          have d7 : wF.cell? ⟨r6, 7, none⟩ = some (.slice dA dl dc) := HRF.out.cell 7
          have d8 : wF.cell? ⟨r6, 8, none⟩ = some (.slice qA ql qc) := HRF.out.cell 8
          have d9 : wF.cell? ⟨r6, 9, none⟩ = some (.slice A4 (ml + 1) c4') := HRF.out.cell 9
          refine bodyPost_ret (v := .agg #[S fn, S su, .slice fA fl fc, .slice A3 (ml + 1) c3', .slice nA' nl' nc', .slice cA cl cc, .slice tA tl tc, .slice dA dl dc, .slice qA ql qc, .slice A4 (ml + 1) c4']) ?_ rfl ?_
          ·simp [results, Tryd.results10, go_sem, d0, d1, d2, d3, d4, d5, d6, d7, d8, d9]
          ·exact ⟨gW fn su fA fl fc fs A3 ml c3' ms nA' nl' nc' nums cA cl cc cls tA tl tc tys dA dl dc fds qA ql qc mts A4 c4' bs a nm rn ra bC, a, rfl, HF1.out, HF2.out, ha, HA.out, HQ.out, gW_pl⟩
 case first =>
  go_wp2_with fail
  go_loop [7] (fun v7 => ∃ a : Nat, a ≤ ml ∧ v7 = .int .i64 a ∧ Hid (∀ (k : Nat) (hk : k < ms.length), k < a → Op.bytesLess ms[k].n nm = true)) (fun v7 => ml - (intOf v7).toNat)
  case atStart => exact ⟨0, Nat.zero_le _, rfl, hide (fun k _ h => absurd h (Nat.not_lt_zero _))⟩
  case round =>
   obtain ⟨a, ha, rfl, HA⟩ := hrel
   by_cases hlt : a < ml
   case pos =>
    obtain ⟨bb, o, rfl, hbs, hbl2, hcx⟩ := Rd.rec_ (f := Sg.cells) (fun _ => rfl) HMR3.out hmL a hlt
    have hk2 : a < ms.length := by omega
    have m0 : w3.cell? ⟨bb, o + a * 5, none⟩ = some (S ms[a].n) := hcx 0 _ rfl
    have HLE := hide (fun _ : Unit => (rfl : Op.bytesLess ms[a].n nm = Op.bytesLess ms[a].n nm))
    clear HLE hcx
    obtain ⟨mn, hmn⟩ : ∃ y, y = ms[a].n := ⟨_, rfl⟩
    rw [← hmn] at m0
    have HMN := hide (fun _ : Unit => hmn)
    clear hmn
    cases hq : Op.bytesLess mn nm
    case true =>
     go_wp2_with fail
     go_round
     case rel => exact ⟨a + 1, by omega, by go_num, hide (fun k hk h9 => by by_cases e : k = a; subst e; rw [← HMN.out ()]; exact hq; exact HA.out k hk (by omega))⟩
     case measure => simp [intOf]; omega
    case false =>
     have HQ : Hid (∀ (hk : a < ms.length), Op.bytesLess ms[a].n nm = false) := hide (fun hk => by rw [← HMN.out ()]; exact hq)
     go_wp2_with fail
     go_meet
     exact ⟨a, ha, rfl, rfl, HA, HQ⟩
   case neg =>
    have hq : a = ml := by omega
    have HQ : Hid (∀ (hk : a < ms.length), Op.bytesLess ms[a].n nm = false) := hide (fun hk => by omega)
    clear hq
    go_wp2_with fail
    go_meet
    exact ⟨a, ha, rfl, rfl, HA, HQ⟩
end Go.Proofs.YtmbegaobnpoefaaDoor
