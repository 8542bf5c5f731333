/- The digest of a name's face: deps.None, deps.Digest, walked; no statement of the seat is proved here. -/
import Derived.Test.YthehimjdjgmnjaaRepDatD
import Derived.Test.YthehimjdjgmnjaaHierNewD
namespace Go.Proofs.Ythehimjdjgmnjaa
open Go.RowKit Go.Maps
set_option linter.unusedVariables false

/-- The bytes of a name's digest. -/
def digM (T : List Fc) (k : List UInt8) : List UInt8 := match get T k with
  | none => Z32
  | some f => digF f.pl
theorem digM_len (T : List Fc) (k : List UInt8) : (digM T k).length = 32 := by
  unfold digM
  split
  · rfl
  · simp [digF, sumM_len]
/-- Faces that can be digested. -/
def FcsOk (w : World) (T : List Fc) : Prop := ∀ f ∈ T, f.at_ w (fun k => w.heap.size ≤ k) ∧ (fcL f.pl).length ≤ 1099511627000
theorem FcsOk.on {w w' : World} {T : List Fc} (h : FcsOk w T) (hb : Below w.heap.size w w') : FcsOk w' T := fun f hf => ⟨((h f hf).1.below hb).weak fun _ hk => Nat.le_trans hb.size hk, (h f hf).2⟩
theorem zero_dig (w : World) : (zeroValue 35).run Try.prog w = .ok (.agg ZC) w := by kernel_rfl

set_option maxRecDepth 100000 in
set_option maxHeartbeats 4000000 in
theorem none_any (w : World) : Calls Try.prog 31 #[] w (Gives w (.agg ZC)) := by
  obtain ⟨zc, hzc⟩ : ∃ z, z = ZC := ⟨_, rfl⟩
  have hzero : ∀ w, (zeroValue 35).run Try.prog w = .ok (.agg zc) w := fun w => by rw [hzc]; exact zero_dig w
  rw [← hzc]
  have HS : Hid (zc.size = 32) := hide (by rw [hzc]; rfl)
  have HO : Hid (zc.all (·.oneCell') = true) := hide (by rw [hzc, ZC_is]; exact darr_one _)
  clear hzc
  go_enter Try.func31, Try.ntmps31
  go_wp2_with (refine wpList_store_mid rfl 35 (.tmp 0) (.tmp 1) rfl w.heap.size 0 zc rfl rfl ((Blk.new _ _ _).there_ rfl) (by rw [HS.out]; exact dig_info) HO.out ?_)
  obtain ⟨h1, h2⟩ := box_any w 35 zc zc rfl
  refine bodyPost_ret (results_cell1 rfl _ _ ⟨w.heap.size, 0, none⟩ (.agg zc) rfl (h1.loads Try.underlying35 rfl (by rw [HS.out]; exact dig_info))) rfl ⟨rfl, h2⟩

set_option maxRecDepth 100000 in
set_option maxHeartbeats 4000000 in
theorem ddig_any (w0 : World) (g m s n : Nat) (T : List Fc) (k : List UInt8) (w : World) (h : Tab w g m s T n) (hn : n ≤ 1000000) (hk : short k) (hT : FcsOk w0 T) (hB0 : Below w0.heap.size w0 w) (hs0 : w0.heap.size ≤ s) :
    Calls Try.prog 19 #[.pointer (some ⟨g, 0, none⟩), S k] w (fun e w' => e = .returned (.agg (darr (digM T k))) ∧ Tab w' g m s T (n + 1) ∧ Keep (fun b => b = s) w w') := by
  obtain ⟨dg, hdg⟩ : ∃ d, d = digM T k := ⟨_, rfl⟩
  rw [← hdg]
  have HDL : Hid (dg.length = 32) := hide (by rw [hdg, digM_len])
  obtain ⟨zc, hzc⟩ : ∃ z, z = ZC := ⟨_, rfl⟩
  have hzero : ∀ w, (zeroValue 35).run Try.prog w = .ok (.agg zc) w := fun w => by rw [hzc]; exact zero_dig w
  have HZS : Hid (zc.size = 32) := hide (by rw [hzc]; rfl)
  have HLT : Hid (g < w.heap.size ∧ m < w.heap.size ∧ s < w.heap.size) := hide ⟨h.blk.lt, h.faces.lt, h.slt⟩
  have HTA := hide (h.alloc (.cells zc 35))
  have HFA := hide (face_any g m s n T k _ HTA.out hn hk)
  have HB : ∃ B, B = (get T k).isSome := ⟨_, rfl⟩
  obtain ⟨B, hB⟩ := HB
  obtain ⟨G, hG⟩ : ∃ G, G = faceF T k := ⟨_, rfl⟩
  rw [← hB, ← hG] at HFA
  have HNO : Hid (B = false → darr dg = zc) := hide (fun hb => by
    rw [hdg, hzc, ZC_is]
    unfold digM
    cases hg : get T k with
    | none => rfl
    | some f => rw [hg] at hB; rw [hB] at hb; cases hb)
  have HNONE : Hid (∀ w, Calls Try.prog 31 #[] w (Gives w (.agg zc))) := hide (fun w => by rw [hzc]; exact none_any w)
  have HBO := hide (And.intro hB0 hs0)
  have HYES : Hid (B = true → dg = digF G.pl ∧ G.at_ w0 (fun k => w0.heap.size ≤ k) ∧ (fcL G.pl).length ≤ 1099511627000) := hide (fun hb => by
    rw [hB] at hb
    cases hg : get T k with
    | none => rw [hg] at hb; cases hb
    | some f =>
      have e : G = f := by rw [hG, faceF, hg]; rfl
      rw [e, hdg]
      unfold digM
      rw [hg]
      exact ⟨rfl, hT f (get_mem hg).1⟩)
  clear h hT hdg hB hG hzc hB0 hs0
  obtain ⟨dz, hdz⟩ : ∃ dz, dz = darr dg := ⟨_, rfl⟩
  rw [← hdz] at HNO
  have HDZ := hide (fun _ : Unit => hdz)
  have HDS : Hid (dz.size = 32) := hide (by rw [hdz, darr_size, HDL.out])
  have HDO : Hid (dz.all (·.oneCell') = true) := hide (by rw [hdz]; exact darr_one _)
  clear hdz
  obtain ⟨Gn, Gsu, GfA, Gfl, Gfc, Gfs, GmA, Gml, Gmc, Gms⟩ := G
  simp only [Fc.val] at HFA
  go_enter Try.func19, Try.ntmps19
  go_upto_region 2 with (go_at_call 30; refine HFA.out.mono ?_; rintro e w1 ⟨rfl, ht1, hk1⟩; have HT1 := hide ht1; have HK1 := hide hk1; clear ht1 hk1)
  refine name_world ?_
  intro w2 hw2
  have HK2 : Hid (Keep (fun b => b = s) w w2) := hide (by rw [hw2]; exact ((((Keep.refl _ w).alloc _).trans HK1.out)).alloc _)
  have HT2 : Hid (Tab w2 g m s T (n + 1)) := hide (by rw [hw2]; exact HT1.out.alloc _)
  have HQ2 : Hid (Blk w2 w.heap.size 35 zc) := hide (by rw [hw2]; exact ((Blk.new w _ zc).keep HK1.out (by have := HLT.out; omega)).alloc _)
  have HF2 : Hid (Blk w2 w1.heap.size 47 #[S Gn, S Gsu, .slice GfA Gfl Gfc, .slice GmA Gml Gmc]) := hide (by rw [hw2]; exact Blk.new _ _ _)
  have HB2 : Hid (Below w0.heap.size w0 w2) := hide (HBO.out.1.trans (HK2.out.below (B := w0.heap.size) HBO.out.1.size (fun k hk => by rw [hk]; exact HBO.out.2)))
  clear hw2 HT1 HK1 HFA HTA
  obtain ⟨q, hq⟩ : ∃ q, q = w1.heap.size := ⟨_, rfl⟩
  rw [← hq] at HF2 ⊢
  clear hq
  cases B
  case false =>
    have HE : Hid (dz = zc) := hide (HNO.out rfl)
    go_wp2_with (first
      | (go_at_call 31; refine (HNONE.out _).mono ?_; rintro e w3 ⟨rfl, hb3⟩; have HQ3 := hide (HQ2.out.below hb3 HQ2.out.lt); have HB3 := hide hb3; clear hb3)
      | (refine wpList_store_mid rfl 35 (.tmp 4) (.tmp 15) rfl w.heap.size 0 zc rfl rfl (HQ3.out.there_ rfl) (by rw [HZS.out]; exact dig_info) (by rw [← HE.out]; exact HDO.out) ?_))
    have HFF := HQ3.out.cells_all zc.toList (by rw [Array.length_toList])
    rw [Array.toArray_toList] at HFF
    have hk3 : Keep (fun b => b = s) w w3 := HK2.out.trans' (Keep.of_below (F := fun _ => False) HB3.out (fun k h1 h2 => by omega)) (fun _ _ h => h.elim)
    refine bodyPost_ret (results_cell1 rfl _ _ ⟨w.heap.size, 0, none⟩ (.agg zc) rfl (HFF.loads Try.underlying35 rfl (by rw [HZS.out]; exact dig_info))) rfl ⟨by rw [← HDZ.out (), HE.out], ?_, Keep.setCells (fun h => absurd h (by omega)) _ _ hk3⟩
    exact (HT2.out.below HB3.out).keep (F := fun b => b = w.heap.size) (Keep.setCells (F := fun b => b = w.heap.size) (b := w.heap.size) (fun _ => rfl) _ _ (Keep.refl _ _)) (by have := HLT.out; omega) (by have := HLT.out; omega) (by have := HLT.out; omega)
  case true =>
    obtain ⟨hd1, hd2, hd3⟩ := HYES.out rfl
    have HDG := hide (dig_any _ w2 ((hd2.below HB2.out).weak (fun k hk => Nat.le_trans HB2.out.size hk)) hd3)
    rw [← hd1, ← HDZ.out ()] at HDG
    clear hd1 hd2 hd3
    simp only [Fc.val] at HDG
    have q0 := HF2.out.cell 0
    have q1 := HF2.out.cell 1
    have q2 := HF2.out.cell 2
    have q3 := HF2.out.cell 3
    simp at q0 q1 q2 q3
    go_wp2_with (first
      | (go_at_call 13; refine HDG.out.mono ?_; rintro e w3 ⟨rfl, hb3⟩; have HQ3 := hide (HQ2.out.below hb3 HQ2.out.lt); have HB3 := hide hb3; clear hb3)
      | (refine wpList_store_mid rfl 35 (.tmp 4) (.tmp 17) rfl w.heap.size 0 dz rfl rfl (HQ3.out.there_ (by rw [HDS.out, HZS.out])) (by rw [HDS.out]; exact dig_info) HDO.out ?_))
    have HFF := HQ3.out.cells_all dz.toList (by rw [Array.length_toList, HDS.out, HZS.out])
    rw [Array.toArray_toList] at HFF
    have hk3 : Keep (fun b => b = s) w w3 := HK2.out.trans' (Keep.of_below (F := fun _ => False) HB3.out (fun k h1 h2 => by omega)) (fun _ _ h => h.elim)
    refine bodyPost_ret (results_cell1 rfl _ _ ⟨w.heap.size, 0, none⟩ (.agg dz) rfl (HFF.loads Try.underlying35 rfl (by rw [HDS.out]; exact dig_info))) rfl ⟨by rw [HDZ.out ()], ?_, Keep.setCells (fun h => absurd h (by omega)) _ _ hk3⟩
    exact (HT2.out.below HB3.out).keep (F := fun b => b = w.heap.size) (Keep.setCells (F := fun b => b = w.heap.size) (b := w.heap.size) (fun _ => rfl) _ _ (Keep.refl _ _)) (by have := HLT.out; omega) (by have := HLT.out; omega) (by have := HLT.out; omega)
end Go.Proofs.Ythehimjdjgmnjaa
