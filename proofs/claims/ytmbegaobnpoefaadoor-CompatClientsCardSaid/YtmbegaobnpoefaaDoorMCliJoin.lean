/- The type that two have in common: verify's join, walked; no statement of the seat is proved here. (Written by gen/vjoin.py.) -/
import Derived.Test.YtmbegaobnpoefaaDoorMHierKnownH
import Derived.Test.YtmbegaobnpoefaaDoorMPassesH
namespace Go.Proofs.YtmbegaobnpoefaaDoor
open Go.RowKit
set_option maxRecDepth 100000 in
theorem bool_any (w : World) : Calls Tryd.prog 58 #[] w (Gives w (.agg #[S [98, 111, 111, 108], .bool false])) := by
 have hb : ∀ o, Below w.heap.size w (w.alloc o) := fun o => (Below.refl _ _).alloc (Nat.le_refl _) o
 go_enter Tryd.func58, Tryd.ntmps58
 go_wp2_with fail
 refine bodyPost_ret (v := .agg #[S [98, 111, 111, 108], .bool false]) ?_ rfl ?_
 ·simp [results, Tryd.results58, go_sem]
 ·exact ⟨rfl, hb _⟩
def Img (w : World) (gi g : Nat) : Prop := ∃ F N : Value, Blk w gi 39 #[.pointer (some ⟨g, 0, none⟩), F, N]
theorem Img.keep {w w' : World} {gi g m s n : Nat} {T : List Fc} (h : Img w gi g) (ht : Tab w g m s T n) (hk : Keep (fun b => b = s) w w') : Img w' gi g := by
 obtain ⟨F, N, hb⟩ := h
 obtain ⟨D, hD⟩ := ht.seen
 exact ⟨F, N, hb.keep hk (blk_map_ne hb hD)⟩
theorem Img.below {w w' : World} {gi g : Nat} (h : Img w gi g) (hk : Below w.heap.size w w') : Img w' gi g := by
 obtain ⟨F, N, hb⟩ := h
 exact ⟨F, N, hb.below hk hb.lt⟩
theorem Img.cell {w : World} {gi g : Nat} (h : Img w gi g) : w.cell? ⟨gi, 0, none⟩ = some (.pointer (some ⟨g, 0, none⟩)) := by
 obtain ⟨F, N, hb⟩ := h
 exact hb.cell 0
theorem kp_set {w w2 : World} {s r : Nat} {x y : Value} (hr : w.heap.size ≤ r) (h : Keep (fun b => b = s) w w2) (i j : Nat) : Keep (fun b => b = s) w ((w2.setCell ⟨r, i, none⟩ x).setCell ⟨r, j, none⟩ y) :=
 (h.setCell (p := ⟨r, i, none⟩) (fun hl => absurd hl (by simp; omega)) x).setCell (p := ⟨r, j, none⟩) (fun hl => absurd hl (by simp; omega)) y
theorem tab_set {w w2 : World} {g m s r n : Nat} {T : List Fc} {x y : Value} (hl : g < w.heap.size ∧ m < w.heap.size ∧ s < w.heap.size) (hr : w.heap.size ≤ r) (h : Tab w2 g m s T n) (i j : Nat) : Tab ((w2.setCell ⟨r, i, none⟩ x).setCell ⟨r, j, none⟩ y) g m s T n :=
 h.keep (F := fun k => k = r) (((Keep.refl (fun k => k = r) w2).setCell (p := ⟨r, i, none⟩) (fun _ => rfl) x).setCell (p := ⟨r, j, none⟩) (fun _ => rfl) y) (by show ¬ g = r; omega) (by show ¬ m = r; omega) (by show ¬ s = r; omega)
set_option maxRecDepth 100000 in
set_option maxHeartbeats 4000000 in
set_option linter.unusedVariables false in
theorem join_same (gi g m s n : Nat) (T : List Fc) (tn : List UInt8) (ta : Bool) (w : World) (hi : Img w gi g) (h : Tab w g m s T n) (hn : n ≤ 8000000000000000) (hT : T.length ≤ 8) (hs : ∀ f ∈ T, short f.su) (h1 : short tn) :
  Calls Tryd.prog 56 #[.pointer (some ⟨gi, 0, none⟩), .agg #[S tn, .bool ta], .agg #[S tn, .bool ta]] w
   (fun e w' => e = .returned (.tuple #[(joinM T ⟨tn, ta⟩ ⟨tn, ta⟩).1.val, .bool (joinM T ⟨tn, ta⟩ ⟨tn, ta⟩).2]) ∧ Tab w' g m s T (n + 200) ∧ Keep (fun b => b = s) w w') := by
 have HJ : Hid (joinM T ⟨tn, ta⟩ ⟨tn, ta⟩ = (⟨tn, ta⟩, true)) := hide (by unfold joinM; rw [if_pos rfl])
 have HT1 : ∀ o1 o2 o3, Hid (Tab (((w.alloc o1).alloc o2).alloc o3) g m s T n) := fun o1 o2 o3 => hide (((h.alloc o1).alloc o2).alloc o3)
 have HK1 : ∀ o1 o2 o3, Hid (Keep (fun b => b = s) w (((w.alloc o1).alloc o2).alloc o3)) := fun o1 o2 o3 => hide ((((Keep.refl _ w).alloc o1).alloc o2).alloc o3)
 clear h hi hs h1
 go_enter Tryd.func56, Tryd.ntmps56
 go_wp2_with fail
 refine bodyPost_ret (v := .tuple #[.agg #[S tn, .bool ta], .bool true]) ?_ rfl ?_
 ·simp [results, Tryd.results56, go_sem]
 ·exact ⟨by rw [HJ.out], (HT1 _ _ _).out.mono (by omega), (HK1 _ _ _).out⟩
theorem obj_cls {t : Ty} (h : t.obj = false) : t.cls = false := by
 unfold Ty.obj at h
 simp only [Bool.or_eq_false_iff] at h
 exact h.1.2
theorem join_nul_l {T : List Fc} {un : List UInt8} {ua O : Bool} (hne : ua = true ∨ ¬ un = [110, 117, 108, 108]) (hO : O = Ty.obj ⟨un, ua⟩) : joinM T ⟨[110, 117, 108, 108], false⟩ ⟨un, ua⟩ = if O = true then (⟨un, ua⟩, true) else (kZ, false) := by
 have h1 : ¬ (⟨[110, 117, 108, 108], false⟩ : Ty) = ⟨un, ua⟩ := by
  intro e
  injection e with e1 e2
  rcases hne with h | h
  ·rw [h] at e2; cases e2
  ·exact h e1.symm
 unfold joinM
 rw [if_neg h1]
 cases O with
 | true => rw [if_pos ⟨rfl, hO.symm⟩, if_pos rfl]
 | false =>
  rw [if_neg (fun h => by rw [h.2] at hO; cases hO), if_neg (fun h => h1 h.1.symm), if_neg (fun h => absurd h.1 (by decide)), if_neg (by decide)]
theorem join_nul_r {T : List Fc} {tn : List UInt8} {ta O : Bool} (hne : ta = true ∨ ¬ tn = [110, 117, 108, 108]) (hO : O = Ty.obj ⟨tn, ta⟩) : joinM T ⟨tn, ta⟩ ⟨[110, 117, 108, 108], false⟩ = if O = true then (⟨tn, ta⟩, true) else (kZ, false) := by
 have h1 : ¬ (⟨tn, ta⟩ : Ty) = ⟨[110, 117, 108, 108], false⟩ := by
  intro e
  injection e with e1 e2
  rcases hne with h | h
  ·rw [h] at e2; cases e2
  ·exact h e1
 unfold joinM
 rw [if_neg h1, if_neg (fun h => h1 h.1)]
 cases O with
 | true => rw [if_pos ⟨rfl, hO.symm⟩, if_pos rfl]
 | false => rw [if_neg (fun h => by rw [h.2] at hO; cases hO), if_neg (fun h => by have := obj_cls hO.symm; rw [this] at h; exact absurd h.1 (by decide)), if_neg (by decide)]
set_option maxRecDepth 100000 in
set_option maxHeartbeats 4000000 in
set_option linter.unusedVariables false in
theorem join_nl (gi g m s n : Nat) (T : List Fc) (un : List UInt8) (ua : Bool) (w : World) (hi : Img w gi g) (h : Tab w g m s T n) (hn : n ≤ 8000000000000000) (hT : T.length ≤ 8) (hs : ∀ f ∈ T, short f.su) (h1 : short [110, 117, 108, 108]) (h2 : short un) (hne : ua = true ∨ ¬ un = [110, 117, 108, 108]) :
  Calls Tryd.prog 56 #[.pointer (some ⟨gi, 0, none⟩), .agg #[S [110, 117, 108, 108], .bool false], .agg #[S un, .bool ua]] w
   (fun e w' => e = .returned (.tuple #[(joinM T ⟨[110, 117, 108, 108], false⟩ ⟨un, ua⟩).1.val, .bool (joinM T ⟨[110, 117, 108, 108], false⟩ ⟨un, ua⟩).2]) ∧ Tab w' g m s T (n + 200) ∧ Keep (fun b => b = s) w w') := by
 have hgl : g < w.heap.size ∧ m < w.heap.size ∧ s < w.heap.size := ⟨h.blk.lt, h.faces.lt, h.slt⟩
 obtain ⟨w2, hw2⟩ : ∃ w2, w2 = ((w.alloc (.cells #[S [110, 117, 108, 108], .bool false] 24)).alloc (.cells #[S un, .bool ua] 24)).alloc (.cells #[.string { data := #[] }, .bool false] 24) := ⟨_, rfl⟩
 have hbb : Below w.heap.size w w2 := by rw [hw2]; exact (((Below.refl _ w).alloc (Nat.le_refl _) _).alloc (by simp) _).alloc (by simp; omega) _
 have hb1 : Blk w2 w.heap.size 24 #[S [110, 117, 108, 108], .bool false] := by rw [hw2]; exact ((Blk.new _ _ _).alloc _).alloc _
 have hb2 : Blk w2 (w.heap.size + 1) 24 #[S un, .bool ua] := by
  rw [hw2]
  have := (Blk.new (w.alloc (.cells #[S [110, 117, 108, 108], .bool false] 24)) 24 #[S un, .bool ua]).alloc (.cells #[.string { data := #[] }, .bool false] 24)
  rwa [World.size_alloc] at this
 have hb3 : Blk w2 (w.heap.size + 1 + 1) 24 #[.string { data := #[] }, .bool false] := by
  rw [hw2]
  have := Blk.new ((w.alloc (.cells #[S [110, 117, 108, 108], .bool false] 24)).alloc (.cells #[S un, .bool ua] 24)) 24 #[.string { data := #[] }, .bool false]
  rwa [World.size_alloc, World.size_alloc] at this
 have HI := hide (hi.below hbb)
 have HT := hide (h.below hbb)
 have HK := hide (keep_s2 (s := s) hbb)
 have HQ : Hid (∀ w', Keep (fun b => b = s) w2 w' → (w'.cell? ⟨w.heap.size, 0, none⟩ = some (S [110, 117, 108, 108]) ∧ w'.cell? ⟨w.heap.size, 1, none⟩ = some (.bool false) ∧ w'.cell? ⟨w.heap.size + 1, 0, none⟩ = some (S un) ∧ w'.cell? ⟨w.heap.size + 1, 1, none⟩ = some (.bool ua)) ∧ Blk w' (w.heap.size + 1 + 1) 24 #[.string { data := #[] }, .bool false]) := hide (fun w' hk => by
  have e1 := hb1.keep hk (by show ¬ w.heap.size = s; omega)
  have e2 := hb2.keep hk (by show ¬ w.heap.size + 1 = s; omega)
  exact ⟨⟨e1.cell 0, e1.cell 1, e2.cell 0, e2.cell 1⟩, hb3.keep hk (by show ¬ w.heap.size + 1 + 1 = s; omega)⟩)
 have HNo : Hid (∀ w, Calls Tryd.prog 60 #[] w (Gives w (.agg #[S [110, 117, 108, 108], .bool false]))) := hide nothing_any
 have HCo := hide (fun w nn (h : Tab w g m s T nn) (hx : nn ≤ 8000000000000000) => common_any g m s nn T [110, 117, 108, 108] un w h hx hT hs h1 h2)
 have HOa := hide (object_any [110, 117, 108, 108] false)
 have HOb := hide (object_any un ua)
 have HCa := hide (class_any [110, 117, 108, 108] false)
 have HCb := hide (class_any un ua)
 clear hbb hb1 hb2 hb3 hi h hs h1 h2
 obtain ⟨O, hO⟩ : ∃ O, O = Ty.obj ⟨un, ua⟩ := ⟨_, rfl⟩
 rw [← hO] at HOb
 have HJ : Hid (joinM T ⟨[110, 117, 108, 108], false⟩ ⟨un, ua⟩ = if O = true then (⟨un, ua⟩, true) else (kZ, false)) := hide (join_nul_l hne hO)
 have HCN : Hid (∀ ww, Calls Tryd.prog 23 #[.agg #[S [110, 117, 108, 108], .bool false]] ww (Gives ww (.bool false))) := hide (class_any [110, 117, 108, 108] false)
 clear hO
 have HK0 : Hid (Keep (fun b => b = s) w2 w2) := hide (Keep.refl _ _)
 have HA0 : Hid (∀ t : After w2, (t.val.cell? ⟨w.heap.size, 0, none⟩ = some (S [110, 117, 108, 108]) ∧ t.val.cell? ⟨w.heap.size, 1, none⟩ = some (.bool false) ∧ t.val.cell? ⟨w.heap.size + 1, 0, none⟩ = some (S un) ∧ t.val.cell? ⟨w.heap.size + 1, 1, none⟩ = some (.bool ua))) := hide (fun t => (HQ.out _ (HK0.out.tr (keep_s2 (s := s) t.prop))).1)
 have p0 := fun t => (HA0.out t).1
 have p1 := fun t => (HA0.out t).2.1
 have p2 := fun t => (HA0.out t).2.2.1
 have p3 := fun t => (HA0.out t).2.2.2
 rw [hw2] at p0 p1 p2 p3
 rw [← hw2] at p0 p1 p2 p3
 clear hn
 go_enter Tryd.func56, Tryd.ntmps56
 rcases hne with rfl | hne
 ·by_cases e : un = [110, 117, 108, 108]
  ·subst e
   go_wp2_with fail
   rw [← hw2]
   refine region_after (by kernel_rfl) (by kernel_rfl) ?_
   repeat (go_big_quiet_step (first | (go_at_call 60; refine call_after (HNo.out _)) | (go_at_call 63; refine call_after (HOb.out _))))
   refine wpQuiet_nil ?_
   rintro _ ⟨t, rfl⟩
   have HT1 := hide (HT.out.below t.prop)
   have HK1 := hide (HK0.out.tr (keep_s2 (s := s) t.prop))
   clear p0 p1 p2 p3
   cases O
   case true =>
    obtain ⟨⟨p0, p1, p2, p3⟩, hr3⟩ := HQ.out _ HK1.out
    have f0 := hr3.frozen
    have r0 := hr3.cell 0
    have r1 := hr3.cell 1
    clear hr3
    go_wp2_with fail
    refine bodyPost_ret (v := .tuple #[.agg #[S [110, 117, 108, 108], .bool true], .bool true]) ?_ rfl ?_
    ·simp [results, Tryd.results56, go_sem, r0, r1]
    ·exact ⟨by rw [HJ.out] <;> rfl, tab_set hgl (by omega) (HT1.out.mono (by omega)) _ _, kp_set (by omega) (HK.out.tr HK1.out) _ _⟩
   case false =>
    have HA1 : Hid (∀ t : After t.val, (t.val.cell? ⟨w.heap.size, 0, none⟩ = some (S [110, 117, 108, 108]) ∧ t.val.cell? ⟨w.heap.size, 1, none⟩ = some (.bool false) ∧ t.val.cell? ⟨w.heap.size + 1, 0, none⟩ = some (S [110, 117, 108, 108]) ∧ t.val.cell? ⟨w.heap.size + 1, 1, none⟩ = some (.bool true))) := hide (fun t => (HQ.out _ (HK1.out.tr (keep_s2 (s := s) t.prop))).1)
    have p0 := fun t => (HA1.out t).1
    have p1 := fun t => (HA1.out t).2.1
    have p2 := fun t => (HA1.out t).2.2.1
    have p3 := fun t => (HA1.out t).2.2.2
    go_wp2_with fail
    refine region_after (by kernel_rfl) (by kernel_rfl) ?_
    repeat (go_big_quiet_step (first | (go_at_call 60; refine call_after (HNo.out _)) | (go_at_call 63; refine call_after (HOb.out _))))
    refine wpQuiet_nil ?_
    rintro _ ⟨t2, rfl⟩
    have HT2 := hide (HT1.out.below t2.prop)
    have HK2 := hide (HK1.out.tr (keep_s2 (s := s) t2.prop))
    clear p0 p1 p2 p3
    obtain ⟨⟨p0, p1, p2, p3⟩, hr3⟩ := HQ.out _ HK2.out
    have f0 := hr3.frozen
    have r0 := hr3.cell 0
    have r1 := hr3.cell 1
    clear hr3
    go_wp2_with fail
    refine (HCN.out _).mono ?_
    rintro e w5 ⟨rfl, hb5⟩
    have HT5 := hide (HT2.out.below hb5)
    have HK5 := hide (HK2.out.tr (keep_s2 (s := s) hb5))
    clear p0 p1 p2 p3 f0 r0 r1
    obtain ⟨⟨p0, p1, p2, p3⟩, hr3⟩ := HQ.out _ HK5.out
    have f0 := hr3.frozen
    have r0 := hr3.cell 0
    have r1 := hr3.cell 1
    clear hr3
    go_wp2_with fail
    refine bodyPost_ret (v := .tuple #[.agg #[S [], .bool false], .bool false]) ?_ rfl ?_
    ·simp [results, Tryd.results56, go_sem, r0, r1]
    ·exact ⟨by rw [HJ.out] <;> rfl, tab_set hgl (by omega) (HT5.out.mono (by omega)) _ _, kp_set (by omega) (HK.out.tr HK5.out) _ _⟩
  ·have e' : ¬ ([110, 117, 108, 108] : List UInt8) = un := fun h => e h.symm
   go_wp2_with fail
   rw [← hw2]
   refine region_after (by kernel_rfl) (by kernel_rfl) ?_
   repeat (go_big_quiet_step (first | (go_at_call 60; refine call_after (HNo.out _)) | (go_at_call 63; refine call_after (HOb.out _))))
   refine wpQuiet_nil ?_
   rintro _ ⟨t, rfl⟩
   have HT1 := hide (HT.out.below t.prop)
   have HK1 := hide (HK0.out.tr (keep_s2 (s := s) t.prop))
   clear p0 p1 p2 p3
   cases O
   case true =>
    obtain ⟨⟨p0, p1, p2, p3⟩, hr3⟩ := HQ.out _ HK1.out
    have f0 := hr3.frozen
    have r0 := hr3.cell 0
    have r1 := hr3.cell 1
    clear hr3
    go_wp2_with fail
    refine bodyPost_ret (v := .tuple #[.agg #[S un, .bool true], .bool true]) ?_ rfl ?_
    ·simp [results, Tryd.results56, go_sem, r0, r1]
    ·exact ⟨by rw [HJ.out] <;> rfl, tab_set hgl (by omega) (HT1.out.mono (by omega)) _ _, kp_set (by omega) (HK.out.tr HK1.out) _ _⟩
   case false =>
    have HA1 : Hid (∀ t : After t.val, (t.val.cell? ⟨w.heap.size, 0, none⟩ = some (S [110, 117, 108, 108]) ∧ t.val.cell? ⟨w.heap.size, 1, none⟩ = some (.bool false) ∧ t.val.cell? ⟨w.heap.size + 1, 0, none⟩ = some (S un) ∧ t.val.cell? ⟨w.heap.size + 1, 1, none⟩ = some (.bool true))) := hide (fun t => (HQ.out _ (HK1.out.tr (keep_s2 (s := s) t.prop))).1)
    have p0 := fun t => (HA1.out t).1
    have p1 := fun t => (HA1.out t).2.1
    have p2 := fun t => (HA1.out t).2.2.1
    have p3 := fun t => (HA1.out t).2.2.2
    go_wp2_with fail
    refine region_after (by kernel_rfl) (by kernel_rfl) ?_
    repeat (go_big_quiet_step (first | (go_at_call 60; refine call_after (HNo.out _)) | (go_at_call 63; refine call_after (HOb.out _))))
    refine wpQuiet_nil ?_
    rintro _ ⟨t2, rfl⟩
    have HT2 := hide (HT1.out.below t2.prop)
    have HK2 := hide (HK1.out.tr (keep_s2 (s := s) t2.prop))
    clear p0 p1 p2 p3
    obtain ⟨⟨p0, p1, p2, p3⟩, hr3⟩ := HQ.out _ HK2.out
    have f0 := hr3.frozen
    have r0 := hr3.cell 0
    have r1 := hr3.cell 1
    clear hr3
    go_wp2_with fail
    refine (HCN.out _).mono ?_
    rintro e w5 ⟨rfl, hb5⟩
    have HT5 := hide (HT2.out.below hb5)
    have HK5 := hide (HK2.out.tr (keep_s2 (s := s) hb5))
    clear p0 p1 p2 p3 f0 r0 r1
    obtain ⟨⟨p0, p1, p2, p3⟩, hr3⟩ := HQ.out _ HK5.out
    have f0 := hr3.frozen
    have r0 := hr3.cell 0
    have r1 := hr3.cell 1
    clear hr3
    go_wp2_with fail
    refine bodyPost_ret (v := .tuple #[.agg #[S [], .bool false], .bool false]) ?_ rfl ?_
    ·simp [results, Tryd.results56, go_sem, r0, r1]
    ·exact ⟨by rw [HJ.out] <;> rfl, tab_set hgl (by omega) (HT5.out.mono (by omega)) _ _, kp_set (by omega) (HK.out.tr HK5.out) _ _⟩
 ·have e' : ¬ ([110, 117, 108, 108] : List UInt8) = un := fun h => hne h.symm
  go_wp2_with fail
  rw [← hw2]
  refine region_after (by kernel_rfl) (by kernel_rfl) ?_
  repeat (go_big_quiet_step (first | (go_at_call 60; refine call_after (HNo.out _)) | (go_at_call 63; refine call_after (HOb.out _))))
  refine wpQuiet_nil ?_
  rintro _ ⟨t, rfl⟩
  have HT1 := hide (HT.out.below t.prop)
  have HK1 := hide (HK0.out.tr (keep_s2 (s := s) t.prop))
  clear p0 p1 p2 p3
  cases O
  case true =>
   obtain ⟨⟨p0, p1, p2, p3⟩, hr3⟩ := HQ.out _ HK1.out
   have f0 := hr3.frozen
   have r0 := hr3.cell 0
   have r1 := hr3.cell 1
   clear hr3
   go_wp2_with fail
   refine bodyPost_ret (v := .tuple #[.agg #[S un, .bool ua], .bool true]) ?_ rfl ?_
   ·simp [results, Tryd.results56, go_sem, r0, r1]
   ·exact ⟨by rw [HJ.out] <;> rfl, tab_set hgl (by omega) (HT1.out.mono (by omega)) _ _, kp_set (by omega) (HK.out.tr HK1.out) _ _⟩
  case false =>
   have HA1 : Hid (∀ t : After t.val, (t.val.cell? ⟨w.heap.size, 0, none⟩ = some (S [110, 117, 108, 108]) ∧ t.val.cell? ⟨w.heap.size, 1, none⟩ = some (.bool false) ∧ t.val.cell? ⟨w.heap.size + 1, 0, none⟩ = some (S un) ∧ t.val.cell? ⟨w.heap.size + 1, 1, none⟩ = some (.bool ua))) := hide (fun t => (HQ.out _ (HK1.out.tr (keep_s2 (s := s) t.prop))).1)
   have p0 := fun t => (HA1.out t).1
   have p1 := fun t => (HA1.out t).2.1
   have p2 := fun t => (HA1.out t).2.2.1
   have p3 := fun t => (HA1.out t).2.2.2
   go_wp2_with fail
   refine region_after (by kernel_rfl) (by kernel_rfl) ?_
   repeat (go_big_quiet_step (first | (go_at_call 60; refine call_after (HNo.out _)) | (go_at_call 63; refine call_after (HOb.out _))))
   refine wpQuiet_nil ?_
   rintro _ ⟨t2, rfl⟩
   have HT2 := hide (HT1.out.below t2.prop)
   have HK2 := hide (HK1.out.tr (keep_s2 (s := s) t2.prop))
   clear p0 p1 p2 p3
   obtain ⟨⟨p0, p1, p2, p3⟩, hr3⟩ := HQ.out _ HK2.out
   have f0 := hr3.frozen
   have r0 := hr3.cell 0
   have r1 := hr3.cell 1
   clear hr3
   go_wp2_with fail
   refine (HCN.out _).mono ?_
   rintro e w5 ⟨rfl, hb5⟩
   have HT5 := hide (HT2.out.below hb5)
   have HK5 := hide (HK2.out.tr (keep_s2 (s := s) hb5))
   clear p0 p1 p2 p3 f0 r0 r1
   obtain ⟨⟨p0, p1, p2, p3⟩, hr3⟩ := HQ.out _ HK5.out
   have f0 := hr3.frozen
   have r0 := hr3.cell 0
   have r1 := hr3.cell 1
   clear hr3
   go_wp2_with fail
   refine bodyPost_ret (v := .tuple #[.agg #[S [], .bool false], .bool false]) ?_ rfl ?_
   ·simp [results, Tryd.results56, go_sem, r0, r1]
   ·exact ⟨by rw [HJ.out] <;> rfl, tab_set hgl (by omega) (HT5.out.mono (by omega)) _ _, kp_set (by omega) (HK.out.tr HK5.out) _ _⟩
set_option maxRecDepth 100000 in
set_option maxHeartbeats 4000000 in
set_option linter.unusedVariables false in
theorem join_nr (gi g m s n : Nat) (T : List Fc) (tn : List UInt8) (ta : Bool) (w : World) (hi : Img w gi g) (h : Tab w g m s T n) (hn : n ≤ 8000000000000000) (hT : T.length ≤ 8) (hs : ∀ f ∈ T, short f.su) (h1 : short tn) (h2 : short [110, 117, 108, 108]) (hne : ta = true ∨ ¬ tn = [110, 117, 108, 108]) :
  Calls Tryd.prog 56 #[.pointer (some ⟨gi, 0, none⟩), .agg #[S tn, .bool ta], .agg #[S [110, 117, 108, 108], .bool false]] w
   (fun e w' => e = .returned (.tuple #[(joinM T ⟨tn, ta⟩ ⟨[110, 117, 108, 108], false⟩).1.val, .bool (joinM T ⟨tn, ta⟩ ⟨[110, 117, 108, 108], false⟩).2]) ∧ Tab w' g m s T (n + 200) ∧ Keep (fun b => b = s) w w') := by
 have hgl : g < w.heap.size ∧ m < w.heap.size ∧ s < w.heap.size := ⟨h.blk.lt, h.faces.lt, h.slt⟩
 obtain ⟨w2, hw2⟩ : ∃ w2, w2 = ((w.alloc (.cells #[S tn, .bool ta] 24)).alloc (.cells #[S [110, 117, 108, 108], .bool false] 24)).alloc (.cells #[.string { data := #[] }, .bool false] 24) := ⟨_, rfl⟩
 have hbb : Below w.heap.size w w2 := by rw [hw2]; exact (((Below.refl _ w).alloc (Nat.le_refl _) _).alloc (by simp) _).alloc (by simp; omega) _
 have hb1 : Blk w2 w.heap.size 24 #[S tn, .bool ta] := by rw [hw2]; exact ((Blk.new _ _ _).alloc _).alloc _
 have hb2 : Blk w2 (w.heap.size + 1) 24 #[S [110, 117, 108, 108], .bool false] := by
  rw [hw2]
  have := (Blk.new (w.alloc (.cells #[S tn, .bool ta] 24)) 24 #[S [110, 117, 108, 108], .bool false]).alloc (.cells #[.string { data := #[] }, .bool false] 24)
  rwa [World.size_alloc] at this
 have hb3 : Blk w2 (w.heap.size + 1 + 1) 24 #[.string { data := #[] }, .bool false] := by
  rw [hw2]
  have := Blk.new ((w.alloc (.cells #[S tn, .bool ta] 24)).alloc (.cells #[S [110, 117, 108, 108], .bool false] 24)) 24 #[.string { data := #[] }, .bool false]
  rwa [World.size_alloc, World.size_alloc] at this
 have HI := hide (hi.below hbb)
 have HT := hide (h.below hbb)
 have HK := hide (keep_s2 (s := s) hbb)
 have HQ : Hid (∀ w', Keep (fun b => b = s) w2 w' → (w'.cell? ⟨w.heap.size, 0, none⟩ = some (S tn) ∧ w'.cell? ⟨w.heap.size, 1, none⟩ = some (.bool ta) ∧ w'.cell? ⟨w.heap.size + 1, 0, none⟩ = some (S [110, 117, 108, 108]) ∧ w'.cell? ⟨w.heap.size + 1, 1, none⟩ = some (.bool false)) ∧ Blk w' (w.heap.size + 1 + 1) 24 #[.string { data := #[] }, .bool false]) := hide (fun w' hk => by
  have e1 := hb1.keep hk (by show ¬ w.heap.size = s; omega)
  have e2 := hb2.keep hk (by show ¬ w.heap.size + 1 = s; omega)
  exact ⟨⟨e1.cell 0, e1.cell 1, e2.cell 0, e2.cell 1⟩, hb3.keep hk (by show ¬ w.heap.size + 1 + 1 = s; omega)⟩)
 have HNo : Hid (∀ w, Calls Tryd.prog 60 #[] w (Gives w (.agg #[S [110, 117, 108, 108], .bool false]))) := hide nothing_any
 have HCo := hide (fun w nn (h : Tab w g m s T nn) (hx : nn ≤ 8000000000000000) => common_any g m s nn T tn [110, 117, 108, 108] w h hx hT hs h1 h2)
 have HOa := hide (object_any tn ta)
 have HOb := hide (object_any [110, 117, 108, 108] false)
 have HCa := hide (class_any tn ta)
 have HCb := hide (class_any [110, 117, 108, 108] false)
 clear hbb hb1 hb2 hb3 hi h hs h1 h2
 obtain ⟨O, hO⟩ : ∃ O, O = Ty.obj ⟨tn, ta⟩ := ⟨_, rfl⟩
 rw [← hO] at HOa
 have HJ : Hid (joinM T ⟨tn, ta⟩ ⟨[110, 117, 108, 108], false⟩ = if O = true then (⟨tn, ta⟩, true) else (kZ, false)) := hide (join_nul_r hne hO)
 have HCN : Hid (O = false → Ty.cls ⟨tn, ta⟩ = false) := hide (fun e => obj_cls (hO.symm.trans e))
 clear hO
 have HK0 : Hid (Keep (fun b => b = s) w2 w2) := hide (Keep.refl _ _)
 have HA0 : Hid (∀ t : After w2, (t.val.cell? ⟨w.heap.size, 0, none⟩ = some (S tn) ∧ t.val.cell? ⟨w.heap.size, 1, none⟩ = some (.bool ta) ∧ t.val.cell? ⟨w.heap.size + 1, 0, none⟩ = some (S [110, 117, 108, 108]) ∧ t.val.cell? ⟨w.heap.size + 1, 1, none⟩ = some (.bool false))) := hide (fun t => (HQ.out _ (HK0.out.tr (keep_s2 (s := s) t.prop))).1)
 have p0 := fun t => (HA0.out t).1
 have p1 := fun t => (HA0.out t).2.1
 have p2 := fun t => (HA0.out t).2.2.1
 have p3 := fun t => (HA0.out t).2.2.2
 rw [hw2] at p0 p1 p2 p3
 rw [← hw2] at p0 p1 p2 p3
 clear hn
 go_enter Tryd.func56, Tryd.ntmps56
 rcases hne with rfl | hne
 ·by_cases e : tn = [110, 117, 108, 108]
  ·subst e
   go_wp2_with fail
   rw [← hw2]
   refine region_after (by kernel_rfl) (by kernel_rfl) ?_
   repeat (go_big_quiet_step (first | (go_at_call 60; refine call_after (HNo.out _)) | (go_at_call 63; refine call_after (HOa.out _))))
   refine wpQuiet_nil ?_
   rintro _ ⟨t, rfl⟩
   have HT1 := hide (HT.out.below t.prop)
   have HK1 := hide (HK0.out.tr (keep_s2 (s := s) t.prop))
   clear p0 p1 p2 p3
   have HA1 : Hid (∀ t : After t.val, (t.val.cell? ⟨w.heap.size, 0, none⟩ = some (S [110, 117, 108, 108]) ∧ t.val.cell? ⟨w.heap.size, 1, none⟩ = some (.bool true) ∧ t.val.cell? ⟨w.heap.size + 1, 0, none⟩ = some (S [110, 117, 108, 108]) ∧ t.val.cell? ⟨w.heap.size + 1, 1, none⟩ = some (.bool false))) := hide (fun t => (HQ.out _ (HK1.out.tr (keep_s2 (s := s) t.prop))).1)
   have p0 := fun t => (HA1.out t).1
   have p1 := fun t => (HA1.out t).2.1
   have p2 := fun t => (HA1.out t).2.2.1
   have p3 := fun t => (HA1.out t).2.2.2
   go_wp2_with fail
   refine region_after (by kernel_rfl) (by kernel_rfl) ?_
   repeat (go_big_quiet_step (first | (go_at_call 60; refine call_after (HNo.out _)) | (go_at_call 63; refine call_after (HOa.out _))))
   refine wpQuiet_nil ?_
   rintro _ ⟨t2, rfl⟩
   have HT2 := hide (HT1.out.below t2.prop)
   have HK2 := hide (HK1.out.tr (keep_s2 (s := s) t2.prop))
   clear p0 p1 p2 p3
   cases O
   case true =>
    obtain ⟨⟨p0, p1, p2, p3⟩, hr3⟩ := HQ.out _ HK2.out
    have f0 := hr3.frozen
    have r0 := hr3.cell 0
    have r1 := hr3.cell 1
    clear hr3
    go_wp2_with fail
    refine bodyPost_ret (v := .tuple #[.agg #[S [110, 117, 108, 108], .bool true], .bool true]) ?_ rfl ?_
    ·simp [results, Tryd.results56, go_sem, r0, r1]
    ·exact ⟨by rw [HJ.out] <;> rfl, tab_set hgl (by omega) (HT2.out.mono (by omega)) _ _, kp_set (by omega) (HK.out.tr HK2.out) _ _⟩
   case false =>
    have HCA : Hid (∀ ww, Calls Tryd.prog 23 #[.agg #[S [110, 117, 108, 108], .bool true]] ww (Gives ww (.bool false))) := hide (fun ww => by have := HCa.out ww; rwa [HCN.out rfl] at this)
    obtain ⟨⟨p0, p1, p2, p3⟩, hr3⟩ := HQ.out _ HK2.out
    have f0 := hr3.frozen
    have r0 := hr3.cell 0
    have r1 := hr3.cell 1
    clear hr3
    go_wp2_with fail
    refine (HCA.out _).mono ?_
    rintro e w5 ⟨rfl, hb5⟩
    have HT5 := hide (HT2.out.below hb5)
    have HK5 := hide (HK2.out.tr (keep_s2 (s := s) hb5))
    clear p0 p1 p2 p3 f0 r0 r1
    obtain ⟨⟨p0, p1, p2, p3⟩, hr3⟩ := HQ.out _ HK5.out
    have f0 := hr3.frozen
    have r0 := hr3.cell 0
    have r1 := hr3.cell 1
    clear hr3
    go_wp2_with fail
    refine bodyPost_ret (v := .tuple #[.agg #[S [], .bool false], .bool false]) ?_ rfl ?_
    ·simp [results, Tryd.results56, go_sem, r0, r1]
    ·exact ⟨by rw [HJ.out] <;> rfl, tab_set hgl (by omega) (HT5.out.mono (by omega)) _ _, kp_set (by omega) (HK.out.tr HK5.out) _ _⟩
  ·have e' : ¬ ([110, 117, 108, 108] : List UInt8) = tn := fun h => e h.symm
   go_wp2_with fail
   rw [← hw2]
   refine region_after (by kernel_rfl) (by kernel_rfl) ?_
   repeat (go_big_quiet_step (first | (go_at_call 60; refine call_after (HNo.out _)) | (go_at_call 63; refine call_after (HOa.out _))))
   refine wpQuiet_nil ?_
   rintro _ ⟨t, rfl⟩
   have HT1 := hide (HT.out.below t.prop)
   have HK1 := hide (HK0.out.tr (keep_s2 (s := s) t.prop))
   clear p0 p1 p2 p3
   have HA1 : Hid (∀ t : After t.val, (t.val.cell? ⟨w.heap.size, 0, none⟩ = some (S tn) ∧ t.val.cell? ⟨w.heap.size, 1, none⟩ = some (.bool true) ∧ t.val.cell? ⟨w.heap.size + 1, 0, none⟩ = some (S [110, 117, 108, 108]) ∧ t.val.cell? ⟨w.heap.size + 1, 1, none⟩ = some (.bool false))) := hide (fun t => (HQ.out _ (HK1.out.tr (keep_s2 (s := s) t.prop))).1)
   have p0 := fun t => (HA1.out t).1
   have p1 := fun t => (HA1.out t).2.1
   have p2 := fun t => (HA1.out t).2.2.1
   have p3 := fun t => (HA1.out t).2.2.2
   go_wp2_with fail
   refine region_after (by kernel_rfl) (by kernel_rfl) ?_
   repeat (go_big_quiet_step (first | (go_at_call 60; refine call_after (HNo.out _)) | (go_at_call 63; refine call_after (HOa.out _))))
   refine wpQuiet_nil ?_
   rintro _ ⟨t2, rfl⟩
   have HT2 := hide (HT1.out.below t2.prop)
   have HK2 := hide (HK1.out.tr (keep_s2 (s := s) t2.prop))
   clear p0 p1 p2 p3
   cases O
   case true =>
    obtain ⟨⟨p0, p1, p2, p3⟩, hr3⟩ := HQ.out _ HK2.out
    have f0 := hr3.frozen
    have r0 := hr3.cell 0
    have r1 := hr3.cell 1
    clear hr3
    go_wp2_with fail
    refine bodyPost_ret (v := .tuple #[.agg #[S tn, .bool true], .bool true]) ?_ rfl ?_
    ·simp [results, Tryd.results56, go_sem, r0, r1]
    ·exact ⟨by rw [HJ.out] <;> rfl, tab_set hgl (by omega) (HT2.out.mono (by omega)) _ _, kp_set (by omega) (HK.out.tr HK2.out) _ _⟩
   case false =>
    have HCA : Hid (∀ ww, Calls Tryd.prog 23 #[.agg #[S tn, .bool true]] ww (Gives ww (.bool false))) := hide (fun ww => by have := HCa.out ww; rwa [HCN.out rfl] at this)
    obtain ⟨⟨p0, p1, p2, p3⟩, hr3⟩ := HQ.out _ HK2.out
    have f0 := hr3.frozen
    have r0 := hr3.cell 0
    have r1 := hr3.cell 1
    clear hr3
    go_wp2_with fail
    refine (HCA.out _).mono ?_
    rintro e w5 ⟨rfl, hb5⟩
    have HT5 := hide (HT2.out.below hb5)
    have HK5 := hide (HK2.out.tr (keep_s2 (s := s) hb5))
    clear p0 p1 p2 p3 f0 r0 r1
    obtain ⟨⟨p0, p1, p2, p3⟩, hr3⟩ := HQ.out _ HK5.out
    have f0 := hr3.frozen
    have r0 := hr3.cell 0
    have r1 := hr3.cell 1
    clear hr3
    go_wp2_with fail
    refine bodyPost_ret (v := .tuple #[.agg #[S [], .bool false], .bool false]) ?_ rfl ?_
    ·simp [results, Tryd.results56, go_sem, r0, r1]
    ·exact ⟨by rw [HJ.out] <;> rfl, tab_set hgl (by omega) (HT5.out.mono (by omega)) _ _, kp_set (by omega) (HK.out.tr HK5.out) _ _⟩
 ·have e' : ¬ ([110, 117, 108, 108] : List UInt8) = tn := fun h => hne h.symm
  go_wp2_with fail
  rw [← hw2]
  refine region_after (by kernel_rfl) (by kernel_rfl) ?_
  repeat (go_big_quiet_step (first | (go_at_call 60; refine call_after (HNo.out _)) | (go_at_call 63; refine call_after (HOa.out _))))
  refine wpQuiet_nil ?_
  rintro _ ⟨t, rfl⟩
  have HT1 := hide (HT.out.below t.prop)
  have HK1 := hide (HK0.out.tr (keep_s2 (s := s) t.prop))
  clear p0 p1 p2 p3
  have HA1 : Hid (∀ t : After t.val, (t.val.cell? ⟨w.heap.size, 0, none⟩ = some (S tn) ∧ t.val.cell? ⟨w.heap.size, 1, none⟩ = some (.bool ta) ∧ t.val.cell? ⟨w.heap.size + 1, 0, none⟩ = some (S [110, 117, 108, 108]) ∧ t.val.cell? ⟨w.heap.size + 1, 1, none⟩ = some (.bool false))) := hide (fun t => (HQ.out _ (HK1.out.tr (keep_s2 (s := s) t.prop))).1)
  have p0 := fun t => (HA1.out t).1
  have p1 := fun t => (HA1.out t).2.1
  have p2 := fun t => (HA1.out t).2.2.1
  have p3 := fun t => (HA1.out t).2.2.2
  go_wp2_with fail
  refine region_after (by kernel_rfl) (by kernel_rfl) ?_
  repeat (go_big_quiet_step (first | (go_at_call 60; refine call_after (HNo.out _)) | (go_at_call 63; refine call_after (HOa.out _))))
  refine wpQuiet_nil ?_
  rintro _ ⟨t2, rfl⟩
  have HT2 := hide (HT1.out.below t2.prop)
  have HK2 := hide (HK1.out.tr (keep_s2 (s := s) t2.prop))
  clear p0 p1 p2 p3
  cases O
  case true =>
   obtain ⟨⟨p0, p1, p2, p3⟩, hr3⟩ := HQ.out _ HK2.out
   have f0 := hr3.frozen
   have r0 := hr3.cell 0
   have r1 := hr3.cell 1
   clear hr3
   go_wp2_with fail
   refine bodyPost_ret (v := .tuple #[.agg #[S tn, .bool ta], .bool true]) ?_ rfl ?_
   ·simp [results, Tryd.results56, go_sem, r0, r1]
   ·exact ⟨by rw [HJ.out] <;> rfl, tab_set hgl (by omega) (HT2.out.mono (by omega)) _ _, kp_set (by omega) (HK.out.tr HK2.out) _ _⟩
  case false =>
   have HCA : Hid (∀ ww, Calls Tryd.prog 23 #[.agg #[S tn, .bool ta]] ww (Gives ww (.bool false))) := hide (fun ww => by have := HCa.out ww; rwa [HCN.out rfl] at this)
   obtain ⟨⟨p0, p1, p2, p3⟩, hr3⟩ := HQ.out _ HK2.out
   have f0 := hr3.frozen
   have r0 := hr3.cell 0
   have r1 := hr3.cell 1
   clear hr3
   go_wp2_with fail
   refine (HCA.out _).mono ?_
   rintro e w5 ⟨rfl, hb5⟩
   have HT5 := hide (HT2.out.below hb5)
   have HK5 := hide (HK2.out.tr (keep_s2 (s := s) hb5))
   clear p0 p1 p2 p3 f0 r0 r1
   obtain ⟨⟨p0, p1, p2, p3⟩, hr3⟩ := HQ.out _ HK5.out
   have f0 := hr3.frozen
   have r0 := hr3.cell 0
   have r1 := hr3.cell 1
   clear hr3
   go_wp2_with fail
   refine bodyPost_ret (v := .tuple #[.agg #[S [], .bool false], .bool false]) ?_ rfl ?_
   ·simp [results, Tryd.results56, go_sem, r0, r1]
   ·exact ⟨by rw [HJ.out] <;> rfl, tab_set hgl (by omega) (HT5.out.mono (by omega)) _ _, kp_set (by omega) (HK.out.tr HK5.out) _ _⟩
theorem join_els {T : List Fc} {tn un : List UInt8} {ta ua : Bool} (ha : ta = true ∨ ¬ tn = [110, 117, 108, 108]) (hb : ua = true ∨ ¬ un = [110, 117, 108, 108]) (hne : tn = un ∧ ta ≠ ua ∨ ¬ tn = un) :
  joinM T ⟨tn, ta⟩ ⟨un, ua⟩ = if Ty.cls ⟨tn, ta⟩ = true ∧ Ty.cls ⟨un, ua⟩ = true ∧ common T tn un ≠ [] then (kO (common T tn un), true) else (kZ, false) := by
 have nul : ∀ {n : List UInt8} {a : Bool}, (a = true ∨ ¬ n = [110, 117, 108, 108]) → ¬ (⟨n, a⟩ : Ty) = kN := by
  intro n a h e
  injection e with e1 e2
  rcases h with h | h
  ·rw [h] at e2; cases e2
  ·exact h e1
 unfold joinM
 rw [if_neg (fun e => by injection e with e1 e2; rcases hne with h | h; exact h.2 e2; exact h e1), if_neg (fun h => nul ha h.1), if_neg (fun h => nul hb h.1)]
set_option maxRecDepth 100000 in
set_option maxHeartbeats 4000000 in
set_option linter.unusedVariables false in
theorem join_el (gi g m s n : Nat) (T : List Fc) (tn : List UInt8) (ta : Bool) (un : List UInt8) (ua : Bool) (w : World) (hi : Img w gi g) (h : Tab w g m s T n) (hn : n ≤ 8000000000000000) (hT : T.length ≤ 8) (hs : ∀ f ∈ T, short f.su) (h1 : short tn) (h2 : short un) (ha : ta = true ∨ ¬ tn = [110, 117, 108, 108]) (hb : ua = true ∨ ¬ un = [110, 117, 108, 108]) (hne : tn = un ∧ ta ≠ ua ∨ ¬ tn = un) :
  Calls Tryd.prog 56 #[.pointer (some ⟨gi, 0, none⟩), .agg #[S tn, .bool ta], .agg #[S un, .bool ua]] w
   (fun e w' => e = .returned (.tuple #[(joinM T ⟨tn, ta⟩ ⟨un, ua⟩).1.val, .bool (joinM T ⟨tn, ta⟩ ⟨un, ua⟩).2]) ∧ Tab w' g m s T (n + 200) ∧ Keep (fun b => b = s) w w') := by
 have hgl : g < w.heap.size ∧ m < w.heap.size ∧ s < w.heap.size := ⟨h.blk.lt, h.faces.lt, h.slt⟩
 obtain ⟨w2, hw2⟩ : ∃ w2, w2 = ((w.alloc (.cells #[S tn, .bool ta] 24)).alloc (.cells #[S un, .bool ua] 24)).alloc (.cells #[.string { data := #[] }, .bool false] 24) := ⟨_, rfl⟩
 have hbb : Below w.heap.size w w2 := by rw [hw2]; exact (((Below.refl _ w).alloc (Nat.le_refl _) _).alloc (by simp) _).alloc (by simp; omega) _
 have hb1 : Blk w2 w.heap.size 24 #[S tn, .bool ta] := by rw [hw2]; exact ((Blk.new _ _ _).alloc _).alloc _
 have hb2 : Blk w2 (w.heap.size + 1) 24 #[S un, .bool ua] := by
  rw [hw2]
  have := (Blk.new (w.alloc (.cells #[S tn, .bool ta] 24)) 24 #[S un, .bool ua]).alloc (.cells #[.string { data := #[] }, .bool false] 24)
  rwa [World.size_alloc] at this
 have hb3 : Blk w2 (w.heap.size + 1 + 1) 24 #[.string { data := #[] }, .bool false] := by
  rw [hw2]
  have := Blk.new ((w.alloc (.cells #[S tn, .bool ta] 24)).alloc (.cells #[S un, .bool ua] 24)) 24 #[.string { data := #[] }, .bool false]
  rwa [World.size_alloc, World.size_alloc] at this
 have HI := hide (hi.below hbb)
 have HT := hide (h.below hbb)
 have HK := hide (keep_s2 (s := s) hbb)
 have HQ : Hid (∀ w', Keep (fun b => b = s) w2 w' → (w'.cell? ⟨w.heap.size, 0, none⟩ = some (S tn) ∧ w'.cell? ⟨w.heap.size, 1, none⟩ = some (.bool ta) ∧ w'.cell? ⟨w.heap.size + 1, 0, none⟩ = some (S un) ∧ w'.cell? ⟨w.heap.size + 1, 1, none⟩ = some (.bool ua)) ∧ Blk w' (w.heap.size + 1 + 1) 24 #[.string { data := #[] }, .bool false]) := hide (fun w' hk => by
  have e1 := hb1.keep hk (by show ¬ w.heap.size = s; omega)
  have e2 := hb2.keep hk (by show ¬ w.heap.size + 1 = s; omega)
  exact ⟨⟨e1.cell 0, e1.cell 1, e2.cell 0, e2.cell 1⟩, hb3.keep hk (by show ¬ w.heap.size + 1 + 1 = s; omega)⟩)
 have HNo : Hid (∀ w, Calls Tryd.prog 60 #[] w (Gives w (.agg #[S [110, 117, 108, 108], .bool false]))) := hide nothing_any
 have HCo := hide (fun w nn (h : Tab w g m s T nn) (hx : nn ≤ 8000000000000000) => common_any g m s nn T tn un w h hx hT hs h1 h2)
 have HOa := hide (object_any tn ta)
 have HOb := hide (object_any un ua)
 have HCa := hide (class_any tn ta)
 have HCb := hide (class_any un ua)
 clear hbb hb1 hb2 hb3 hi h hs h1 h2
 obtain ⟨G1, hG1⟩ : ∃ G, G = Ty.cls ⟨tn, ta⟩ := ⟨_, rfl⟩
 obtain ⟨G2, hG2⟩ : ∃ G, G = Ty.cls ⟨un, ua⟩ := ⟨_, rfl⟩
 obtain ⟨C, hC⟩ : ∃ C, C = common T tn un := ⟨_, rfl⟩
 have HJ : Hid (joinM T ⟨tn, ta⟩ ⟨un, ua⟩ = if G1 = true ∧ G2 = true ∧ C ≠ [] then (kO C, true) else (kZ, false)) := hide (by rw [hG1, hG2, hC]; exact join_els ha hb hne)
 rw [← hG1] at HCa
 rw [← hG2] at HCb
 rw [← hC] at HCo
 clear hG1 hG2 hC
 have HK0 : Hid (Keep (fun b => b = s) w2 w2) := hide (Keep.refl _ _)
 have HA0 : Hid (∀ t : After w2, (t.val.cell? ⟨w.heap.size, 0, none⟩ = some (S tn) ∧ t.val.cell? ⟨w.heap.size, 1, none⟩ = some (.bool ta) ∧ t.val.cell? ⟨w.heap.size + 1, 0, none⟩ = some (S un) ∧ t.val.cell? ⟨w.heap.size + 1, 1, none⟩ = some (.bool ua))) := hide (fun t => (HQ.out _ (HK0.out.tr (keep_s2 (s := s) t.prop))).1)
 have p0 := fun t => (HA0.out t).1
 have p1 := fun t => (HA0.out t).2.1
 have p2 := fun t => (HA0.out t).2.2.1
 have p3 := fun t => (HA0.out t).2.2.2
 clear HOa HOb
 have HOF := hide of_any
 go_enter Tryd.func56, Tryd.ntmps56
 rcases hne with ⟨e, ea⟩ | e
 ·subst e
  cases ta <;> cases ua
  all_goals first
   | exact absurd rfl ea
   | skip
  all_goals first
   | have hn1 := ha.resolve_left (by decide)
   | skip
  all_goals first
   | have hn2 := hb.resolve_left (by decide)
   | skip
  all_goals
   clear ha hb
   go_wp2_with fail
   rw [← hw2]
   clear hw2
   refine region_after (by kernel_rfl) (by kernel_rfl) ?_
   repeat (go_big_quiet_step (first | (go_at_call 60; refine call_after (HNo.out _)) | (go_at_call 63; refine call_after (HOF.out _))))
   refine wpQuiet_nil ?_
   rintro _ ⟨t, rfl⟩
   have HT1 := hide (HT.out.below t.prop)
   have HK1 := hide (HK0.out.tr (keep_s2 (s := s) t.prop))
   clear p0 p1 p2 p3
   have HA1 : Hid (∀ t : After t.val, (t.val.cell? ⟨w.heap.size, 0, none⟩ = some (S tn) ∧ t.val.cell? ⟨w.heap.size, 1, none⟩ = some (.bool _) ∧ t.val.cell? ⟨w.heap.size + 1, 0, none⟩ = some (S tn) ∧ t.val.cell? ⟨w.heap.size + 1, 1, none⟩ = some (.bool _))) := hide (fun t => (HQ.out _ (HK1.out.tr (keep_s2 (s := s) t.prop))).1)
   have p0 := fun t => (HA1.out t).1
   have p1 := fun t => (HA1.out t).2.1
   have p2 := fun t => (HA1.out t).2.2.1
   have p3 := fun t => (HA1.out t).2.2.2
   go_wp2_with fail
   refine region_after (by kernel_rfl) (by kernel_rfl) ?_
   repeat (go_big_quiet_step (first | (go_at_call 60; refine call_after (HNo.out _)) | (go_at_call 63; refine call_after (HOF.out _))))
   refine wpQuiet_nil ?_
   rintro _ ⟨t2, rfl⟩
   have HT2 := hide (HT1.out.below t2.prop)
   have HK2 := hide (HK1.out.tr (keep_s2 (s := s) t2.prop))
   clear p0 p1 p2 p3
   obtain ⟨⟨p0, p1, p2, p3⟩, hr3⟩ := HQ.out _ HK2.out
   have f0 := hr3.frozen
   have r0 := hr3.cell 0
   have r1 := hr3.cell 1
   clear hr3
   go_wp2_with fail
   refine (HCa.out _).mono ?_
   rintro e w5 ⟨rfl, hb5⟩
   have HT5 := hide (HT2.out.below hb5)
   have HK5 := hide (HK2.out.tr (keep_s2 (s := s) hb5))
   clear p0 p1 p2 p3 f0 r0 r1 hb5
   obtain ⟨⟨p0, p1, p2, p3⟩, hr3⟩ := HQ.out _ HK5.out
   have f0 := hr3.frozen
   have r0 := hr3.cell 0
   have r1 := hr3.cell 1
   clear hr3
   cases G1
   case false =>
    go_wp2_with fail
    refine bodyPost_ret (v := .tuple #[.agg #[S [], .bool false], .bool false]) ?_ rfl ?_
    ·simp [results, Tryd.results56, go_sem, r0, r1]
    ·exact ⟨by rw [HJ.out] <;> rfl, tab_set hgl (by omega) (HT5.out.mono (by omega)) _ _, kp_set (by omega) (HK.out.tr HK5.out) _ _⟩
   case true =>
    go_wp2_with fail
    refine (HCb.out _).mono ?_
    rintro e w6 ⟨rfl, hb6⟩
    have HT6 := hide (HT5.out.below hb6)
    have HK6 := hide (HK5.out.tr (keep_s2 (s := s) hb6))
    clear p0 p1 p2 p3 f0 r0 r1 hb6
    cases G2
    case false =>
     obtain ⟨⟨p0, p1, p2, p3⟩, hr3⟩ := HQ.out _ HK6.out
     have f0 := hr3.frozen
     have r0 := hr3.cell 0
     have r1 := hr3.cell 1
     clear hr3
     go_wp2_with fail
     refine bodyPost_ret (v := .tuple #[.agg #[S [], .bool false], .bool false]) ?_ rfl ?_
     ·simp [results, Tryd.results56, go_sem, r0, r1]
     ·exact ⟨by rw [HJ.out] <;> rfl, tab_set hgl (by omega) (HT6.out.mono (by omega)) _ _, kp_set (by omega) (HK.out.tr HK6.out) _ _⟩
    case true =>
     obtain ⟨⟨p0, p1, p2, p3⟩, hr3⟩ := HQ.out _ HK6.out
     have f0 := hr3.frozen
     have r0 := hr3.cell 0
     have r1 := hr3.cell 1
     clear hr3
     clear f0 r0 r1
     have i0 := (HI.out.keep HT.out HK6.out).cell
     have HCO := hide (HCo.out w6.drew n HT6.out.drew (by omega))
     go_wp2_with fail
     go_still_tail 8, (by kernel_rfl)
     go_wp2_with fail
     refine HCO.out.mono ?_
     rintro e w7 ⟨rfl, ht7, hk7⟩
     have HT7 := hide ht7
     have HK7 := hide (HK6.out.drew.tr hk7)
     clear p0 p1 p2 p3 i0 ht7 hk7 HCO
     obtain ⟨⟨p0, p1, p2, p3⟩, hr3⟩ := HQ.out _ HK7.out
     have f0 := hr3.frozen
     have r0 := hr3.cell 0
     have r1 := hr3.cell 1
     clear hr3
     by_cases hc : C = []
     ·subst hc
      go_wp2_with fail
      refine bodyPost_ret (v := .tuple #[.agg #[S [], .bool false], .bool false]) ?_ rfl ?_
      ·simp [results, Tryd.results56, go_sem, r0, r1]
      ·exact ⟨by rw [HJ.out] <;> rfl, tab_set hgl (by omega) (HT7.out.mono (by omega)) _ _, kp_set (by omega) (HK.out.tr HK7.out) _ _⟩
     ·have hce : C.isEmpty = false := by simpa using hc
      go_wp2_with fail
      refine (HOF.out _ _).mono ?_
      rintro e w8 ⟨rfl, hb8⟩
      have HT8 := hide (HT7.out.below hb8)
      have HK8 := hide (HK7.out.tr (keep_s2 (s := s) hb8))
      clear p0 p1 p2 p3 f0 r0 r1 hb8
      obtain ⟨⟨p0, p1, p2, p3⟩, hr3⟩ := HQ.out _ HK8.out
      have f0 := hr3.frozen
      have r0 := hr3.cell 0
      have r1 := hr3.cell 1
      clear hr3
      go_wp2_with fail
      refine bodyPost_ret (v := .tuple #[.agg #[S C, .bool false], .bool true]) ?_ rfl ?_
      ·simp [results, Tryd.results56, go_sem, r0, r1]
      ·exact ⟨by rw [HJ.out]; simp only [hc, ne_eq, not_false_eq_true, and_self, if_true, kO], tab_set hgl (by omega) (HT8.out.mono (by omega)) _ _, kp_set (by omega) (HK.out.tr HK8.out) _ _⟩
 ·cases ta <;> cases ua
  all_goals first
   | have hn1 := ha.resolve_left (by decide)
   | skip
  all_goals first
   | have hn2 := hb.resolve_left (by decide)
   | skip
  all_goals
   clear ha hb
   go_wp2_with fail
   rw [← hw2]
   clear hw2
   refine region_after (by kernel_rfl) (by kernel_rfl) ?_
   repeat (go_big_quiet_step (first | (go_at_call 60; refine call_after (HNo.out _)) | (go_at_call 63; refine call_after (HOF.out _))))
   refine wpQuiet_nil ?_
   rintro _ ⟨t, rfl⟩
   have HT1 := hide (HT.out.below t.prop)
   have HK1 := hide (HK0.out.tr (keep_s2 (s := s) t.prop))
   clear p0 p1 p2 p3
   have HA1 : Hid (∀ t : After t.val, (t.val.cell? ⟨w.heap.size, 0, none⟩ = some (S tn) ∧ t.val.cell? ⟨w.heap.size, 1, none⟩ = some (.bool _) ∧ t.val.cell? ⟨w.heap.size + 1, 0, none⟩ = some (S un) ∧ t.val.cell? ⟨w.heap.size + 1, 1, none⟩ = some (.bool _))) := hide (fun t => (HQ.out _ (HK1.out.tr (keep_s2 (s := s) t.prop))).1)
   have p0 := fun t => (HA1.out t).1
   have p1 := fun t => (HA1.out t).2.1
   have p2 := fun t => (HA1.out t).2.2.1
   have p3 := fun t => (HA1.out t).2.2.2
   go_wp2_with fail
   refine region_after (by kernel_rfl) (by kernel_rfl) ?_
   repeat (go_big_quiet_step (first | (go_at_call 60; refine call_after (HNo.out _)) | (go_at_call 63; refine call_after (HOF.out _))))
   refine wpQuiet_nil ?_
   rintro _ ⟨t2, rfl⟩
   have HT2 := hide (HT1.out.below t2.prop)
   have HK2 := hide (HK1.out.tr (keep_s2 (s := s) t2.prop))
   clear p0 p1 p2 p3
   obtain ⟨⟨p0, p1, p2, p3⟩, hr3⟩ := HQ.out _ HK2.out
   have f0 := hr3.frozen
   have r0 := hr3.cell 0
   have r1 := hr3.cell 1
   clear hr3
   go_wp2_with fail
   refine (HCa.out _).mono ?_
   rintro e w5 ⟨rfl, hb5⟩
   have HT5 := hide (HT2.out.below hb5)
   have HK5 := hide (HK2.out.tr (keep_s2 (s := s) hb5))
   clear p0 p1 p2 p3 f0 r0 r1 hb5
   obtain ⟨⟨p0, p1, p2, p3⟩, hr3⟩ := HQ.out _ HK5.out
   have f0 := hr3.frozen
   have r0 := hr3.cell 0
   have r1 := hr3.cell 1
   clear hr3
   cases G1
   case false =>
    go_wp2_with fail
    refine bodyPost_ret (v := .tuple #[.agg #[S [], .bool false], .bool false]) ?_ rfl ?_
    ·simp [results, Tryd.results56, go_sem, r0, r1]
    ·exact ⟨by rw [HJ.out] <;> rfl, tab_set hgl (by omega) (HT5.out.mono (by omega)) _ _, kp_set (by omega) (HK.out.tr HK5.out) _ _⟩
   case true =>
    go_wp2_with fail
    refine (HCb.out _).mono ?_
    rintro e w6 ⟨rfl, hb6⟩
    have HT6 := hide (HT5.out.below hb6)
    have HK6 := hide (HK5.out.tr (keep_s2 (s := s) hb6))
    clear p0 p1 p2 p3 f0 r0 r1 hb6
    cases G2
    case false =>
     obtain ⟨⟨p0, p1, p2, p3⟩, hr3⟩ := HQ.out _ HK6.out
     have f0 := hr3.frozen
     have r0 := hr3.cell 0
     have r1 := hr3.cell 1
     clear hr3
     go_wp2_with fail
     refine bodyPost_ret (v := .tuple #[.agg #[S [], .bool false], .bool false]) ?_ rfl ?_
     ·simp [results, Tryd.results56, go_sem, r0, r1]
     ·exact ⟨by rw [HJ.out] <;> rfl, tab_set hgl (by omega) (HT6.out.mono (by omega)) _ _, kp_set (by omega) (HK.out.tr HK6.out) _ _⟩
    case true =>
     obtain ⟨⟨p0, p1, p2, p3⟩, hr3⟩ := HQ.out _ HK6.out
     have f0 := hr3.frozen
     have r0 := hr3.cell 0
     have r1 := hr3.cell 1
     clear hr3
     clear f0 r0 r1
     have i0 := (HI.out.keep HT.out HK6.out).cell
     have HCO := hide (HCo.out w6.drew n HT6.out.drew (by omega))
     go_wp2_with fail
     go_still_tail 8, (by kernel_rfl)
     go_wp2_with fail
     refine HCO.out.mono ?_
     rintro e w7 ⟨rfl, ht7, hk7⟩
     have HT7 := hide ht7
     have HK7 := hide (HK6.out.drew.tr hk7)
     clear p0 p1 p2 p3 i0 ht7 hk7 HCO
     obtain ⟨⟨p0, p1, p2, p3⟩, hr3⟩ := HQ.out _ HK7.out
     have f0 := hr3.frozen
     have r0 := hr3.cell 0
     have r1 := hr3.cell 1
     clear hr3
     by_cases hc : C = []
     ·subst hc
      go_wp2_with fail
      refine bodyPost_ret (v := .tuple #[.agg #[S [], .bool false], .bool false]) ?_ rfl ?_
      ·simp [results, Tryd.results56, go_sem, r0, r1]
      ·exact ⟨by rw [HJ.out] <;> rfl, tab_set hgl (by omega) (HT7.out.mono (by omega)) _ _, kp_set (by omega) (HK.out.tr HK7.out) _ _⟩
     ·have hce : C.isEmpty = false := by simpa using hc
      go_wp2_with fail
      refine (HOF.out _ _).mono ?_
      rintro e w8 ⟨rfl, hb8⟩
      have HT8 := hide (HT7.out.below hb8)
      have HK8 := hide (HK7.out.tr (keep_s2 (s := s) hb8))
      clear p0 p1 p2 p3 f0 r0 r1 hb8
      obtain ⟨⟨p0, p1, p2, p3⟩, hr3⟩ := HQ.out _ HK8.out
      have f0 := hr3.frozen
      have r0 := hr3.cell 0
      have r1 := hr3.cell 1
      clear hr3
      go_wp2_with fail
      refine bodyPost_ret (v := .tuple #[.agg #[S C, .bool false], .bool true]) ?_ rfl ?_
      ·simp [results, Tryd.results56, go_sem, r0, r1]
      ·exact ⟨by rw [HJ.out]; simp only [hc, ne_eq, not_false_eq_true, and_self, if_true, kO], tab_set hgl (by omega) (HT8.out.mono (by omega)) _ _, kp_set (by omega) (HK.out.tr HK8.out) _ _⟩
theorem join_any (gi g m s n : Nat) (T : List Fc) (a b : Ty) (w : World) (hi : Img w gi g) (h : Tab w g m s T n) (hn : n ≤ 8000000000000000) (hT : T.length ≤ 8) (hs : ∀ f ∈ T, short f.su) (h1 : short a.n) (h2 : short b.n) :
  Calls Tryd.prog 56 #[.pointer (some ⟨gi, 0, none⟩), a.val, b.val] w
   (fun e w' => e = .returned (.tuple #[(joinM T a b).1.val, .bool (joinM T a b).2]) ∧ Tab w' g m s T (n + 200) ∧ Keep (fun b => b = s) w w') := by
 obtain ⟨tn, ta⟩ := a
 obtain ⟨un, ua⟩ := b
 by_cases e : (⟨tn, ta⟩ : Ty) = ⟨un, ua⟩
 ·injection e with e1 e2
  subst e1 e2
  exact join_same gi g m s n T tn ta w hi h hn hT hs h1
 ·have key : ∀ {n n' : List UInt8} {a a' : Bool}, ¬ (⟨n, a⟩ : Ty) = ⟨n', a'⟩ → a' = false → a = true ∨ ¬ n = n' := by
   intro n n' a a' h h'
   cases a with
   | true => exact .inl rfl
   | false => exact .inr (fun e => h (by rw [e, h']))
  by_cases ea : (⟨tn, ta⟩ : Ty) = ⟨[110, 117, 108, 108], false⟩
  ·injection ea with e1 e2
   subst e1 e2
   exact join_nl gi g m s n T un ua w hi h hn hT hs h1 h2 (key (fun h => e h.symm) rfl)
  ·by_cases eb : (⟨un, ua⟩ : Ty) = ⟨[110, 117, 108, 108], false⟩
   ·injection eb with e1 e2
    subst e1 e2
    exact join_nr gi g m s n T tn ta w hi h hn hT hs h1 h2 (key e rfl)
   ·refine join_el gi g m s n T tn ta un ua w hi h hn hT hs h1 h2 (key ea rfl) (key eb rfl) ?_
    by_cases e1 : tn = un
    ·exact .inl ⟨e1, fun e2 => e (by rw [e1, e2])⟩
    ·exact .inr e1
end Go.Proofs.YtmbegaobnpoefaaDoor
