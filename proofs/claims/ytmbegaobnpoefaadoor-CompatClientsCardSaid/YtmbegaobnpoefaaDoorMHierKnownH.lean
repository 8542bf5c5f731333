/- Which types are known: the page's way and the table's, walked; no statement of the seat is proved here. -/
import Derived.Test.YtmbegaobnpoefaaDoorMOpLaidC
import Derived.Test.YtmbegaobnpoefaaDoorMHierNewH
import Derived.Test.YtmbegaobnpoefaaDoorMClsM2
namespace Go.Proofs.YtmbegaobnpoefaaDoor
open Go.RowKit
set_option maxRecDepth 100000 in
theorem nothing_any (w : World) : Calls Tryd.prog 60 #[] w (Gives w (.agg #[S nNull, .bool false])) := by
 have hb : ∀ o, Below w.heap.size w (w.alloc o) := fun o => (Below.refl _ _).alloc (Nat.le_refl _) o
 go_enter Tryd.func60, Tryd.ntmps60
 go_wp2_with fail
 refine bodyPost_ret (v := .agg #[S nNull, .bool false]) ?_ rfl ?_
 ·simp [results, Tryd.results60, go_sem, nNull]
 ·first
   | exact ⟨rfl, hb _⟩
   | exact ⟨rfl, set_below' (hb _) (Nat.le_refl _) _⟩
   | exact ⟨rfl, set_below' (set_below' (hb _) (Nat.le_refl _) _) (Nat.le_refl _) _⟩
def knownT (T : List Fc) (t : Ty) : Bool := t.good && (!great t.n || (get T t.n).isSome)
set_option maxRecDepth 100000 in
set_option maxHeartbeats 1000000 in
theorem object_any (tn : List UInt8) (ta : Bool) (w : World) : Calls Tryd.prog 63 #[.agg #[S tn, .bool ta]] w (Gives w (.bool (Ty.obj ⟨tn, ta⟩))) := by
 have hb : Below w.heap.size w (w.alloc (.cells #[S tn, .bool ta] 24)) := (Below.refl _ _).alloc (Nat.le_refl _) _
 obtain ⟨O, hO⟩ : ∃ O, O = Ty.obj ⟨tn, ta⟩ := ⟨_, rfl⟩
 rw [← hO]
 obtain ⟨G, hG⟩ : ∃ G, G = Ty.cls ⟨tn, ta⟩ := ⟨_, rfl⟩
 have HC : Hid (∀ w, Calls Tryd.prog 23 #[.agg #[S tn, .bool ta]] w (Gives w (.bool G))) := hide (fun w => by rw [hG]; exact class_any tn ta w)
 unfold Ty.obj at hO
 rw [← hG] at hO
 simp only at hO
 have HO := hide hO
 clear hO hG
 have q0 : ∀ t : After (w.alloc (.cells #[S tn, .bool ta] 24)), t.val.cell? ⟨w.heap.size, 0, none⟩ = some (S tn) := fun t => (t.prop.cell (by simp)).trans (by simp [World.cell?_alloc_new])
 have q1 : ∀ t : After (w.alloc (.cells #[S tn, .bool ta] 24)), t.val.cell? ⟨w.heap.size, 1, none⟩ = some (.bool ta) := fun t => (t.prop.cell (by simp)).trans (by simp [World.cell?_alloc_new])
 go_enter Tryd.func63, Tryd.ntmps63
 cases ta with
 | true =>
  go_wp2_with fail
  refine region_after (by kernel_rfl) (by kernel_rfl) ?_
  repeat (go_big_quiet_step (fail))
  refine wpQuiet_nil ?_
  rintro _ ⟨t, rfl⟩
  have hb3 := hb.trans (t.prop.mono hb.size)
  go_wp2
  go_ret
  exact ⟨by rw [HO.out]; rfl, hb3⟩
 | false =>
  have hno : ∀ w, Calls Tryd.prog 60 #[] w (Gives w (.agg #[S [110, 117, 108, 108], .bool false])) := nothing_any
  have HN := hide hno
  clear hno
  cases G with
  | true =>
   go_wp2_with fail
   refine region_after (by kernel_rfl) (by kernel_rfl) ?_
   repeat (go_big_quiet_step ((go_at_call 23; refine call_after (HC.out _))))
   refine wpQuiet_nil ?_
   rintro _ ⟨t, rfl⟩
   have hb3 := hb.trans (t.prop.mono hb.size)
   go_wp2
   go_ret
   exact ⟨by rw [HO.out]; rfl, hb3⟩
  | false =>
   by_cases e : tn = nNull
   ·have HOt : Hid (O = true) := hide (by rw [HO.out, e]; rfl)
    subst e
    unfold nNull at *
    clear HO
    go_wp2_with fail
    refine region_after (by kernel_rfl) (by kernel_rfl) ?_
    repeat (go_big_quiet_step (first | (go_at_call 23; refine call_after (HC.out _)) | (go_at_call 60; refine call_after (HN.out _))))
    refine wpQuiet_nil ?_
    rintro _ ⟨t, rfl⟩
    have hb3 := hb.trans (t.prop.mono hb.size)
    go_wp2
    go_ret
    exact ⟨by rw [HOt.out] <;> rfl, hb3⟩
   ·have HOt : Hid (O = false) := hide (by rw [HO.out]; simp [e])
    have d : (tn == [110, 117, 108, 108]) = false := by simpa [nNull] using e
    clear HO
    go_wp2_with fail
    refine region_after (by kernel_rfl) (by kernel_rfl) ?_
    repeat (go_big_quiet_step (first | (go_at_call 23; refine call_after (HC.out _)) | (go_at_call 60; refine call_after (HN.out _))))
    refine wpQuiet_nil ?_
    rintro _ ⟨t, rfl⟩
    have hb3 := hb.trans (t.prop.mono hb.size)
    go_wp2
    go_ret
    exact ⟨by rw [HOt.out] <;> rfl, hb3⟩
end Go.Proofs.YtmbegaobnpoefaaDoor
namespace Go.Proofs.YtmbegaobnpoefaaDoor
open Go.RowKit
theorem keep_s2 {w w' : World} {s : Nat} (h : Below w.heap.size w w') : Keep (fun b => b = s) w w' := Keep.of_below h (fun k h1 h2 => by omega)
set_option maxRecDepth 100000 in
set_option maxHeartbeats 1500000 in
theorem knownt_any (g m s n0 : Nat) (T : List Fc) (A : Option Addr) (n c : Nat) (l : List Ty) (w : World) (h : Tab w g m s T n0) (hn0 : n0 ≤ 8000000000000000) (hr : Rd w (fun b => b = s) 2 A n (l.flatMap Ty.cells)) (hl : l.length = n) (hn : n ≤ 1000)
  (hsh : ∀ t ∈ l, short t.n) :
  Calls Tryd.prog 8 #[.pointer (some ⟨g, 0, none⟩), .slice A n c] w
   (fun e w' => e = .returned (.bool (l.all (knownT T))) ∧ Tab w' g m s T (n0 + n) ∧ Keep (fun b => b = s) w w') := by
 have HL := hide hl
 have HSH := hide hsh
 clear hl hsh
 obtain ⟨C, hC⟩ : ∃ C, C = l.all (knownT T) := ⟨_, rfl⟩
 rw [← hC]
 have HC := hide hC
 clear hC
 have hsl := h.slt
 go_enter Tryd.func8, Tryd.ntmps8
 go_wp2_with fail
 go_loopw [11] (fun i wr => ∃ k : Nat, k ≤ n ∧ i = .int .i64 k ∧ Tab wr g m s T (n0 + k) ∧ Keep (fun b => b = s) w wr ∧ (∀ i (hi : i < l.length), i < k → knownT T l[i] = true)) (fun i _ => n - (intOf i).toNat)
 case atStart => exact ⟨0, Nat.zero_le _, rfl, h, Keep.refl _ _, by omega⟩
 case round =>
  obtain ⟨k, hk, rfl, htr, hkr, hall⟩ := hrel
  have HA := hide hall
  have HTR := hide htr
  have HKR := hide hkr
  clear hall htr hkr
  by_cases hlt : k < n
  ·obtain ⟨x, o, rfl, hxs, hxl, hcell⟩ := Rd.rec_ (size := 2) (fun _ => rfl) (hr.keep HKR.out) HL.out k hlt
   have hlk : k < l.length := by have := HL.out; omega
   have hss := HSH.out _ (List.getElem_mem hlk)
   have HNo : Hid (knownT T l[k] = false → C = false) := hide (fun e => by
    rw [HC.out, List.all_eq_false]
    exact ⟨l[k], List.getElem_mem hlk, by simp [e]⟩)
   obtain ⟨p, hp⟩ : ∃ p, p = l[k] := ⟨_, rfl⟩
   rw [← hp] at hcell HNo hss
   have HP := hide hp
   clear hp
   obtain ⟨tn, ta⟩ := p
   have q0 : wr.cell? ⟨x, o + k * 2, none⟩ = some (S tn) := hcell 0 _ rfl
   have q1 : wr.cell? ⟨x, o + k * 2 + 1, none⟩ = some (.bool ta) := hcell 1 _ rfl
   clear hcell
   have hgo : ∀ w, Calls Tryd.prog 21 #[.agg #[S tn, .bool ta]] w (Gives w (.bool (Ty.good ⟨tn, ta⟩))) := good_any tn ta
   have hcl : ∀ w, Calls Tryd.prog 23 #[.agg #[S tn, .bool false]] w (Gives w (.bool (great tn))) := fun w => by
    have := class_any tn false w
    simpa [Ty.cls] using this
   have hfa : ∀ w nn, Tab w g m s T nn → nn ≤ 10000000000000000 → _ := fun w nn h h1 => face_any g m s nn T tn w h h1 hss
   obtain ⟨F, hF⟩ : ∃ F, F = faceF T tn := ⟨_, rfl⟩
   obtain ⟨B, hB⟩ : ∃ B, B = (get T tn).isSome := ⟨_, rfl⟩
   obtain ⟨G, hG⟩ : ∃ G, G = Ty.good ⟨tn, ta⟩ := ⟨_, rfl⟩
   obtain ⟨Q, hQ⟩ : ∃ Q, Q = great tn := ⟨_, rfl⟩
   have HKN : Hid (knownT T ⟨tn, ta⟩ = (G && (!Q || B))) := hide (by rw [hG, hQ, hB]; rfl)
   rw [← hF, ← hB] at hfa
   rw [← hG] at hgo
   rw [← hQ] at hcl
   have HGO := hide hgo
   have HCL := hide hcl
   have HFA := hide hfa
   clear hgo hcl hfa hF hB hG hQ
   obtain ⟨w1, hw1⟩ : ∃ w1, w1 = wr.alloc (.cells #[S tn, .bool ta] 24) := ⟨_, rfl⟩
   have ht1 := HTR.out.alloc (.cells #[S tn, .bool ta] 24)
   have hk1 := HKR.out.alloc (.cells #[S tn, .bool ta] 24)
   have hb1 : Blk w1 wr.heap.size 24 #[S tn, .bool ta] := by rw [hw1]; exact Blk.new _ _ _
   have hsr := HTR.out.slt
   rw [← hw1] at ht1 hk1
   have HT1 := hide ht1
   have HK1 := hide hk1
   have HB1 := hide hb1
   clear ht1 hk1 hb1
   go_wp2_with fail
   rw [← hw1]
   clear hw1 q0 q1
   refine (HGO.out _).mono ?_
   rintro e w2 ⟨rfl, hb2⟩
   have HT2 := hide (HT1.out.below hb2)
   have HK2 := hide (HK1.out.tr (keep_s2 (s := s) hb2))
   have hbl2 := HB1.out.below hb2 HB1.out.lt
   have HB2 := hide hbl2
   have c2 : w2.cell? ⟨wr.heap.size, 0, none⟩ = some (S tn) := hbl2.cell 0
   clear hb2 hbl2
   cases G with
   | false =>
    have HCf := hide (HNo.out (by rw [HKN.out]; rfl))
    go_wp2_with fail
    go_ret
    exact ⟨by rw [HCf.out] <;> rfl, HT2.out.mono (by omega), HK2.out⟩
   | true =>
    go_wp2_with fail
    refine (of_any tn w2).mono ?_
    rintro e w3 ⟨rfl, hb3⟩
    have HT3 := hide (HT2.out.below hb3)
    have HK3 := hide (HK2.out.tr (keep_s2 (s := s) hb3))
    have HB3 := hide (HB2.out.below hb3 HB2.out.lt)
    clear hb3 c2
    go_wp2_with fail
    refine (HCL.out w3).mono ?_
    rintro e w4 ⟨rfl, hb4⟩
    have HT4 := hide (HT3.out.below hb4)
    have HK4 := hide (HK3.out.tr (keep_s2 (s := s) hb4))
    have hbl4 := HB3.out.below hb4 HB3.out.lt
    have c4 : w4.cell? ⟨wr.heap.size, 0, none⟩ = some (S tn) := hbl4.cell 0
    clear hb4 hbl4
    cases Q with
    | false =>
     have HE : Hid (knownT T ⟨tn, ta⟩ = true) := hide (by rw [HKN.out]; rfl)
     go_wp2_with fail
     go_roundw
     case rel => exact ⟨k + 1, by omega, by go_num, HT4.out.mono (by omega), HK4.out, all_step (p := fun u => knownT T u = true) HA.out hlk (by rw [← HP.out]; exact HE.out)⟩
     case measure => simp [intOf]; omega
    | true =>
     go_wp2_with fail
     refine (HFA.out w4 _ HT4.out (by omega)).mono ?_
     rintro e w5 ⟨rfl, ht5, hk5⟩
     have HT5 := hide (ht5.alloc (.cells #[S F.n, S F.su, .slice F.fA F.fl F.fc, .slice F.mA F.ml F.mc] 43))
     have HK5 := hide ((HK4.out.tr hk5).alloc (.cells #[S F.n, S F.su, .slice F.fA F.fl F.fc, .slice F.mA F.ml F.mc] 43))
     clear ht5 hk5 c4
     cases B with
     | false =>
      have HCf := hide (HNo.out (by rw [HKN.out]; rfl))
      go_wp2_with fail
      go_ret
      exact ⟨by rw [HCf.out] <;> rfl, HT5.out.mono (by omega), HK5.out⟩
     | true =>
      have HE : Hid (knownT T ⟨tn, ta⟩ = true) := hide (by rw [HKN.out]; rfl)
      go_wp2_with fail
      go_roundw
      case rel => exact ⟨k + 1, by omega, by go_num, HT5.out.mono (by omega), HK5.out, all_step (p := fun u => knownT T u = true) HA.out hlk (by rw [← HP.out]; exact HE.out)⟩
      case measure => simp [intOf]; omega
  ·have HY : Hid (C = true) := hide (by
    rw [HC.out, List.all_eq_true]
    exact all_done (p := fun u => knownT T u = true) HA.out (by have := HL.out; omega))
   go_wp2_with fail
   go_ret
   exact ⟨by rw [HY.out] <;> rfl, HTR.out.mono (by omega), HKR.out⟩
end Go.Proofs.YtmbegaobnpoefaaDoor
namespace Go.Proofs.YtmbegaobnpoefaaDoor
open Go.RowKit
def fitsT (T : List Fc) (t u : Ty) : Bool := if t = u then true else if t = ⟨nNull, false⟩ then u.obj else t.cls && (u.cls && decide (u.n ∈ (up T 20 [] t.n).1))
set_option maxRecDepth 100000 in
set_option maxHeartbeats 1500000 in
theorem fits_same (g m s n0 : Nat) (T : List Fc) (tn : List UInt8) (ta : Bool) (w : World) (h : Tab w g m s T n0) :
  Calls Tryd.prog 67 #[.pointer (some ⟨g, 0, none⟩), .agg #[S tn, .bool ta], .agg #[S tn, .bool ta]] w
   (fun e w' => e = .returned (.bool true) ∧ Tab w' g m s T (n0 + 20) ∧ Keep (fun b => b = s) w w') := by
 have HT := hide ((h.alloc (.cells #[S tn, .bool ta] 24)).alloc (.cells #[S tn, .bool ta] 24))
 have HK := hide (((Keep.refl (fun b => b = s) w).alloc (.cells #[S tn, .bool ta] 24)).alloc (.cells #[S tn, .bool ta] 24))
 clear h
 go_enter Tryd.func67, Tryd.ntmps67
 go_wp2_with fail
 go_ret
 exact ⟨rfl, HT.out.mono (by omega), HK.out⟩
set_option maxRecDepth 100000 in
set_option maxHeartbeats 1500000 in
theorem fits_null (g m s n0 : Nat) (T : List Fc) (un : List UInt8) (ua : Bool) (w : World) (h : Tab w g m s T n0) (hne : (⟨nNull, false⟩ : Ty) ≠ ⟨un, ua⟩) :
  Calls Tryd.prog 67 #[.pointer (some ⟨g, 0, none⟩), .agg #[S [110, 117, 108, 108], .bool false], .agg #[S un, .bool ua]] w
   (fun e w' => e = .returned (.bool (fitsT T ⟨nNull, false⟩ ⟨un, ua⟩)) ∧ Tab w' g m s T (n0 + 20) ∧ Keep (fun b => b = s) w w') := by
 have HR : Hid (fitsT T ⟨nNull, false⟩ ⟨un, ua⟩ = Ty.obj ⟨un, ua⟩) := hide (by unfold fitsT; rw [if_neg hne, if_pos rfl])
 rw [HR.out]
 have HOB := hide (object_any un ua)
 obtain ⟨O, hO⟩ : ∃ O, O = Ty.obj ⟨un, ua⟩ := ⟨_, rfl⟩
 rw [← hO] at HOB
 rw [← hO]
 have HNE := hide hne
 have HNo : Hid (∀ w, Calls Tryd.prog 60 #[] w (Gives w (.agg #[S [110, 117, 108, 108], .bool false]))) := hide nothing_any
 obtain ⟨w2, hw2⟩ : ∃ w2, w2 = (w.alloc (.cells #[.string { data := #[110, 117, 108, 108] }, .bool false] 24)).alloc (.cells #[S un, .bool ua] 24) := ⟨_, rfl⟩
 have ht2 : Tab w2 g m s T n0 := by rw [hw2]; exact (h.alloc _).alloc _
 have hk2 : Keep (fun b => b = s) w w2 := by rw [hw2]; exact ((Keep.refl _ w).alloc _).alloc _
 have hb1 : Blk w2 w.heap.size 24 #[.string { data := #[110, 117, 108, 108] }, .bool false] := by rw [hw2]; exact (Blk.new _ _ _).alloc _
 have hb2 : Blk w2 (w.heap.size + 1) 24 #[S un, .bool ua] := by
  rw [hw2]
  have := Blk.new (w.alloc (.cells #[.string { data := #[110, 117, 108, 108] }, .bool false] 24)) 24 #[S un, .bool ua]
  rwa [World.size_alloc] at this
 have q0 : ∀ t : After w2, t.val.cell? ⟨w.heap.size, 0, none⟩ = some (.string { data := #[110, 117, 108, 108] }) := fun t => (hb1.below t.prop hb1.lt).cell 0
 have q1 : ∀ t : After w2, t.val.cell? ⟨w.heap.size, 1, none⟩ = some (.bool false) := fun t => (hb1.below t.prop hb1.lt).cell 1
 have q2 : ∀ t : After w2, t.val.cell? ⟨w.heap.size + 1, 0, none⟩ = some (S un) := fun t => (hb2.below t.prop hb2.lt).cell 0
 have q3 : ∀ t : After w2, t.val.cell? ⟨w.heap.size + 1, 1, none⟩ = some (.bool ua) := fun t => (hb2.below t.prop hb2.lt).cell 1
 have HT := hide ht2
 have HK := hide hk2
 clear ht2 hk2 hb1 hb2 hO hne HR
 by_cases e : un = [110, 117, 108, 108]
 ·subst e
  cases ua with
  | false => exact absurd rfl HNE.out
  | true =>
   go_enter Tryd.func67, Tryd.ntmps67
   go_wp2_with fail
   all_goals
    rw [← hw2]
    refine region_after (by kernel_rfl) (by kernel_rfl) ?_
    repeat (go_big_quiet_step ((go_at_call 60; refine call_after (HNo.out _))))
    refine wpQuiet_nil ?_
    rintro _ ⟨t, rfl⟩
    have HT3 := hide (HT.out.below t.prop)
    have HK3 := hide (HK.out.tr (keep_s2 (s := s) t.prop))
    have p2 := q2 t
    have p3 := q3 t
    go_wp2_with fail
    refine (HOB.out _).mono ?_
    rintro e w5 ⟨rfl, hb5⟩
    have HT5 := hide (HT3.out.below hb5)
    have HK5 := hide (HK3.out.tr (keep_s2 (s := s) hb5))
    go_wp2
    go_ret
    exact ⟨rfl, HT5.out.mono (by omega), HK5.out⟩
 ·have e' : ¬ ([110, 117, 108, 108] : List UInt8) = un := fun h => e h.symm
  go_enter Tryd.func67, Tryd.ntmps67
  go_wp2_with fail
  all_goals
   rw [← hw2]
   refine region_after (by kernel_rfl) (by kernel_rfl) ?_
   repeat (go_big_quiet_step ((go_at_call 60; refine call_after (HNo.out _))))
   refine wpQuiet_nil ?_
   rintro _ ⟨t, rfl⟩
   have HT3 := hide (HT.out.below t.prop)
   have HK3 := hide (HK.out.tr (keep_s2 (s := s) t.prop))
   have p2 := q2 t
   have p3 := q3 t
   go_wp2_with fail
   refine (HOB.out _).mono ?_
   rintro e w5 ⟨rfl, hb5⟩
   have HT5 := hide (HT3.out.below hb5)
   have HK5 := hide (HK3.out.tr (keep_s2 (s := s) hb5))
   go_wp2
   go_ret
   exact ⟨rfl, HT5.out.mono (by omega), HK5.out⟩
set_option maxRecDepth 100000 in
set_option maxHeartbeats 2000000 in
theorem fits_else (g m s n0 : Nat) (T : List Fc) (tn : List UInt8) (ta : Bool) (un : List UInt8) (ua : Bool) (w : World) (h : Tab w g m s T n0) (hn0 : n0 ≤ 8000000000000000) (hT : T.length ≤ 8) (hs : ∀ f ∈ T, short f.su) (hsh : short tn)
  (hne : (⟨tn, ta⟩ : Ty) ≠ ⟨un, ua⟩) (hnn : (⟨tn, ta⟩ : Ty) ≠ ⟨nNull, false⟩) :
  Calls Tryd.prog 67 #[.pointer (some ⟨g, 0, none⟩), .agg #[S tn, .bool ta], .agg #[S un, .bool ua]] w
   (fun e w' => e = .returned (.bool (fitsT T ⟨tn, ta⟩ ⟨un, ua⟩)) ∧ Tab w' g m s T (n0 + 20) ∧ Keep (fun b => b = s) w w') := by
 obtain ⟨R, hR⟩ : ∃ R, R = fitsT T ⟨tn, ta⟩ ⟨un, ua⟩ := ⟨_, rfl⟩
 rw [← hR]
 have HCt := hide (class_any tn ta)
 have HCu := hide (class_any un ua)
 have HBe := hide (fun w nn (h : Tab w g m s T nn) (h1 : nn ≤ 9000000000000000) => below_any g m s nn T tn un w h h1 hT hs hsh)
 unfold fitsT at hR
 rw [if_neg hne, if_neg hnn] at hR
 simp only at hR
 obtain ⟨G1, hG1⟩ : ∃ G1, G1 = Ty.cls ⟨tn, ta⟩ := ⟨_, rfl⟩
 obtain ⟨G2, hG2⟩ : ∃ G2, G2 = Ty.cls ⟨un, ua⟩ := ⟨_, rfl⟩
 obtain ⟨B, hB⟩ : ∃ B, B = decide (un ∈ (up T 20 [] tn).1) := ⟨_, rfl⟩
 rw [← hG1] at HCt hR
 rw [← hG2] at HCu hR
 rw [← hB] at HBe hR
 have HR := hide hR
 have HNo : Hid (∀ w, Calls Tryd.prog 60 #[] w (Gives w (.agg #[S [110, 117, 108, 108], .bool false]))) := hide nothing_any
 clear hG1 hG2 hB hR
 obtain ⟨w2, hw2⟩ : ∃ w2, w2 = (w.alloc (.cells #[S tn, .bool ta] 24)).alloc (.cells #[S un, .bool ua] 24) := ⟨_, rfl⟩
 have ht2 : Tab w2 g m s T n0 := by rw [hw2]; exact (h.alloc _).alloc _
 have hk2 : Keep (fun b => b = s) w w2 := by rw [hw2]; exact ((Keep.refl _ w).alloc _).alloc _
 have hb1 : Blk w2 w.heap.size 24 #[S tn, .bool ta] := by rw [hw2]; exact (Blk.new _ _ _).alloc _
 have hb2 : Blk w2 (w.heap.size + 1) 24 #[S un, .bool ua] := by
  rw [hw2]
  have := Blk.new (w.alloc (.cells #[S tn, .bool ta] 24)) 24 #[S un, .bool ua]
  rwa [World.size_alloc] at this
 have q0 : ∀ t : After w2, t.val.cell? ⟨w.heap.size, 0, none⟩ = some (S tn) := fun t => (hb1.below t.prop hb1.lt).cell 0
 have q1 : ∀ t : After w2, t.val.cell? ⟨w.heap.size, 1, none⟩ = some (.bool ta) := fun t => (hb1.below t.prop hb1.lt).cell 1
 have q2 : ∀ t : After w2, t.val.cell? ⟨w.heap.size + 1, 0, none⟩ = some (S un) := fun t => (hb2.below t.prop hb2.lt).cell 0
 have q3 : ∀ t : After w2, t.val.cell? ⟨w.heap.size + 1, 1, none⟩ = some (.bool ua) := fun t => (hb2.below t.prop hb2.lt).cell 1
 have HT := hide ht2
 have HK := hide hk2
 clear ht2 hk2 hb1 hb2
 have hN : ta = true ∨ ¬ tn = [110, 117, 108, 108] := by
  cases ta with
  | true => exact .inl rfl
  | false => exact .inr fun e => hnn (by rw [e]; rfl)
 have hE : (tn = un ∧ ta ≠ ua) ∨ ¬ tn = un := by
  by_cases e : tn = un
  ·exact .inl ⟨e, fun e' => hne (by rw [e, e'])⟩
  ·exact .inr e
 clear hne hnn h
 have HSH := hide hsh
 clear hsh hs
 go_enter Tryd.func67, Tryd.ntmps67
 rcases hE with ⟨e, ea⟩ | e
 ·subst e
  cases ta <;> cases ua
  all_goals first
   | exact absurd rfl ea
   | skip
  all_goals first
   | have hn := hN.resolve_left (by decide)
   | skip
  all_goals
   clear hN
   go_wp2_with fail
   rw [← hw2]
   refine region_after (by kernel_rfl) (by kernel_rfl) ?_
   repeat (go_big_quiet_step ((go_at_call 60; refine call_after (HNo.out _))))
   refine wpQuiet_nil ?_
   rintro _ ⟨t, rfl⟩
   have HT3 := hide (HT.out.below t.prop)
   have HK3 := hide (HK.out.tr (keep_s2 (s := s) t.prop))
   have p0 := q0 t
   have p1 := q1 t
   have p2 := q2 t
   have p3 := q3 t
   have hl0 : w.heap.size + 1 < t.val.heap.size := World.block_lt_of_cell? _ _ p2
   clear hw2
   go_wp2_with fail
   refine (HCt.out _).mono ?_
   rintro e w5 ⟨rfl, hb5⟩
   have HT5 := hide (HT3.out.below hb5)
   have HK5 := hide (HK3.out.tr (keep_s2 (s := s) hb5))
   have r0 := (hb5.cell (p := ⟨w.heap.size, 0, none⟩) (by simp; omega)).trans p0
   have r2 := (hb5.cell (p := ⟨w.heap.size + 1, 0, none⟩) (by simp; omega)).trans p2
   have r3 := (hb5.cell (p := ⟨w.heap.size + 1, 1, none⟩) (by simp; omega)).trans p3
   have hl5 := hb5.size
   clear p0 p1 p2 p3 hb5 q0 q1 q2 q3
   cases G1
   case false =>
    go_wp2_with fail
    go_ret
    exact ⟨by rw [HR.out]; rfl, HT5.out.mono (by omega), HK5.out⟩
   case true =>
    go_wp2_with fail
    refine (HCu.out _).mono ?_
    rintro e w6 ⟨rfl, hb6⟩
    have HT6 := hide (HT5.out.below hb6)
    have HK6 := hide (HK5.out.tr (keep_s2 (s := s) hb6))
    have s0 := (hb6.cell (p := ⟨w.heap.size, 0, none⟩) (by simp; omega)).trans r0
    have s2 := (hb6.cell (p := ⟨w.heap.size + 1, 0, none⟩) (by simp; omega)).trans r2
    clear r0 r2 r3 hb6
    cases G2
    case false =>
     go_wp2_with fail
     go_ret
     exact ⟨by rw [HR.out]; rfl, HT6.out.mono (by omega), HK6.out⟩
    case true =>
     go_wp2_with fail
     refine (HBe.out _ _ HT6.out (by omega)).mono ?_
     rintro e w7 ⟨rfl, ht7, hk7⟩
     have HT7 := hide ht7
     have HK7 := hide (HK6.out.tr hk7)
     clear ht7 hk7
     go_wp2
     go_ret
     exact ⟨by rw [HR.out] <;> rfl, HT7.out.mono (by omega), HK7.out⟩
 ·cases ta
  all_goals first
   | have hn := hN.resolve_left (by decide)
   | skip
  all_goals
   clear hN
   go_wp2_with fail
   rw [← hw2]
   refine region_after (by kernel_rfl) (by kernel_rfl) ?_
   repeat (go_big_quiet_step ((go_at_call 60; refine call_after (HNo.out _))))
   refine wpQuiet_nil ?_
   rintro _ ⟨t, rfl⟩
   have HT3 := hide (HT.out.below t.prop)
   have HK3 := hide (HK.out.tr (keep_s2 (s := s) t.prop))
   have p0 := q0 t
   have p1 := q1 t
   have p2 := q2 t
   have p3 := q3 t
   have hl0 : w.heap.size + 1 < t.val.heap.size := World.block_lt_of_cell? _ _ p2
   clear hw2
   go_wp2_with fail
   refine (HCt.out _).mono ?_
   rintro e w5 ⟨rfl, hb5⟩
   have HT5 := hide (HT3.out.below hb5)
   have HK5 := hide (HK3.out.tr (keep_s2 (s := s) hb5))
   have r0 := (hb5.cell (p := ⟨w.heap.size, 0, none⟩) (by simp; omega)).trans p0
   have r2 := (hb5.cell (p := ⟨w.heap.size + 1, 0, none⟩) (by simp; omega)).trans p2
   have r3 := (hb5.cell (p := ⟨w.heap.size + 1, 1, none⟩) (by simp; omega)).trans p3
   have hl5 := hb5.size
   clear p0 p1 p2 p3 hb5 q0 q1 q2 q3
   cases G1
   case false =>
    go_wp2_with fail
    go_ret
    exact ⟨by rw [HR.out]; rfl, HT5.out.mono (by omega), HK5.out⟩
   case true =>
    go_wp2_with fail
    refine (HCu.out _).mono ?_
    rintro e w6 ⟨rfl, hb6⟩
    have HT6 := hide (HT5.out.below hb6)
    have HK6 := hide (HK5.out.tr (keep_s2 (s := s) hb6))
    have s0 := (hb6.cell (p := ⟨w.heap.size, 0, none⟩) (by simp; omega)).trans r0
    have s2 := (hb6.cell (p := ⟨w.heap.size + 1, 0, none⟩) (by simp; omega)).trans r2
    clear r0 r2 r3 hb6
    cases G2
    case false =>
     go_wp2_with fail
     go_ret
     exact ⟨by rw [HR.out]; rfl, HT6.out.mono (by omega), HK6.out⟩
    case true =>
     go_wp2_with fail
     refine (HBe.out _ _ HT6.out (by omega)).mono ?_
     rintro e w7 ⟨rfl, ht7, hk7⟩
     have HT7 := hide ht7
     have HK7 := hide (HK6.out.tr hk7)
     clear ht7 hk7
     go_wp2
     go_ret
     exact ⟨by rw [HR.out] <;> rfl, HT7.out.mono (by omega), HK7.out⟩
theorem fits_any (g m s n0 : Nat) (T : List Fc) (tn : List UInt8) (ta : Bool) (un : List UInt8) (ua : Bool) (w : World) (h : Tab w g m s T n0) (hn0 : n0 ≤ 8000000000000000) (hT : T.length ≤ 8) (hs : ∀ f ∈ T, short f.su) (hsh : short tn) :
  Calls Tryd.prog 67 #[.pointer (some ⟨g, 0, none⟩), .agg #[S tn, .bool ta], .agg #[S un, .bool ua]] w
   (fun e w' => e = .returned (.bool (fitsT T ⟨tn, ta⟩ ⟨un, ua⟩)) ∧ Tab w' g m s T (n0 + 20) ∧ Keep (fun b => b = s) w w') := by
 by_cases e1 : (⟨tn, ta⟩ : Ty) = ⟨un, ua⟩
 ·injection e1 with e1 e2
  subst e1 e2
  have : fitsT T ⟨tn, ta⟩ ⟨tn, ta⟩ = true := by unfold fitsT; rw [if_pos rfl]
  rw [this]
  exact fits_same g m s n0 T tn ta w h
 ·by_cases e2 : (⟨tn, ta⟩ : Ty) = ⟨nNull, false⟩
  ·injection e2 with e2 e3
   subst e2 e3
   exact fits_null g m s n0 T un ua w h e1
  ·exact fits_else g m s n0 T tn ta un ua w h hn0 hT hs hsh e1 e2
end Go.Proofs.YtmbegaobnpoefaaDoor
namespace Go.Proofs.YtmbegaobnpoefaaDoor
open Go.RowKit
def kI : Ty := ⟨nInt, false⟩
def kB : Ty := ⟨nBool, false⟩
def kN : Ty := ⟨nNull, false⟩
def kZ : Ty := ⟨[], false⟩
def kO (n : List UInt8) : Ty := ⟨n, false⟩
def kE (t : Ty) : Ty := ⟨t.n, false⟩
def joinM (T : List Fc) (a b : Ty) : Ty × Bool :=
 if a = b then (a, true)
 else if a = kN ∧ b.obj = true then (b, true)
 else if b = kN ∧ a.obj = true then (a, true)
 else if a.cls = true ∧ b.cls = true ∧ common T a.n b.n ≠ [] then (kO (common T a.n b.n), true)
 else (kZ, false)
structure Vs where
 lo : List Ty
 st : List Ty
deriving DecidableEq
def mrg (T : List Fc) : List Ty → List Ty → List Ty
 | a :: l, b :: r => (joinM T a b).1 :: mrg T l r
 | l, _ => l
def okJ (T : List Fc) : List Ty → List Ty → Bool
 | a :: l, b :: r => (joinM T a b).2 && okJ T l r
 | _, _ => true
structure Vm where
 at_ : List (Option Vs)
 todo : List Nat
def flowM (T : List Fc) (K : Vm) (j : Nat) (s : Vs) : Option Vm :=
 if K.at_.length ≤ j then none else
 match K.at_.getD j none with
 | none => some ⟨K.at_.set j (some s), K.todo ++ [j]⟩
 | some o => if o.st.length ≠ s.st.length then none
  else if okJ T o.st s.st = true then some ⟨K.at_.set j (some ⟨mrg T o.lo s.lo, mrg T o.st s.st⟩), if mrg T o.st s.st = o.st ∧ mrg T o.lo s.lo = o.lo then K.todo else K.todo ++ [j]⟩
  else none
def popR (T : List Fc) : List Ty → List Ty → Option (List Ty)
 | [], st => some st
 | u :: ws, st => match st.getLast? with
  | none => none
  | some t => if fitsT T t u = true then popR T ws st.dropLast else none
def popM (T : List Fc) (st want : List Ty) : Option (List Ty) := popR T want.reverse st
def pushM (sk : Int) (st : List Ty) (t : Ty) : Option (List Ty) := if ((st.length + 1 : Nat) : Int) ≤ sk then some (st ++ [t]) else none
def puM (sk : Int) (t : Ty) (s : Vs) : Option Vs := (pushM sk s.st t).map (⟨s.lo, ·⟩)
def poM (T : List Fc) (want : List Ty) (s : Vs) : Option Vs := (popM T s.st want).map (⟨s.lo, ·⟩)
def ppM (T : List Fc) (sk : Int) (want : List Ty) (t : Ty) (s : Vs) : Option Vs := (poM T want s).bind (puM sk t)
def dr (s : Vs) : Vs := ⟨s.lo, s.st.dropLast⟩
def tyAt (l : List Ty) (i : Nat) : Ty := l.getD i kZ
def arrM (T : List Fc) (p : PoolP) (sk : Int) (c : Int) (a : Nat) (s : Vs) : Option Vs :=
 if c = 22 then match s.st.getLast? with
  | none => none
  | some t => if t.a = true ∨ t = kN then puM sk kI (dr s) else none
 else if (tyAt p.tys a).a = false then none
 else if c = 21 then poM T [tyAt p.tys a, kI, kE (tyAt p.tys a)] s
 else ppM T sk [tyAt p.tys a, kI] (kE (tyAt p.tys a)) s
def fdZ : FdP := ⟨⟨[], kZ⟩, []⟩
def mtZ : MtP := ⟨⟨[], false, [], kZ⟩, []⟩
def objM (T : List Fc) (p : PoolP) (sk : Int) (c : Int) (a : Nat) (s : Vs) : Option Vs :=
 if c = 18 then puM sk (kO (p.cls.getD a [])) s
 else if c = 19 then if (tyAt p.tys a).a = false then none else ppM T sk [kI] (tyAt p.tys a) s
 else if c = 23 ∨ c = 24 then match s.st.getLast? with
  | none => none
  | some t => if t.cls = true ∨ t = kN then puM sk (if c = 23 then kO (p.cls.getD a []) else kB) (dr s) else none
 else if c = 16 then ppM T sk [kO (p.fds.getD a fdZ).c] (p.fds.getD a fdZ).v.t s
 else if c = 17 then poM T [kO (p.fds.getD a fdZ).c, (p.fds.getD a fdZ).v.t] s
 else if c = 25 ∨ c = 26 then
  if (p.mts.getD a mtZ).m.st ≠ decide (c = 26) then none
  else match poM T (p.mts.getD a mtZ).m.ps s with
   | none => none
   | some s1 => if c = 25 then ppM T sk [kO (p.mts.getD a mtZ).c] (p.mts.getD a mtZ).m.r s1 else puM sk (p.mts.getD a mtZ).m.r s1
 else arrM T p sk c a s
def stepM (T : List Fc) (p : PoolP) (sk : Int) (ret : Ty) (c : Int) (a : Nat) (s : Vs) : Option Vs :=
 if c = 1 then puM sk kI s
 else if c = 32 then puM sk kB s
 else if c = 2 then puM sk kN s
 else if c = 3 then if tyAt s.lo a = kZ then none else puM sk (tyAt s.lo a) s
 else if c = 4 then match s.st.getLast? with
  | none => none
  | some t => some ⟨s.lo.set a t, s.st.dropLast⟩
 else if c = 5 ∨ c = 6 ∨ c = 7 ∨ c = 8 ∨ c = 9 then ppM T sk [kI, kI] kI s
 else if c = 10 ∨ c = 11 then ppM T sk [kI, kI] kB s
 else if c = 14 then ppM T sk [kI] kI s
 else if c = 15 then ppM T sk [kB] kB s
 else if c = 12 ∨ c = 13 then match s.st.getLast?, s.st.dropLast.getLast? with
  | some u, some v => if (c = 12 ∧ u = v ∧ u.obj = false) ∨ (c = 13 ∧ u.obj = true ∧ v.obj = true) then puM sk kB (dr (dr s)) else none
  | _, _ => none
 else if c = 30 then poM T [kI] s
 else if c = 28 then poM T [kB] s
 else if c = 31 then match s.st.getLast? with
  | none => none
  | some _ => some (dr s)
 else if c = 29 then poM T [ret] s
 else if c = 27 then some s
 else objM T p sk c a s
def nextM (T : List Fc) (p : PoolP) (sk : Int) (ret : Ty) (code : List (Int × Int)) (i : Nat) (K : Vm) : Option Vm :=
 match K.at_.getD i none with
 | none => none
 | some s => match stepM T p sk ret (code.getD i (0, 0)).1 (code.getD i (0, 0)).2.toNat s with
  | none => none
  | some s' => match (if (code.getD i (0, 0)).1 = 27 ∨ (code.getD i (0, 0)).1 = 28 then flowM T K (code.getD i (0, 0)).2.toNat s' else some K) with
   | none => none
   | some K1 => if (code.getD i (0, 0)).1 = 27 ∨ (code.getD i (0, 0)).1 = 29 then some K1 else flowM T K1 (i + 1) s'
def runM (T : List Fc) (p : PoolP) (sk : Int) (ret : Ty) (code : List (Int × Int)) : Nat → Vm → Bool
 | 0, _ => false
 | f + 1, K => match K.todo.getLast? with
  | none => true
  | some i => match nextM T p sk ret code i ⟨K.at_, K.todo.dropLast⟩ with
   | none => false
   | some K' => runM T p sk ret code f K'
theorem ch_len (T : List Fc) : ∀ (j : Nat) (nm : List UInt8) (t : List (List UInt8)), ch T j nm = some t → t.length ≤ j
 | 0, nm, t, h => by simp [ch] at h
 | j + 1, nm, t, h => by
  unfold ch at h
  split at h
  ·injection h with h; subst h; simp
  ·split at h
   ·cases hc : ch T j (faceF T nm).su with
    | none => rw [hc] at h; simp at h
    | some u =>
     rw [hc] at h
     simp at h
     subst h
     have := ch_len T j _ u hc
     simp; omega
   ·simp at h
def rk (T : List Fc) (t : Ty) : Nat :=
 if t = kZ then 0 else if t = kN then 22 else if t.cls = true then 1 + ((ch T 20 t.n).getD []).length else 1
theorem rk_le (T : List Fc) (t : Ty) : rk T t ≤ 22 := by
 unfold rk
 split
 ·omega
 ·split
  ·omega
  ·split
   ·cases h : ch T 20 t.n with
    | none => simp
    | some l => have := ch_len T 20 _ l h; simp; omega
   ·omega
theorem rk_pos {T : List Fc} {t : Ty} (h : t ≠ kZ) : 1 ≤ rk T t := by
 unfold rk
 rw [if_neg h]
 split
 ·omega
 ·split <;> omega
theorem rk_lt22 {T : List Fc} {t : Ty} (h : t ≠ kN) : rk T t < 22 := by
 unfold rk
 split
 ·omega
 ·split
  ·cases h : ch T 20 t.n with
   | none => simp
   | some l => have := ch_len T 20 _ l h; simp; omega
  ·omega
def Ends (T : List Fc) : Prop := ∀ f ∈ T, (up T 20 [] f.n).2 = true ∧ great f.n = true
theorem up_mem (T : List Fc) (x : List UInt8) : ∀ (j : Nat) (out : List (List UInt8)) (nm : List UInt8), x ∈ (up T j out nm).1 → x ∈ out ∨ (get T x).isSome = true
 | 0, out, nm, h => .inl h
 | j + 1, out, nm, h => by
  unfold up at h
  split at h
  ·exact .inl h
  ·split at h
   ·rename_i hh
    rcases up_mem T x j _ _ h with h1 | h1
    ·rcases List.mem_append.1 h1 with h2 | h2
     ·exact .inl h2
     ·rw [List.mem_singleton] at h2; subst h2; exact .inr hh.1
    ·exact .inr h1
   ·exact .inl h
theorem up_there {T : List Fc} {a x : List UInt8} (h : x ∈ (up T 20 [] a).1) : (get T a).isSome = true := by
 unfold up at h
 split at h
 ·simp at h
 ·split at h
  ·rename_i hh; exact hh.1
  ·simp at h
theorem Ends.at_ {T : List Fc} (h : Ends T) {a : List UInt8} (hg : (get T a).isSome = true) : (up T 20 [] a).2 = true := by
 obtain ⟨f, hf⟩ := Option.isSome_iff_exists.1 hg
 obtain ⟨h1, h2⟩ := get_mem hf
 rw [← h2]
 exact (h f h1).1
theorem Ends.great {T : List Fc} (h : Ends T) {a : List UInt8} (hg : (get T a).isSome = true) : great a = true := by
 obtain ⟨f, hf⟩ := Option.isSome_iff_exists.1 hg
 obtain ⟨h1, h2⟩ := get_mem hf
 rw [← h2]
 exact (h f h1).2
theorem Ends.common {T : List Fc} (h : Ends T) {a b : List UInt8} (hc : common T a b ≠ []) : Go.Proofs.YtmbegaobnpoefaaDoor.great (common T a b) = true := by
 rcases up_mem T _ 20 [] a (common_mem hc).1 with h1 | h1
 ·simp at h1
 ·exact h.great h1
theorem common_lt {T : List Fc} (hT : Ends T) {a b : List UInt8} (h : common T a b ≠ []) (hne : common T a b ≠ a) : ((ch T 20 (common T a b)).getD []).length < ((ch T 20 a).getD []).length := by
 obtain ⟨h1, _⟩ := common_mem h
 obtain ⟨ca, _⟩ := whole_ch (hT.at_ (up_there h1))
 generalize common T a b = c at *
 generalize (up T 20 [] a).1 = l at *
 obtain ⟨p, q, e⟩ := List.append_of_mem h1
 rw [e] at ca
 obtain ⟨j', hj, hx⟩ := ch_suffix T p 20 a c q ca
 have hc := ch_mono T j' c _ hx 20 hj
 rw [ca, hc]
 cases p with
 | nil =>
  exfalso
  rw [List.nil_append] at ca
  unfold ch at ca
  split at ca
  ·simp at ca
  ·split at ca
   ·cases hd : ch T 19 (faceF T a).su with
    | none => rw [hd] at ca; simp at ca
    | some u =>
     rw [hd] at ca
     simp at ca
     exact hne ca.1.symm
   ·simp at ca
 | cons y p => simp; omega
theorem join_rk {T : List Fc} (hT : Ends T) (a b : Ty) : (joinM T a b).1 = a ∨ rk T (joinM T a b).1 < rk T a := by
 unfold joinM
 split
 ·exact .inl rfl
 ·rename_i hab
  split
  ·rename_i h
   right
   have h2 : b ≠ kN := fun e => hab (by rw [h.1, e])
   have h3 : rk T a = 22 := by rw [h.1]; rfl
   rw [h3]
   exact rk_lt22 h2
  ·split
   ·exact .inl rfl
   ·split
    ·rename_i h
     obtain ⟨h1, h2, h3⟩ := h
     by_cases e : common T a.n b.n = a.n
     ·left
      show (⟨common T a.n b.n, false⟩ : Ty) = a
      rw [e]
      obtain ⟨n, ar⟩ := a
      simp only [Ty.cls, Bool.and_eq_true, Bool.not_eq_true'] at h1
      rw [h1.1]
     ·right
      have hlt := common_lt hT h3 e
      have hz : a ≠ kZ := by rintro rfl; simp [kZ, Ty.cls, great] at h1
      have hn : a ≠ kN := by rintro rfl; simp [kN, Ty.cls, great, nNull] at h1
      have ha : rk T a = 1 + ((ch T 20 a.n).getD []).length := by unfold rk; rw [if_neg hz, if_neg hn, if_pos h1]
      rw [ha]
      show rk T (kO (common T a.n b.n)) < _
      have hch : ∀ c, common T a.n b.n = c → rk T (kO c) ≤ 1 + ((ch T 20 c).getD []).length := by
       intro c hc
       have hcn : kO c ≠ kN := by
        intro e
        have e2 : c = nNull := congrArg Ty.n e
        have hg := hT.common h3
        rw [hc, e2] at hg
        exact absurd hg (by decide)
       unfold rk
       split
       ·omega
       ·split
        ·exact Nat.le_refl _
        ·omega
      exact Nat.lt_of_le_of_lt (hch _ rfl) (by omega)
    ·by_cases e : a = kZ
     ·exact .inl e.symm
     ·right
      show rk T kZ < _
      have h1 := rk_pos (T := T) e
      have h0 : rk T kZ = 0 := by unfold rk; rw [if_pos rfl]
      omega
theorem mrg_len (T : List Fc) : ∀ o s : List Ty, (mrg T o s).length = o.length
 | [], s => by cases s <;> rfl
 | a :: l, [] => rfl
 | a :: l, b :: r => by simp [mrg, mrg_len T l r]
theorem mrg_rk {T : List Fc} (hT : Ends T) : ∀ o s : List Ty, mrg T o s = o ∨ ((mrg T o s).map (rk T)).sum < (o.map (rk T)).sum
 | [], s => by left; cases s <;> rfl
 | a :: l, [] => .inl rfl
 | a :: l, b :: r => by
  have h1 := join_rk hT a b
  have h2 := mrg_rk hT l r
  simp only [mrg, List.map_cons, List.sum_cons]
  rcases h1 with h1 | h1
  ·rw [h1]
   rcases h2 with h2 | h2
   ·left; rw [h2]
   ·right; omega
  ·right
   rcases h2 with h2 | h2
   ·rw [h2]; omega
   ·omega
def rkS (T : List Fc) (s : Vs) : Nat := (s.lo.map (rk T)).sum + (s.st.map (rk T)).sum
def pot (T : List Fc) (M : Nat) : Option Vs → Nat
 | none => M
 | some s => rkS T s
theorem sum_set {α : Type} (f : α → Nat) : ∀ (l : List α) (j : Nat) (x y : α), l[j]? = some y → ((l.set j x).map f).sum + f y = (l.map f).sum + f x
 | [], j, x, y, h => by simp at h
 | a :: l, 0, x, y, h => by simp at h; subst h; simp; omega
 | a :: l, j + 1, x, y, h => by
  have := sum_set f l j x y (by simpa using h)
  simp only [List.set_cons_succ, List.map_cons, List.sum_cons]
  omega
def Fit (nl : Nat) (sk : Int) (s : Vs) : Prop := s.lo.length = nl ∧ (s.st.length : Int) ≤ sk
theorem sum_rk (T : List Fc) : ∀ l : List Ty, (l.map (rk T)).sum ≤ 22 * l.length
 | [] => by simp
 | a :: l => by
  have h1 := sum_rk T l
  have h2 := rk_le T a
  simp only [List.map_cons, List.sum_cons, List.length_cons]
  omega
theorem Fit.rk {T : List Fc} {nl : Nat} {sk : Int} {s : Vs} (h : Fit nl sk s) : rkS T s ≤ 22 * (nl + sk.toNat) := by
 have h1 := sum_rk T s.lo
 have h2 := sum_rk T s.st
 have h3 := h.1
 have h4 := h.2
 unfold rkS
 omega
structure Gd (nl : Nat) (sk : Int) (n : Nat) (K : Vm) : Prop where
 len : K.at_.length = n
 fit : ∀ s, some s ∈ K.at_ → Fit nl sk s
 td : ∀ i ∈ K.todo, ∃ s, K.at_[i]? = some (some s)
def mu (T : List Fc) (nl : Nat) (sk : Int) (K : Vm) : Nat := 2 * (K.at_.map (pot T (22 * (nl + sk.toNat) + 1))).sum + K.todo.length
theorem getD_some {α : Type} {l : List α} {j : Nat} {d : α} (h : j < l.length) : l[j]? = some (l.getD j d) := by
 rw [List.getD_eq_getElem?_getD, List.getElem?_eq_getElem h]; rfl
theorem td_set {l : List (Option Vs)} {j i : Nat} {x : Vs} (h : ∃ s, l[i]? = some (some s)) : ∃ s, (l.set j (some x))[i]? = some (some s) := by
 obtain ⟨s, hs⟩ := h
 by_cases e : j = i
 ·subst e
  have hl : j < l.length := (List.getElem?_eq_some_iff.1 hs).1
  exact ⟨x, by rw [List.getElem?_set_self hl]⟩
 ·exact ⟨s, by rw [List.getElem?_set_ne e]; exact hs⟩
theorem flow_gd {T : List Fc} (hT : Ends T) {nl : Nat} {sk : Int} {n j : Nat} {K K' : Vm} {s : Vs} (hK : Gd nl sk n K) (hs : Fit nl sk s) (h : flowM T K j s = some K') : Gd nl sk n K' ∧ mu T nl sk K' ≤ mu T nl sk K := by
 unfold flowM at h
 split at h
 ·cases h
 ·rename_i hj
  have hj : j < K.at_.length := by omega
  have hg := getD_some (d := none) hj
  split at h
  ·rename_i e
   rw [e] at hg
   injection h with h
   subst h
   refine ⟨⟨by simp [hK.len], fun x hx => ?_, fun i hi => ?_⟩, ?_⟩
   ·rcases List.mem_or_eq_of_mem_set hx with h1 | h1
    ·exact hK.fit x h1
    ·injection h1 with h1; rw [h1]; exact hs
   ·rcases List.mem_append.1 hi with h1 | h1
    ·exact td_set (hK.td i h1)
    ·rw [List.mem_singleton] at h1
     subst h1
     exact ⟨s, by simp [hj]⟩
   ·have h1 := sum_set (pot T (22 * (nl + sk.toNat) + 1)) K.at_ j (some s) none hg
    have h2 := hs.rk (T := T)
    unfold mu
    simp only [pot, List.length_append, List.length_singleton] at h1 ⊢
    omega
  ·rename_i o e
   rw [e] at hg
   have ho : Fit nl sk o := hK.fit o (List.mem_of_getElem? hg)
   split at h
   ·cases h
   ·rename_i hl
    split at h
    ·injection h with h
     have hf : Fit nl sk ⟨mrg T o.lo s.lo, mrg T o.st s.st⟩ := ⟨by rw [mrg_len]; exact ho.1, by rw [mrg_len]; exact ho.2⟩
     have h1 := sum_set (pot T (22 * (nl + sk.toNat) + 1)) K.at_ j (some ⟨mrg T o.lo s.lo, mrg T o.st s.st⟩) (some o) hg
     subst h
     refine ⟨⟨by simp [hK.len], fun x hx => ?_, fun i hi => ?_⟩, ?_⟩
     ·rcases List.mem_or_eq_of_mem_set hx with h1 | h1
      ·exact hK.fit x h1
      ·injection h1 with h1; rw [h1]; exact hf
     ·have : i ∈ K.todo ∨ i = j := by
       revert hi
       dsimp only
       split
       ·exact .inl
       ·intro hi
        rcases List.mem_append.1 hi with h1 | h1
        ·exact .inl h1
        ·rw [List.mem_singleton] at h1; exact .inr h1
      rcases this with h2 | h2
      ·exact td_set (hK.td i h2)
      ·subst h2
       exact ⟨_, by rw [List.getElem?_set_self hj]⟩
     ·simp only [pot, rkS] at h1
      unfold mu
      dsimp only
      rcases mrg_rk hT o.st s.st with h2 | h2
      ·rcases mrg_rk hT o.lo s.lo with h3 | h3
       ·rw [if_pos ⟨h2, h3⟩]
        rw [h2, h3] at h1 ⊢
        omega
       ·rw [if_neg (fun hh => by rw [hh.2] at h3; omega)]
        rw [h2] at h1 ⊢
        simp only [List.length_append, List.length_singleton]
        omega
      ·rw [if_neg (fun hh => by rw [hh.1] at h2; omega)]
       simp only [List.length_append, List.length_singleton]
       rcases mrg_rk hT o.lo s.lo with h3 | h3
       ·rw [h3] at h1 ⊢
        omega
       ·omega
    ·cases h
theorem popR_len {T : List Fc} : ∀ (ws st r : List Ty), popR T ws st = some r → r.length ≤ st.length
 | [], st, r, h => by injection h with h; rw [h]; exact Nat.le_refl _
 | u :: ws, st, r, h => by
  unfold popR at h
  split at h
  ·cases h
  ·split at h
   ·have := popR_len ws _ r h
    rw [List.length_dropLast] at this
    omega
   ·cases h
theorem po_fit {T : List Fc} {nl : Nat} {sk : Int} {want : List Ty} {s s' : Vs} (hs : Fit nl sk s) (h : poM T want s = some s') : Fit nl sk s' := by
 unfold poM at h
 rw [Option.map_eq_some_iff] at h
 obtain ⟨r, hr, rfl⟩ := h
 have := popR_len _ _ _ hr
 have h2 := hs.2
 exact ⟨hs.1, by show (r.length : Int) ≤ sk; omega⟩
theorem pu_fit {nl : Nat} {sk : Int} {t : Ty} {s s' : Vs} (hs : Fit nl sk s) (h : puM sk t s = some s') : Fit nl sk s' := by
 unfold puM at h
 rw [Option.map_eq_some_iff] at h
 obtain ⟨r, hr, rfl⟩ := h
 unfold pushM at hr
 split at hr
 ·rename_i hl
  injection hr with hr
  subst hr
  exact ⟨hs.1, by simpa using hl⟩
 ·cases hr
theorem pp_fit {T : List Fc} {nl : Nat} {sk : Int} {want : List Ty} {t : Ty} {s s' : Vs} (hs : Fit nl sk s) (h : ppM T sk want t s = some s') : Fit nl sk s' := by
 unfold ppM at h
 rw [Option.bind_eq_some_iff] at h
 obtain ⟨r, hr, h⟩ := h
 exact pu_fit (po_fit hs hr) h
theorem dr_fit {nl : Nat} {sk : Int} {s : Vs} (hs : Fit nl sk s) : Fit nl sk (dr s) := ⟨hs.1, by have := hs.2; simp only [dr, List.length_dropLast]; omega⟩
theorem arr_fit {T : List Fc} {p : PoolP} {nl : Nat} {sk : Int} {c : Int} {a : Nat} {s s' : Vs} (hs : Fit nl sk s) (h : arrM T p sk c a s = some s') : Fit nl sk s' := by
 unfold arrM at h
 split at h
 ·split at h
  ·cases h
  ·split at h
   ·exact pu_fit (dr_fit hs) h
   ·cases h
 ·split at h
  ·cases h
  ·split at h
   ·exact po_fit hs h
   ·exact pp_fit hs h
theorem obj_fit {T : List Fc} {p : PoolP} {nl : Nat} {sk : Int} {c : Int} {a : Nat} {s s' : Vs} (hs : Fit nl sk s) (h : objM T p sk c a s = some s') : Fit nl sk s' := by
 unfold objM at h
 split at h
 ·exact pu_fit hs h
 ·split at h
  ·split at h
   ·cases h
   ·exact pp_fit hs h
  ·split at h
   ·split at h
    ·cases h
    ·split at h
     ·exact pu_fit (dr_fit hs) h
     ·cases h
   ·split at h
    ·exact pp_fit hs h
    ·split at h
     ·exact po_fit hs h
     ·split at h
      ·split at h
       ·cases h
       ·split at h
        ·cases h
        ·rename_i s1 h1
         split at h
         ·exact pp_fit (po_fit hs h1) h
         ·exact pu_fit (po_fit hs h1) h
      ·exact arr_fit hs h
theorem step_fit {T : List Fc} {p : PoolP} {nl : Nat} {sk : Int} {ret : Ty} {c : Int} {a : Nat} {s s' : Vs} (hs : Fit nl sk s) (h : stepM T p sk ret c a s = some s') : Fit nl sk s' := by
 unfold stepM at h
 by_cases e : c = 1
 ·rw [if_pos e] at h
  exact pu_fit hs h
 rw [if_neg e] at h
 clear e
 by_cases e : c = 32
 ·rw [if_pos e] at h
  exact pu_fit hs h
 rw [if_neg e] at h
 clear e
 by_cases e : c = 2
 ·rw [if_pos e] at h
  exact pu_fit hs h
 rw [if_neg e] at h
 clear e
 by_cases e : c = 3
 ·rw [if_pos e] at h
  split at h <;> first | (cases h; done) | exact pu_fit hs h
 rw [if_neg e] at h
 clear e
 by_cases e : c = 4
 ·rw [if_pos e] at h
  split at h <;> first | (cases h; done) | (injection h with h; subst h; exact ⟨by simp [hs.1], by have := hs.2; simp only [List.length_dropLast]; omega⟩)
 rw [if_neg e] at h
 clear e
 by_cases e : c = 5 ∨ c = 6 ∨ c = 7 ∨ c = 8 ∨ c = 9
 ·rw [if_pos e] at h
  exact pp_fit hs h
 rw [if_neg e] at h
 clear e
 by_cases e : c = 10 ∨ c = 11
 ·rw [if_pos e] at h
  exact pp_fit hs h
 rw [if_neg e] at h
 clear e
 by_cases e : c = 14
 ·rw [if_pos e] at h
  exact pp_fit hs h
 rw [if_neg e] at h
 clear e
 by_cases e : c = 15
 ·rw [if_pos e] at h
  exact pp_fit hs h
 rw [if_neg e] at h
 clear e
 by_cases e : c = 12 ∨ c = 13
 ·rw [if_pos e] at h
  split at h
  ·split at h
   ·exact pu_fit (dr_fit (dr_fit hs)) h
   ·cases h
  ·cases h
 rw [if_neg e] at h
 clear e
 by_cases e : c = 30
 ·rw [if_pos e] at h
  exact po_fit hs h
 rw [if_neg e] at h
 clear e
 by_cases e : c = 28
 ·rw [if_pos e] at h
  exact po_fit hs h
 rw [if_neg e] at h
 clear e
 by_cases e : c = 31
 ·rw [if_pos e] at h
  split at h <;> first | (cases h; done) | (injection h with h; subst h; exact dr_fit hs)
 rw [if_neg e] at h
 clear e
 by_cases e : c = 29
 ·rw [if_pos e] at h
  exact po_fit hs h
 rw [if_neg e] at h
 clear e
 by_cases e : c = 27
 ·rw [if_pos e] at h
  injection h with h; subst h; exact hs
 rw [if_neg e] at h
 clear e
 exact obj_fit hs h
theorem Gd.pop {nl : Nat} {sk : Int} {n : Nat} {K : Vm} (h : Gd nl sk n K) : Gd nl sk n ⟨K.at_, K.todo.dropLast⟩ := ⟨h.len, h.fit, fun i hi => h.td i (List.dropLast_subset _ hi)⟩
theorem next_gd {T : List Fc} (hT : Ends T) {p : PoolP} {nl : Nat} {sk : Int} {n i : Nat} {ret : Ty} {code : List (Int × Int)} {K K' : Vm} (hK : Gd nl sk n K) (h : nextM T p sk ret code i K = some K') : Gd nl sk n K' ∧ mu T nl sk K' ≤ mu T nl sk K := by
 unfold nextM at h
 split at h
 ·cases h
 ·rename_i s hs
  have hf : Fit nl sk s := hK.fit s (by
   by_cases hi : i < K.at_.length
   ·have := getD_some (d := none) hi
    rw [hs] at this
    exact List.mem_of_getElem? this
   ·rw [List.getD_eq_getElem?_getD, List.getElem?_eq_none (by omega)] at hs
    cases hs)
  split at h
  ·cases h
  ·rename_i s' h1
   have hf1 := step_fit hf h1
   split at h
   ·cases h
   ·rename_i K1 h2
    have hK1 : Gd nl sk n K1 ∧ mu T nl sk K1 ≤ mu T nl sk K := by
     split at h2
     ·exact flow_gd hT hK hf1 h2
     ·injection h2 with h2; subst h2; exact ⟨hK, Nat.le_refl _⟩
    split at h
    ·injection h with h; subst h; exact hK1
    ·have := flow_gd hT hK1.1 hf1 h
     exact ⟨this.1, Nat.le_trans this.2 hK1.2⟩
theorem mu_pop {T : List Fc} {nl : Nat} {sk : Int} {K : Vm} (h : K.todo ≠ []) : mu T nl sk ⟨K.at_, K.todo.dropLast⟩ < mu T nl sk K := by
 have := List.length_pos_iff.2 h
 unfold mu
 simp only [List.length_dropLast]
 omega
end Go.Proofs.YtmbegaobnpoefaaDoor
