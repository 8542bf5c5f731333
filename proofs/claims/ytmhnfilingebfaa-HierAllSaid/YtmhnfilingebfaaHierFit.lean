/- Which type fits where another one is wanted, walked; no statement of the seat is proved here. -/
import Derived.Test.YtmhnfilingebfaaHierKnownT
namespace Go.Proofs.Ytmhnfilingebfaa
open Go.RowKit

def fitsT (T : List Fc) (t u : Ty) : Bool := if t = u then true else if t = ⟨nNull, false⟩ then u.obj else t.cls && (u.cls && decide (u.n ∈ (up T 20 [] t.n).1))

set_option maxRecDepth 100000 in
set_option maxHeartbeats 1500000 in
theorem fits_same (g m s n0 : Nat) (T : List Fc) (tn : List UInt8) (ta : Bool) (w : World) (h : Tab w g m s T n0) :
    Calls Try.prog 21 #[.pointer (some ⟨g, 0, none⟩), .agg #[S tn, .bool ta], .agg #[S tn, .bool ta]] w
      (fun e w' => e = .returned (.bool true) ∧ Tab w' g m s T (n0 + 20) ∧ Keep (fun b => b = s) w w') := by
  have HT := hide ((h.alloc (.cells #[S tn, .bool ta] 45)).alloc (.cells #[S tn, .bool ta] 45))
  have HK := hide (((Keep.refl (fun b => b = s) w).alloc (.cells #[S tn, .bool ta] 45)).alloc (.cells #[S tn, .bool ta] 45))
  clear h
  go_enter Try.func21, Try.ntmps21
  go_wp2_with fail
  go_ret
  exact ⟨rfl, HT.out.mono (by omega), HK.out⟩

set_option maxRecDepth 100000 in
set_option maxHeartbeats 1500000 in
theorem fits_null (g m s n0 : Nat) (T : List Fc) (un : List UInt8) (ua : Bool) (w : World) (h : Tab w g m s T n0) (hne : (⟨nNull, false⟩ : Ty) ≠ ⟨un, ua⟩) :
    Calls Try.prog 21 #[.pointer (some ⟨g, 0, none⟩), .agg #[S [110, 117, 108, 108], .bool false], .agg #[S un, .bool ua]] w
      (fun e w' => e = .returned (.bool (fitsT T ⟨nNull, false⟩ ⟨un, ua⟩)) ∧ Tab w' g m s T (n0 + 20) ∧ Keep (fun b => b = s) w w') := by
  have HR : Hid (fitsT T ⟨nNull, false⟩ ⟨un, ua⟩ = Ty.obj ⟨un, ua⟩) := hide (by unfold fitsT; rw [if_neg hne, if_pos rfl])
  rw [HR.out]
  have HOB := hide (object_any un ua)
  obtain ⟨O, hO⟩ : ∃ O, O = Ty.obj ⟨un, ua⟩ := ⟨_, rfl⟩
  rw [← hO] at HOB
  rw [← hO]
  have HNE := hide hne
  have HNo : Hid (∀ w, Calls Try.prog 35 #[] w (Gives w (.agg #[S [110, 117, 108, 108], .bool false]))) := hide nothing_any
  obtain ⟨w2, hw2⟩ : ∃ w2, w2 = (w.alloc (.cells #[.string { data := #[110, 117, 108, 108] }, .bool false] 45)).alloc (.cells #[S un, .bool ua] 45) := ⟨_, rfl⟩
  have ht2 : Tab w2 g m s T n0 := by rw [hw2]; exact (h.alloc _).alloc _
  have hk2 : Keep (fun b => b = s) w w2 := by rw [hw2]; exact ((Keep.refl _ w).alloc _).alloc _
  have hb1 : Blk w2 w.heap.size 45 #[.string { data := #[110, 117, 108, 108] }, .bool false] := by rw [hw2]; exact (Blk.new _ _ _).alloc _
  have hb2 : Blk w2 (w.heap.size + 1) 45 #[S un, .bool ua] := by
    rw [hw2]
    have := Blk.new (w.alloc (.cells #[.string { data := #[110, 117, 108, 108] }, .bool false] 45)) 45 #[S un, .bool ua]
    rwa [World.size_alloc] at this
  have q0 : ∀ t : After w2, t.val.cell? ⟨w.heap.size, 0, none⟩ = some (.string { data := #[110, 117, 108, 108] }) := fun t => (hb1.below t.prop hb1.lt).cell 0
  have q1 : ∀ t : After w2, t.val.cell? ⟨w.heap.size, 1, none⟩ = some (.bool false) := fun t => (hb1.below t.prop hb1.lt).cell 1
  have q2 : ∀ t : After w2, t.val.cell? ⟨w.heap.size + 1, 0, none⟩ = some (S un) := fun t => (hb2.below t.prop hb2.lt).cell 0
  have q3 : ∀ t : After w2, t.val.cell? ⟨w.heap.size + 1, 1, none⟩ = some (.bool ua) := fun t => (hb2.below t.prop hb2.lt).cell 1
  have HT := hide ht2
  have HK := hide hk2
  clear ht2 hk2 hb1 hb2 hO hne HR
  by_cases e : un = [110, 117, 108, 108]
  · subst e
    cases ua with
    | false => exact absurd rfl HNE.out
    | true =>
      go_enter Try.func21, Try.ntmps21
      go_wp2_with fail
      all_goals
        rw [← hw2]
        refine region_after (by kernel_rfl) (by kernel_rfl) ?_
        repeat (go_big_quiet_step ((go_at_call 35; refine call_after (HNo.out _))))
        refine wpQuiet_nil ?_
        rintro _ ⟨t, rfl⟩
        have HT3 := hide (HT.out.below t.prop)
        have HK3 := hide (HK.out.trans' (keep_s2 (s := s) t.prop) (fun _ _ h => h))
        have p2 := q2 t
        have p3 := q3 t
        go_wp2_with fail
        refine (HOB.out _).mono ?_
        rintro e w5 ⟨rfl, hb5⟩
        have HT5 := hide (HT3.out.below hb5)
        have HK5 := hide (HK3.out.trans' (keep_s2 (s := s) hb5) (fun _ _ h => h))
        go_wp2
        go_ret
        exact ⟨rfl, HT5.out.mono (by omega), HK5.out⟩
  · have e' : ¬ ([110, 117, 108, 108] : List UInt8) = un := fun h => e h.symm
    go_enter Try.func21, Try.ntmps21
    go_wp2_with fail
    all_goals
      rw [← hw2]
      refine region_after (by kernel_rfl) (by kernel_rfl) ?_
      repeat (go_big_quiet_step ((go_at_call 35; refine call_after (HNo.out _))))
      refine wpQuiet_nil ?_
      rintro _ ⟨t, rfl⟩
      have HT3 := hide (HT.out.below t.prop)
      have HK3 := hide (HK.out.trans' (keep_s2 (s := s) t.prop) (fun _ _ h => h))
      have p2 := q2 t
      have p3 := q3 t
      go_wp2_with fail
      refine (HOB.out _).mono ?_
      rintro e w5 ⟨rfl, hb5⟩
      have HT5 := hide (HT3.out.below hb5)
      have HK5 := hide (HK3.out.trans' (keep_s2 (s := s) hb5) (fun _ _ h => h))
      go_wp2
      go_ret
      exact ⟨rfl, HT5.out.mono (by omega), HK5.out⟩

set_option maxRecDepth 100000 in
set_option maxHeartbeats 2000000 in
theorem fits_else (g m s n0 : Nat) (T : List Fc) (tn : List UInt8) (ta : Bool) (un : List UInt8) (ua : Bool) (w : World) (h : Tab w g m s T n0) (hn0 : n0 ≤ 800000) (hT : T.length ≤ 8) (hs : ∀ f ∈ T, short f.su) (hsh : short tn)
    (hne : (⟨tn, ta⟩ : Ty) ≠ ⟨un, ua⟩) (hnn : (⟨tn, ta⟩ : Ty) ≠ ⟨nNull, false⟩) :
    Calls Try.prog 21 #[.pointer (some ⟨g, 0, none⟩), .agg #[S tn, .bool ta], .agg #[S un, .bool ua]] w
      (fun e w' => e = .returned (.bool (fitsT T ⟨tn, ta⟩ ⟨un, ua⟩)) ∧ Tab w' g m s T (n0 + 20) ∧ Keep (fun b => b = s) w w') := by
  obtain ⟨R, hR⟩ : ∃ R, R = fitsT T ⟨tn, ta⟩ ⟨un, ua⟩ := ⟨_, rfl⟩
  rw [← hR]
  have HCt := hide (class_any tn ta)
  have HCu := hide (class_any un ua)
  have HBe := hide (fun w nn (h : Tab w g m s T nn) (h1 : nn ≤ 900000) => below_any g m s nn T tn un w h h1 hT hs hsh)
  unfold fitsT at hR
  rw [if_neg hne, if_neg hnn] at hR
  simp only at hR
  obtain ⟨G1, hG1⟩ : ∃ G1, G1 = Ty.cls ⟨tn, ta⟩ := ⟨_, rfl⟩
  obtain ⟨G2, hG2⟩ : ∃ G2, G2 = Ty.cls ⟨un, ua⟩ := ⟨_, rfl⟩
  obtain ⟨B, hB⟩ : ∃ B, B = decide (un ∈ (up T 20 [] tn).1) := ⟨_, rfl⟩
  rw [← hG1] at HCt hR
  rw [← hG2] at HCu hR
  rw [← hB] at HBe hR
  have HR := hide hR
  have HNo : Hid (∀ w, Calls Try.prog 35 #[] w (Gives w (.agg #[S [110, 117, 108, 108], .bool false]))) := hide nothing_any
  clear hG1 hG2 hB hR
  obtain ⟨w2, hw2⟩ : ∃ w2, w2 = (w.alloc (.cells #[S tn, .bool ta] 45)).alloc (.cells #[S un, .bool ua] 45) := ⟨_, rfl⟩
  have ht2 : Tab w2 g m s T n0 := by rw [hw2]; exact (h.alloc _).alloc _
  have hk2 : Keep (fun b => b = s) w w2 := by rw [hw2]; exact ((Keep.refl _ w).alloc _).alloc _
  have hb1 : Blk w2 w.heap.size 45 #[S tn, .bool ta] := by rw [hw2]; exact (Blk.new _ _ _).alloc _
  have hb2 : Blk w2 (w.heap.size + 1) 45 #[S un, .bool ua] := by
    rw [hw2]
    have := Blk.new (w.alloc (.cells #[S tn, .bool ta] 45)) 45 #[S un, .bool ua]
    rwa [World.size_alloc] at this
  have q0 : ∀ t : After w2, t.val.cell? ⟨w.heap.size, 0, none⟩ = some (S tn) := fun t => (hb1.below t.prop hb1.lt).cell 0
  have q1 : ∀ t : After w2, t.val.cell? ⟨w.heap.size, 1, none⟩ = some (.bool ta) := fun t => (hb1.below t.prop hb1.lt).cell 1
  have q2 : ∀ t : After w2, t.val.cell? ⟨w.heap.size + 1, 0, none⟩ = some (S un) := fun t => (hb2.below t.prop hb2.lt).cell 0
  have q3 : ∀ t : After w2, t.val.cell? ⟨w.heap.size + 1, 1, none⟩ = some (.bool ua) := fun t => (hb2.below t.prop hb2.lt).cell 1
  have HT := hide ht2
  have HK := hide hk2
  clear ht2 hk2 hb1 hb2
  have hN : ta = true ∨ ¬ tn = [110, 117, 108, 108] := by
    cases ta with
    | true => exact .inl rfl
    | false => exact .inr fun e => hnn (by rw [e]; rfl)
  have hE : (tn = un ∧ ta ≠ ua) ∨ ¬ tn = un := by
    by_cases e : tn = un
    · exact .inl ⟨e, fun e' => hne (by rw [e, e'])⟩
    · exact .inr e
  clear hne hnn h
  have HSH := hide hsh
  clear hsh hs
  go_enter Try.func21, Try.ntmps21
  rcases hE with ⟨e, ea⟩ | e
  · subst e
    cases ta <;> cases ua
    all_goals first
      | exact absurd rfl ea
      | skip
    all_goals first
      | have hn := hN.resolve_left (by decide)
      | skip
    all_goals
      clear hN
      go_wp2_with fail
      rw [← hw2]
      refine region_after (by kernel_rfl) (by kernel_rfl) ?_
      repeat (go_big_quiet_step ((go_at_call 35; refine call_after (HNo.out _))))
      refine wpQuiet_nil ?_
      rintro _ ⟨t, rfl⟩
      have HT3 := hide (HT.out.below t.prop)
      have HK3 := hide (HK.out.trans' (keep_s2 (s := s) t.prop) (fun _ _ h => h))
      have p0 := q0 t
      have p1 := q1 t
      have p2 := q2 t
      have p3 := q3 t
      have hl0 : w.heap.size + 1 < t.val.heap.size := World.block_lt_of_cell? _ _ p2
      clear hw2
      go_wp2_with fail
      refine (HCt.out _).mono ?_
      rintro e w5 ⟨rfl, hb5⟩
      have HT5 := hide (HT3.out.below hb5)
      have HK5 := hide (HK3.out.trans' (keep_s2 (s := s) hb5) (fun _ _ h => h))
      have r0 := (hb5.cell (p := ⟨w.heap.size, 0, none⟩) (by simp; omega)).trans p0
      have r2 := (hb5.cell (p := ⟨w.heap.size + 1, 0, none⟩) (by simp; omega)).trans p2
      have r3 := (hb5.cell (p := ⟨w.heap.size + 1, 1, none⟩) (by simp; omega)).trans p3
      have hl5 := hb5.size
      clear p0 p1 p2 p3 hb5 q0 q1 q2 q3
      cases G1
      case false =>
        go_wp2_with fail
        go_ret
        exact ⟨by rw [HR.out]; rfl, HT5.out.mono (by omega), HK5.out⟩
      case true =>
        go_wp2_with fail
        refine (HCu.out _).mono ?_
        rintro e w6 ⟨rfl, hb6⟩
        have HT6 := hide (HT5.out.below hb6)
        have HK6 := hide (HK5.out.trans' (keep_s2 (s := s) hb6) (fun _ _ h => h))
        have s0 := (hb6.cell (p := ⟨w.heap.size, 0, none⟩) (by simp; omega)).trans r0
        have s2 := (hb6.cell (p := ⟨w.heap.size + 1, 0, none⟩) (by simp; omega)).trans r2
        clear r0 r2 r3 hb6
        cases G2
        case false =>
          go_wp2_with fail
          go_ret
          exact ⟨by rw [HR.out]; rfl, HT6.out.mono (by omega), HK6.out⟩
        case true =>
          go_wp2_with fail
          refine (HBe.out _ _ HT6.out (by omega)).mono ?_
          rintro e w7 ⟨rfl, ht7, hk7⟩
          have HT7 := hide ht7
          have HK7 := hide (HK6.out.trans' hk7 (fun _ _ h => h))
          clear ht7 hk7
          go_wp2
          go_ret
          exact ⟨by rw [HR.out] <;> rfl, HT7.out.mono (by omega), HK7.out⟩
  · cases ta
    all_goals first
      | have hn := hN.resolve_left (by decide)
      | skip
    all_goals
      clear hN
      go_wp2_with fail
      rw [← hw2]
      refine region_after (by kernel_rfl) (by kernel_rfl) ?_
      repeat (go_big_quiet_step ((go_at_call 35; refine call_after (HNo.out _))))
      refine wpQuiet_nil ?_
      rintro _ ⟨t, rfl⟩
      have HT3 := hide (HT.out.below t.prop)
      have HK3 := hide (HK.out.trans' (keep_s2 (s := s) t.prop) (fun _ _ h => h))
      have p0 := q0 t
      have p1 := q1 t
      have p2 := q2 t
      have p3 := q3 t
      have hl0 : w.heap.size + 1 < t.val.heap.size := World.block_lt_of_cell? _ _ p2
      clear hw2
      go_wp2_with fail
      refine (HCt.out _).mono ?_
      rintro e w5 ⟨rfl, hb5⟩
      have HT5 := hide (HT3.out.below hb5)
      have HK5 := hide (HK3.out.trans' (keep_s2 (s := s) hb5) (fun _ _ h => h))
      have r0 := (hb5.cell (p := ⟨w.heap.size, 0, none⟩) (by simp; omega)).trans p0
      have r2 := (hb5.cell (p := ⟨w.heap.size + 1, 0, none⟩) (by simp; omega)).trans p2
      have r3 := (hb5.cell (p := ⟨w.heap.size + 1, 1, none⟩) (by simp; omega)).trans p3
      have hl5 := hb5.size
      clear p0 p1 p2 p3 hb5 q0 q1 q2 q3
      cases G1
      case false =>
        go_wp2_with fail
        go_ret
        exact ⟨by rw [HR.out]; rfl, HT5.out.mono (by omega), HK5.out⟩
      case true =>
        go_wp2_with fail
        refine (HCu.out _).mono ?_
        rintro e w6 ⟨rfl, hb6⟩
        have HT6 := hide (HT5.out.below hb6)
        have HK6 := hide (HK5.out.trans' (keep_s2 (s := s) hb6) (fun _ _ h => h))
        have s0 := (hb6.cell (p := ⟨w.heap.size, 0, none⟩) (by simp; omega)).trans r0
        have s2 := (hb6.cell (p := ⟨w.heap.size + 1, 0, none⟩) (by simp; omega)).trans r2
        clear r0 r2 r3 hb6
        cases G2
        case false =>
          go_wp2_with fail
          go_ret
          exact ⟨by rw [HR.out]; rfl, HT6.out.mono (by omega), HK6.out⟩
        case true =>
          go_wp2_with fail
          refine (HBe.out _ _ HT6.out (by omega)).mono ?_
          rintro e w7 ⟨rfl, ht7, hk7⟩
          have HT7 := hide ht7
          have HK7 := hide (HK6.out.trans' hk7 (fun _ _ h => h))
          clear ht7 hk7
          go_wp2
          go_ret
          exact ⟨by rw [HR.out] <;> rfl, HT7.out.mono (by omega), HK7.out⟩

theorem fits_any (g m s n0 : Nat) (T : List Fc) (tn : List UInt8) (ta : Bool) (un : List UInt8) (ua : Bool) (w : World) (h : Tab w g m s T n0) (hn0 : n0 ≤ 800000) (hT : T.length ≤ 8) (hs : ∀ f ∈ T, short f.su) (hsh : short tn) :
    Calls Try.prog 21 #[.pointer (some ⟨g, 0, none⟩), .agg #[S tn, .bool ta], .agg #[S un, .bool ua]] w
      (fun e w' => e = .returned (.bool (fitsT T ⟨tn, ta⟩ ⟨un, ua⟩)) ∧ Tab w' g m s T (n0 + 20) ∧ Keep (fun b => b = s) w w') := by
  by_cases e1 : (⟨tn, ta⟩ : Ty) = ⟨un, ua⟩
  · injection e1 with e1 e2
    subst e1 e2
    have : fitsT T ⟨tn, ta⟩ ⟨tn, ta⟩ = true := by unfold fitsT; rw [if_pos rfl]
    rw [this]
    exact fits_same g m s n0 T tn ta w h
  · by_cases e2 : (⟨tn, ta⟩ : Ty) = ⟨nNull, false⟩
    · injection e2 with e2 e3
      subst e2 e3
      exact fits_null g m s n0 T un ua w h e1
    · exact fits_else g m s n0 T tn ta un ua w h hn0 hT hs hsh e1 e2

set_option maxRecDepth 100000 in
theorem great_any (n : List UInt8) (w : World) : Calls Try.prog 20 #[S n] w (fun e w' => e = .returned (.bool (great n)) ∧ w' = w) := by
  rcases n with _ | ⟨c, r⟩
  · go_enter Try.func20, Try.ntmps20
    go_wp2_with fail
    go_ret
    exact ⟨rfl, rfl⟩
  · by_cases h1 : 65 ≤ (c.toNat : Int)
    · have d1 : decide (65 ≤ (c.toNat : Int)) = true := by simpa using h1
      by_cases h2 : (c.toNat : Int) ≤ 90
      · have d2 : decide ((c.toNat : Int) ≤ 90) = true := by simpa using h2
        have H : Hid (great (c :: r) = true) := hide (by simp [great, d1, d2])
        go_enter Try.func20, Try.ntmps20
        go_wp2_with fail
        go_ret
        exact ⟨by rw [H.out] <;> rfl, rfl⟩
      · have d2 : decide ((c.toNat : Int) ≤ 90) = false := by simpa using h2
        have H : Hid (great (c :: r) = false) := hide (by simp [great, d1, d2])
        go_enter Try.func20, Try.ntmps20
        go_wp2_with fail
        go_ret
        exact ⟨by rw [H.out] <;> rfl, rfl⟩
    · have d1 : decide (65 ≤ (c.toNat : Int)) = false := by simpa using h1
      have H : Hid (great (c :: r) = false) := hide (by simp [great, d1])
      go_enter Try.func20, Try.ntmps20
      go_wp2_with fail
      go_ret
      exact ⟨by rw [H.out] <;> rfl, rfl⟩
end Go.Proofs.Ytmhnfilingebfaa
