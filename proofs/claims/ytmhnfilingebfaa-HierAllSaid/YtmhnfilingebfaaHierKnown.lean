/- Which types are known: the page's way and the table's, walked; no statement of the seat is proved here. -/
import Derived.Test.YtmhnfilingebfaaAstTypes
import Derived.Test.YtmhnfilingebfaaHierPage
namespace Go.Proofs.Ytmhnfilingebfaa
open Go.RowKit

set_option maxRecDepth 100000 in
theorem nothing_any (w : World) : Calls Try.prog 35 #[] w (Gives w (.agg #[S nNull, .bool false])) := by
  have hb : ∀ o, Below w.heap.size w (w.alloc o) := fun o => (Below.refl _ _).alloc (Nat.le_refl _) o
  go_enter Try.func35, Try.ntmps35
  go_wp2_with fail
  refine bodyPost_ret (v := .agg #[S nNull, .bool false]) ?_ rfl ?_
  · simp [results, Try.results35, go_sem, nNull]
  · first
      | exact ⟨rfl, hb _⟩
      | exact ⟨rfl, set_below' (hb _) (Nat.le_refl _) _⟩
      | exact ⟨rfl, set_below' (set_below' (hb _) (Nat.le_refl _) _) (Nat.le_refl _) _⟩

/-- By the page. -/
def knownP (T : List Fc) (t : Ty) : Bool := t.n == nInt || t.n == nBool || (t.good && (get T t.n).isSome)
/-- By the table. -/
def knownT (T : List Fc) (t : Ty) : Bool := t.good && (!great t.n || (get T t.n).isSome)

theorem known_same (T : List Fc) (t : Ty) : knownT T t = knownP T t := by
  unfold knownT knownP Ty.good
  by_cases h1 : t.n = nInt
  · rw [h1]; rfl
  · by_cases h2 : t.n = nBool
    · rw [h2]; rfl
    · have e1 : (t.n == nInt) = false := by simpa using h1
      have e2 : (t.n == nBool) = false := by simpa using h2
      rw [e1, e2]
      cases great t.n <;> simp

set_option maxRecDepth 100000 in
set_option maxHeartbeats 1000000 in
theorem knownp_any (A : Option Addr) (n c : Nat) (T : List Fc) (tn : List UInt8) (ta : Bool) (w : World) (h : FcsAt w (fun k => w.heap.size ≤ k) A n T) :
    Calls Try.prog 23 #[.slice A n c, .agg #[S tn, .bool ta]] w (Gives w (.bool (knownP T ⟨tn, ta⟩))) := by
  have hb : Below w.heap.size w (w.alloc (.cells #[S tn, .bool ta] 45)) := (Below.refl _ _).alloc (Nat.le_refl _) _
  by_cases e1 : tn = nInt
  · have H : Hid (knownP T ⟨tn, ta⟩ = true) := hide (by simp [knownP, e1])
    rw [H.out]
    subst e1
    clear H h
    unfold nInt at *
    go_enter Try.func23, Try.ntmps23
    go_wp2_with fail
    go_ret
    exact ⟨rfl, hb⟩
  · have d1 : (tn == [105, 110, 116]) = false := by simpa [nInt] using e1
    by_cases e2 : tn = nBool
    · have H : Hid (knownP T ⟨tn, ta⟩ = true) := hide (by simp [knownP, e2])
      rw [H.out]
      subst e2
      clear H d1 e1 h
      unfold nBool at *
      go_enter Try.func23, Try.ntmps23
      go_wp2_with fail
      go_ret
      exact ⟨rfl, hb⟩
    · have d2 : (tn == [98, 111, 111, 108]) = false := by simpa [nBool] using e2
      have hK : knownP T ⟨tn, ta⟩ = ((Ty.good ⟨tn, ta⟩) && (get T tn).isSome) := by simp [knownP, e1, e2]
      rw [hK]
      clear hK
      obtain ⟨w1, hw1⟩ : ∃ w1, w1 = w.alloc (.cells #[S tn, .bool ta] 45) := ⟨_, rfl⟩
      rw [← hw1] at hb
      have hk1 : Blk w1 w.heap.size 45 #[S tn, .bool ta] := by rw [hw1]; exact Blk.new _ _ _
      have hfi := find_any A n c T tn w1 ((h.below hb).weak (fun k hk => by have := hb.size; omega))
      obtain ⟨F, hF⟩ : ∃ F, F = faceF T tn := ⟨_, rfl⟩
      obtain ⟨B, hB⟩ : ∃ B, B = (get T tn).isSome := ⟨_, rfl⟩
      rw [← hF, ← hB] at hfi
      rw [← hB]
      have hgo : ∀ w, Calls Try.prog 38 #[.agg #[S tn, .bool ta]] w (Gives w (.bool (Ty.good ⟨tn, ta⟩))) := good_any tn ta
      obtain ⟨G, hG⟩ : ∃ G, G = Ty.good ⟨tn, ta⟩ := ⟨_, rfl⟩
      rw [← hG] at hgo
      rw [← hG]
      have HG := hide hgo
      have HFI := hide hfi
      clear hfi hgo hG hB hF h
      go_enter Try.func23, Try.ntmps23
      go_wp2_with fail
      rw [← hw1]
      clear hw1
      refine HFI.out.mono ?_
      rintro e w2 ⟨rfl, hb2⟩
      obtain ⟨w3, hw3⟩ : ∃ w3, w3 = w2.alloc (.cells #[S F.n, S F.su, .slice F.fA F.fl F.fc, .slice F.mA F.ml F.mc] 38) := ⟨_, rfl⟩
      have hb3 : Below w1.heap.size w1 w3 := by rw [hw3]; exact hb2.alloc hb2.size _
      have hk3 := hk1.below hb3 hk1.lt
      have hB3 := hb.trans (hb3.mono hb.size)
      have c0 : w3.cell? ⟨w.heap.size, 0, none⟩ = some (S tn) := hk3.cell 0
      have c1 : w3.cell? ⟨w.heap.size, 1, none⟩ = some (.bool ta) := hk3.cell 1
      clear hb2 hb3 hk1 hk3 hb
      subst hw3
      cases G
      all_goals
        go_wp2_with fail
        refine (HG.out _).mono ?_
        rintro e w4 ⟨rfl, hb4⟩
        have hB4 := hB3.trans (hb4.mono hB3.size)
        cases B
        all_goals
          go_wp2
          go_ret
          exact ⟨rfl, hB4⟩

set_option maxRecDepth 100000 in
set_option maxHeartbeats 1000000 in
theorem object_any (tn : List UInt8) (ta : Bool) (w : World) : Calls Try.prog 36 #[.agg #[S tn, .bool ta]] w (Gives w (.bool (Ty.obj ⟨tn, ta⟩))) := by
  have hb : Below w.heap.size w (w.alloc (.cells #[S tn, .bool ta] 45)) := (Below.refl _ _).alloc (Nat.le_refl _) _
  obtain ⟨O, hO⟩ : ∃ O, O = Ty.obj ⟨tn, ta⟩ := ⟨_, rfl⟩
  rw [← hO]
  obtain ⟨G, hG⟩ : ∃ G, G = Ty.cls ⟨tn, ta⟩ := ⟨_, rfl⟩
  have HC : Hid (∀ w, Calls Try.prog 37 #[.agg #[S tn, .bool ta]] w (Gives w (.bool G))) := hide (fun w => by rw [hG]; exact class_any tn ta w)
  unfold Ty.obj at hO
  rw [← hG] at hO
  simp only at hO
  have HO := hide hO
  clear hO hG
  have q0 : ∀ t : After (w.alloc (.cells #[S tn, .bool ta] 45)), t.val.cell? ⟨w.heap.size, 0, none⟩ = some (S tn) := fun t => (t.prop.cell (by simp)).trans (by simp [World.cell?_alloc_new])
  have q1 : ∀ t : After (w.alloc (.cells #[S tn, .bool ta] 45)), t.val.cell? ⟨w.heap.size, 1, none⟩ = some (.bool ta) := fun t => (t.prop.cell (by simp)).trans (by simp [World.cell?_alloc_new])
  go_enter Try.func36, Try.ntmps36
  cases ta with
  | true =>
    go_wp2_with fail
    refine region_after (by kernel_rfl) (by kernel_rfl) ?_
    repeat (go_big_quiet_step (fail))
    refine wpQuiet_nil ?_
    rintro _ ⟨t, rfl⟩
    have hb3 := hb.trans (t.prop.mono hb.size)
    go_wp2
    go_ret
    exact ⟨by rw [HO.out]; rfl, hb3⟩
  | false =>
    have hno : ∀ w, Calls Try.prog 35 #[] w (Gives w (.agg #[S [110, 117, 108, 108], .bool false])) := nothing_any
    have HN := hide hno
    clear hno
    cases G with
    | true =>
      go_wp2_with fail
      refine region_after (by kernel_rfl) (by kernel_rfl) ?_
      repeat (go_big_quiet_step ((go_at_call 37; refine call_after (HC.out _))))
      refine wpQuiet_nil ?_
      rintro _ ⟨t, rfl⟩
      have hb3 := hb.trans (t.prop.mono hb.size)
      go_wp2
      go_ret
      exact ⟨by rw [HO.out]; rfl, hb3⟩
    | false =>
      by_cases e : tn = nNull
      · have HOt : Hid (O = true) := hide (by rw [HO.out, e]; rfl)
        subst e
        unfold nNull at *
        clear HO
        go_wp2_with fail
        refine region_after (by kernel_rfl) (by kernel_rfl) ?_
        repeat (go_big_quiet_step (first | (go_at_call 37; refine call_after (HC.out _)) | (go_at_call 35; refine call_after (HN.out _))))
        refine wpQuiet_nil ?_
        rintro _ ⟨t, rfl⟩
        have hb3 := hb.trans (t.prop.mono hb.size)
        go_wp2
        go_ret
        exact ⟨by rw [HOt.out] <;> rfl, hb3⟩
      · have HOt : Hid (O = false) := hide (by rw [HO.out]; simp [e])
        have d : (tn == [110, 117, 108, 108]) = false := by simpa [nNull] using e
        clear HO
        go_wp2_with fail
        refine region_after (by kernel_rfl) (by kernel_rfl) ?_
        repeat (go_big_quiet_step (first | (go_at_call 37; refine call_after (HC.out _)) | (go_at_call 35; refine call_after (HN.out _))))
        refine wpQuiet_nil ?_
        rintro _ ⟨t, rfl⟩
        have hb3 := hb.trans (t.prop.mono hb.size)
        go_wp2
        go_ret
        exact ⟨by rw [HOt.out] <;> rfl, hb3⟩
end Go.Proofs.Ytmhnfilingebfaa
