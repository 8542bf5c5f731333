/- slices.SortStableFunc at kiln/ast.Var, of few elements, walked; no statement of the seat is proved here. -/
import Derived.Test.YtkgnoemagklmiaaSortM
namespace Go.Proofs.Ytkgnoemagklmiaa
open Go.RowKit

set_option maxRecDepth 100000 in
theorem cstr_any (a b : List UInt8) (w : World) : Calls Try.prog 66 #[S a, S b] w fun e w' => e = .returned (.int .i64 (Lib.compareBytes a b)) ∧ w' = w := by
  go_enter Try.func66, Try.ntmps66
  go_wp2
  rw [run_callFunc_extern Try.func71 (by kernel_rfl) (by kernel_rfl) (by kernel_rfl) (e := Extern.BytealgCompare.compare) (by kernel_rfl), Lib.run_compareString]
  simp only [Result.andThen]
  rw [Oper.upon_value]
  go_wp2
  go_ret
  exact ⟨rfl, rfl⟩
set_option maxRecDepth 100000 in
theorem scmp_any (a b : List UInt8) (w : World) : Calls Try.prog 56 #[S a, S b] w fun e w' => e = .returned (.int .i64 (Lib.compareBytes a b)) ∧ w' = w := by
  go_enter Try.func56, Try.ntmps56
  go_wp2_with (go_at_call 66; refine (cstr_any _ _ _).mono ?_; rintro e w' ⟨rfl, rfl⟩)
  go_ret
  exact ⟨rfl, rfl⟩

set_option maxRecDepth 100000 in
theorem closV_any (x a : Vr) (w : World) : Calls Try.prog 55 #[x.val, a.val] w (Gives w (.int .i64 (Lib.compareBytes x.n a.n))) := by
  obtain ⟨xn, xv, xy⟩ := x
  obtain ⟨an, av, ay⟩ := a
  simp only [Vr.val]
  have HC := fun w => hide (scmp_any xn an w)
  generalize Lib.compareBytes xn an = r at HC ⊢
  go_enter Try.func55, Try.ntmps55
  go_wp2_with (go_at_call 56; refine (HC _).out.mono ?_; rintro e w' ⟨rfl, rfl⟩)
  go_ret
  exact ⟨rfl, ((Below.refl _ _).alloc (Nat.le_refl _) _).alloc (by simp) _⟩

theorem swapV (L M : List Value) (n : Nat) (h : L.length = n) (an av : List UInt8) (ay : Bool) (xn xv : List UInt8) (xy : Bool) :
    (((((((L ++ [S an, S av, .bool ay, S xn, S xv, .bool xy] ++ M).toArray.setIfInBounds (n + 3) (S an)).setIfInBounds (n + 4) (S av)).setIfInBounds (n + 5) (.bool ay)).setIfInBounds (n) (S xn)).setIfInBounds (n + 1) (S xv)).setIfInBounds (n + 2) (.bool xy)) = (L ++ [S xn, S xv, .bool xy, S an, S av, .bool ay] ++ M).toArray := by
  simp only [List.setIfInBounds_toArray, List.append_assoc]
  congr 1
  rw [set_at _ _ n 3 _ h]
  rw [set_at _ _ n 4 _ h]
  rw [set_at _ _ n 5 _ h]
  rw [set_at0 _ _ n _ h]
  rw [set_at _ _ n 1 _ h]
  rw [set_at _ _ n 2 _ h]
  rfl

set_option maxRecDepth 100000 in
set_option maxHeartbeats 4000000 in
theorem insV_any (xs : List Vr) (g c : Nat) (tl : List Value) (w : World) (hB : Blk w g 45 (xs.flatMap Vr.cells ++ tl).toArray) (h1 : 1 ≤ xs.length) (hn : xs.length ≤ 1000) :
    Calls Try.prog 69 #[.slice (some ⟨g, 0, none⟩) xs.length c, .int .i64 0, .int .i64 xs.length, .func (.func 55) #[] #[]] w fun e w' => e = .returned (.tuple #[]) ∧ ∃ ys : List Vr, ys.Perm xs ∧ Ris Vr.n ys ∧ Blk w' g 45 (ys.flatMap Vr.cells ++ tl).toArray ∧ Keep (fun k => k = g) w w' := by
  obtain ⟨n, hnn⟩ : ∃ n, n = xs.length := ⟨_, rfl⟩
  have HN := hide hnn
  rw [← hnn] at h1 hn ⊢
  clear hnn
  obtain ⟨x0, xs', hxs⟩ : ∃ x0 xs', xs = x0 :: xs' := by
    cases xs with
    | nil => have := HN.out; simp at this; omega
    | cons x l => exact ⟨x, l, rfl⟩
  have H0 : Hid (Blk w g 45 (([x0] ++ xs').flatMap Vr.cells ++ tl).toArray) := hide (by rw [hxs] at hB; exact hB)
  have HP0 : Hid (([x0] ++ xs').Perm xs) := hide (by rw [hxs]; exact List.Perm.refl _)
  clear hB hxs
  go_enter Try.func69, Try.ntmps69
  go_wp2_with fail
  go_loopw [8] (fun i wr => ∃ (k : Nat) (Q C : List Vr), k ≤ n ∧ i = .int .i64 k ∧ Hid (Q.length = k) ∧ Hid ((Q ++ C).Perm xs) ∧ Hid (Ris Vr.n Q) ∧ Hid (Blk wr g 45 ((Q ++ C).flatMap Vr.cells ++ tl).toArray) ∧ Hid (Keep (fun k => k = g) w wr)) (fun i _ => n - (intOf i).toNat)
  case atStart => exact ⟨1, [x0], xs', h1, rfl, hide rfl, HP0, hide (ris_one x0), H0, hide (Keep.refl _ _)⟩
  case round =>
    obtain ⟨k, Q, C0, hk, rfl, HQL, HP, HS, HB, HW⟩ := hrel
    clear H0 HP0
    obtain ⟨wo, rfl⟩ : ∃ wo : World, wo = wr := ⟨_, rfl⟩
    by_cases hlt : k < n
    case neg =>
      go_wp2_with fail
      go_end0
      have hC : C0 = [] := by
        have e1 := HP.out.length_eq
        rw [List.length_append] at e1
        have := HQL.out; have := HN.out
        exact List.eq_nil_of_length_eq_zero (by omega)
      subst hC
      refine ⟨rfl, Q, ?_, HS.out, ?_, HW.out⟩
      · have := HP.out; rwa [List.append_nil] at this
      · have := HB.out; rwa [List.append_nil] at this
    case pos =>
    obtain ⟨x, C, rfl⟩ : ∃ x C, C0 = x :: C := by
      cases C0 with
      | nil =>
        have e1 := HP.out.length_eq
        rw [List.append_nil] at e1
        have := HQL.out; have := HN.out
        omega
      | cons x C => exact ⟨x, C, rfl⟩
    have hki : (k : Int) < (n : Int) := by omega
    go_wp2_with fail
    go_loopw [9] (fun i wr => ∃ (j : Nat) (A B : List Vr), j ≤ k ∧ i = .int .i64 j ∧ Hid (j = A.length) ∧ Hid (A.length + B.length = k) ∧ Hid ((A ++ x :: (B ++ C)).Perm xs) ∧ Hid (Ris Vr.n (A ++ B)) ∧ Hid (∀ b ∈ B, Lib.compareBytes x.n b.n < 0) ∧ Hid (Blk wr g 45 ((A ++ x :: (B ++ C)).flatMap Vr.cells ++ tl).toArray) ∧ Hid (Keep (fun k => k = g) w wr)) (fun i _ => (intOf i).toNat)
    case atStart => exact ⟨k, Q, [], Nat.le_refl _, rfl, hide HQL.out.symm, hide (by have := HQL.out; simp [this]), HP, hide (by rw [List.append_nil]; exact HS.out), hide (by intro b hb; cases hb), HB, HW⟩
    case round =>
      obtain ⟨j, A, B, hj, rfl, HJ, HL, HP, HS, HX, HB, HW⟩ := hrel
      have DONE : (∀ A' a, A = A' ++ [a] → ¬ Lib.compareBytes x.n a.n < 0) → Hid (Ris Vr.n (A ++ x :: B)) := fun h => hide (ris_ins HS.out HX.out h)
      have HLEN : Hid ((A ++ x :: B).length = k + 1) := hide (by have := HL.out; simp; omega)
      have HP2 : Hid (((A ++ x :: B) ++ C).Perm xs) := hide (by have := HP.out; simpa using this)
      by_cases h0 : j = 0
      case pos =>
        subst h0
        have HD := DONE (by
          rintro A' a rfl
          have := HJ.out
          simp at this)
        clear DONE
        go_wp2_with fail
        go_quiet (fail)
        go_wp2_with fail
        go_roundw
        case rel => exact ⟨k + 1, A ++ x :: B, C, by omega, by go_num, HLEN, HP2, HD, hide (by have := HB.out; simp only [List.append_assoc, List.cons_append]; exact this.drewN _), hide (HW.out.drewN _)⟩
        case measure => simp [intOf]; omega
      case neg =>
      obtain ⟨A', a, rfl⟩ : ∃ A' a, A = A' ++ [a] := by
        rcases List.eq_nil_or_concat A with rfl | ⟨A', a, rfl⟩
        · exact absurd HJ.out h0
        · exact ⟨A', a, by simp⟩
      obtain ⟨m, hm⟩ : ∃ m, m = A'.length := ⟨_, rfl⟩
      have HM := hide hm
      have hjm : j = m + 1 := by have := HJ.out; simp at this; omega
      have HJM := hide hjm
      have HC : Hid (∀ t : After wr, Calls Try.prog 55 #[x.val, a.val] t.val (Gives t.val (.int .i64 (Lib.compareBytes x.n a.n)))) := hide (fun t => closV_any x a t.val)
      have HR : Hid (Lib.compareBytes x.n a.n = Lib.compareBytes x.n a.n) := hide rfl
      obtain ⟨r, hr⟩ : ∃ r, r = Lib.compareBytes x.n a.n := ⟨_, rfl⟩
      rw [← hr] at HC
      have HRR := hide (fun _ : Unit => hr)
      have hrr : -1 ≤ r ∧ r ≤ 1 := by
        rw [hr]
        rcases cb_range x.n a.n with h | h | h <;> rw [h] <;> omega
      have e0 : IntKind.i64.wrap ((j : Int) - 1) = (m : Int) := by rw [IntWalk.i64_in _ (by omega)]; omega
      have q0 : 0 < j := by omega
      have q1 : (0 : Int) < (j : Int) := by omega
      have q2 : (j : Int) < (n : Int) := by omega
      have q3 : (m : Int) < (n : Int) := by omega
      have q4 : (0 : Int) ≤ (m : Int) := by omega
      have hj3 : j * 3 = m * 3 + 3 := by omega
      clear hr hm HR
      obtain ⟨xn, xv, xy⟩ := x
      obtain ⟨an, av, ay⟩ := a
      simp only [Vr.val] at HC
      have HBA : Hid (Blk wr g 45 ((A' ++ ⟨an, av, ay⟩ :: ⟨xn, xv, xy⟩ :: (B ++ C)).flatMap Vr.cells ++ tl).toArray) := hide (by have := HB.out; rwa [List.append_assoc, List.cons_append, List.nil_append] at this)
      have x0 : ∀ t : After wr, t.val.cell? ⟨g, m * 3 + 3, none⟩ = some (S xn) := fun t => (by rw [show m * 3 + 3 = j * 3 + 0 by omega]; exact ((HB.out.below t.prop HB.out.lt).cell _).trans (flat_at' (f := Vr.cells) (k := 3) (fun _ => rfl) (A' ++ [⟨an, av, ay⟩]) (B ++ C) ⟨xn, xv, xy⟩ tl 0 (by omega) HJ.out.symm))
      have x1 : ∀ t : After wr, t.val.cell? ⟨g, m * 3 + 4, none⟩ = some (S xv) := fun t => (by rw [show m * 3 + 4 = j * 3 + 1 by omega]; exact ((HB.out.below t.prop HB.out.lt).cell _).trans (flat_at' (f := Vr.cells) (k := 3) (fun _ => rfl) (A' ++ [⟨an, av, ay⟩]) (B ++ C) ⟨xn, xv, xy⟩ tl 1 (by omega) HJ.out.symm))
      have x2 : ∀ t : After wr, t.val.cell? ⟨g, m * 3 + 5, none⟩ = some (.bool xy) := fun t => (by rw [show m * 3 + 5 = j * 3 + 2 by omega]; exact ((HB.out.below t.prop HB.out.lt).cell _).trans (flat_at' (f := Vr.cells) (k := 3) (fun _ => rfl) (A' ++ [⟨an, av, ay⟩]) (B ++ C) ⟨xn, xv, xy⟩ tl 2 (by omega) HJ.out.symm))
      have a0 : ∀ t : After wr, t.val.cell? ⟨g, m * 3, none⟩ = some (S an) := fun t => ((HBA.out.below t.prop HBA.out.lt).cell _).trans (flat_at' (f := Vr.cells) (k := 3) (fun _ => rfl) A' (⟨xn, xv, xy⟩ :: (B ++ C)) ⟨an, av, ay⟩ tl 0 (by omega) HM.out.symm)
      have a1 : ∀ t : After wr, t.val.cell? ⟨g, m * 3 + 1, none⟩ = some (S av) := fun t => ((HBA.out.below t.prop HBA.out.lt).cell _).trans (flat_at' (f := Vr.cells) (k := 3) (fun _ => rfl) A' (⟨xn, xv, xy⟩ :: (B ++ C)) ⟨an, av, ay⟩ tl 1 (by omega) HM.out.symm)
      have a2 : ∀ t : After wr, t.val.cell? ⟨g, m * 3 + 2, none⟩ = some (.bool ay) := fun t => ((HBA.out.below t.prop HBA.out.lt).cell _).trans (flat_at' (f := Vr.cells) (k := 3) (fun _ => rfl) A' (⟨xn, xv, xy⟩ :: (B ++ C)) ⟨an, av, ay⟩ tl 2 (by omega) HM.out.symm)
      clear hjm
      obtain ⟨s, hs⟩ : ∃ s, decide (r < 0) = s := ⟨_, rfl⟩
      have hs2 := hs
      go_wp2_with fail
      refine region_after (by kernel_rfl) (by kernel_rfl) ?_
      repeat (go_big_quiet_step ((refine call_after (HC.out _))))
      refine wpQuiet_nil ?_
      rintro _ ⟨t, rfl⟩
      cases s with
      | false =>
        have HD := DONE (by
          rintro A'' a' e
          have e2 := (List.append_inj' e rfl).2
          injection e2 with e2
          subst e2
          rw [← HRR.out ()]
          simpa using hs2)
        clear DONE x0 a0 x1 a1 x2 a2
        go_wp2_with fail
        go_roundw
        case rel => exact ⟨k + 1, _, C, by omega, by go_num, HLEN, HP2, HD, hide (by have := (HB.out.below t.prop HB.out.lt); simp only [List.append_assoc, List.cons_append, List.nil_append] at this ⊢; exact this), hide (HW.out.trans' (Keep.of_below (F := fun k => k = g) t.prop (fun k h1 h2 => absurd h1 (by omega))) (fun i _ h => h))⟩
        case measure => simp [intOf]; omega
      | true =>
        clear DONE
        obtain ⟨w2, hw2⟩ : ∃ w2, w2 = t.val := ⟨_, rfl⟩
        have hbt := t.prop
        have x0 := x0 t
        have x1 := x1 t
        have x2 := x2 t
        have a0 := a0 t
        have a1 := a1 t
        have a2 := a2 t
        rw [← hw2] at x0 a0 x1 a1 x2 a2 hbt ⊢
        clear hw2
        have HB2 := hide (HBA.out.below hbt HBA.out.lt)
        have HW2 : Hid (Keep (fun k => k = g) w w2) := hide (HW.out.trans' (Keep.of_below (F := fun k => k = g) hbt (fun k h1 h2 => absurd h1 (by omega))) (fun i _ h => h))
        have fz := fun i => HB2.out.frozen i
        clear hbt HB HW HBA
        go_wp2_with fail
        go_region
        go_wp2_with fail
        go_roundw
        case rel =>
          have hrl : Lib.compareBytes (⟨xn, xv, xy⟩ : Vr).n (⟨an, av, ay⟩ : Vr).n < 0 := by rw [← HRR.out ()]; simpa using hs2
          refine ⟨m, A', ⟨an, av, ay⟩ :: B, by omega, by go_num, HM, hide (by have := HL.out; simp at this ⊢; omega), ?_, ?_, ?_, ?_, ?_⟩
          · refine hide (List.Perm.trans ?_ HP.out)
            rw [List.append_assoc]
            refine List.Perm.append_left _ ?_
            exact List.Perm.swap _ _ _
          · exact hide (by have := HS.out; rwa [List.append_assoc] at this)
          · refine hide (fun b hb => ?_)
            rcases List.mem_cons.1 hb with rfl | hb
            · exact hrl
            · exact HX.out b hb
          · have e := swapV (A'.flatMap Vr.cells) ((B ++ C).flatMap Vr.cells ++ tl) (m * 3) (by rw [flat_len' (f := Vr.cells) (k := 3) (fun _ => rfl), HM.out]) an av ay xn xv xy
            have eb : (A' ++ ⟨an, av, ay⟩ :: ⟨xn, xv, xy⟩ :: (B ++ C)).flatMap Vr.cells ++ tl = A'.flatMap Vr.cells ++ [S an, S av, .bool ay, S xn, S xv, .bool xy] ++ ((B ++ C).flatMap Vr.cells ++ tl) := by simp [List.flatMap_append, List.flatMap_cons, List.append_assoc]
            have ec : (A' ++ ⟨xn, xv, xy⟩ :: (⟨an, av, ay⟩ :: B ++ C)).flatMap Vr.cells ++ tl = A'.flatMap Vr.cells ++ [S xn, S xv, .bool xy, S an, S av, .bool ay] ++ ((B ++ C).flatMap Vr.cells ++ tl) := by simp [List.flatMap_append, List.flatMap_cons, List.append_assoc]
            have hb := HB2.out
            rw [eb] at hb
            have hb2 := ((((((hb.set_ (m * 3 + 3) (S an)).set_ (m * 3 + 4) (S av)).set_ (m * 3 + 5) (.bool ay)).set_ (m * 3) (S xn)).set_ (m * 3 + 1) (S xv)).set_ (m * 3 + 2) (.bool xy))
            rw [e] at hb2
            rw [ec]
            exact hide hb2.drew
          · exact hide ((((((HW2.out.setCell (fun _ => rfl) _).setCell (fun _ => rfl) _).setCell (fun _ => rfl) _).setCell (fun _ => rfl) _).setCell (fun _ => rfl) _).setCell (fun _ => rfl) _).drew
        case measure => simp [intOf]; omega
end Go.Proofs.Ytkgnoemagklmiaa
