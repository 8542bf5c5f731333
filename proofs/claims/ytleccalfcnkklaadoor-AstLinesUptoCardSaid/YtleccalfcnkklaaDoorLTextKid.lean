/- The law's own text of an expression's parts: its two closures, walked; no statement of the seat is proved here. -/
import Derived.Test.YtleccalfcnkklaaDoorTreeTextE
namespace Go.Proofs.YtleccalfcnkklaaDoor
open Go.RowKit

theorem sub_sum {l m : List (List UInt8)} (h : l.Sublist m) : (l.map List.length).sum + 4 * l.length ≤ (m.map List.length).sum + 4 * m.length := by
  induction h with
  | slnil => simp
  | cons a _ ih => simp only [List.map_cons, List.sum_cons, List.length_cons]; omega
  | cons_cons a _ ih => simp only [List.map_cons, List.sum_cons, List.length_cons]; omega
theorem join_snoc (t : List UInt8) : ∀ {l : List (List UInt8)}, l ≠ [] → joinC (l ++ [t]) = joinC l ++ ([44, 32] ++ t)
  | [], h => absurd rfl h
  | [a], _ => by simp [joinC, Lib.join, List.intercalate, List.intersperse]
  | a :: b :: r, _ => by
    have ih := join_snoc t (l := b :: r) (by simp)
    simp only [joinC, Lib.join, List.intercalate, List.cons_append, List.intersperse, List.flatten_cons] at ih ⊢
    rw [ih]
    simp
theorem join_step {ts : List (List UInt8)} {fr j : Nat} (h : fr < j) (hj : j < ts.length) : joinC ((ts.take (j + 1)).drop fr) = joinC ((ts.take j).drop fr) ++ ([44, 32] ++ ts[j]) := by
  rw [List.take_succ_eq_append_getElem hj, List.drop_append_of_le_length (by simp; omega)]
  exact join_snoc _ (by
    intro e
    have := congrArg List.length e
    simp at this
    omega)
theorem join_first {ts : List (List UInt8)} {fr : Nat} (hj : fr < ts.length) : joinC ((ts.take (fr + 1)).drop fr) = ts[fr] ∧ joinC ((ts.take fr).drop fr) = [] := by
  constructor
  · rw [List.take_succ_eq_append_getElem hj, List.drop_append_of_le_length (by simp; omega), List.drop_eq_nil_of_le (by simp; omega)]
    simp [joinC, Lib.join, List.intercalate]
  · rw [List.drop_eq_nil_of_le (by simp; omega)]
    simp [joinC, Lib.join, List.intercalate]

set_option maxRecDepth 100000 in
set_option maxHeartbeats 4000000 in
theorem lk_any (kd ln co nu : Int) (n tn : List UInt8) (ta : Bool) (A : Option Addr) (k c : Nat) (on : List UInt8) (oa : Bool) (ow : List UInt8) (ks : List Ex) (i bx : Nat) (w : World) (h : Had w A k c ks 21) (hB : Blk w bx 29 #[.int .i64 kd, .int .i64 ln, .int .i64 co, .int .i64 nu, S n, S tn, .bool ta, .slice A k c, S on, .bool oa, S ow]) (hi : i ≤ 1) :
    Calls Tryd.prog 38 #[.int .i64 (i : Int), .pointer (some ⟨bx, 0, none⟩)] w (Gives w (S (kidT (ks.map Ex.text) i))) := by
  have hk64 : k ≤ 9223372036854775807 := Nat.le_trans h.kc h.cap
  have p7 := hB.cell 7
  simp at p7
  obtain ⟨R, hR⟩ : ∃ R, R = kidT (ks.map Ex.text) i := ⟨_, rfl⟩
  rw [← hR]
  clear hB
  by_cases hlt : i < k
  · obtain ⟨b, o, hA, _, hbl, hcs⟩ := Rd.rec_ (f := Ex.cells) Ex.cells_len h.rd h.len i hlt
    have hlk : i < ks.length := by have := h.len; omega
    have HT := hide (h.tx ks[i] (List.getElem_mem hlk) w (Below.refl _ _))
    have HR : Hid (R = ks[i].text) := hide (by rw [hR, kidT]; simp [List.getD, hlk])
    generalize ks[i] = x at hcs HT HR
    obtain ⟨xd, xl, xo, xu, xn, xt, xa, xA, xk, xc, xs, xm, xb, xw⟩ := x
    subst hA
    clear hR h
    have q0 := hcs 0 (.int .i64 xd) rfl
    have q1 := hcs 1 (.int .i64 xl) rfl
    have q2 := hcs 2 (.int .i64 xo) rfl
    have q3 := hcs 3 (.int .i64 xu) rfl
    have q4 := hcs 4 (S xn) rfl
    have q5 := hcs 5 (S xt) rfl
    have q6 := hcs 6 (.bool xa) rfl
    have q7 := hcs 7 (.slice xA xk xc) rfl
    have q8 := hcs 8 (S xm) rfl
    have q9 := hcs 9 (.bool xb) rfl
    have q10 := hcs 10 (S xw) rfl
    simp only [Nat.add_zero] at q0 q1 q2 q3 q4 q5 q6 q7 q8 q9 q10
    clear hcs
    have hik : (i : Int) < (k : Int) := by omega
    have hi0 : i ≤ 1 := hi
    go_enter Tryd.func38, Tryd.ntmps38
    go_wp2_with fail
    refine HT.out.mono ?_
    rintro e w2 ⟨rfl, hb2⟩
    clear q0 q1 q2 q3 q4 q5 q6 q7 q8 q9 q10 p7
    go_wp2_with fail
    go_ret
    exact ⟨by rw [HR.out] <;> rfl, hb2⟩
  · have HR : Hid (R = nul) := hide (by rw [hR, kidT]; have := h.len; simp [List.getD, show ks.length ≤ i by omega])
    have hik : ¬ (i : Int) < (k : Int) := by omega
    clear hR h
    go_enter Tryd.func38, Tryd.ntmps38
    go_wp2_with fail
    go_ret
    exact ⟨by rw [HR.out] <;> rfl, Below.refl _ _⟩
set_option maxRecDepth 100000 in
set_option maxHeartbeats 4000000 in
theorem la_any (kd ln co nu : Int) (n tn : List UInt8) (ta : Bool) (A : Option Addr) (k c : Nat) (on : List UInt8) (oa : Bool) (ow : List UInt8) (ks : List Ex) (fr bx : Nat) (w : World) (h : Had w A k c ks 21) (hB : Blk w bx 29 #[.int .i64 kd, .int .i64 ln, .int .i64 co, .int .i64 nu, S n, S tn, .bool ta, .slice A k c, S on, .bool oa, S ow]) (hfr : fr ≤ 1) :
    Calls Tryd.prog 39 #[.int .i64 (fr : Int), .pointer (some ⟨bx, 0, none⟩)] w (Gives w (S (joinC ((ks.map Ex.text).drop fr)))) := by
  have HH := hide h
  have HB := hide hB
  have hk64 : k ≤ 9223372036854775807 := Nat.le_trans h.kc h.cap
  have hkb : k ≤ 274877906944 := by have h1 := h.bd; have h2 := h.len; omega
  obtain ⟨TS, hTS⟩ : ∃ TS, TS = ks.map Ex.text := ⟨_, rfl⟩
  rw [← hTS]
  have HTS := hide (fun _ : Unit => hTS)
  have HBD : Hid (∀ j, (joinC ((TS.take j).drop fr)).length ≤ 1099511627776) := hide (fun j => by
    have h1 : (TS.map List.length).sum + 4 * TS.length ≤ 1099511627776 := by rw [hTS, List.map_map, List.length_map]; exact h.bd
    have h2 := sub_sum ((List.drop_sublist fr (TS.take j)).trans (List.take_sublist j TS))
    have h3 := join_len ((TS.take j).drop fr) [44, 32]
    unfold joinC
    simp only [List.length_cons, List.length_nil] at h3
    omega)
  have HTL : Hid (TS.length = k) := hide (by rw [hTS, List.length_map]; exact h.len)
  have h0 : joinC ((TS.take fr).drop fr) = [] := by rw [List.drop_eq_nil_of_le (by simp; omega)]; rfl
  have H0 := hide h0
  clear h hB hTS h0
  go_enter Tryd.func39, Tryd.ntmps39
  go_wp2_with fail
  go_loopw [4, 5] (fun s i wr => ∃ j : Nat, fr ≤ j ∧ (j ≤ k ∨ j = fr) ∧ i = .int .i64 j ∧ s = S (joinC ((TS.take j).drop fr)) ∧ Hid (Below w.heap.size w wr)) (fun _ i _ => k - (intOf i).toNat)
  case atStart => exact ⟨fr, Nat.le_refl _, .inr rfl, rfl, by rw [H0.out], hide (Below.refl _ _)⟩
  case round =>
    obtain ⟨j, hfj, hjk, rfl, rfl, HBR⟩ := hrel
    have HBX := hide (HB.out.below HBR.out HB.out.lt)
    by_cases hlt : j < k
    · obtain ⟨b, o, hA, _, hbl, hcs⟩ := Rd.rec_ (f := Ex.cells) Ex.cells_len (HH.out.on HBR.out).rd HH.out.len j hlt
      have hlk : j < ks.length := by have := HH.out.len; omega
      have hlT : j < TS.length := by rw [HTL.out]; exact hlt
      have HT := hide (HH.out.tx ks[j] (List.getElem_mem hlk) wr HBR.out)
      have HXB := hide (HH.out.one (List.getElem_mem hlk))
      have HXE : Hid (TS[j] = ks[j].text) := hide (by have := HTS.out (); subst this; simp)
      have HNX : Hid (joinC ((TS.take (j + 1)).drop fr) = if fr < j then joinC ((TS.take j).drop fr) ++ ([44, 32] ++ ks[j].text) else ks[j].text) := hide (by
        rw [← HXE.out]
        by_cases hf : fr < j
        · rw [if_pos hf]; exact join_step hf hlT
        · rw [if_neg hf]
          obtain rfl : j = fr := by omega
          exact (join_first hlT).1)
      have HNIL : Hid (¬ fr < j → joinC ((TS.take j).drop fr) = []) := hide (fun hf => by
        obtain rfl : j = fr := by omega
        exact H0.out)
      have hLB := HBD.out j
      clear HXE hlT
      generalize ks[j] = x at hcs HT HNX HXB
      obtain ⟨xd, xl, xo, xu, xn, xt, xa, xA, xk, xc, xs, xm, xb, xw⟩ := x
      obtain ⟨X, hX⟩ : ∃ X, X = Ex.text (.mk xd xl xo xu xn xt xa xA xk xc xs xm xb xw) := ⟨_, rfl⟩
      rw [← hX] at HT HNX HXB
      clear hX
      obtain ⟨L, hL⟩ : ∃ L, L = joinC ((TS.take j).drop fr) := ⟨_, rfl⟩
      rw [← hL] at HNX HNIL hLB ⊢
      clear hL
      have p7 := HBX.out.cell 7
      simp at p7
      have q0 := hcs 0 (.int .i64 xd) rfl
      have q1 := hcs 1 (.int .i64 xl) rfl
      have q2 := hcs 2 (.int .i64 xo) rfl
      have q3 := hcs 3 (.int .i64 xu) rfl
      have q4 := hcs 4 (S xn) rfl
      have q5 := hcs 5 (S xt) rfl
      have q6 := hcs 6 (.bool xa) rfl
      have q7 := hcs 7 (.slice xA xk xc) rfl
      have q8 := hcs 8 (S xm) rfl
      have q9 := hcs 9 (.bool xb) rfl
      have q10 := hcs 10 (S xw) rfl
      simp only [Nat.add_zero] at q0 q1 q2 q3 q4 q5 q6 q7 q8 q9 q10
      clear hcs
      subst hA
      have hjk1 : (j : Int) < (k : Int) := by omega
      have hXB := HXB.out
      by_cases hf : fr < j
      · have HN2 : Hid (joinC ((TS.take (j + 1)).drop fr) = L ++ 44 :: 32 :: X) := hide (by rw [HNX.out, if_pos hf]; rfl)
        have hfi : (fr : Int) < (j : Int) := by omega
        clear hf HNX HNIL
        go_wp2_with fail
        refine HT.out.mono ?_
        rintro e w2 ⟨rfl, hb2⟩
        have HB2 : Hid (Below w.heap.size w w2) := hide (HBR.out.trans (hb2.mono HBR.out.size))
        clear hb2 q0 q1 q2 q3 q4 q5 q6 q7 q8 q9 q10 p7 HBX
        go_wp2_with fail
        go_roundw
        case rel => exact ⟨j + 1, by omega, .inl (by omega), by go_num, by rw [HN2.out], HB2⟩
        case measure => simp [intOf]; omega
      · have HN2 : Hid (joinC ((TS.take (j + 1)).drop fr) = X) := hide (by rw [HNX.out, if_neg hf])
        obtain rfl : L = [] := HNIL.out hf
        have hfi : ¬ (fr : Int) < (j : Int) := by omega
        clear hf HNX HNIL
        go_wp2_with fail
        refine HT.out.mono ?_
        rintro e w2 ⟨rfl, hb2⟩
        have HB2 : Hid (Below w.heap.size w w2) := hide (HBR.out.trans (hb2.mono HBR.out.size))
        clear hb2 q0 q1 q2 q3 q4 q5 q6 q7 q8 q9 q10 p7 HBX
        go_wp2_with fail
        go_roundw
        case rel => exact ⟨j + 1, by omega, .inl (by omega), by go_num, by rw [HN2.out] <;> simp, HB2⟩
        case measure => simp [intOf]; omega
    · have HE : Hid (joinC ((TS.take j).drop fr) = joinC (TS.drop fr)) := hide (by rw [List.take_of_length_le (by rw [HTL.out]; omega)])
      have hjk1 : ¬ (j : Int) < (k : Int) := by omega
      have p7 := HBX.out.cell 7
      simp at p7
      rw [HE.out]
      obtain ⟨R, hR⟩ : ∃ R, R = joinC (TS.drop fr) := ⟨_, rfl⟩
      rw [← hR]
      have HR := hide hR
      clear hR
      go_wp2_with fail
      go_ret
      exact ⟨by rw [HR.out] <;> rfl, HBR.out⟩
    end Go.Proofs.YtleccalfcnkklaaDoor
