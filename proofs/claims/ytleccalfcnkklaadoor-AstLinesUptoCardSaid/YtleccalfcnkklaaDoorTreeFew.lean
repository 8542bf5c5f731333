/- The law's own test whether an expression has few parts, walked by the tree; no statement of the seat is proved here. -/
import Derived.Test.YtleccalfcnkklaaDoorTreeKid
namespace Go.Proofs.YtleccalfcnkklaaDoor
open Go.RowKit

def Ex.few : Ex → Nat → Bool
  | .mk _ _ _ _ n tn _ _ k _ ks _ _ _, d => decide (d ≤ 10) && decide (k ≤ 5) && decide (n.length ≤ 40) && decide (tn.length ≤ 40) && ks.attach.all fun x => x.1.few (d + 1)
termination_by e => SizeOf.sizeOf e
decreasing_by
  have := List.sizeOf_lt_of_mem x.2
  simp only [Ex.mk.sizeOf_spec]
  omega
theorem attach_all {α : Type} (l : List α) (f : α → Bool) : (l.attach.all fun x => f x.1) = l.all f := by
  rw [Bool.eq_iff_iff, List.all_eq_true, List.all_eq_true]
  exact ⟨fun h x hx => h ⟨x, hx⟩ (List.mem_attach _ _), fun h x _ => h x.1 x.2⟩
theorem Ex.few_mk (kd ln co nu : Int) (n tn : List UInt8) (ta : Bool) (A : Option Addr) (k c : Nat) (ks : List Ex) (on : List UInt8) (oa : Bool) (ow : List UInt8) (d : Nat) :
    (Ex.mk kd ln co nu n tn ta A k c ks on oa ow).few d = (decide (d ≤ 10) && decide (k ≤ 5) && decide (n.length ≤ 40) && decide (tn.length ≤ 40) && ks.all fun x => x.few (d + 1)) := by
  rw [Ex.few, attach_all ks fun x => x.few (d + 1)]
/-- So long may a thing so deep be, at most. -/
def fewB : Nat → Nat
  | 0 => 0
  | n + 1 => 144 + 5 * fewB n
theorem dec_flip (a b : Nat) (c : Int) (hc : c = (b : Int)) : decide (a ≤ b) = !decide (c < (a : Int)) := by
  subst hc
  by_cases h : a ≤ b
  · have : ¬ (b : Int) < (a : Int) := by omega
    simp [h, this]
  · have : (b : Int) < (a : Int) := by omega
    simp [h, this]
theorem sum_up {α : Type} {f : α → Nat} {b : Nat} : ∀ {l : List α}, (∀ x ∈ l, f x ≤ b) → (l.map f).sum ≤ l.length * b
  | [], _ => by simp
  | a :: l, h => by
    rw [List.map_cons, List.sum_cons, List.length_cons, Nat.add_mul]
    have h1 := h a List.mem_cons_self
    have h2 := sum_up fun x hx => h x (List.mem_cons_of_mem _ hx)
    omega
theorem Ex.few_len {w : World} {F : Nat → Prop} {e : Ex} (h : e.At w F) : ∀ d, e.few d = true → e.len ≤ fewB (11 - d) := by
  induction h with
  | @mk kd ln co nu n tn ta A k c ks on oa ow hr hl hkc hk hi hs hall ih =>
    intro d hd
    rw [Ex.few_mk] at hd
    simp only [Bool.and_eq_true, decide_eq_true_eq, List.all_eq_true] at hd
    obtain ⟨⟨⟨⟨h1, h2⟩, h3⟩, h4⟩, h5⟩ := hd
    rw [Ex.len_mk, show 11 - d = (10 - d) + 1 by omega, fewB]
    have h6 := sum_up (f := Ex.len) (b := fewB (11 - (d + 1))) fun x hx => ih x hx (d + 1) (h5 x hx)
    rw [show 11 - (d + 1) = 10 - d by omega, hl] at h6
    have h7 : k * fewB (10 - d) ≤ 5 * fewB (10 - d) := Nat.mul_le_mul_right _ h2
    omega
theorem Ex.few_bd {w : World} {F : Nat → Prop} {e : Ex} (h : e.At w F) (hf : e.few 0 = true) : e.len ≤ 1757812500 := by
  have := Ex.few_len h 0 hf
  have e2 : fewB (11 - 0) = 1757812464 := by decide +kernel
  omega

set_option maxRecDepth 100000 in
set_option maxHeartbeats 8000000 in
theorem few_any (e : Ex) : ∀ (d : Nat) (w : World), d ≤ 1000 → e.At w (fun b => w.heap.size ≤ b) → Calls Tryd.prog 11 #[e.val, .int .i64 (d : Int)] w (Gives w (.bool (e.few d))) := by
  induction e using Ex.ind with
  | h e ih =>
    intro d w hd hat
    obtain ⟨kd, ln, co, nu, n, tn, ta, A, k, c, ks, on, oa, ow⟩ := e
    have hin : Hid (∀ x ∈ ks, ∀ w', Below w.heap.size w w' → d + 1 ≤ 1000 → Calls Tryd.prog 11 #[x.val, .int .i64 ((d + 1 : Nat) : Int)] w' (Gives w' (.bool (x.few (d + 1))))) := hide (fun x hx w' hw hd1 => by
      cases hat with
      | mk _ _ _ _ _ _ hall => exact ih x hx (d + 1) w' hd1 ((hall x hx).on hw))
    have hRd : Rd w (fun b => w.heap.size ≤ b) 11 A k (ks.flatMap Ex.cells) ∧ ks.length = k ∧ k ≤ 9223372036854775807 := by cases hat with | mk hr hl hkc hk hi hs _ => exact ⟨hr, hl, Nat.le_trans hkc hk⟩
    obtain ⟨R, hR⟩ : ∃ R, R = (Ex.mk kd ln co nu n tn ta A k c ks on oa ow).few d := ⟨_, rfl⟩
    rw [← hR]
    rw [Ex.few_mk] at hR
    obtain ⟨b1, d1⟩ : ∃ b, decide (10 < (d : Int)) = b := ⟨_, rfl⟩
    obtain ⟨b2, d2⟩ : ∃ b, decide (5 < (k : Int)) = b := ⟨_, rfl⟩
    obtain ⟨b3, d3⟩ : ∃ b, decide (40 < (n.length : Int)) = b := ⟨_, rfl⟩
    obtain ⟨b4, d4⟩ : ∃ b, decide (40 < (tn.length : Int)) = b := ⟨_, rfl⟩
    obtain ⟨AL, hAL⟩ : ∃ AL, AL = ks.all fun x => x.few (d + 1) := ⟨_, rfl⟩
    have hRR : R = (!b1 && !b2 && !b3 && !b4 && AL) := by
      rw [hR, hAL, ← d1, ← d2, ← d3, ← d4, dec_flip d 10 10 rfl, dec_flip k 5 5 rfl, dec_flip n.length 40 40 rfl, dec_flip tn.length 40 40 rfl]
    clear hR ih hat
    obtain ⟨wA, hwA⟩ : ∃ wA, wA = w.alloc (.cells #[.int .i64 kd, .int .i64 ln, .int .i64 co, .int .i64 nu, S n, S tn, .bool ta, .slice A k c, S on, .bool oa, S ow] 29) := ⟨_, rfl⟩
    have hbA : Below w.heap.size w wA := by rw [hwA]; exact (Below.refl _ _).alloc (Nat.le_refl _) _
    have hbk : Blk wA w.heap.size 29 #[.int .i64 kd, .int .i64 ln, .int .i64 co, .int .i64 nu, S n, S tn, .bool ta, .slice A k c, S on, .bool oa, S ow] := by rw [hwA]; exact Blk.new _ _ _
    have HBA := hide hbA
    have HBK := hide hbk
    have HRD := hide hRd
    have hk63 : k ≤ 9223372036854775807 := hRd.2.2
    have HAL : Hid (∀ _ : Unit, AL = ks.all fun x => x.few (d + 1)) := hide fun _ => hAL
    have HRR : Hid (R = (!b1 && !b2 && !b3 && !b4 && AL)) := hide hRR
    have c4 := HBK.out.cell 4
    have c5 := HBK.out.cell 5
    have c7 := HBK.out.cell 7
    simp at c4 c5 c7
    clear hRd hbA hbk hAL hRR
    have hd10 : b1 = false → d ≤ 10 := fun h => by rw [h] at d1; simp at d1; omega
    have HD10 := hide hd10
    clear hd10
    show Calls Tryd.prog 11 #[.agg #[.int .i64 kd, .int .i64 ln, .int .i64 co, .int .i64 nu, S n, S tn, .bool ta, .slice A k c, S on, .bool oa, S ow], .int .i64 (d : Int)] w _
    cases b1
    case true =>
      obtain rfl : R = false := by rw [HRR.out]; rfl
      go_enter Tryd.func11, Tryd.ntmps11
      go_upto_region 1 with fail
      rw [← hwA]
      clear hwA
      go_wp2_with fail
      go_ret
      exact ⟨rfl, HBA.out⟩
    cases b2
    case true =>
      obtain rfl : R = false := by rw [HRR.out]; rfl
      go_enter Tryd.func11, Tryd.ntmps11
      go_upto_region 1 with fail
      rw [← hwA]
      clear hwA
      go_wp2_with fail
      go_ret
      exact ⟨rfl, HBA.out⟩
    cases b3
    case true =>
      obtain rfl : R = false := by rw [HRR.out]; rfl
      go_enter Tryd.func11, Tryd.ntmps11
      go_upto_region 1 with fail
      rw [← hwA]
      clear hwA
      go_wp2_with fail
      go_ret
      exact ⟨rfl, HBA.out⟩
    cases b4
    case true =>
      obtain rfl : R = false := by rw [HRR.out]; rfl
      go_enter Tryd.func11, Tryd.ntmps11
      go_upto_region 1 with fail
      rw [← hwA]
      clear hwA
      go_wp2_with fail
      go_ret
      exact ⟨rfl, HBA.out⟩
    obtain rfl : R = AL := by rw [HRR.out]; rfl
    have hdd : d ≤ 10 := HD10.out rfl
    clear HRR HD10
    go_enter Tryd.func11, Tryd.ntmps11
    go_upto_region 1 with fail
    rw [← hwA]
    clear hwA
    go_wp2_with fail
    clear c4 c5 c7 d1 d2 d3 d4
    go_loopw [31] (fun i wr => ∃ j : Nat, j ≤ k ∧ i = .int .i64 j ∧ Hid (Below w.heap.size w wr) ∧ Hid (∀ x ∈ ks.take j, x.few (d + 1) = true)) (fun i _ => k - (intOf i).toNat)
    case atStart => exact ⟨0, Nat.zero_le _, rfl, HBA, hide (by intro x hx; simp at hx)⟩
    case round =>
      obtain ⟨j, hj, rfl, HBR, HALL⟩ := hrel
      by_cases hlt : j < k
      · obtain ⟨b, o, hA, _, hbl, hcs⟩ := Rd.rec_ (f := Ex.cells) Ex.cells_len (HRD.out.1.below HBR.out) HRD.out.2.1 j hlt
        have hlk : j < ks.length := by have := HRD.out.2.1; omega
        have HT := hide (fun w' hb => hin.out ks[j] (List.getElem_mem hlk) w' hb (by omega))
        have HYES : Hid (ks[j].few (d + 1) = true → ∀ x ∈ ks.take (j + 1), x.few (d + 1) = true) := hide (fun h x hx => by
          rw [List.take_succ_eq_append_getElem hlk] at hx
          rcases List.mem_append.1 hx with hx | hx
          · exact HALL.out x hx
          · rw [List.mem_singleton.1 hx]; exact h)
        have HNO : Hid (ks[j].few (d + 1) = false → R = false) := hide (fun h => by
          rw [HAL.out ()]
          refine Bool.eq_false_iff.2 fun h2 => ?_
          rw [List.all_eq_true] at h2
          rw [h2 _ (List.getElem_mem hlk)] at h
          cases h)
        generalize ks[j] = x at hcs HT HYES HNO
        obtain ⟨xd, xl, xo, xu, xn, xt, xa, xA, xk, xc, xs, xm, xb, xw⟩ := x
        obtain ⟨X, hX⟩ : ∃ X, X = Ex.few (.mk xd xl xo xu xn xt xa xA xk xc xs xm xb xw) (d + 1) := ⟨_, rfl⟩
        rw [← hX] at HT HYES HNO
        clear hX
        have q0 := hcs 0 (.int .i64 xd) rfl
        have q1 := hcs 1 (.int .i64 xl) rfl
        have q2 := hcs 2 (.int .i64 xo) rfl
        have q3 := hcs 3 (.int .i64 xu) rfl
        have q4 := hcs 4 (S xn) rfl
        have q5 := hcs 5 (S xt) rfl
        have q6 := hcs 6 (.bool xa) rfl
        have q7 := hcs 7 (.slice xA xk xc) rfl
        have q8 := hcs 8 (S xm) rfl
        have q9 := hcs 9 (.bool xb) rfl
        have q10 := hcs 10 (S xw) rfl
        simp only [Nat.add_zero] at q0 q1 q2 q3 q4 q5 q6 q7 q8 q9 q10
        clear hcs
        rw [hA]
        have hjk : (j : Int) < (k : Int) := by omega
        go_upto_region 6 with fail
        refine name_world ?_
        intro wC hwC
        have HBC : Hid (Below w.heap.size w wC) := hide (by rw [hwC]; first | exact HBR.out.alloc HBR.out.size _ | exact (HBR.out.alloc HBR.out.size _).setCell HBR.out.size _)
        have HBV : Hid (Blk wC wr.heap.size 29 #[.int .i64 xd, .int .i64 xl, .int .i64 xo, .int .i64 xu, S xn, S xt, .bool xa, .slice xA xk xc, S xm, .bool xb, S xw]) := hide (by rw [hwC]; exact Blk.new _ _ _)
        clear hwC HBR q0 q1 q2 q3 q4 q5 q6 q7 q8 q9 q10
        generalize wr.heap.size = g1 at HBV ⊢
        have q0 := HBV.out.cell 0
        have q1 := HBV.out.cell 1
        have q2 := HBV.out.cell 2
        have q3 := HBV.out.cell 3
        have q4 := HBV.out.cell 4
        have q5 := HBV.out.cell 5
        have q6 := HBV.out.cell 6
        have q7 := HBV.out.cell 7
        have q8 := HBV.out.cell 8
        have q9 := HBV.out.cell 9
        have q10 := HBV.out.cell 10
        simp at q0 q1 q2 q3 q4 q5 q6 q7 q8 q9 q10
        have hdp : IntKind.i64.wrap ((d : Int) + 1) = ((d + 1 : Nat) : Int) := by
          rw [IntKind.wrap_i64]; omega
        cases X
        · go_wp2_with (go_at_call 11; refine (HT.out _ HBC.out).mono ?_; rintro e w2 ⟨rfl, hb2⟩)
          go_ret
          have e0 := HNO.out (by trivial)
          exact ⟨by rw [e0] <;> rfl, HBC.out.trans (hb2.mono HBC.out.size)⟩
        · go_wp2_with (go_at_call 11; refine (HT.out _ HBC.out).mono ?_; rintro e w2 ⟨rfl, hb2⟩; have HB2 : Hid (Below w.heap.size w w2) := hide (HBC.out.trans (hb2.mono HBC.out.size)))
          go_roundw
          case rel => exact ⟨j + 1, by omega, by go_num, HB2, hide (HYES.out (by trivial))⟩
          case measure => simp [intOf]; omega
      · obtain rfl : j = k := by omega
        have HYS : Hid (R = true) := hide (by
          rw [HAL.out (), List.all_eq_true]
          intro x hx
          exact HALL.out x (by rw [List.take_of_length_le (by rw [HRD.out.2.1]; exact Nat.le_refl _)]; exact hx))
        have hjk : ¬ (j : Int) < (j : Int) := by omega
        go_wp2_with fail
        go_ret
        exact ⟨by rw [HYS.out] <;> rfl, HBR.out⟩
      end Go.Proofs.YtleccalfcnkklaaDoor
