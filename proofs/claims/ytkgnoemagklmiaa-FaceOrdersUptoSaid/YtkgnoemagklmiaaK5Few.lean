/- FewStmts walked by the tree; no statement of the seat is proved here. -/
import Derived.Test.YtkgnoemagklmiaaK5Tree
import Derived.Lib.MinMax
import Derived.Deep.DeepCutAuto
import Derived.BigQuiet
namespace Go.Proofs.Ytkgnoemagklmiaa.K5
open Go.RowKit
set_option linter.unusedVariables false

def Ex.few : Ex → Nat → Bool
  | .mk _ _ _ _ n tn _ _ k _ ks _ _ _, d => decide (d ≤ 10) && decide (k ≤ 5) && decide (n.length ≤ 40) && decide (tn.length ≤ 40) && ks.attach.all fun x => x.1.few (d + 1)
termination_by e => SizeOf.sizeOf e
decreasing_by
  have := List.sizeOf_lt_of_mem x.2
  simp only [Ex.mk.sizeOf_spec]
  omega
theorem attach_all {α : Type} (l : List α) (f : α → Bool) : (l.attach.all fun x => f x.1) = l.all f := by
  rw [Bool.eq_iff_iff, List.all_eq_true, List.all_eq_true]
  exact ⟨fun h x hx => h ⟨x, hx⟩ (List.mem_attach _ _), fun h x _ => h x.1 x.2⟩
theorem Ex.few_mk (kd ln co nu : Int) (n tn : List UInt8) (ta : Bool) (A : Option Addr) (k c : Nat) (ks : List Ex) (on : List UInt8) (oa : Bool) (ow : List UInt8) (d : Nat) :
    (Ex.mk kd ln co nu n tn ta A k c ks on oa ow).few d = (decide (d ≤ 10) && decide (k ≤ 5) && decide (n.length ≤ 40) && decide (tn.length ≤ 40) && ks.all fun x => x.few (d + 1)) := by
  rw [Ex.few, attach_all ks fun x => x.few (d + 1)]
/-- So long may a thing so deep be, at most. -/
def fewB : Nat → Nat
  | 0 => 0
  | n + 1 => 144 + 5 * fewB n
theorem dec_flip (a b : Nat) (c : Int) (hc : c = (b : Int)) : decide (a ≤ b) = !decide (c < (a : Int)) := by
  subst hc
  by_cases h : a ≤ b
  · have : ¬ (b : Int) < (a : Int) := by omega
    simp [h, this]
  · have : (b : Int) < (a : Int) := by omega
    simp [h, this]
theorem sum_up {α : Type} {f : α → Nat} {b : Nat} : ∀ {l : List α}, (∀ x ∈ l, f x ≤ b) → (l.map f).sum ≤ l.length * b
  | [], _ => by simp
  | a :: l, h => by
    rw [List.map_cons, List.sum_cons, List.length_cons, Nat.add_mul]
    have h1 := h a List.mem_cons_self
    have h2 := sum_up fun x hx => h x (List.mem_cons_of_mem _ hx)
    omega
theorem Ex.few_len {w : World} {F : Nat → Prop} {e : Ex} (h : e.At w F) : ∀ d, e.few d = true → e.len ≤ fewB (11 - d) := by
  induction h with
  | @mk kd ln co nu n tn ta A k c ks on oa ow hr hl hkc hk hi hs hall ih =>
    intro d hd
    rw [Ex.few_mk] at hd
    simp only [Bool.and_eq_true, decide_eq_true_eq, List.all_eq_true] at hd
    obtain ⟨⟨⟨⟨h1, h2⟩, h3⟩, h4⟩, h5⟩ := hd
    rw [Ex.len_mk, show 11 - d = (10 - d) + 1 by omega, fewB]
    have h6 := sum_up (f := Ex.len) (b := fewB (11 - (d + 1))) fun x hx => ih x hx (d + 1) (h5 x hx)
    rw [show 11 - (d + 1) = 10 - d by omega, hl] at h6
    have h7 : k * fewB (10 - d) ≤ 5 * fewB (10 - d) := Nat.mul_le_mul_right _ h2
    omega
theorem Ex.few_bd {w : World} {F : Nat → Prop} {e : Ex} (h : e.At w F) (hf : e.few 0 = true) : e.len ≤ 1757812500 := by
  have := Ex.few_len h 0 hf
  have e2 : fewB (11 - 0) = 1757812464 := by decide +kernel
  omega

set_option maxRecDepth 100000 in
set_option maxHeartbeats 8000000 in
theorem few_any (e : Ex) : ∀ (d : Nat) (w : World), d ≤ 1000 → e.At w (fun b => w.heap.size ≤ b) → Calls Try.prog 53 #[e.val, .int .i64 (d : Int)] w (Gives w (.bool (e.few d))) := by
  induction e using Ex.ind with
  | h e ih =>
    intro d w hd hat
    obtain ⟨kd, ln, co, nu, n, tn, ta, A, k, c, ks, on, oa, ow⟩ := e
    have hin : Hid (∀ x ∈ ks, ∀ w', Below w.heap.size w w' → d + 1 ≤ 1000 → Calls Try.prog 53 #[x.val, .int .i64 ((d + 1 : Nat) : Int)] w' (Gives w' (.bool (x.few (d + 1))))) := hide (fun x hx w' hw hd1 => by
      cases hat with
      | mk _ _ _ _ _ _ hall => exact ih x hx (d + 1) w' hd1 ((hall x hx).on hw))
    have hRd : Rd w (fun b => w.heap.size ≤ b) 11 A k (ks.flatMap Ex.cells) ∧ ks.length = k ∧ k ≤ 9223372036854775807 := by cases hat with | mk hr hl hkc hk hi hs _ => exact ⟨hr, hl, Nat.le_trans hkc hk⟩
    obtain ⟨R, hR⟩ : ∃ R, R = (Ex.mk kd ln co nu n tn ta A k c ks on oa ow).few d := ⟨_, rfl⟩
    rw [← hR]
    rw [Ex.few_mk] at hR
    obtain ⟨b1, d1⟩ : ∃ b, decide (10 < (d : Int)) = b := ⟨_, rfl⟩
    obtain ⟨b2, d2⟩ : ∃ b, decide (5 < (k : Int)) = b := ⟨_, rfl⟩
    obtain ⟨b3, d3⟩ : ∃ b, decide (40 < (n.length : Int)) = b := ⟨_, rfl⟩
    obtain ⟨b4, d4⟩ : ∃ b, decide (40 < (tn.length : Int)) = b := ⟨_, rfl⟩
    obtain ⟨AL, hAL⟩ : ∃ AL, AL = ks.all fun x => x.few (d + 1) := ⟨_, rfl⟩
    have hRR : R = (!b1 && !b2 && !b3 && !b4 && AL) := by
      rw [hR, hAL, ← d1, ← d2, ← d3, ← d4, dec_flip d 10 10 rfl, dec_flip k 5 5 rfl, dec_flip n.length 40 40 rfl, dec_flip tn.length 40 40 rfl]
    clear hR ih hat
    obtain ⟨wA, hwA⟩ : ∃ wA, wA = w.alloc (.cells #[.int .i64 kd, .int .i64 ln, .int .i64 co, .int .i64 nu, S n, S tn, .bool ta, .slice A k c, S on, .bool oa, S ow] 111) := ⟨_, rfl⟩
    have hbA : Below w.heap.size w wA := by rw [hwA]; exact (Below.refl _ _).alloc (Nat.le_refl _) _
    have hbk : Blk wA w.heap.size 111 #[.int .i64 kd, .int .i64 ln, .int .i64 co, .int .i64 nu, S n, S tn, .bool ta, .slice A k c, S on, .bool oa, S ow] := by rw [hwA]; exact Blk.new _ _ _
    have HBA := hide hbA
    have HBK := hide hbk
    have HRD := hide hRd
    have hk63 : k ≤ 9223372036854775807 := hRd.2.2
    have HAL : Hid (∀ _ : Unit, AL = ks.all fun x => x.few (d + 1)) := hide fun _ => hAL
    have HRR : Hid (R = (!b1 && !b2 && !b3 && !b4 && AL)) := hide hRR
    have c4 := HBK.out.cell 4
    have c5 := HBK.out.cell 5
    have c7 := HBK.out.cell 7
    simp at c4 c5 c7
    clear hRd hbA hbk hAL hRR
    have hd10 : b1 = false → d ≤ 10 := fun h => by rw [h] at d1; simp at d1; omega
    have HD10 := hide hd10
    clear hd10
    show Calls Try.prog 53 #[.agg #[.int .i64 kd, .int .i64 ln, .int .i64 co, .int .i64 nu, S n, S tn, .bool ta, .slice A k c, S on, .bool oa, S ow], .int .i64 (d : Int)] w _
    cases b1
    case true =>
      obtain rfl : R = false := by rw [HRR.out]; rfl
      go_enter Try.func53, Try.ntmps53
      go_upto_region 1 with fail
      rw [← hwA]
      clear hwA
      go_wp2_with fail
      go_ret
      exact ⟨rfl, HBA.out⟩
    cases b2
    case true =>
      obtain rfl : R = false := by rw [HRR.out]; rfl
      go_enter Try.func53, Try.ntmps53
      go_upto_region 1 with fail
      rw [← hwA]
      clear hwA
      go_wp2_with fail
      go_ret
      exact ⟨rfl, HBA.out⟩
    cases b3
    case true =>
      obtain rfl : R = false := by rw [HRR.out]; rfl
      go_enter Try.func53, Try.ntmps53
      go_upto_region 1 with fail
      rw [← hwA]
      clear hwA
      go_wp2_with fail
      go_ret
      exact ⟨rfl, HBA.out⟩
    cases b4
    case true =>
      obtain rfl : R = false := by rw [HRR.out]; rfl
      go_enter Try.func53, Try.ntmps53
      go_upto_region 1 with fail
      rw [← hwA]
      clear hwA
      go_wp2_with fail
      go_ret
      exact ⟨rfl, HBA.out⟩
    obtain rfl : R = AL := by rw [HRR.out]; rfl
    have hdd : d ≤ 10 := HD10.out rfl
    clear HRR HD10
    go_enter Try.func53, Try.ntmps53
    go_upto_region 1 with fail
    rw [← hwA]
    clear hwA
    go_wp2_with fail
    clear c4 c5 c7 d1 d2 d3 d4
    go_loopw [31] (fun i wr => ∃ j : Nat, j ≤ k ∧ i = .int .i64 j ∧ Hid (Below w.heap.size w wr) ∧ Hid (∀ x ∈ ks.take j, x.few (d + 1) = true)) (fun i _ => k - (intOf i).toNat)
    case atStart => exact ⟨0, Nat.zero_le _, rfl, HBA, hide (by intro x hx; simp at hx)⟩
    case round =>
      obtain ⟨j, hj, rfl, HBR, HALL⟩ := hrel
      by_cases hlt : j < k
      · obtain ⟨b, o, hA, _, hbl, hcs⟩ := Rd.rec_ (f := Ex.cells) Ex.cells_len (HRD.out.1.below HBR.out) HRD.out.2.1 j hlt
        have hlk : j < ks.length := by have := HRD.out.2.1; omega
        have HT := hide (fun w' hb => hin.out ks[j] (List.getElem_mem hlk) w' hb (by omega))
        have HYES : Hid (ks[j].few (d + 1) = true → ∀ x ∈ ks.take (j + 1), x.few (d + 1) = true) := hide (fun h x hx => by
          rw [List.take_succ_eq_append_getElem hlk] at hx
          rcases List.mem_append.1 hx with hx | hx
          · exact HALL.out x hx
          · rw [List.mem_singleton.1 hx]; exact h)
        have HNO : Hid (ks[j].few (d + 1) = false → R = false) := hide (fun h => by
          rw [HAL.out ()]
          refine Bool.eq_false_iff.2 fun h2 => ?_
          rw [List.all_eq_true] at h2
          rw [h2 _ (List.getElem_mem hlk)] at h
          cases h)
        generalize ks[j] = x at hcs HT HYES HNO
        obtain ⟨xd, xl, xo, xu, xn, xt, xa, xA, xk, xc, xs, xm, xb, xw⟩ := x
        obtain ⟨X, hX⟩ : ∃ X, X = Ex.few (.mk xd xl xo xu xn xt xa xA xk xc xs xm xb xw) (d + 1) := ⟨_, rfl⟩
        rw [← hX] at HT HYES HNO
        clear hX
        have q0 := hcs 0 (.int .i64 xd) rfl
        have q1 := hcs 1 (.int .i64 xl) rfl
        have q2 := hcs 2 (.int .i64 xo) rfl
        have q3 := hcs 3 (.int .i64 xu) rfl
        have q4 := hcs 4 (S xn) rfl
        have q5 := hcs 5 (S xt) rfl
        have q6 := hcs 6 (.bool xa) rfl
        have q7 := hcs 7 (.slice xA xk xc) rfl
        have q8 := hcs 8 (S xm) rfl
        have q9 := hcs 9 (.bool xb) rfl
        have q10 := hcs 10 (S xw) rfl
        simp only [Nat.add_zero] at q0 q1 q2 q3 q4 q5 q6 q7 q8 q9 q10
        clear hcs
        rw [hA]
        have hjk : (j : Int) < (k : Int) := by omega
        go_upto_region 6 with fail
        refine name_world ?_
        intro wC hwC
        have HBC : Hid (Below w.heap.size w wC) := hide (by rw [hwC]; first | exact HBR.out.alloc HBR.out.size _ | exact (HBR.out.alloc HBR.out.size _).setCell HBR.out.size _)
        have HBV : Hid (Blk wC wr.heap.size 111 #[.int .i64 xd, .int .i64 xl, .int .i64 xo, .int .i64 xu, S xn, S xt, .bool xa, .slice xA xk xc, S xm, .bool xb, S xw]) := hide (by rw [hwC]; exact Blk.new _ _ _)
        clear hwC HBR q0 q1 q2 q3 q4 q5 q6 q7 q8 q9 q10
        generalize wr.heap.size = g1 at HBV ⊢
        have q0 := HBV.out.cell 0
        have q1 := HBV.out.cell 1
        have q2 := HBV.out.cell 2
        have q3 := HBV.out.cell 3
        have q4 := HBV.out.cell 4
        have q5 := HBV.out.cell 5
        have q6 := HBV.out.cell 6
        have q7 := HBV.out.cell 7
        have q8 := HBV.out.cell 8
        have q9 := HBV.out.cell 9
        have q10 := HBV.out.cell 10
        simp at q0 q1 q2 q3 q4 q5 q6 q7 q8 q9 q10
        have hdp : IntKind.i64.wrap ((d : Int) + 1) = ((d + 1 : Nat) : Int) := by
          rw [IntKind.wrap_i64]; omega
        cases X
        · go_wp2_with (go_at_call 53; refine (HT.out _ HBC.out).mono ?_; rintro e w2 ⟨rfl, hb2⟩)
          go_ret
          have e0 := HNO.out (by trivial)
          exact ⟨by rw [e0] <;> rfl, HBC.out.trans (hb2.mono HBC.out.size)⟩
        · go_wp2_with (go_at_call 53; refine (HT.out _ HBC.out).mono ?_; rintro e w2 ⟨rfl, hb2⟩; have HB2 : Hid (Below w.heap.size w w2) := hide (HBC.out.trans (hb2.mono HBC.out.size)))
          go_roundw
          case rel => exact ⟨j + 1, by omega, by go_num, HB2, hide (HYES.out (by trivial))⟩
          case measure => simp [intOf]; omega
      · obtain rfl : j = k := by omega
        have HYS : Hid (R = true) := hide (by
          rw [HAL.out (), List.all_eq_true]
          intro x hx
          exact HALL.out x (by rw [List.take_of_length_le (by rw [HRD.out.2.1]; exact Nat.le_refl _)]; exact hx))
        have hjk : ¬ (j : Int) < (j : Int) := by omega
        go_wp2_with fail
        go_ret
        exact ⟨by rw [HYS.out] <;> rfl, HBR.out⟩
def St.few : St → Nat → Bool
  | .mk _ _ _ n tn _ _ ek _ es _ _ _ ts _ _ _ ls, q => decide (ek ≤ 3) && decide (n.length ≤ 40) && decide (tn.length ≤ 40) && (decide (q + 1 ≤ 5) && decide (ts.length ≤ 10) && ts.attach.all fun x => x.1.few (q + 1)) && (decide (q + 1 ≤ 5) && decide (ls.length ≤ 10) && ls.attach.all fun x => x.1.few (q + 1)) && es.all fun e => e.few 0
termination_by s => SizeOf.sizeOf s
decreasing_by
  · have := List.sizeOf_lt_of_mem x.2
    simp only [St.mk.sizeOf_spec]
    omega
  · have := List.sizeOf_lt_of_mem x.2
    simp only [St.mk.sizeOf_spec]
    omega
def fewL (q : Nat) (l : List St) : Bool := decide (q ≤ 5) && decide (l.length ≤ 10) && l.all fun x => x.few q
theorem St.few_mk (ds ln co : Int) (n tn : List UInt8) (ta : Bool) (eA : Option Addr) (ek ec : Nat) (es : List Ex) (tA : Option Addr) (tk tc : Nat) (ts : List St) (lA : Option Addr) (lk lc : Nat) (ls : List St) (q : Nat) : (St.mk ds ln co n tn ta eA ek ec es tA tk tc ts lA lk lc ls).few q = (decide (ek ≤ 3) && decide (n.length ≤ 40) && decide (tn.length ≤ 40) && fewL (q + 1) ts && fewL (q + 1) ls && es.all fun e => e.few 0) := by
  rw [St.few, attach_all ts fun x => x.few (q + 1), attach_all ls fun x => x.few (q + 1)]
  rfl
def St.tW : St → Value | .mk _ _ _ _ _ _ _ _ _ _ tA tk tc _ _ _ _ _ => .slice tA tk tc
def St.lW : St → Value | .mk _ _ _ _ _ _ _ _ _ _ _ _ _ _ lA lk lc _ => .slice lA lk lc
structure HadF (w : World) (x : St) (q : Nat) : Prop where
  at_ : x.At w (fun b => w.heap.size ≤ b)
  th : ∀ w', Below w.heap.size w w' → Calls Try.prog 35 #[x.tW, .int .i64 ((q + 1 : Nat) : Int)] w' (Gives w' (.bool (fewL (q + 1) x.ts)))
  el : ∀ w', Below w.heap.size w w' → Calls Try.prog 35 #[x.lW, .int .i64 ((q + 1 : Nat) : Int)] w' (Gives w' (.bool (fewL (q + 1) x.ls)))
theorem all_no {α : Type} {l : List α} {f : α → Bool} {j : Nat} (h : j < l.length) (hf : f l[j] = false) : l.all f = false := by
  refine Bool.eq_false_iff.2 fun h2 => ?_
  rw [List.all_eq_true] at h2
  rw [h2 _ (List.getElem_mem h)] at hf
  cases hf
theorem all_yes {α : Type} {l : List α} {f : α → Bool} {k : Nat} (hl : l.length = k) (h : ∀ x ∈ l.take k, f x = true) : l.all f = true := by
  rw [List.all_eq_true]
  intro x hx
  exact h x (by rw [List.take_of_length_le (by omega)]; exact hx)
theorem take_yes {α : Type} {l : List α} {f : α → Bool} {j : Nat} (h : j < l.length) (hall : ∀ x ∈ l.take j, f x = true) (hf : f l[j] = true) : ∀ x ∈ l.take (j + 1), f x = true := by
  intro x hx
  rw [List.take_succ_eq_append_getElem h] at hx
  rcases List.mem_append.1 hx with hx | hx
  · exact hall x hx
  · rw [List.mem_singleton.1 hx]; exact hf

set_option maxRecDepth 100000 in
set_option maxHeartbeats 40000000 in
theorem fs_any (A : Option Addr) (k c : Nat) (ts : List St) (q : Nat) (w : World) (hr : Rd w (fun b => w.heap.size ≤ b) 9 A k (ts.flatMap St.cells)) (hl : ts.length = k) (hk : k ≤ 9223372036854775807) (hq : q ≤ 1000)
    (hx : q ≤ 5 → ∀ x ∈ ts, HadF w x q) :
    Calls Try.prog 35 #[.slice A k c, .int .i64 (q : Int)] w (Gives w (.bool (fewL q ts))) := by
  obtain ⟨R, hR⟩ : ∃ R, R = fewL q ts := ⟨_, rfl⟩
  rw [← hR]
  unfold fewL at hR
  rw [hl] at hR
  obtain ⟨b1, d1⟩ : ∃ b, decide (5 < (q : Int)) = b := ⟨_, rfl⟩
  obtain ⟨b2, d2⟩ : ∃ b, decide (10 < (k : Int)) = b := ⟨_, rfl⟩
  have hRR : R = (!b1 && !b2 && ts.all fun x => x.few q) := by
    rw [hR, ← d1, ← d2, dec_flip q 5 5 rfl, dec_flip k 10 10 rfl]
  have HRR := hide (fun _ : Unit => hRR)
  have hq5 : b1 = false → q ≤ 5 := fun h => by rw [h] at d1; simp at d1; omega
  have HQ5 := hide hq5
  have HRD := hide hr
  have HLN := hide hl
  have HX := hide hx
  clear hr hl hx hR hRR hq5
  cases b1
  case true =>
    have HF : Hid (R = false) := hide (by rw [HRR.out ()]; rfl)
    go_enter Try.func35, Try.ntmps35
    go_wp2_with fail
    go_ret
    exact ⟨by rw [HF.out] <;> rfl, Below.refl _ _⟩
  cases b2
  case true =>
    have HF : Hid (R = false) := hide (by rw [HRR.out ()]; rfl)
    go_enter Try.func35, Try.ntmps35
    go_wp2_with fail
    go_ret
    exact ⟨by rw [HF.out] <;> rfl, Below.refl _ _⟩
  have HR1 : Hid (∀ _ : Unit, R = ts.all fun x => x.few q) := hide (fun _ => by rw [HRR.out ()]; rfl)
  have HX1 := hide (HX.out (HQ5.out (by trivial)))
  have hq6 := HQ5.out (by trivial)
  clear HRR HX HQ5
  go_enter Try.func35, Try.ntmps35
  go_wp2_with fail
  clear d1 d2
  go_loopw [18] (fun i wr => ∃ j : Nat, j ≤ k ∧ i = .int .i64 j ∧ Hid (Below w.heap.size w wr) ∧ Hid (∀ x ∈ ts.take j, x.few q = true)) (fun i _ => k - (intOf i).toNat)
  case atStart => exact ⟨0, Nat.zero_le _, rfl, hide (Below.refl _ _), hide (by intro x hx; simp at hx)⟩
  case round =>
    obtain ⟨j, hj, rfl, HBR, HALL⟩ := hrel
    by_cases hlt : j < k
    case neg =>
      obtain rfl : j = k := by omega
      have HF : Hid (R = true) := hide (by rw [HR1.out ()]; exact all_yes HLN.out HALL.out)
      have hjk : ¬ (j : Int) < (j : Int) := by omega
      go_wp2_with fail
      go_ret
      exact ⟨by rw [HF.out] <;> rfl, HBR.out⟩
    obtain ⟨b, o, hA, _, hbl, hcs⟩ := Rd.rec_ (f := St.cells) St.cells_len (HRD.out.below HBR.out) HLN.out j hlt
    have hlk : j < ts.length := by have := HLN.out; omega
    have hxx := HX1.out ts[j] (List.getElem_mem hlk)
    have HYES : Hid (ts[j].few q = true → ∀ x ∈ ts.take (j + 1), x.few q = true) := hide (take_yes hlk HALL.out)
    have HNO : Hid (ts[j].few q = false → R = false) := hide (fun h => by rw [HR1.out ()]; exact all_no (f := fun x => x.few q) hlk h)
    generalize ts[j] = x at hcs hxx HYES HNO
    obtain ⟨yd, yl, yo, yn, yt, ya, yE, yek, yec, yes, yT, ytk, ytc, yts, yL, ylk, ylc, yls⟩ := x
    have ha := hxx.at_
    cases ha with
    | mk er el ekc ek' hea tr tl tkc tk' hta lr ll lkc lk' hla hi hs =>
    have hTH : ∀ w', Below w.heap.size w w' → Calls Try.prog 35 #[.slice yT ytk ytc, .int .i64 ((q + 1 : Nat) : Int)] w' (Gives w' (.bool (fewL (q + 1) yts))) := hxx.th
    have hEL : ∀ w', Below w.heap.size w w' → Calls Try.prog 35 #[.slice yL ylk ylc, .int .i64 ((q + 1 : Nat) : Int)] w' (Gives w' (.bool (fewL (q + 1) yls))) := hxx.el
    rw [St.few_mk] at HYES HNO
    have HE := hide er
    have HEL := hide el
    have HEA := hide hea
    have hek : yek ≤ 9223372036854775807 := Nat.le_trans ekc ek'
    have hjk : (j : Int) < (k : Int) := by omega
    have hqp : IntKind.i64.wrap ((q : Int) + 1) = ((q + 1 : Nat) : Int) := by rw [IntKind.wrap_i64]; omega
    have q0 := hcs 0 (.int .i64 yd) rfl
    have q1 := hcs 1 (.int .i64 yl) rfl
    have q2 := hcs 2 (.int .i64 yo) rfl
    have q3 := hcs 3 (S yn) rfl
    have q4 := hcs 4 (S yt) rfl
    have q5 := hcs 5 (.bool ya) rfl
    have q6 := hcs 6 (.slice yE yek yec) rfl
    have q7 := hcs 7 (.slice yT ytk ytc) rfl
    have q8 := hcs 8 (.slice yL ylk ylc) rfl
    simp only [Nat.add_zero] at q0 q1 q2 q3 q4 q5 q6 q7 q8
    clear hcs hla lr hta tr hea er hxx hi hs el ekc ek' tl tkc tk' ll lkc lk'
    rw [hA]
    go_upto_region 6 with fail
    refine name_world ?_
    intro wC hwC
    have hbc : Below wr.heap.size wr wC := by rw [hwC]; exact (Below.refl _ _).alloc (Nat.le_refl _) _
    have HV : Hid (Blk wC wr.heap.size 108 #[.int .i64 yd, .int .i64 yl, .int .i64 yo, S yn, S yt, .bool ya, .slice yE yek yec, .slice yT ytk ytc, .slice yL ylk ylc]) := hide (by rw [hwC]; exact Blk.new _ _ _)
    have HBC : Hid (Below w.heap.size w wC) := hide (HBR.out.trans (hbc.mono HBR.out.size))
    clear hwC hbc q0 q1 q2 q3 q4 q5 q6 q7 q8
    generalize wr.heap.size = g1 at HV ⊢
    have HTH := hide hTH
    have HL := hide hEL
    clear hTH hEL
    rw [dec_flip yek 3 3 rfl, dec_flip yn.length 40 40 rfl, dec_flip yt.length 40 40 rfl] at HYES HNO
    obtain ⟨b3, d3⟩ : ∃ b, decide (3 < (yek : Int)) = b := ⟨_, rfl⟩
    obtain ⟨b4, d4⟩ : ∃ b, decide (40 < (yn.length : Int)) = b := ⟨_, rfl⟩
    obtain ⟨b5, d5⟩ : ∃ b, decide (40 < (yt.length : Int)) = b := ⟨_, rfl⟩
    rw [d3, d4, d5] at HYES HNO
    generalize fewL (q + 1) yts = X1 at HTH HYES HNO
    generalize fewL (q + 1) yls = X2 at HL HYES HNO
    obtain ⟨AL, hAL⟩ : ∃ AL, AL = yes.all fun e => e.few 0 := ⟨_, rfl⟩
    rw [← hAL] at HYES HNO
    have HAL := hide (fun _ : Unit => hAL)
    clear hAL
    have q0 := HV.out.cell 0
    have q1 := HV.out.cell 1
    have q2 := HV.out.cell 2
    have q3 := HV.out.cell 3
    have q4 := HV.out.cell 4
    have q5 := HV.out.cell 5
    have q6 := HV.out.cell 6
    have q7 := HV.out.cell 7
    have q8 := HV.out.cell 8
    simp at q0 q1 q2 q3 q4 q5 q6 q7 q8
    cases b3
    case true =>
      have HF := hide (HNO.out (by simp))
      go_wp2_with fail
      go_ret
      exact ⟨by rw [HF.out] <;> rfl, HBC.out⟩
    cases b4
    case true =>
      have HF := hide (HNO.out (by simp))
      go_wp2_with fail
      go_ret
      exact ⟨by rw [HF.out] <;> rfl, HBC.out⟩
    cases b5
    case true =>
      have HF := hide (HNO.out (by simp))
      go_wp2_with fail
      go_ret
      exact ⟨by rw [HF.out] <;> rfl, HBC.out⟩
    cases X1
    case false =>
      have HF := hide (HNO.out (by simp))
      go_wp2_with (go_at_call 35; refine (HTH.out _ HBC.out).mono ?_; rintro e w2 ⟨rfl, hb2⟩)
      go_ret
      exact ⟨by rw [HF.out] <;> rfl, HBC.out.trans (hb2.mono HBC.out.size)⟩
    go_wp2_with fail
    refine (HTH.out _ HBC.out).mono ?_
    rintro e w2 ⟨rfl, hb2⟩
    have HB2 : Hid (Below w.heap.size w w2) := hide (HBC.out.trans (hb2.mono HBC.out.size))
    have HV2 := hide (HV.out.below hb2 HV.out.lt)
    clear hb2 q0 q1 q2 q3 q4 q5 q6 q7 q8 HV HBC
    have q6 := HV2.out.cell 6
    have q7 := HV2.out.cell 7
    have q8 := HV2.out.cell 8
    simp at q6 q7 q8
    cases X2
    case false =>
      have HF := hide (HNO.out (by simp))
      go_wp2_with (go_at_call 35; refine (HL.out _ HB2.out).mono ?_; rintro e w3 ⟨rfl, hb3⟩)
      go_ret
      exact ⟨by rw [HF.out] <;> rfl, HB2.out.trans (hb3.mono HB2.out.size)⟩
    go_upto_region 8 with (go_at_call 35; refine (HL.out _ HB2.out).mono ?_; rintro e w3 ⟨rfl, hb3⟩)
    have HB3 : Hid (Below w.heap.size w w3) := hide (HB2.out.trans (hb3.mono HB2.out.size))
    have HV3 := hide (HV2.out.below hb3 HV2.out.lt)
    clear hb3 q6 q7 q8 HV2 HB2 HL HTH
    have q6 := HV3.out.cell 6
    simp at q6
    have HYS : Hid (AL = true → ∀ x ∈ ts.take (j + 1), x.few q = true) := hide (fun h => HYES.out (by simp [h]))
    have HNS : Hid (AL = false → R = false) := hide (fun h => HNO.out (by simp [h]))
    clear HYES HNO d3 d4 d5
    go_wp2_with fail
    clear q6
    go_loopw [58] (fun i wr => ∃ m : Nat, m ≤ yek ∧ i = .int .i64 m ∧ Hid (Below w.heap.size w wr) ∧ Hid (∀ e ∈ yes.take m, e.few 0 = true)) (fun i _ => yek - (intOf i).toNat)
    case atStart => exact ⟨0, Nat.zero_le _, rfl, HB3, hide (by intro x hx; simp at hx)⟩
    case round =>
      obtain ⟨m, hm, rfl, HBI, HAE⟩ := hrel
      by_cases hlm : m < yek
      case neg =>
        obtain rfl : m = yek := by omega
        have HALT : Hid (AL = true) := hide (by rw [HAL.out ()]; exact all_yes HEL.out HAE.out)
        have hmk : ¬ (m : Int) < (m : Int) := by omega
        go_wp2_with fail
        go_roundw
        case rel => first | exact ⟨j + 1, by omega, by go_num, HBI, hide (HYS.out HALT.out)⟩ | ((repeat apply Exists.intro); exact ⟨⟨j + 1, by omega, by go_num, HBI, hide (HYS.out HALT.out)⟩, rfl⟩)
        case measure => simp [intOf]; omega
      obtain ⟨b', o', hA', _, hbl', hcs'⟩ := Rd.rec_ (f := Ex.cells) Ex.cells_len (HE.out.below HBI.out) HEL.out m hlm
      have hml : m < yes.length := by have := HEL.out; omega
      have HT := hide (fun w' (hb : Below w.heap.size w w') => few_any yes[m] 0 w' (by omega) ((HEA.out yes[m] (List.getElem_mem hml)).on hb))
      have HYE : Hid (yes[m].few 0 = true → ∀ e ∈ yes.take (m + 1), e.few 0 = true) := hide (take_yes (f := fun e : Ex => e.few 0) hml HAE.out)
      have HNE : Hid (yes[m].few 0 = false → R = false) := hide (fun h => HNS.out (by rw [HAL.out ()]; exact all_no (f := fun e : Ex => e.few 0) hml h))
      generalize yes[m] = x at hcs' HT HYE HNE
      obtain ⟨xd, xl, xo, xu, xn, xt, xa, xA, xk, xc, xs, xm, xb, xw⟩ := x
      obtain ⟨X, hX⟩ : ∃ X, X = Ex.few (.mk xd xl xo xu xn xt xa xA xk xc xs xm xb xw) 0 := ⟨_, rfl⟩
      rw [← hX] at HT HYE HNE
      clear hX
      have q0 := hcs' 0 (.int .i64 xd) rfl
      have q1 := hcs' 1 (.int .i64 xl) rfl
      have q2 := hcs' 2 (.int .i64 xo) rfl
      have q3 := hcs' 3 (.int .i64 xu) rfl
      have q4 := hcs' 4 (S xn) rfl
      have q5 := hcs' 5 (S xt) rfl
      have q6 := hcs' 6 (.bool xa) rfl
      have q7 := hcs' 7 (.slice xA xk xc) rfl
      have q8 := hcs' 8 (S xm) rfl
      have q9 := hcs' 9 (.bool xb) rfl
      have q10 := hcs' 10 (S xw) rfl
      simp only [Nat.add_zero] at q0 q1 q2 q3 q4 q5 q6 q7 q8 q9 q10
      clear hcs'
      rw [hA']
      have hmk : (m : Int) < (yek : Int) := by omega
      go_upto_region 11 with fail
      refine name_world ?_
      intro wD hwD
      have hbd : Below wr.heap.size wr wD := by rw [hwD]; exact (Below.refl _ _).alloc (Nat.le_refl _) _
      have HW : Hid (Blk wD wr.heap.size 111 #[.int .i64 xd, .int .i64 xl, .int .i64 xo, .int .i64 xu, S xn, S xt, .bool xa, .slice xA xk xc, S xm, .bool xb, S xw]) := hide (by rw [hwD]; exact Blk.new _ _ _)
      have HBD : Hid (Below w.heap.size w wD) := hide (HBI.out.trans (hbd.mono HBI.out.size))
      clear hwD hbd q0 q1 q2 q3 q4 q5 q6 q7 q8 q9 q10
      generalize wr.heap.size = g4 at HW ⊢
      have q0 := HW.out.cell 0
      have q1 := HW.out.cell 1
      have q2 := HW.out.cell 2
      have q3 := HW.out.cell 3
      have q4 := HW.out.cell 4
      have q5 := HW.out.cell 5
      have q6 := HW.out.cell 6
      have q7 := HW.out.cell 7
      have q8 := HW.out.cell 8
      have q9 := HW.out.cell 9
      have q10 := HW.out.cell 10
      simp at q0 q1 q2 q3 q4 q5 q6 q7 q8 q9 q10
      cases X
      · have HF := hide (HNE.out (by trivial))
        go_wp2_with (go_at_call 53; refine (HT.out _ HBD.out).mono ?_; rintro e w5 ⟨rfl, hb5⟩)
        go_ret
        exact ⟨by rw [HF.out] <;> rfl, HBD.out.trans (hb5.mono HBD.out.size)⟩
      · have HY2 := hide (HYE.out (by trivial))
        go_wp2_with (go_at_call 53; refine (HT.out _ HBD.out).mono ?_; rintro e w5 ⟨rfl, hb5⟩; have HB5 : Hid (Below w.heap.size w w5) := hide (HBD.out.trans (hb5.mono HBD.out.size)); clear hb5)
        go_roundw
        case rel => first | exact ⟨m + 1, by omega, by go_num, HB5, HY2⟩ | ((repeat apply Exists.intro); exact ⟨⟨m + 1, by omega, by go_num, HB5, HY2⟩, rfl⟩)
        case measure => simp [intOf]; omega
theorem fs_tree (s : St) : ∀ (q : Nat) (w : World), q ≤ 5 → s.At w (fun b => w.heap.size ≤ b) →
    Calls Try.prog 35 #[s.tW, .int .i64 ((q + 1 : Nat) : Int)] w (Gives w (.bool (fewL (q + 1) s.ts))) ∧ Calls Try.prog 35 #[s.lW, .int .i64 ((q + 1 : Nat) : Int)] w (Gives w (.bool (fewL (q + 1) s.ls))) := by
  induction s using St.ind with
  | h s iht ihl =>
    intro q w hq hat
    obtain ⟨yd, yl, yo, yn, yt, ya, yE, yek, yec, yes, yT, ytk, ytc, yts, yL, ylk, ylc, yls⟩ := s
    cases hat with
    | mk hr hl hkc hk hea tr tl tkc tk' hta lr ll lkc lk' hla hi hs =>
    exact ⟨fs_any yT ytk ytc yts (q + 1) w tr tl (Nat.le_trans tkc tk') (by omega) (fun h5 x hx => ⟨hta x hx, fun w' hw => (iht x hx (q + 1) w' h5 ((hta x hx).on hw)).1, fun w' hw => (iht x hx (q + 1) w' h5 ((hta x hx).on hw)).2⟩),
      fs_any yL ylk ylc yls (q + 1) w lr ll (Nat.le_trans lkc lk') (by omega) (fun h5 x hx => ⟨hla x hx, fun w' hw => (ihl x hx (q + 1) w' h5 ((hla x hx).on hw)).1, fun w' hw => (ihl x hx (q + 1) w' h5 ((hla x hx).on hw)).2⟩)⟩
/-- Whatever statements: whether they are few. -/
theorem fewstmts_any (A : Option Addr) (k c : Nat) (ts : List St) (w : World) (hr : Rd w (fun b => w.heap.size ≤ b) 9 A k (ts.flatMap St.cells)) (hl : ts.length = k) (hk : k ≤ 9223372036854775807) (ha : ∀ x ∈ ts, x.At w (fun b => w.heap.size ≤ b)) :
    Calls Try.prog 35 #[.slice A k c, .int .i64 0] w (Gives w (.bool (fewL 0 ts))) :=
  fs_any A k c ts 0 w hr hl hk (by omega) (fun _ x hx => ⟨ha x hx, fun w' hw => (fs_tree x 0 w' (by omega) ((ha x hx).on hw)).1, fun w' hw => (fs_tree x 0 w' (by omega) ((ha x hx).on hw)).2⟩)
end Go.Proofs.Ytkgnoemagklmiaa.K5
