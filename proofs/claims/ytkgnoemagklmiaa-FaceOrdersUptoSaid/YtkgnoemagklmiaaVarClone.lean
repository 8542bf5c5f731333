/- slices.Clone at fields, walked; no statement of the seat is proved here. -/
import Derived.Test.YtkgnoemagklmiaaAppRdC
import Derived.Test.YtkgnoemagklmiaaFaceReadF
import Derived.Lib.SliceRun
namespace Go.Proofs.Ytkgnoemagklmiaa
open Go.RowKit Go.Maps

theorem below_grown {B : Nat} {a w w' : World} (h : Below B a w) (hB : B ≤ w.heap.size) {row : Option Nat} (hg : w.grownBy w' row) (hr : ∀ k, row = some k → B ≤ k) : Below B a w' :=
  h.trans (Keep.below ((Keep.refl (fun k => row = some k) w).grown hg (fun _ hk _ => hk)) hB hr)


set_option maxRecDepth 100000 in
set_option maxHeartbeats 2000000 in
theorem vclone_any (A : Option Addr) (n c : Nat) (vs : List Vr) (w : World) (h : Rd w (fun k => w.heap.size ≤ k) 3 A n (vs.flatMap Vr.cells)) (hl : vs.length = n) (hn : n ≤ 100000) :
    Calls Try.prog 36 #[.slice A n c] w (fun e w' => ∃ A' c', e = .returned (.slice A' n c') ∧ w'.ownsRow w.heap.size 45 3 (.slice A' n c') n (vs.flatMap Vr.cells) ∧ Below w.heap.size w w') := by
  have q66 : ∀ (w : World) (a : Option Addr) (n c n' c' : Nat), (binOp .eql 22 (.slice a n c) (.slice none n' c')).run Try.prog w = .ok (.bool a.isNone) w := fun w a n c n' c' => Lib.run_eql_slice_nil w _ _ a n c n' c' Try.underlying22
  cases A with
  | none =>
    have h0 : n = 0 := by
      rcases Nat.eq_zero_or_pos n with h1 | h1
      · exact h1
      · obtain ⟨_, _, e, _⟩ := h.2 h1
        cases e
    subst h0
    obtain rfl : vs = [] := List.eq_nil_of_length_eq_zero hl
    clear h hl
    go_enter Try.func36, Try.ntmps36
    go_wp2_with fail
    go_ret
    exact ⟨none, 0, rfl, World.ownsRow_nil _ _ _ _, Below.refl _ _⟩
  | some ad =>
    have hrd1 := h.alloc (.cells #[] 45)
    have hown : (w.alloc (.cells #[] 45)).ownsRow w.heap.size 45 3 (.slice (some ⟨w.heap.size, 0, none⟩) 0 0) 0 [] := World.ownsRow_made (base := w.heap.size) (e := 45) (size := 3) w #[] 0 (Nat.le_refl _) (by unfold maxLen; omega) rfl
    have h1c : ∀ u ∈ vs.flatMap Vr.cells, u.oneCell' = true := by
      intro u hu
      obtain ⟨ch, _, hu'⟩ := List.mem_flatMap.1 hu
      simp only [Vr.cells, List.mem_cons, List.not_mem_nil, or_false] at hu'
      rcases hu' with rfl | rfl | rfl <;> rfl
    have hb0 := (Below.refl w.heap.size w).alloc (Nat.le_refl _) (.cells #[] 45)
    have HB0 := hide hb0
    have HC := hide h1c
    clear h h1c hb0 hl
    go_enter Try.func36, Try.ntmps36
    go_wp2_with (at_builtin; refine app_rd rfl (.tmp 5) (.tmp 6) 22 rfl w.heap.size 45 _ 3 40 Try.underlying22 var_info rfl (by decide) (.slice (some ⟨w.heap.size, 0, none⟩) 0 0) 0 [] rfl hown (some ad) n c (vs.flatMap Vr.cells) rfl hrd1 HC.out (by unfold maxLen; omega) (by omega) (by simp) ?_; intro A5 c5 w5 hown5 hgrow5 hat5)
    have hb5 := below_grown HB0.out (by simp) hgrow5 (fun j hj => by have : w.heap.size = j := (by simpa [Value.ownBlock] using hj); omega)
    rw [Nat.zero_add, List.nil_append] at hown5
    go_ret
    exact ⟨A5, c5, rfl, hown5, hb5⟩
end Go.Proofs.Ytkgnoemagklmiaa
