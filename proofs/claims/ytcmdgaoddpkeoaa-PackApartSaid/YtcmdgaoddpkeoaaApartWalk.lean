/- PackApart, walked: it returns true for every input. -/
import Derived.Test.YtcmdgaoddpkeoaaLaw02Head
namespace Go.Proofs.Ytcmdgaoddpkeoaa
open Go.RowKit

/-- The first k numbers of two rows are the same, nought for what is below. -/
def sameTo (a b : List Int) (k : Nat) : Bool := (a.take k).map Int.toNat == (b.take k).map Int.toNat

theorem sameTo_zero (a b : List Int) : sameTo a b 0 = true := by simp [sameTo]
theorem sameTo_succ (a b : List Int) (k : Nat) (ha : k < a.length) (hb : k < b.length) : sameTo a b (k + 1) = (sameTo a b k && (a[k].toNat == b[k].toNat)) := by
  unfold sameTo
  rw [List.take_succ_eq_append_getElem ha, List.take_succ_eq_append_getElem hb, List.map_append, List.map_append, Bool.eq_iff_iff]
  simp only [beq_iff_eq, Bool.and_eq_true, List.map_cons, List.map_nil]
  constructor
  · intro h
    have := List.append_inj' h rfl
    exact ⟨this.1, by simpa using this.2⟩
  · rintro ⟨h1, h2⟩
    rw [h1, h2]
theorem sameTo_false {a b : List Int} {k : Nat} (ha : k < a.length) (hb : k < b.length) (h : sameTo a b k = false) : sameTo a b (k + 1) = false := by
  rw [sameTo_succ a b k ha hb, h]; rfl
theorem sameTo_eq {a b : List Int} {k : Nat} (ha : k < a.length) (hb : k < b.length) (h : sameTo a b k = true) {r : Bool} (hr : r = true ↔ a[k].toNat = b[k].toNat) : r = sameTo a b (k + 1) := by
  rw [sameTo_succ a b k ha hb, h, Bool.eq_iff_iff, hr]
  simp

theorem same_vis (a b : List Int) (hl : a.length = b.length) (k : Nat) (hk : a.length ≤ k) :
    sameTo a b k = (visAll a == visAll b) ∧ sameTo a b k = (visAll a == (visAll b).take (visAll a).length) ∧ sameTo a b k = ((visAll a).take (visAll b).length == visAll b) := by
  have e0 : sameTo a b k = (a.map Int.toNat == b.map Int.toNat) := by
    unfold sameTo
    rw [List.take_of_length_le hk, List.take_of_length_le (by omega)]
  have hl' : (a.map Int.toNat).length = (b.map Int.toNat).length := by simpa using hl
  rw [e0]
  unfold visAll
  refine ⟨?_, ?_, ?_⟩
  all_goals
    rw [Bool.eq_iff_iff]
    simp only [beq_iff_eq]
    constructor
    · intro h
      simp [h]
  · intro h
    exact (vis_inj _ _ [] [] hl' (by simpa using h)).1
  · intro h
    have e : vis (List.map Int.toNat b) = (vis (List.map Int.toNat b)).take (vis (List.map Int.toNat a)).length ++ (vis (List.map Int.toNat b)).drop (vis (List.map Int.toNat a)).length := (List.take_append_drop _ _).symm
    rw [← h] at e
    exact (vis_inj _ _ _ [] hl' (e.symm.trans (List.append_nil _).symm)).1
  · intro h
    have e : vis (List.map Int.toNat a) = (vis (List.map Int.toNat a)).take (vis (List.map Int.toNat b)).length ++ (vis (List.map Int.toNat a)).drop (vis (List.map Int.toNat b)).length := (List.take_append_drop _ _).symm
    rw [h] at e
    exact (vis_inj _ _ [] _ hl' ((List.append_nil _).trans e)).1

set_option maxRecDepth 100000 in
set_option maxHeartbeats 4000000 in
theorem apart_main (A : Option Addr) (n c : Nat) (a : List Int) (B : Option Addr) (d : Nat) (b : List Int) (w : World)
    (ha : Rd w (fun _ => False) 1 A n (a.map (Value.int .i64))) (hb : Rd w (fun _ => False) 1 B n (b.map (Value.int .i64)))
    (hwa : ∀ x ∈ a, x ≤ 9223372036854775807) (hwb : ∀ x ∈ b, x ≤ 9223372036854775807) (h0 : 0 < n) (h30 : n ≤ 30) :
    Calls Try.prog 3 #[.slice A n c, .slice B n d] w (Gives w (.bool true)) := by
  have hd1 : decide (30 < (n : Int)) = false := by simp; omega
  have hd2 : ((n : Int) == 0) = false := by simp; omega
  have ha1 := ha.old
  have hb1' := hb.old
  clear ha hb
  go_enter Try.func3, Try.ntmps3
  go_wp2_with (go_at_call 10; refine (head_any _).mono ?_; rintro e w1 ⟨rfl, hb1⟩)
  have hs1 := hb1.size
  have ha2 := ((ha1.below hb1).alloc (.cells #[.slice none 0 0] 27)).alloc (.cells #[.slice none 0 0] 27)
  have hb2 := ((hb1'.below hb1).alloc (.cells #[.slice none 0 0] 27)).alloc (.cells #[.slice none 0 0] 27)
  have hW1 := (wr_new w1).alloc (.cells #[.slice none 0 0] 27)
  have hW2 := wr_new (w1.alloc (.cells #[.slice none 0 0] 27))
  rw [World.size_alloc] at hW2
  refine (num_any w1.heap.size (.slice none 0 0) [] A n c a _ hW1 (ha2.weak ?_) hwa (by simp; omega)).mono ?_
  · rintro k _ (rfl | hk)
    · exact hs1
    · simp [Value.ownBlock] at hk
  rintro e w2 ⟨v2, rfl, h2⟩
  rw [List.nil_append] at h2
  go_wp2_with fail
  refine (string_any _ _ _ _ h2.1).mono ?_
  rintro e w3 ⟨rfl, rfl⟩
  go_wp2_with fail
  refine (num_any (w1.heap.size + 1) (.slice none 0 0) [] B n d b _ (hW2.keep h2.2.1 ?_ ?_) ((hb2.keep (h2.2.1.mono ?_)).weak ?_) hwb (by simp; omega)).mono ?_
  · rintro (hk | hk)
    · omega
    · simp [Value.ownBlock] at hk
  · simp [Value.ownBlock]
  · rintro k _ (rfl | hk)
    · exact hs1
    · simp [Value.ownBlock] at hk
  · rintro k _ (rfl | hk)
    · omega
    · simp [Value.ownBlock] at hk
  rintro e w4 ⟨v4, rfl, h4⟩
  rw [List.nil_append] at h4
  go_wp2_with fail
  refine (string_any _ _ _ _ h4.1).mono ?_
  rintro e w5 ⟨rfl, rfl⟩
  have hbl : Below w.heap.size w w4 := by
    have e1 := h2.below (B := w.heap.size) (by simp; omega) hs1 (by simp [Value.ownBlock])
    have e2 := h4.below (B := w.heap.size) (by have := e1.size; simp at this; omega) (by omega) (by simp [Value.ownBlock])
    exact ((hb1.alloc hs1 _).alloc (by simp; omega) _).trans (e1.trans e2)
  have ha4 := (ha1.below hbl)
  have hb4 := (hb1'.below hbl)
  clear ha2 hb2 hW1 hW2 h2 h4 hb1 hs1 ha1 hb1'
  go_wp2_with fail
  have hla : a.length = n := by have := ha4.1; simpa using this
  have hlb : b.length = n := by have := hb4.1; simpa using this
  have HLA := hide hla
  have HLB := hide hlb
  clear hla hlb
  go_loopw [9, 43] (fun s i wr => ∃ k : Nat, k ≤ n ∧ i = .int .i64 k ∧ s = .bool (sameTo a b k) ∧ Below w.heap.size w wr ∧ Below w.heap.size w4 wr) (fun _ i _ => n - (intOf i).toNat)
  case atStart => exact ⟨0, Nat.zero_le _, rfl, by rw [sameTo_zero], hbl, Below.refl _ _⟩
  case round =>
    obtain ⟨k, hk, rfl, rfl, hbr, hb4r⟩ := hrel
    by_cases hlt : k < n
    · obtain ⟨x, o, u, rfl, hu, hc⟩ := (ha4.below hb4r).at_ k hlt
      obtain ⟨x', o', u', rfl, hu', hc'⟩ := (hb4.below hb4r).at_ k hlt
      have hka : k < a.length := by have := HLA.out; omega
      have hkb : k < b.length := by have := HLB.out; omega
      obtain rfl : Value.int .i64 a[k] = u := by simpa [hka] using hu
      obtain rfl : Value.int .i64 b[k] = u' := by simpa [hkb] using hu'
      clear hu hu'
      have HF := hide (fun h => sameTo_false (a := a) (b := b) hka hkb h)
      have HE := hide (fun h r hr => sameTo_eq (a := a) (b := b) hka hkb h (r := r) hr)
      generalize a[k] = p at *
      generalize b[k] = q at *
      cases hs : sameTo a b k
      · go_wp2_with fail
        go_quiet (fail)
        go_wp2
        go_roundw
        case rel => exact ⟨k + 1, by omega, by go_num, by rw [HF.out hs], bdrewN hbr _, bdrewN hb4r _⟩
        case measure => simp [intOf]; omega
      · have hp : p < 0 ∨ 0 ≤ p := by omega
        have hq : q < 0 ∨ 0 ≤ q := by omega
        rcases hp with hp | hp <;> rcases hq with hq | hq
        all_goals
          go_wp2_with fail
          go_quiet (fail)
          go_wp2
          go_roundw
          case rel => exact ⟨k + 1, by omega, by go_num, congrArg Value.bool (HE.out hs _ (by simp; omega)), bdrewN hbr _, bdrewN hb4r _⟩
          case measure => simp [intOf]; omega
    · obtain ⟨x, o, u, rfl, hu, hc⟩ := (ha4.below hb4r).at_ 0 h0
      obtain ⟨x', o', u', rfl, hu', hc'⟩ := (hb4.below hb4r).at_ 0 h0
      obtain ⟨p, hp⟩ : ∃ p, a[0]? = some p := ⟨a[0]'(by have := HLA.out; omega), by simp⟩
      obtain ⟨q, hq⟩ : ∃ q, b[0]? = some q := ⟨b[0]'(by have := HLB.out; omega), by simp⟩
      obtain rfl : Value.int .i64 p = u := by simpa [hp] using hu
      obtain rfl : Value.int .i64 q = u' := by simpa [hq] using hu'
      have hpw := hwa p (List.mem_of_getElem? hp)
      have hqw := hwb q (List.mem_of_getElem? hq)
      have hca : ∀ t : After wr, t.val.cell? ⟨x, o, none⟩ = some (.int .i64 p) := fun t => (t.prop.cell (World.block_lt_of_cell? wr _ hc)).trans hc
      have hcb : ∀ t : After wr, t.val.cell? ⟨x', o', none⟩ = some (.int .i64 q) := fun t => (t.prop.cell (World.block_lt_of_cell? wr _ hc')).trans hc'
      have hle := vi_len_mono (min p q).toNat (max p q).toNat (by omega)
      have HS : Hid (sameTo a b k = (visAll a == visAll b) ∧ sameTo a b k = (visAll a == (visAll b).take (visAll a).length) ∧ sameTo a b k = ((visAll a).take (visAll b).length == visAll b)) := same_vis a b (by rw [HLA.out, HLB.out]) k (by have := HLA.out; omega)
      clear hu hu' hp hq hc hc' ha4 hb4 hbl hwa hwb
      generalize visAll a = X at *
      generalize visAll b = Y at *
      have hms : ∀ s : Bool, sameTo a b k = s → (X == Y) = s ∧ (X == Y.take X.length) = s ∧ (X.take Y.length == Y) = s := fun s h => by rw [← HS.out.1, ← HS.out.2.1, ← HS.out.2.2]; exact ⟨h, h, h⟩
      have HM := hide hms
      clear hms
      by_cases hXY : Y.length < X.length
      all_goals
        cases hs : sameTo a b k
        all_goals
          obtain ⟨h1, h2, h3⟩ := HM.out _ hs
          rcases Int.lt_trichotomy p q with hpq | rfl | hpq
          all_goals
            first
              | have hle1 : decide ((vi p.toNat).length ≤ (vi q.toNat).length) = true := by simp; exact vi_len_mono _ _ (by omega)
              | have hle1 : decide ((vi q.toNat).length ≤ (vi p.toNat).length) = true := by simp; exact vi_len_mono _ _ (by omega)
              | have hle1 : True := trivial
            go_wp2_with fail
            refine region_after (by kernel_rfl) (by kernel_rfl) ?_
            repeat (go_big_quiet_step ((go_at_call 13; refine call_after (lawnum_any _ _ (by omega)))))
            refine wpQuiet_nil ?_
            rintro _ ⟨t, rfl⟩
            go_wp2
            go_ret
            exact ⟨rfl, hbr.trans (t.prop.mono hbr.size)⟩

/-- For every input. -/
theorem apart_any (A : Option Addr) (n c : Nat) (a : List Int) (B : Option Addr) (m d : Nat) (b : List Int) (w : World)
    (ha : Rd w (fun _ => False) 1 A n (a.map (Value.int .i64))) (hb : Rd w (fun _ => False) 1 B m (b.map (Value.int .i64)))
    (hwa : ∀ x ∈ a, x ≤ 9223372036854775807) (hwb : ∀ x ∈ b, x ≤ 9223372036854775807) :
    Calls Try.prog 3 #[.slice A n c, .slice B m d] w (Gives w (.bool true)) := by
  by_cases h : n = m ∧ 0 < n ∧ n ≤ 30
  · obtain ⟨rfl, h0, h30⟩ := h
    exact apart_main A n c a B d b w ha hb hwa hwb h0 h30
  · have ht : ((n : Int) != (m : Int)) = true ∨ ((n : Int) != (m : Int)) = false ∧ (decide ((30 : Int) < (n : Int)) = true ∨ decide ((30 : Int) < (n : Int)) = false ∧ ((n : Int) == 0) = true) := by
      simp only [bne_iff_ne, bne_eq_false_iff_eq, decide_eq_true_eq, decide_eq_false_iff_not, beq_iff_eq]
      omega
    clear ha hb hwa hwb h
    rcases ht with h1 | ⟨h1, h2 | ⟨h2, h3⟩⟩
    all_goals
      go_enter Try.func3, Try.ntmps3
      go_wp2_with (go_at_call 10; refine (head_any _).mono ?_; rintro e w1 ⟨rfl, hb1⟩)
      go_ret
      exact ⟨rfl, hb1⟩

end Go.Proofs.Ytcmdgaoddpkeoaa
