/- Types: which are a class's, which are good ones, walked; no statement of the seat is proved here. -/
import Derived.Test.YtkgnoemagklmiaaFaceFewC
namespace Go.Proofs.Ytkgnoemagklmiaa
open Go.RowKit

/-- Does a name begin as a class's does? -/
def great : List UInt8 → Bool
  | [] => false
  | c :: _ => decide (65 ≤ (c.toNat : Int)) && decide ((c.toNat : Int) ≤ 90)
def Ty.cls (t : Ty) : Bool := !t.a && great t.n
def nInt : List UInt8 := [105, 110, 116]
def nBool : List UInt8 := [98, 111, 111, 108]
def nNull : List UInt8 := [110, 117, 108, 108]
def Ty.good (t : Ty) : Bool := t.n == nInt || t.n == nBool || (great t.n && decide (t.n.length ≤ 40))
def Ty.obj (t : Ty) : Bool := t.a || t.cls || decide (t = ⟨nNull, false⟩)

set_option maxRecDepth 100000 in
theorem class_any (n : List UInt8) (a : Bool) (w : World) : Calls Try.prog 47 #[.agg #[S n, .bool a]] w (Gives w (.bool (Ty.cls ⟨n, a⟩))) := by
  have hb : ∀ o, Below w.heap.size w (w.alloc o) := fun o => (Below.refl _ _).alloc (Nat.le_refl _) o
  cases a with
  | true =>
    go_enter Try.func47, Try.ntmps47
    go_wp2_with fail
    go_ret
    exact ⟨rfl, hb _⟩
  | false =>
    rcases n with _ | ⟨c, r⟩
    · go_enter Try.func47, Try.ntmps47
      go_wp2_with fail
      go_ret
      exact ⟨rfl, hb _⟩
    · by_cases h1 : 65 ≤ (c.toNat : Int)
      · have d1 : decide (65 ≤ (c.toNat : Int)) = true := by simpa using h1
        by_cases h2 : (c.toNat : Int) ≤ 90
        · have d2 : decide ((c.toNat : Int) ≤ 90) = true := by simpa using h2
          have H : Hid (Ty.cls ⟨c :: r, false⟩ = true) := hide (by simp [Ty.cls, great, d1, d2])
          go_enter Try.func47, Try.ntmps47
          go_wp2_with fail
          go_ret
          exact ⟨by rw [H.out] <;> rfl, hb _⟩
        · have d2 : decide ((c.toNat : Int) ≤ 90) = false := by simpa using h2
          have H : Hid (Ty.cls ⟨c :: r, false⟩ = false) := hide (by simp [Ty.cls, great, d1, d2])
          go_enter Try.func47, Try.ntmps47
          go_wp2_with fail
          go_ret
          exact ⟨by rw [H.out] <;> rfl, hb _⟩
      · have d1 : decide (65 ≤ (c.toNat : Int)) = false := by simpa using h1
        have H : Hid (Ty.cls ⟨c :: r, false⟩ = false) := hide (by simp [Ty.cls, great, d1])
        go_enter Try.func47, Try.ntmps47
        go_wp2_with fail
        go_ret
        exact ⟨by rw [H.out] <;> rfl, hb _⟩

theorem set_below' {w w2 : World} (h : Below w.heap.size w w2) {p : Addr} (hp : w.heap.size ≤ p.block) (u : Value) : Below w.heap.size w (w2.setCell p u) :=
  ((Keep.of_below (F := fun _ => False) h (fun k h1 h2 => by omega)).setCell (fun h => by omega) u).below (Nat.le_refl _) (fun k hk => absurd hk id)

set_option maxRecDepth 100000 in
theorem of_any (n : List UInt8) (w : World) : Calls Try.prog 46 #[S n] w (Gives w (.agg #[S n, .bool false])) := by
  have hb : ∀ o, Below w.heap.size w (w.alloc o) := fun o => (Below.refl _ _).alloc (Nat.le_refl _) o
  go_enter Try.func46, Try.ntmps46
  go_wp2_with fail
  refine bodyPost_ret (v := .agg #[S n, .bool false]) ?_ rfl ?_
  · simp [results, Try.results46, go_sem]
  · first
      | exact ⟨rfl, hb _⟩
      | exact ⟨rfl, set_below' (hb _) (Nat.le_refl _) _⟩
      | exact ⟨rfl, set_below' (set_below' (hb _) (Nat.le_refl _) _) (Nat.le_refl _) _⟩

set_option maxRecDepth 100000 in
theorem good_any (n : List UInt8) (a : Bool) (w : World) : Calls Try.prog 24 #[.agg #[S n, .bool a]] w (Gives w (.bool (Ty.good ⟨n, a⟩))) := by
  have hb : Below w.heap.size w (w.alloc (.cells #[S n, .bool a] 43)) := (Below.refl _ _).alloc (Nat.le_refl _) _
  by_cases e1 : n = nInt
  · have H : Hid (Ty.good ⟨n, a⟩ = true) := hide (by simp [Ty.good, e1])
    rw [H.out]
    subst e1
    clear H
    unfold nInt at *
    go_enter Try.func24, Try.ntmps24
    go_wp2_with fail
    go_ret
    exact ⟨rfl, hb⟩
  · have d1 : (n == [105, 110, 116]) = false := by simpa [nInt] using e1
    by_cases e2 : n = nBool
    · have H : Hid (Ty.good ⟨n, a⟩ = true) := hide (by simp [Ty.good, e2])
      rw [H.out]
      subst e2
      clear H d1 e1
      unfold nBool at *
      go_enter Try.func24, Try.ntmps24
      go_wp2_with fail
      go_ret
      exact ⟨rfl, hb⟩
    · have d2 : (n == [98, 111, 111, 108]) = false := by simpa [nBool] using e2
      have hG : Ty.good ⟨n, a⟩ = (great n && decide (n.length ≤ 40)) := by simp [Ty.good, e1, e2]
      rw [hG]
      clear hG
      obtain ⟨G, hG⟩ : ∃ G, G = great n := ⟨_, rfl⟩
      rw [← hG]
      have HC : Hid (∀ w, Calls Try.prog 47 #[.agg #[S n, .bool false]] w (Gives w (.bool G))) := hide (fun w => by
        have := class_any n false w
        rw [hG]
        simpa [Ty.cls] using this)
      clear hG
      by_cases h40 : n.length ≤ 40
      all_goals
        first
          | have d3 : decide ((n.length : Int) ≤ 40) = true := by simp; omega
          | have d3 : decide ((n.length : Int) ≤ 40) = false := by simp; omega
        cases G
        all_goals
          go_enter Try.func24, Try.ntmps24
          go_wp2_with fail
          refine (of_any n _).mono ?_
          rintro e w2 ⟨rfl, hb2⟩
          have hB2 := hb.trans (hb2.mono hb.size)
          have k0 := hb2.cell (p := ⟨w.heap.size, 0, none⟩) (by simp)
          have k1 : w2.cell? ⟨w.heap.size, 0, none⟩ = some (S n) := k0.trans (by simp [World.cell?_alloc_new])
          clear k0 hb2
          go_wp2_with fail
          refine (HC.out _).mono ?_
          rintro e w3 ⟨rfl, hb3⟩
          have hB3 := hB2.trans (hb3.mono hB2.size)
          have k2 : w3.cell? ⟨w.heap.size, 0, none⟩ = some (S n) := (hb3.cell (p := ⟨w.heap.size, 0, none⟩) (World.block_lt_of_cell? _ _ k1)).trans k1
          clear hb3 k1
          go_wp2_with fail
          go_ret
          exact ⟨by first | rfl | simp [h40], hB3⟩
end Go.Proofs.Ytkgnoemagklmiaa
