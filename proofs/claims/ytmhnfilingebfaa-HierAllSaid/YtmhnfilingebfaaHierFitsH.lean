/- What HierFits' walk needs: its law in plain Lean, what stays of the boxed arguments; no statement of the seat is proved here. -/
import Derived.Test.YtmhnfilingebfaaHierFit
import Derived.Test.YtmhnfilingebfaaHierHead
namespace Go.Proofs.Ytmhnfilingebfaa
open Go.RowKit

theorem fits_want (T : List Fc) (t u : Ty) : fitsT T t u = (decide (t = u) || ((t.n == nNull) && !t.a && (u.a || great u.n || (u.n == nNull))) || (great t.n && !t.a && great u.n && !u.a && decide (u.n ∈ (up T 20 [] t.n).1))) := by
  obtain ⟨tn, ta⟩ := t
  obtain ⟨un, ua⟩ := u
  unfold fitsT
  by_cases h1 : (⟨tn, ta⟩ : Ty) = ⟨un, ua⟩
  · rw [if_pos h1, decide_eq_true h1]; rfl
  · rw [if_neg h1, decide_eq_false h1]
    by_cases h2 : (⟨tn, ta⟩ : Ty) = ⟨nNull, false⟩
    · rw [if_pos h2]
      injection h2 with h2 h3
      subst h2 h3
      have hg : great nNull = false := by decide
      simp only [Ty.obj, Ty.cls, hg]
      cases ua
      · by_cases h4 : un = nNull
        · exact absurd (by rw [h4]) h1
        · simp [h4]
      · simp
    · rw [if_neg h2]
      have h3 : ((tn == nNull) && !ta) = false := by
        cases ta
        · have : tn ≠ nNull := fun e => h2 (by rw [e])
          simp [this]
        · simp
      simp only [Ty.cls, h3]
      cases ta <;> cases ua <;> simp <;> cases great tn <;> simp

/-- The table, and all that came in as it was. -/
structure Iv (w0 w' : World) (g m s : Nat) (T : List Fc) (n : Nat) : Prop where
  tab : Tab w' g m s T n
  bel : Below w0.heap.size w0 w'

section
variable {w0 w1 w2 : World} {g m s n b : Nat} {T : List Fc} {x y z v : Value}
theorem Iv.drew (h : Iv w0 w1 g m s T n) : Iv w0 w1.drew g m s T n := ⟨h.tab.keep ((Keep.refl (fun _ => False) w1).drew) id id id, h.bel.drew⟩
theorem Iv.slt (h : Iv w0 w1 g m s T n) : s < w1.heap.size := h.tab.slt
theorem loc_keep (hk : Keep (fun k => k = s) w1 w2) (hs : b + 1 < s) (h : w1.cell? ⟨b, 0, none⟩ = some x ∧ w1.cell? ⟨b, 1, none⟩ = some y ∧ w1.cell? ⟨b + 1, 0, none⟩ = some z ∧ w1.cell? ⟨b + 1, 1, none⟩ = some v) :
    w2.cell? ⟨b, 0, none⟩ = some x ∧ w2.cell? ⟨b, 1, none⟩ = some y ∧ w2.cell? ⟨b + 1, 0, none⟩ = some z ∧ w2.cell? ⟨b + 1, 1, none⟩ = some v := by
  obtain ⟨h0, h1, h2, h3⟩ := h
  have l0 : b < w1.heap.size := World.block_lt_of_cell? _ _ h0
  have l2 : b + 1 < w1.heap.size := World.block_lt_of_cell? _ _ h2
  exact ⟨(hk.cell (p := ⟨b, 0, none⟩) l0 (by simp; omega)).trans h0, (hk.cell (p := ⟨b, 1, none⟩) l0 (by simp; omega)).trans h1,
    (hk.cell (p := ⟨b + 1, 0, none⟩) l2 (by simp; omega)).trans h2, (hk.cell (p := ⟨b + 1, 1, none⟩) l2 (by simp; omega)).trans h3⟩
theorem loc_alloc (o : Obj) (h : w1.cell? ⟨b, 0, none⟩ = some x ∧ w1.cell? ⟨b, 1, none⟩ = some y ∧ w1.cell? ⟨b + 1, 0, none⟩ = some z ∧ w1.cell? ⟨b + 1, 1, none⟩ = some v) :
    (w1.alloc o).cell? ⟨b, 0, none⟩ = some x ∧ (w1.alloc o).cell? ⟨b, 1, none⟩ = some y ∧ (w1.alloc o).cell? ⟨b + 1, 0, none⟩ = some z ∧ (w1.alloc o).cell? ⟨b + 1, 1, none⟩ = some v := by
  obtain ⟨h0, h1, h2, h3⟩ := h
  have l0 : b < w1.heap.size := World.block_lt_of_cell? _ _ h0
  have l2 : b + 1 < w1.heap.size := World.block_lt_of_cell? _ _ h2
  have hb : Below w1.heap.size w1 (w1.alloc o) := (Below.refl _ _).alloc (Nat.le_refl _) _
  exact ⟨(hb.cell (p := ⟨b, 0, none⟩) l0).trans h0, (hb.cell (p := ⟨b, 1, none⟩) l0).trans h1, (hb.cell (p := ⟨b + 1, 0, none⟩) l2).trans h2, (hb.cell (p := ⟨b + 1, 1, none⟩) l2).trans h3⟩
end

/-- What each call of the last line answers and leaves. -/
def Goes (w0 ww : World) (g m s : Nat) (T : List Fc) (nn : Nat) (r : Bool) (e : Ending) (w' : World) : Prop := e = .returned (.bool r) ∧ Iv w0 w' g m s T (nn + 20) ∧ Keep (fun b => b = s) ww w'

theorem goes_fits (w0 : World) (g m s : Nat) (T : List Fc) (tn : List UInt8) (ta : Bool) (un : List UInt8) (ua : Bool) (hT : T.length ≤ 8) (hs : ∀ f ∈ T, short f.su) (hsh : short tn) (hs0 : w0.heap.size ≤ s) :
    ∀ ww nn, Iv w0 ww g m s T nn → nn ≤ 700000 →
      Calls Try.prog 21 #[.pointer (some ⟨g, 0, none⟩), .agg #[S tn, .bool ta], .agg #[S un, .bool ua]] ww (Goes w0 ww g m s T nn (fitsT T ⟨tn, ta⟩ ⟨un, ua⟩)) := fun ww nn h hn =>
  (fits_any g m s nn T tn ta un ua ww h.tab (by omega) hT hs hsh).mono fun _ _ ⟨h1, h2, h3⟩ => ⟨h1, ⟨h2, h.bel.trans (h3.below h.bel.size (fun k hk => by omega))⟩, h3⟩

theorem goes_known (w0 : World) (g m s : Nat) (T : List Fc) (tn : List UInt8) (ta : Bool) (hsh : short tn) (hs0 : w0.heap.size ≤ s) :
    ∀ ww nn, Iv w0 ww g m s T nn → nn ≤ 700000 →
      Calls Try.prog 22 #[.pointer (some ⟨g, 0, none⟩), .slice (some ⟨ww.heap.size, 0, none⟩) 1 1] (ww.alloc (.cells #[S tn, .bool ta] 45)) (Goes w0 (ww.alloc (.cells #[S tn, .bool ta] 45)) g m s T nn (knownT T ⟨tn, ta⟩)) := fun ww nn h hn => by
  have hl := h.tab.slt
  have hb : Blk (ww.alloc (.cells #[S tn, .bool ta] 45)) ww.heap.size 45 #[S tn, .bool ta] := Blk.new _ _ _
  have hr : Rd (ww.alloc (.cells #[S tn, .bool ta] 45)) (fun b => b = s) 2 (some ⟨ww.heap.size, 0, none⟩) 1 ([(⟨tn, ta⟩ : Ty)].flatMap Ty.cells) := Rd.of_blk hb (by omega) rfl
  refine (knownt_any g m s nn T _ 1 1 [⟨tn, ta⟩] _ (h.tab.alloc _) (by omega) hr rfl (by omega) (by simpa using hsh)).mono fun e w' ⟨h1, h2, h3⟩ => ?_
  have h4 : Keep (fun b => b = s) ww w' := ((Keep.refl _ _).alloc _).trans' h3 (fun _ _ h => h)
  exact ⟨by rw [h1]; simp, ⟨h2.mono (by omega), h.bel.trans (h4.below h.bel.size (fun k hk => by omega))⟩, h3⟩

theorem goes_known2 (w0 : World) (g m s : Nat) (T : List Fc) (tn : List UInt8) (ta : Bool) (un : List UInt8) (ua : Bool) (hsh : short tn) (hsh2 : short un) (hs0 : w0.heap.size ≤ s) :
    ∀ ww nn, Iv w0 ww g m s T nn → nn ≤ 700000 →
      Calls Try.prog 22 #[.pointer (some ⟨g, 0, none⟩), .slice (some ⟨ww.heap.size, 0, none⟩) 2 2] (ww.alloc (.cells #[S tn, .bool ta, S un, .bool ua] 45)) (Goes w0 (ww.alloc (.cells #[S tn, .bool ta, S un, .bool ua] 45)) g m s T nn (knownT T ⟨tn, ta⟩ && knownT T ⟨un, ua⟩)) := fun ww nn h hn => by
  have hl := h.tab.slt
  have hb : Blk (ww.alloc (.cells #[S tn, .bool ta, S un, .bool ua] 45)) ww.heap.size 45 #[S tn, .bool ta, S un, .bool ua] := Blk.new _ _ _
  have hr : Rd (ww.alloc (.cells #[S tn, .bool ta, S un, .bool ua] 45)) (fun b => b = s) 2 (some ⟨ww.heap.size, 0, none⟩) 2 ([(⟨tn, ta⟩ : Ty), ⟨un, ua⟩].flatMap Ty.cells) := Rd.of_blk hb (by omega) rfl
  refine (knownt_any g m s nn T _ 2 2 [⟨tn, ta⟩, ⟨un, ua⟩] _ (h.tab.alloc _) (by omega) hr rfl (by omega) (by simpa using ⟨hsh, hsh2⟩)).mono fun e w' ⟨h1, h2, h3⟩ => ?_
  have h4 : Keep (fun b => b = s) ww w' := ((Keep.refl _ _).alloc _).trans' h3 (fun _ _ h => h)
  exact ⟨by rw [h1]; simp, ⟨h2.mono (by omega), h.bel.trans (h4.below h.bel.size (fun k hk => by omega))⟩, h3⟩

theorem goes_known0 (w0 : World) (g m s : Nat) (T : List Fc) (hs0 : w0.heap.size ≤ s) :
    ∀ ww nn, Iv w0 ww g m s T nn → nn ≤ 700000 →
      Calls Try.prog 22 #[.pointer (some ⟨g, 0, none⟩), .slice none 0 0] ww (Goes w0 ww g m s T nn true) := fun ww nn h hn => by
  refine (knownt_any g m s nn T none 0 0 [] ww h.tab (by omega) (Rd.nil _ _ _ _) rfl (by omega) (by simp)).mono fun e w' ⟨h1, h2, h3⟩ => ?_
  exact ⟨by rw [h1]; simp, ⟨h2.mono (by omega), h.bel.trans (h3.below h.bel.size (fun k hk => by omega))⟩, h3⟩

theorem goes_page (w0 : World) (g m s : Nat) (T : List Fc) (A : Option Addr) (n c : Nat) (tn : List UInt8) (ta : Bool) (hF : FcsAt w0 (fun k => w0.heap.size ≤ k) A n T) :
    ∀ ww nn, Iv w0 ww g m s T nn →
      Calls Try.prog 23 #[.slice A n c, .agg #[S tn, .bool ta]] ww (Goes w0 ww g m s T nn (knownT T ⟨tn, ta⟩)) := fun ww nn h => by
  refine (knownp_any A n c T tn ta ww ((hF.below h.bel).weak (fun k hk => by have := h.bel.size; omega))).mono fun e w' ⟨h1, h2⟩ => ?_
  exact ⟨by rw [h1, known_same], ⟨(h.tab.below h2).mono (by omega), h.bel.trans (h2.mono h.bel.size)⟩, keep_s2 h2⟩
end Go.Proofs.Ytmhnfilingebfaa
