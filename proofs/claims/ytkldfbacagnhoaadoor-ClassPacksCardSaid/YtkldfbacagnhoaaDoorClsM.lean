/- A class's file in plain words: how its parts are read, how they are laid; no statement of the seat is proved here. -/
import Derived.Test.YtkldfbacagnhoaaDoorRound
import Derived.Test.YtkldfbacagnhoaaDoorFaceDataC
namespace Go.Proofs.YtkldfbacagnhoaaDoor
open Go.RowKit

theorem name_world {P : Program} {c : Code} {Q : Exit → Act → World → Prop} {a : Act} {w : World} (h : ∀ wB, wB = w → c.wp P Q a wB) : c.wp P Q a w := h w rfl

theorem textR_inv {m : Nat} {l t r : List UInt8} (h : textR m (some l) = (t, some r)) : l = tx t ++ r ∧ t.length ≤ m := by
  unfold textR at h
  rcases numR_cases m (some l) with h' | ⟨l', x, r', e, h1, h2⟩
  · rw [h'] at h; cases h
  · cases e
    rw [h2] at h
    simp only at h
    obtain ⟨rfl, hx⟩ := rdNum_inv h1
    by_cases hl : r'.length < x
    · rw [if_pos hl] at h; cases h
    · rw [if_neg hl] at h
      simp only [Prod.mk.injEq, Option.some.injEq] at h
      obtain ⟨rfl, rfl⟩ := h
      have e : (List.take x r').length = x := by simp; omega
      refine ⟨?_, by omega⟩
      unfold tx
      rw [e, List.append_assoc, List.take_append_drop]

theorem zz_unzz (a b : Nat) (ha : a ≤ 4294967295) (hb : b ≤ 4294967295) : zz (unzz a b) = a * 4294967296 + b ∧ -9223372036854775808 ≤ unzz a b ∧ unzz a b ≤ 9223372036854775807 := by
  unfold zz unzz
  split <;> split <;> omega

theorem intR_inv {l r : List UInt8} {n : Int} (h : intR (some l) = (n, some r)) : l = zi n ++ r ∧ -9223372036854775808 ≤ n ∧ n ≤ 9223372036854775807 := by
  unfold intR at h
  rcases numR_cases 4294967295 (some l) with h' | ⟨l', a, r', e, h1, h2⟩
  · rw [h'] at h; cases h
  · cases e
    rw [h2] at h
    obtain ⟨rfl, ha⟩ := rdNum_inv h1
    simp only at h
    rcases numR_cases 4294967295 (some r') with h' | ⟨l', b, r2, e, h3, h4⟩
    · rw [h'] at h; cases h
    · cases e
      rw [h4] at h
      obtain ⟨rfl, hb⟩ := rdNum_inv h3
      simp only [Prod.mk.injEq, Option.some.injEq] at h
      obtain ⟨rfl, rfl⟩ := h
      obtain ⟨e1, e2, e3⟩ := zz_unzz a b ha hb
      refine ⟨?_, e2, e3⟩
      unfold zi
      rw [e1, show (a * 4294967296 + b) / 4294967296 = a by omega, show (a * 4294967296 + b) % 4294967296 = b by omega, List.append_assoc]


abbrev St := Option (List UInt8)
/-- What was read stands there. -/
def Inv {α : Type} (f : St → α × St) (g : α → List UInt8) : Prop := ∀ st r, (f st).2 = some r → st = some (g (f st).1 ++ r)
theorem numI (m : Nat) : Inv (numR m) vi := by
  intro st r h
  cases st with
  | none => cases h
  | some l => exact congrArg some (numR_inv (m := m) (l := l) (r := r) (x := (numR m (some l)).1) (by rw [← h])).1
theorem textI (m : Nat) : Inv (textR m) tx := by
  intro st r h
  cases st with
  | none => cases h
  | some l => exact congrArg some (textR_inv (m := m) (l := l) (r := r) (t := (textR m (some l)).1) (by rw [← h])).1
theorem intI : Inv intR zi := by
  intro st r h
  cases st with
  | none => cases h
  | some l => exact congrArg some (intR_inv (l := l) (r := r) (n := (intR (some l)).1) (by rw [← h])).1
theorem manyI (m : Nat) : Inv (manyR m) vi := by
  intro st r h
  unfold manyR at h ⊢
  split at h
  · cases h
  · rename_i hn
    rw [if_neg hn]
    exact numI m st r h
theorem flagI : Inv flagR fl := by
  intro st r h
  have h1 : (numR 1 st).2 = some r := h
  have h2 := numI 1 st r h1
  have h3 := numR_le 1 st
  have h4 : fl (flagR st).1 = vi (numR 1 st).1 := by
    rw [fl_vi]
    unfold flagR
    have : (numR 1 st).1 = 0 ∨ (numR 1 st).1 = 1 := by omega
    rcases this with h | h <;> rw [h] <;> rfl
  rw [h4]
  exact h2

/-- So many parts, one behind the other. -/
def iterR {α : Type} (f : St → α × St) : Nat → St → List α × St
  | 0, st => ([], st)
  | k + 1, st => ((iterR f k st).1 ++ [(f (iterR f k st).2).1], (f (iterR f k st).2).2)
theorem iterR_len {α : Type} (f : St → α × St) : ∀ k st, (iterR f k st).1.length = k
  | 0, _ => rfl
  | k + 1, st => by rw [iterR, List.length_append, iterR_len f k st]; rfl
theorem iterI {α : Type} {f : St → α × St} {g : α → List UInt8} (h : Inv f g) : ∀ k, Inv (iterR f k) (catAll g)
  | 0, st, r, hr => by simpa [iterR, catAll] using hr
  | k + 1, st, r, hr => by
    have h1 := h _ r hr
    have h2 := iterI h k st _ h1
    rw [iterR, catAll_append, List.append_assoc]
    simpa [catAll] using h2

/-- A method, a face, in plain words. -/
structure SgP where
  n : List UInt8
  st : Bool
  ps : List Ty
  r : Ty
deriving DecidableEq
structure FcP where
  n : List UInt8
  su : List UInt8
  fs : List Vr
  ms : List SgP
deriving DecidableEq
def Sg.pl (m : Sg) : SgP := ⟨m.n, m.st, m.ps, m.r⟩
def Fc.pl (f : Fc) : FcP := ⟨f.n, f.su, f.fs, f.ms.map Sg.pl⟩

def tyR (st : St) : Ty × St := (⟨(textR 40 st).1, (flagR (textR 40 st).2).1⟩, (flagR (textR 40 st).2).2)
def vrR (st : St) : Vr × St := (⟨(textR 40 st).1, (tyR (textR 40 st).2).1⟩, (tyR (textR 40 st).2).2)
def sgR (st : St) : SgP × St :=
  let a := textR 40 st
  let b := flagR a.2
  let c := tyR b.2
  let d := manyR 200 c.2
  let e := iterR tyR d.1 d.2
  (⟨a.1, b.1, e.1, c.1⟩, e.2)
def fcR (st : St) : FcP × St :=
  let a := textR 40 st
  let b := textR 40 a.2
  let c := manyR 200 b.2
  let d := iterR vrR c.1 c.2
  let e := manyR 200 d.2
  let g := iterR sgR e.1 e.2
  (⟨a.1, b.1, d.1, g.1⟩, g.2)
def tyL (t : Ty) : List UInt8 := tx t.n ++ fl t.a
def vrL (v : Vr) : List UInt8 := tx v.n ++ tyL v.t
def sgL (m : SgP) : List UInt8 := tx m.n ++ (fl m.st ++ (tyL m.r ++ (vi m.ps.length ++ catAll tyL m.ps)))
def fcL (f : FcP) : List UInt8 := tx f.n ++ (tx f.su ++ (vi f.fs.length ++ (catAll vrL f.fs ++ (vi f.ms.length ++ catAll sgL f.ms))))
theorem tyI : Inv tyR tyL := by
  intro st r h
  have h1 := flagI _ r h
  have h2 := textI 40 _ _ h1
  simp only [tyR, tyL, List.append_assoc]
  exact h2
theorem vrI : Inv vrR vrL := by
  intro st r h
  have h1 := tyI _ r h
  have h2 := textI 40 _ _ h1
  simp only [vrR, vrL, List.append_assoc]
  exact h2
theorem sgI : Inv sgR sgL := by
  intro st r h
  have h5 := iterI tyI _ _ r h
  have h4 := manyI 200 _ _ h5
  have h3 := tyI _ _ h4
  have h2 := flagI _ _ h3
  have h1 := textI 40 _ _ h2
  simp only [sgR, sgL, List.append_assoc, iterR_len]
  exact h1
theorem fcI : Inv fcR fcL := by
  intro st r h
  have h6 := iterI sgI _ _ r h
  have h5 := manyI 200 _ _ h6
  have h4 := iterI vrI _ _ _ h5
  have h3 := manyI 200 _ _ h4
  have h2 := textI 40 _ _ h3
  have h1 := textI 40 _ _ h2
  simp only [fcR, fcL, List.append_assoc, iterR_len]
  exact h1

structure MtP where
  m : SgP
  c : List UInt8
deriving DecidableEq
structure FdP where
  v : Vr
  c : List UInt8
deriving DecidableEq
structure BdP where
  lo : Int
  sk : Int
  code : List (Int × Int)
deriving DecidableEq
structure PoolP where
  nums : List Int
  cls : List (List UInt8)
  tys : List Ty
  fds : List FdP
  mts : List MtP
structure FileP where
  f : FcP
  p : PoolP
  b : List BdP
def fdR (st : St) : FdP × St :=
  let a := textR 40 st
  let b := textR 40 a.2
  let c := tyR b.2
  (⟨⟨b.1, c.1⟩, a.1⟩, c.2)
def fdL (f : FdP) : List UInt8 := tx f.c ++ (tx f.v.n ++ tyL f.v.t)
theorem fdI : Inv fdR fdL := by
  intro st r h
  have h3 := tyI _ _ h
  have h2 := textI 40 _ _ h3
  have h1 := textI 40 _ _ h2
  simp only [fdR, fdL, List.append_assoc]
  exact h1
/-- A method of the pool, as it is laid: a face with one method alone. -/
def mtF (m : MtP) : FcP := ⟨m.c, [], [], [m.m]⟩
def isMt (f : FcP) : Bool := f.su == [] && f.fs.isEmpty && f.ms.length == 1
def toMt (f : FcP) : MtP := ⟨f.ms.headD ⟨[], false, [], ⟨[], false⟩⟩, f.n⟩
theorem mtF_to {f : FcP} (h : isMt f = true) : mtF (toMt f) = f := by
  obtain ⟨n, su, fs, ms⟩ := f
  simp only [isMt, Bool.and_eq_true, beq_iff_eq, List.isEmpty_iff] at h
  obtain ⟨⟨rfl, rfl⟩, h⟩ := h
  match ms, h with
  | [m], _ => rfl
end Go.Proofs.YtkldfbacagnhoaaDoor
