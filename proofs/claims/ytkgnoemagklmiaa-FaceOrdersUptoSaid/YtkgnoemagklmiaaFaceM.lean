/- Faces as bytes, and back: the plain laws; no statement of the seat is proved here. -/
import Derived.Test.YtkgnoemagklmiaaRound
import Derived.Test.YtkgnoemagklmiaaFaceRightC
namespace Go.Proofs.Ytkgnoemagklmiaa
open Go.RowKit

theorem name_world {P : Program} {c : Code} {Q : Exit → Act → World → Prop} {a : Act} {w : World} (h : ∀ wB, wB = w → c.wp P Q a wB) : c.wp P Q a w := h w rfl

theorem textR_inv {m : Nat} {l t r : List UInt8} (h : textR m (some l) = (t, some r)) : l = tx t ++ r ∧ t.length ≤ m := by
  unfold textR at h
  rcases numR_cases m (some l) with h' | ⟨l', x, r', e, h1, h2⟩
  · rw [h'] at h; cases h
  · cases e
    rw [h2] at h
    simp only at h
    obtain ⟨rfl, hx⟩ := rdNum_inv h1
    by_cases hl : r'.length < x
    · rw [if_pos hl] at h; cases h
    · rw [if_neg hl] at h
      simp only [Prod.mk.injEq, Option.some.injEq] at h
      obtain ⟨rfl, rfl⟩ := h
      have e : (List.take x r').length = x := by simp; omega
      refine ⟨?_, by omega⟩
      unfold tx
      rw [e, List.append_assoc, List.take_append_drop]

theorem zz_unzz (a b : Nat) (ha : a ≤ 4294967295) (hb : b ≤ 4294967295) : zz (unzz a b) = a * 4294967296 + b ∧ -9223372036854775808 ≤ unzz a b ∧ unzz a b ≤ 9223372036854775807 := by
  unfold zz unzz
  split <;> split <;> omega

theorem intR_inv {l r : List UInt8} {n : Int} (h : intR (some l) = (n, some r)) : l = zi n ++ r ∧ -9223372036854775808 ≤ n ∧ n ≤ 9223372036854775807 := by
  unfold intR at h
  rcases numR_cases 4294967295 (some l) with h' | ⟨l', a, r', e, h1, h2⟩
  · rw [h'] at h; cases h
  · cases e
    rw [h2] at h
    obtain ⟨rfl, ha⟩ := rdNum_inv h1
    simp only at h
    rcases numR_cases 4294967295 (some r') with h' | ⟨l', b, r2, e, h3, h4⟩
    · rw [h'] at h; cases h
    · cases e
      rw [h4] at h
      obtain ⟨rfl, hb⟩ := rdNum_inv h3
      simp only [Prod.mk.injEq, Option.some.injEq] at h
      obtain ⟨rfl, rfl⟩ := h
      obtain ⟨e1, e2, e3⟩ := zz_unzz a b ha hb
      refine ⟨?_, e2, e3⟩
      unfold zi
      rw [e1, show (a * 4294967296 + b) / 4294967296 = a by omega, show (a * 4294967296 + b) % 4294967296 = b by omega, List.append_assoc]


abbrev St := Option (List UInt8)
/-- What was read stands there. -/
def Inv {α : Type} (f : St → α × St) (g : α → List UInt8) : Prop := ∀ st r, (f st).2 = some r → st = some (g (f st).1 ++ r)
theorem numI (m : Nat) : Inv (numR m) vi := by
  intro st r h
  cases st with
  | none => cases h
  | some l => exact congrArg some (numR_inv (m := m) (l := l) (r := r) (x := (numR m (some l)).1) (by rw [← h])).1
theorem textI (m : Nat) : Inv (textR m) tx := by
  intro st r h
  cases st with
  | none => cases h
  | some l => exact congrArg some (textR_inv (m := m) (l := l) (r := r) (t := (textR m (some l)).1) (by rw [← h])).1
theorem intI : Inv intR zi := by
  intro st r h
  cases st with
  | none => cases h
  | some l => exact congrArg some (intR_inv (l := l) (r := r) (n := (intR (some l)).1) (by rw [← h])).1
theorem manyI (m : Nat) : Inv (manyR m) vi := by
  intro st r h
  unfold manyR at h ⊢
  split at h
  · cases h
  · rename_i hn
    rw [if_neg hn]
    exact numI m st r h
theorem flagI : Inv flagR fl := by
  intro st r h
  have h1 : (numR 1 st).2 = some r := h
  have h2 := numI 1 st r h1
  have h3 := numR_le 1 st
  have h4 : fl (flagR st).1 = vi (numR 1 st).1 := by
    rw [fl_vi]
    unfold flagR
    have : (numR 1 st).1 = 0 ∨ (numR 1 st).1 = 1 := by omega
    rcases this with h | h <;> rw [h] <;> rfl
  rw [h4]
  exact h2

/-- So many parts, one behind the other. -/
def iterR {α : Type} (f : St → α × St) : Nat → St → List α × St
  | 0, st => ([], st)
  | k + 1, st => ((iterR f k st).1 ++ [(f (iterR f k st).2).1], (f (iterR f k st).2).2)
theorem iterR_len {α : Type} (f : St → α × St) : ∀ k st, (iterR f k st).1.length = k
  | 0, _ => rfl
  | k + 1, st => by rw [iterR, List.length_append, iterR_len f k st]; rfl
theorem iterI {α : Type} {f : St → α × St} {g : α → List UInt8} (h : Inv f g) : ∀ k, Inv (iterR f k) (catAll g)
  | 0, st, r, hr => by simpa [iterR, catAll] using hr
  | k + 1, st, r, hr => by
    have h1 := h _ r hr
    have h2 := iterI h k st _ h1
    rw [iterR, catAll_append, List.append_assoc]
    simpa [catAll] using h2

/-- A method, a face, in plain words. -/
structure SgP where
  n : List UInt8
  st : Bool
  ps : List Ty
  r : Ty
deriving DecidableEq
structure FcP where
  n : List UInt8
  su : List UInt8
  fs : List Vr
  ms : List SgP
deriving DecidableEq
def Sg.pl (m : Sg) : SgP := ⟨m.n, m.st, m.ps, m.r⟩
def Fc.pl (f : Fc) : FcP := ⟨f.n, f.su, f.fs, f.ms.map Sg.pl⟩

def tyR (st : St) : Ty × St := (⟨(textR 40 st).1, (flagR (textR 40 st).2).1⟩, (flagR (textR 40 st).2).2)
def vrR (st : St) : Vr × St := (⟨(textR 40 st).1, (tyR (textR 40 st).2).1⟩, (tyR (textR 40 st).2).2)
def sgR (st : St) : SgP × St :=
  let a := textR 40 st
  let b := flagR a.2
  let c := tyR b.2
  let d := manyR 200 c.2
  let e := iterR tyR d.1 d.2
  (⟨a.1, b.1, e.1, c.1⟩, e.2)
def fcR (st : St) : FcP × St :=
  let a := textR 40 st
  let b := textR 40 a.2
  let c := manyR 200 b.2
  let d := iterR vrR c.1 c.2
  let e := manyR 200 d.2
  let g := iterR sgR e.1 e.2
  (⟨a.1, b.1, d.1, g.1⟩, g.2)
def tyL (t : Ty) : List UInt8 := tx t.n ++ fl t.a
def vrL (v : Vr) : List UInt8 := tx v.n ++ tyL v.t
def sgL (m : SgP) : List UInt8 := tx m.n ++ (fl m.st ++ (tyL m.r ++ (vi m.ps.length ++ catAll tyL m.ps)))
def fcL (f : FcP) : List UInt8 := tx f.n ++ (tx f.su ++ (vi f.fs.length ++ (catAll vrL f.fs ++ (vi f.ms.length ++ catAll sgL f.ms))))
theorem tyI : Inv tyR tyL := by
  intro st r h
  have h1 := flagI _ r h
  have h2 := textI 40 _ _ h1
  simp only [tyR, tyL, List.append_assoc]
  exact h2
theorem vrI : Inv vrR vrL := by
  intro st r h
  have h1 := tyI _ r h
  have h2 := textI 40 _ _ h1
  simp only [vrR, vrL, List.append_assoc]
  exact h2
theorem sgI : Inv sgR sgL := by
  intro st r h
  have h5 := iterI tyI _ _ r h
  have h4 := manyI 200 _ _ h5
  have h3 := tyI _ _ h4
  have h2 := flagI _ _ h3
  have h1 := textI 40 _ _ h2
  simp only [sgR, sgL, List.append_assoc, iterR_len]
  exact h1
theorem fcI : Inv fcR fcL := by
  intro st r h
  have h6 := iterI sgI _ _ r h
  have h5 := manyI 200 _ _ h6
  have h4 := iterI vrI _ _ _ h5
  have h3 := manyI 200 _ _ h4
  have h2 := textI 40 _ _ h3
  have h1 := textI 40 _ _ h2
  simp only [fcR, fcL, List.append_assoc, iterR_len]
  exact h1
def secR {α : Type} (f : St → α × St) (m : Nat) (st : St) : List α × St := iterR f (manyR m st).1 (manyR m st).2
def secL {α : Type} (g : α → List UInt8) (l : List α) : List UInt8 := vi l.length ++ catAll g l
theorem secI {α : Type} {f : St → α × St} {g : α → List UInt8} (h : Inv f g) (m : Nat) : Inv (secR f m) (secL g) := by
  intro st r hr
  have h2 := iterI h _ _ r hr
  have h1 := manyI m _ _ h2
  rw [secL, List.append_assoc]
  unfold secR
  rw [iterR_len]
  exact h1

def SgP.good (m : SgP) : Bool := m.r.good && decide (m.ps.length ≤ 200) && !(m.ps.any fun t => !t.good)
def riseP : List UInt8 → List SgP → Bool
  | _, [] => true
  | last, m :: r => !leqB m.n last && decide (m.n.length ≤ 40) && m.good && riseP m.n r
def FcP.right (f : FcP) : Bool := (great f.n && (f.su == [] || great f.su) && decide (f.fs.length ≤ 200) && decide (f.ms.length ≤ 200) && decide (f.n.length ≤ 40) && decide (f.su.length ≤ 40)) && riseV [] f.fs && riseP [] f.ms
theorem Sg.good_pl {w : World} {F : Nat → Prop} {m : Sg} (h : m.at_ w F) : m.good = m.pl.good := by
  unfold Sg.good SgP.good Sg.pl
  simp only
  rw [h.2.1]
theorem riseM_pl {w : World} {F : Nat → Prop} : ∀ (ms : List Sg) (last : List UInt8), (∀ m ∈ ms, m.at_ w F) → riseM last ms = riseP last (ms.map Sg.pl)
  | [], _, _ => rfl
  | m :: ms, last, h => by
    rw [riseM, List.map_cons, riseP, Sg.good_pl (h m (List.mem_cons_self ..)), riseM_pl ms m.n (fun x hx => h x (List.mem_cons_of_mem _ hx))]
    rfl
theorem Fc.right_pl {w : World} {F : Nat → Prop} {f : Fc} (h : f.at_ w F) : f.right = f.pl.right := by
  obtain ⟨⟨_, h1, _⟩, ⟨_, h2, _, h3⟩, _⟩ := h
  unfold Fc.right FcP.right Fc.headOk Fc.pl
  simp only [List.length_map]
  rw [h1, h2, riseM_pl _ _ h3]

def Fwd {α : Type} (f : St → α × St) (g : α → List UInt8) (ok : α → Prop) : Prop := ∀ x r, ok x → f (some (g x ++ r)) = (x, some r)
theorem numF (m : Nat) (hm : m < 9223372036854775808) : Fwd (numR m) vi (fun n => n ≤ m) := fun x r h => numR_vi r (by omega) h
theorem textF (m : Nat) (hm : m < 9223372036854775808) : Fwd (textR m) tx (fun s => s.length ≤ m) := fun s r h => textR_tx s r (by omega) h
theorem flagF : Fwd flagR fl (fun _ => True) := fun b r _ => flagR_fl b r
theorem intF : Fwd intR zi (fun n => -9223372036854775808 ≤ n ∧ n ≤ 9223372036854775807) := fun n r h => intR_zi n r h.1 h.2
theorem manyR_vi {m n : Nat} (r : List UInt8) (hm : m < 9223372036854775808) (h : n ≤ m) (hr : n ≤ r.length) : manyR m (some (vi n ++ r)) = (n, some r) := by
  unfold manyR
  rw [numR_vi r (by omega) h]
  rw [if_neg (by simp [left_]; omega)]

theorem iterR_cons {α : Type} (f : St → α × St) : ∀ k st, iterR f (k + 1) st = ((f st).1 :: (iterR f k (f st).2).1, (iterR f k (f st).2).2)
  | 0, _ => rfl
  | k + 1, st => by
    have ih := iterR_cons f k st
    show ((iterR f (k + 1) st).1 ++ [(f (iterR f (k + 1) st).2).1], (f (iterR f (k + 1) st).2).2) = _
    rw [ih]
    rfl
theorem iterF {α : Type} {f : St → α × St} {g : α → List UInt8} {ok : α → Prop} (h : Fwd f g ok) : ∀ (l : List α) (r : List UInt8), (∀ x ∈ l, ok x) → iterR f l.length (some (catAll g l ++ r)) = (l, some r)
  | [], _, _ => rfl
  | x :: l, r, hl => by
    rw [List.length_cons, iterR_cons, catAll_cons, List.append_assoc, h x _ (hl x (List.mem_cons_self ..))]
    simp only
    rw [iterF h l r (fun y hy => hl y (List.mem_cons_of_mem _ hy))]
theorem catAll_ge {α : Type} {g : α → List UInt8} (h : ∀ x, 1 ≤ (g x).length) : ∀ l : List α, l.length ≤ (catAll g l).length
  | [] => Nat.le_refl _
  | x :: l => by
    have h1 := h x
    have h2 := catAll_ge h l
    rw [catAll_cons, List.length_append, List.length_cons]
    omega
theorem secF {α : Type} {f : St → α × St} {g : α → List UInt8} {ok : α → Prop} (h : Fwd f g ok) (hp : ∀ x, 1 ≤ (g x).length) (m : Nat) (hm : m < 9223372036854775808) :
    Fwd (secR f m) (secL g) (fun l => l.length ≤ m ∧ ∀ x ∈ l, ok x) := by
  intro l r hl
  have h2 := catAll_ge hp l
  unfold secR secL
  rw [List.append_assoc, manyR_vi _ hm hl.1 (by rw [List.length_append]; omega)]
  exact iterF h l r hl.2

def Ty.fit (t : Ty) : Prop := t.n.length ≤ 40
def Vr.fit (v : Vr) : Prop := v.n.length ≤ 40 ∧ v.t.fit
def SgP.fit (m : SgP) : Prop := m.n.length ≤ 40 ∧ m.r.fit ∧ m.ps.length ≤ 200 ∧ ∀ p ∈ m.ps, p.fit
def FcP.fit (f : FcP) : Prop := f.n.length ≤ 40 ∧ f.su.length ≤ 40 ∧ (f.fs.length ≤ 200 ∧ ∀ v ∈ f.fs, v.fit) ∧ f.ms.length ≤ 200 ∧ ∀ m ∈ f.ms, m.fit
theorem tx_pos (s : List UInt8) : 1 ≤ (tx s).length := by
  have := vi_pos s.length
  rw [tx, List.length_append]; omega
theorem fl_len (b : Bool) : (fl b).length = 1 := rfl
theorem zi_pos (n : Int) : 1 ≤ (zi n).length := by
  have := vi_pos (zz n / 4294967296)
  rw [zi, List.length_append]; omega
theorem tyL_pos (t : Ty) : 1 ≤ (tyL t).length := by
  have := tx_pos t.n
  rw [tyL, List.length_append]; omega
theorem vrL_pos (v : Vr) : 1 ≤ (vrL v).length := by
  have := tx_pos v.n
  rw [vrL, List.length_append]; omega
theorem sgL_pos (m : SgP) : 1 ≤ (sgL m).length := by
  have := tx_pos m.n
  rw [sgL, List.length_append]; omega
theorem fcL_pos (f : FcP) : 1 ≤ (fcL f).length := by
  have := tx_pos f.n
  rw [fcL, List.length_append]; omega
theorem tyF : Fwd tyR tyL Ty.fit := by
  intro t r h
  have e1 := textF 40 (by omega) t.n (fl t.a ++ r) h
  have e2 := flagF t.a r trivial
  unfold tyR tyL
  rw [List.append_assoc, e1]
  simp only
  rw [e2]
theorem vrF : Fwd vrR vrL Vr.fit := by
  intro v r h
  have e1 := textF 40 (by omega) v.n (tyL v.t ++ r) h.1
  have e2 := tyF v.t r h.2
  unfold vrR vrL
  rw [List.append_assoc, e1]
  simp only
  rw [e2]
theorem sgR_eq (st : St) : sgR st = (⟨(textR 40 st).1, (flagR (textR 40 st).2).1, (secR tyR 200 (tyR (flagR (textR 40 st).2).2).2).1, (tyR (flagR (textR 40 st).2).2).1⟩, (secR tyR 200 (tyR (flagR (textR 40 st).2).2).2).2) := rfl
theorem sgL_eq (m : SgP) : sgL m = tx m.n ++ (fl m.st ++ (tyL m.r ++ secL tyL m.ps)) := rfl
theorem sgF : Fwd sgR sgL SgP.fit := by
  intro m r h
  obtain ⟨h1, h2, h3⟩ := h
  have e1 := textF 40 (by omega) m.n (fl m.st ++ (tyL m.r ++ (secL tyL m.ps ++ r))) h1
  have e2 := flagF m.st (tyL m.r ++ (secL tyL m.ps ++ r)) trivial
  have e3 := tyF m.r (secL tyL m.ps ++ r) h2
  have e4 := secF tyF tyL_pos 200 (by omega) m.ps r h3
  rw [sgR_eq, sgL_eq, List.append_assoc, List.append_assoc, List.append_assoc, e1]
  simp only
  rw [e2]
  simp only
  rw [e3]
  simp only
  rw [e4]
def fcR2 (st : St) : (List Vr × List SgP) × St := (((secR vrR 200 st).1, (secR sgR 200 (secR vrR 200 st).2).1), (secR sgR 200 (secR vrR 200 st).2).2)
theorem fcR_eq (st : St) : fcR st = (⟨(textR 40 st).1, (textR 40 (textR 40 st).2).1, (fcR2 (textR 40 (textR 40 st).2).2).1.1, (fcR2 (textR 40 (textR 40 st).2).2).1.2⟩, (fcR2 (textR 40 (textR 40 st).2).2).2) := rfl
theorem fcL_eq (f : FcP) : fcL f = tx f.n ++ (tx f.su ++ (secL vrL f.fs ++ secL sgL f.ms)) := by
  simp only [fcL, secL, List.append_assoc]
theorem fcF : Fwd fcR fcL FcP.fit := by
  intro f r h
  obtain ⟨h1, h2, h3, h4⟩ := h
  have e1 := textF 40 (by omega) f.n (tx f.su ++ (secL vrL f.fs ++ (secL sgL f.ms ++ r))) h1
  have e2 := textF 40 (by omega) f.su (secL vrL f.fs ++ (secL sgL f.ms ++ r)) h2
  have e3 := secF vrF vrL_pos 200 (by omega) f.fs (secL sgL f.ms ++ r) h3
  have e4 := secF sgF sgL_pos 200 (by omega) f.ms r h4
  have e5 : fcR2 (some (secL vrL f.fs ++ (secL sgL f.ms ++ r))) = ((f.fs, f.ms), some r) := by
    unfold fcR2
    rw [e3]
    simp only
    rw [e4]
  rw [fcR_eq, fcL_eq, List.append_assoc, List.append_assoc, List.append_assoc, e1]
  simp only
  rw [e2]
  simp only
  rw [e5]
theorem good_fit {t : Ty} (h : t.good = true) : t.fit := by
  unfold Ty.good at h
  unfold Ty.fit
  simp only [Bool.or_eq_true, Bool.and_eq_true, beq_iff_eq, decide_eq_true_eq] at h
  rcases h with (h | h) | h
  · rw [h]; decide
  · rw [h]; decide
  · exact h.2
theorem sgood_fit {m : SgP} (h1 : m.n.length ≤ 40) (h : m.good = true) : m.fit := by
  unfold SgP.good at h
  simp only [Bool.and_eq_true, decide_eq_true_eq, Bool.not_eq_true'] at h
  refine ⟨h1, good_fit h.1.1, h.1.2, fun p hp => good_fit ?_⟩
  have := List.any_eq_false.1 h.2 p hp
  simpa using this
theorem riseV_fit : ∀ (vs : List Vr) (last : List UInt8), riseV last vs = true → ∀ v ∈ vs, v.fit
  | [], _, _, _, hv => by cases hv
  | x :: vs, last, h, v, hv => by
    simp only [riseV, Bool.and_eq_true, decide_eq_true_eq] at h
    rcases List.mem_cons.1 hv with rfl | hv
    · exact ⟨h.1.1.2, good_fit h.1.2⟩
    · exact riseV_fit vs _ h.2 v hv
theorem riseP_fit : ∀ (ms : List SgP) (last : List UInt8), riseP last ms = true → ∀ m ∈ ms, m.fit
  | [], _, _, _, hv => by cases hv
  | x :: ms, last, h, m, hm => by
    simp only [riseP, Bool.and_eq_true, decide_eq_true_eq] at h
    rcases List.mem_cons.1 hm with rfl | hm
    · exact sgood_fit h.1.1.2 h.1.2
    · exact riseP_fit ms _ h.2 m hm
theorem fright_fit {f : FcP} (h : f.right = true) : f.fit := by
  unfold FcP.right at h
  simp only [Bool.and_eq_true, decide_eq_true_eq] at h
  obtain ⟨⟨⟨⟨⟨⟨_, h1⟩, h2⟩, h3⟩, h4⟩, h5⟩, h6⟩ := h
  exact ⟨h3, h4, ⟨h1, riseV_fit _ _ h5⟩, h2, riseP_fit _ _ h6⟩

end Go.Proofs.Ytkgnoemagklmiaa
