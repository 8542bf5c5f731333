/- A class's file in plain words: what is laid is read again, and nothing else is; no statement of the seat is proved here. -/
import Derived.Test.YtkldfbacagnhoaaDoorClsM2
namespace Go.Proofs.YtkldfbacagnhoaaDoor
open Go.RowKit

/-- What was laid is read again: of parts that are not too great. -/
def Fwd {α : Type} (f : St → α × St) (g : α → List UInt8) (ok : α → Prop) : Prop := ∀ x r, ok x → f (some (g x ++ r)) = (x, some r)
theorem numF (m : Nat) (hm : m < 9223372036854775808) : Fwd (numR m) vi (fun n => n ≤ m) := fun x r h => numR_vi r (by omega) h
theorem textF (m : Nat) (hm : m < 9223372036854775808) : Fwd (textR m) tx (fun s => s.length ≤ m) := fun s r h => textR_tx s r (by omega) h
theorem flagF : Fwd flagR fl (fun _ => True) := fun b r _ => flagR_fl b r
theorem intF : Fwd intR zi (fun n => -9223372036854775808 ≤ n ∧ n ≤ 9223372036854775807) := fun n r h => intR_zi n r h.1 h.2
theorem manyR_vi {m n : Nat} (r : List UInt8) (hm : m < 9223372036854775808) (h : n ≤ m) (hr : n ≤ r.length) : manyR m (some (vi n ++ r)) = (n, some r) := by
  unfold manyR
  rw [numR_vi r (by omega) h]
  rw [if_neg (by simp [left_]; omega)]

theorem iterR_cons {α : Type} (f : St → α × St) : ∀ k st, iterR f (k + 1) st = ((f st).1 :: (iterR f k (f st).2).1, (iterR f k (f st).2).2)
  | 0, _ => rfl
  | k + 1, st => by
    have ih := iterR_cons f k st
    show ((iterR f (k + 1) st).1 ++ [(f (iterR f (k + 1) st).2).1], (f (iterR f (k + 1) st).2).2) = _
    rw [ih]
    rfl
theorem iterF {α : Type} {f : St → α × St} {g : α → List UInt8} {ok : α → Prop} (h : Fwd f g ok) : ∀ (l : List α) (r : List UInt8), (∀ x ∈ l, ok x) → iterR f l.length (some (catAll g l ++ r)) = (l, some r)
  | [], _, _ => rfl
  | x :: l, r, hl => by
    rw [List.length_cons, iterR_cons, catAll_cons, List.append_assoc, h x _ (hl x (List.mem_cons_self ..))]
    simp only
    rw [iterF h l r (fun y hy => hl y (List.mem_cons_of_mem _ hy))]
theorem catAll_ge {α : Type} {g : α → List UInt8} (h : ∀ x, 1 ≤ (g x).length) : ∀ l : List α, l.length ≤ (catAll g l).length
  | [] => Nat.le_refl _
  | x :: l => by
    have h1 := h x
    have h2 := catAll_ge h l
    rw [catAll_cons, List.length_append, List.length_cons]
    omega
theorem secF {α : Type} {f : St → α × St} {g : α → List UInt8} {ok : α → Prop} (h : Fwd f g ok) (hp : ∀ x, 1 ≤ (g x).length) (m : Nat) (hm : m < 9223372036854775808) :
    Fwd (secR f m) (secL g) (fun l => l.length ≤ m ∧ ∀ x ∈ l, ok x) := by
  intro l r hl
  have h2 := catAll_ge hp l
  unfold secR secL
  rw [List.append_assoc, manyR_vi _ hm hl.1 (by rw [List.length_append]; omega)]
  exact iterF h l r hl.2

def Ty.fit (t : Ty) : Prop := t.n.length ≤ 40
def Vr.fit (v : Vr) : Prop := v.n.length ≤ 40 ∧ v.t.fit
def SgP.fit (m : SgP) : Prop := m.n.length ≤ 40 ∧ m.r.fit ∧ m.ps.length ≤ 200 ∧ ∀ p ∈ m.ps, p.fit
def FcP.fit (f : FcP) : Prop := f.n.length ≤ 40 ∧ f.su.length ≤ 40 ∧ (f.fs.length ≤ 200 ∧ ∀ v ∈ f.fs, v.fit) ∧ f.ms.length ≤ 200 ∧ ∀ m ∈ f.ms, m.fit
theorem tx_pos (s : List UInt8) : 1 ≤ (tx s).length := by
  have := vi_pos s.length
  rw [tx, List.length_append]; omega
theorem fl_len (b : Bool) : (fl b).length = 1 := rfl
theorem zi_pos (n : Int) : 1 ≤ (zi n).length := by
  have := vi_pos (zz n / 4294967296)
  rw [zi, List.length_append]; omega
theorem tyL_pos (t : Ty) : 1 ≤ (tyL t).length := by
  have := tx_pos t.n
  rw [tyL, List.length_append]; omega
theorem vrL_pos (v : Vr) : 1 ≤ (vrL v).length := by
  have := tx_pos v.n
  rw [vrL, List.length_append]; omega
theorem sgL_pos (m : SgP) : 1 ≤ (sgL m).length := by
  have := tx_pos m.n
  rw [sgL, List.length_append]; omega
theorem fcL_pos (f : FcP) : 1 ≤ (fcL f).length := by
  have := tx_pos f.n
  rw [fcL, List.length_append]; omega
theorem tyF : Fwd tyR tyL Ty.fit := by
  intro t r h
  have e1 := textF 40 (by omega) t.n (fl t.a ++ r) h
  have e2 := flagF t.a r trivial
  unfold tyR tyL
  rw [List.append_assoc, e1]
  simp only
  rw [e2]
theorem vrF : Fwd vrR vrL Vr.fit := by
  intro v r h
  have e1 := textF 40 (by omega) v.n (tyL v.t ++ r) h.1
  have e2 := tyF v.t r h.2
  unfold vrR vrL
  rw [List.append_assoc, e1]
  simp only
  rw [e2]
theorem sgR_eq (st : St) : sgR st = (⟨(textR 40 st).1, (flagR (textR 40 st).2).1, (secR tyR 200 (tyR (flagR (textR 40 st).2).2).2).1, (tyR (flagR (textR 40 st).2).2).1⟩, (secR tyR 200 (tyR (flagR (textR 40 st).2).2).2).2) := rfl
theorem sgL_eq (m : SgP) : sgL m = tx m.n ++ (fl m.st ++ (tyL m.r ++ secL tyL m.ps)) := rfl
theorem sgF : Fwd sgR sgL SgP.fit := by
  intro m r h
  obtain ⟨h1, h2, h3⟩ := h
  have e1 := textF 40 (by omega) m.n (fl m.st ++ (tyL m.r ++ (secL tyL m.ps ++ r))) h1
  have e2 := flagF m.st (tyL m.r ++ (secL tyL m.ps ++ r)) trivial
  have e3 := tyF m.r (secL tyL m.ps ++ r) h2
  have e4 := secF tyF tyL_pos 200 (by omega) m.ps r h3
  rw [sgR_eq, sgL_eq, List.append_assoc, List.append_assoc, List.append_assoc, e1]
  simp only
  rw [e2]
  simp only
  rw [e3]
  simp only
  rw [e4]
def fcR2 (st : St) : (List Vr × List SgP) × St := (((secR vrR 200 st).1, (secR sgR 200 (secR vrR 200 st).2).1), (secR sgR 200 (secR vrR 200 st).2).2)
theorem fcR_eq (st : St) : fcR st = (⟨(textR 40 st).1, (textR 40 (textR 40 st).2).1, (fcR2 (textR 40 (textR 40 st).2).2).1.1, (fcR2 (textR 40 (textR 40 st).2).2).1.2⟩, (fcR2 (textR 40 (textR 40 st).2).2).2) := rfl
theorem fcL_eq (f : FcP) : fcL f = tx f.n ++ (tx f.su ++ (secL vrL f.fs ++ secL sgL f.ms)) := by
  simp only [fcL, secL, List.append_assoc]
theorem fcF : Fwd fcR fcL FcP.fit := by
  intro f r h
  obtain ⟨h1, h2, h3, h4⟩ := h
  have e1 := textF 40 (by omega) f.n (tx f.su ++ (secL vrL f.fs ++ (secL sgL f.ms ++ r))) h1
  have e2 := textF 40 (by omega) f.su (secL vrL f.fs ++ (secL sgL f.ms ++ r)) h2
  have e3 := secF vrF vrL_pos 200 (by omega) f.fs (secL sgL f.ms ++ r) h3
  have e4 := secF sgF sgL_pos 200 (by omega) f.ms r h4
  have e5 : fcR2 (some (secL vrL f.fs ++ (secL sgL f.ms ++ r))) = ((f.fs, f.ms), some r) := by
    unfold fcR2
    rw [e3]
    simp only
    rw [e4]
  rw [fcR_eq, fcL_eq, List.append_assoc, List.append_assoc, List.append_assoc, e1]
  simp only
  rw [e2]
  simp only
  rw [e5]
def FdP.fit (f : FdP) : Prop := f.c.length ≤ 40 ∧ f.v.fit
theorem fdL_pos (f : FdP) : 1 ≤ (fdL f).length := by
  have := tx_pos f.c
  rw [fdL, List.length_append]; omega
theorem fdF : Fwd fdR fdL FdP.fit := by
  intro f r h
  have e1 := textF 40 (by omega) f.c (tx f.v.n ++ (tyL f.v.t ++ r)) h.1
  have e2 := textF 40 (by omega) f.v.n (tyL f.v.t ++ r) h.2.1
  have e3 := tyF f.v.t r h.2.2
  unfold fdR fdL
  rw [List.append_assoc, List.append_assoc, e1]
  simp only
  rw [e2]
  simp only
  rw [e3]
def coFit (x : Int × Int) : Prop := (0 ≤ x.1 ∧ x.1 ≤ 16384) ∧ if pl x.1 == 0 then x.2 = 0 else 0 ≤ x.2 ∧ x.2 ≤ 16384
theorem coL_pos (x : Int × Int) : 1 ≤ (coL x).length := by
  have := vi_pos x.1.toNat
  rw [coL, List.length_append]; omega
theorem coF : Fwd coR coL coFit := by
  intro x r h
  obtain ⟨c, a⟩ := x
  obtain ⟨⟨h1, h2⟩, h3⟩ := h
  simp only at h1 h2 h3
  obtain ⟨n, rfl⟩ := Int.eq_ofNat_of_zero_le h1
  unfold coR coL
  simp only [Int.toNat_natCast]
  by_cases hp : (pl (n : Int) == 0) = true
  · rw [if_pos hp] at h3
    subst h3
    have e1 := numF 16384 (by omega) n r (by omega)
    rw [if_pos hp, List.append_nil, e1]
    simp only
    rw [if_pos hp]
  · rw [if_neg hp] at h3
    obtain ⟨k, rfl⟩ := Int.eq_ofNat_of_zero_le h3.1
    have e1 := numF 16384 (by omega) n (vi k ++ r) (by omega)
    have e2 := numF 16384 (by omega) k r (by omega)
    rw [if_neg hp, List.append_assoc, Int.toNat_natCast, e1]
    simp only
    rw [if_neg hp, e2]
def BdP.fit (b : BdP) : Prop := (0 ≤ b.lo ∧ b.lo ≤ 401) ∧ (0 ≤ b.sk ∧ b.sk ≤ 1000) ∧ b.code.length ≤ 16384 ∧ ∀ x ∈ b.code, coFit x
theorem bdR_eq (st : St) : bdR st = (⟨(numR 401 st).1, (numR 1000 (numR 401 st).2).1, (secR coR 16384 (numR 1000 (numR 401 st).2).2).1⟩, (secR coR 16384 (numR 1000 (numR 401 st).2).2).2) := rfl
theorem bdL_eq (b : BdP) : bdL b = vi b.lo.toNat ++ (vi b.sk.toNat ++ secL coL b.code) := rfl
theorem bdF : Fwd bdR bdL BdP.fit := by
  intro b r h
  obtain ⟨lo, sk, code⟩ := b
  obtain ⟨⟨h1, h2⟩, ⟨h3, h4⟩, h5⟩ := h
  simp only at h1 h2 h3 h4 h5
  obtain ⟨n, rfl⟩ := Int.eq_ofNat_of_zero_le h1
  obtain ⟨k, rfl⟩ := Int.eq_ofNat_of_zero_le h3
  have e1 := numF 401 (by omega) n (vi k ++ (secL coL code ++ r)) (by omega)
  have e2 := numF 1000 (by omega) k (secL coL code ++ r) (by omega)
  have e3 := secF coF coL_pos 16384 (by omega) code r h5
  rw [bdR_eq, bdL_eq]
  simp only [Int.toNat_natCast]
  rw [List.append_assoc, List.append_assoc, e1]
  simp only
  rw [e2]
  simp only
  rw [e3]
def MtP.fit (m : MtP) : Prop := m.c.length ≤ 40 ∧ m.m.fit
theorem mtF_fit {m : MtP} (h : m.fit) : (mtF m).fit := ⟨h.1, by show 0 ≤ 40; omega, ⟨by show 0 ≤ 200; omega, fun v hv => by cases hv⟩, by show 1 ≤ 200; omega, fun x hx => by obtain rfl := List.mem_singleton.1 hx; exact h.2⟩
structure PoolP.fit (p : PoolP) : Prop where
  n : p.nums.length ≤ 16384 ∧ ∀ x ∈ p.nums, -9223372036854775808 ≤ x ∧ x ≤ 9223372036854775807
  c : p.cls.length ≤ 16384 ∧ ∀ x ∈ p.cls, x.length ≤ 40
  t : p.tys.length ≤ 16384 ∧ ∀ x ∈ p.tys, x.fit
  d : p.fds.length ≤ 16384 ∧ ∀ x ∈ p.fds, x.fit
  m : p.mts.length ≤ 16384 ∧ ∀ x ∈ p.mts, x.fit
theorem toMt_mtF (m : MtP) : toMt (mtF m) = m := rfl
theorem isMt_mtF (m : MtP) : isMt (mtF m) = true := rfl
theorem mts_to : ∀ l : List MtP, (l.map mtF).map toMt = l
  | [] => rfl
  | m :: l => by rw [List.map_cons, List.map_cons, toMt_mtF, mts_to l]
theorem mts_is : ∀ l : List MtP, (l.map mtF).all isMt = true
  | [] => rfl
  | m :: l => by rw [List.map_cons, List.all_cons, isMt_mtF, mts_is l]; rfl
theorem poR_eq (st : St) : poR st = ((⟨(poR1 st).1.1, (poR1 st).1.2, (poR2 (poR1 st).2).1.1, (poR2 (poR1 st).2).1.2, (secR fcR 16384 (poR2 (poR1 st).2).2).1.map toMt⟩, (secR fcR 16384 (poR2 (poR1 st).2).2).1), (secR fcR 16384 (poR2 (poR1 st).2).2).2) := rfl
theorem poolF {p : PoolP} (h : p.fit) (r : List UInt8) : poR (some (poolL p ++ r)) = ((p, p.mts.map mtF), some r) := by
  have e1 := secF intF zi_pos 16384 (by omega) p.nums (secL tx p.cls ++ (poL2 (p.tys, p.fds) ++ (secL fcL (p.mts.map mtF) ++ r))) h.n
  have e2 := secF (textF 40 (by omega)) tx_pos 16384 (by omega) p.cls (poL2 (p.tys, p.fds) ++ (secL fcL (p.mts.map mtF) ++ r)) h.c
  have e3 := secF tyF tyL_pos 16384 (by omega) p.tys (secL fdL p.fds ++ (secL fcL (p.mts.map mtF) ++ r)) h.t
  have e4 := secF fdF fdL_pos 16384 (by omega) p.fds (secL fcL (p.mts.map mtF) ++ r) h.d
  have e5 := secF fcF fcL_pos 16384 (by omega) (p.mts.map mtF) r ⟨by rw [List.length_map]; exact h.m.1, fun x hx => by obtain ⟨m, hm, rfl⟩ := List.mem_map.1 hx; exact mtF_fit (h.m.2 m hm)⟩
  have e6 : poR1 (some (poolL p ++ r)) = ((p.nums, p.cls), some (poL2 (p.tys, p.fds) ++ (secL fcL (p.mts.map mtF) ++ r))) := by
    unfold poR1 poolL poL poL1
    simp only [List.append_assoc]
    rw [e1]
    simp only
    rw [e2]
  have e7 : poR2 (some (poL2 (p.tys, p.fds) ++ (secL fcL (p.mts.map mtF) ++ r))) = ((p.tys, p.fds), some (secL fcL (p.mts.map mtF) ++ r)) := by
    unfold poR2 poL2
    simp only [List.append_assoc]
    rw [e3]
    simp only
    rw [e4]
  rw [poR_eq, e6]
  simp only
  rw [e7]
  simp only
  rw [e5, mts_to]
structure FileP.fit (F : FileP) : Prop where
  f : F.f.fit
  p : F.p.fit
  b : F.b.length = F.f.ms.length ∧ ∀ x ∈ F.b, x.fit
theorem dec_fwd {F : FileP} (h : F.fit) (u : List UInt8) : decR (fileL F ++ u) = (F, some u, true) := by
  have e1 := fcF F.f (poolL F.p ++ (catAll bdL F.b ++ u)) h.f
  have e2 := poolF h.p (catAll bdL F.b ++ u)
  have e3 := iterF bdF F.b u h.b.2
  unfold decR fileL
  simp only [List.append_assoc]
  rw [e1]
  simp only
  rw [e2]
  simp only
  rw [← h.b.1, e3, mts_is]

/-- A file that is right fits. -/
theorem good_fit {t : Ty} (h : t.good = true) : t.fit := by
  unfold Ty.good at h
  unfold Ty.fit
  simp only [Bool.or_eq_true, Bool.and_eq_true, beq_iff_eq, decide_eq_true_eq] at h
  rcases h with (h | h) | h
  · rw [h]; decide
  · rw [h]; decide
  · exact h.2
theorem sgood_fit {m : SgP} (h1 : m.n.length ≤ 40) (h : m.good = true) : m.fit := by
  unfold SgP.good at h
  simp only [Bool.and_eq_true, decide_eq_true_eq, Bool.not_eq_true'] at h
  refine ⟨h1, good_fit h.1.1, h.1.2, fun p hp => good_fit ?_⟩
  have := List.any_eq_false.1 h.2 p hp
  simpa using this
theorem riseV_fit : ∀ (vs : List Vr) (last : List UInt8), riseV last vs = true → ∀ v ∈ vs, v.fit
  | [], _, _, _, hv => by cases hv
  | x :: vs, last, h, v, hv => by
    simp only [riseV, Bool.and_eq_true, decide_eq_true_eq] at h
    rcases List.mem_cons.1 hv with rfl | hv
    · exact ⟨h.1.1.2, good_fit h.1.2⟩
    · exact riseV_fit vs _ h.2 v hv
theorem riseP_fit : ∀ (ms : List SgP) (last : List UInt8), riseP last ms = true → ∀ m ∈ ms, m.fit
  | [], _, _, _, hv => by cases hv
  | x :: ms, last, h, m, hm => by
    simp only [riseP, Bool.and_eq_true, decide_eq_true_eq] at h
    rcases List.mem_cons.1 hm with rfl | hm
    · exact sgood_fit h.1.1.2 h.1.2
    · exact riseP_fit ms _ h.2 m hm
theorem fright_fit {f : FcP} (h : f.right = true) : f.fit := by
  unfold FcP.right at h
  simp only [Bool.and_eq_true, decide_eq_true_eq] at h
  obtain ⟨⟨⟨⟨⟨⟨_, h1⟩, h2⟩, h3⟩, h4⟩, h5⟩, h6⟩ := h
  exact ⟨h3, h4, ⟨h1, riseV_fit _ _ h5⟩, h2, riseP_fit _ _ h6⟩
theorem mtOk_fit {m : MtP} (h : mtOk m = true) : m.fit := by
  unfold mtOk cname at h
  simp only [Bool.and_eq_true, decide_eq_true_eq] at h
  exact ⟨h.1.2, (fright_fit h.2).2.2.2.2 _ (List.mem_singleton.2 rfl)⟩
theorem pright_fit {p : PoolP} (hn : ∀ x ∈ p.nums, -9223372036854775808 ≤ x ∧ x ≤ 9223372036854775807) (h : p.right = true) : p.fit := by
  unfold PoolP.right at h
  simp only [Bool.and_eq_true, decide_eq_true_eq, List.all_eq_true] at h
  obtain ⟨⟨⟨⟨⟨⟨⟨⟨h1, h2⟩, h3⟩, h4⟩, h5⟩, h6⟩, h7⟩, h8⟩, h9⟩ := h
  refine ⟨⟨h1, hn⟩, ⟨h2, fun x hx => ?_⟩, ⟨h3, fun x hx => good_fit (h7 x hx)⟩, ⟨h4, fun x hx => ?_⟩, ⟨h5, fun x hx => mtOk_fit (h9 x hx)⟩⟩
  · have := h6 x hx
    simp only [cname, Bool.and_eq_true, decide_eq_true_eq] at this
    exact this.2
  · have := h8 x hx
    simp only [fdOk, cname, Bool.and_eq_true, decide_eq_true_eq] at this
    exact ⟨this.1.1.1.2, this.1.2, good_fit this.2⟩
theorem manyV_le {p : PoolP} {b : BdP} (h : p.right = true) (h1 : b.lo ≤ 401) (h2 : b.code.length ≤ 16384) (k : Int) : manyV p b k ≤ 16384 := by
  unfold PoolP.right at h
  simp only [Bool.and_eq_true, decide_eq_true_eq] at h
  obtain ⟨⟨⟨⟨⟨⟨⟨⟨g1, g2⟩, g3⟩, g4⟩, g5⟩, _⟩, _⟩, _⟩, _⟩ := h
  unfold manyV
  repeat' split
  all_goals omega
theorem bdOk_fit {p : PoolP} {m : SgP} {b : BdP} (hp : p.right = true) (h : bdOk p m b = true) : b.fit := by
  unfold bdOk at h
  simp only [Bool.and_eq_true, decide_eq_true_eq, List.all_eq_true] at h
  obtain ⟨⟨⟨⟨⟨⟨h1, h2⟩, h3⟩, h4⟩, h5⟩, h6⟩, h7⟩ := h
  refine ⟨⟨?_, h2⟩, ⟨h3, h4⟩, h6, fun x hx => ?_⟩
  · split at h1 <;> omega
  · have h8 := h7 x hx
    have hm := manyV_le hp h2 h6 (pl x.1)
    simp only [rtC, Bool.and_eq_true] at h8
    obtain ⟨n, hn, hn1, hn2⟩ := kn_cast h8.1
    refine ⟨by omega, ?_⟩
    have h9 := h8.2
    by_cases hz : (pl x.1 == 0) = true
    · rw [if_pos hz] at h9 ⊢
      simpa using h9
    · rw [if_neg hz] at h9 ⊢
      simp only [Bool.and_eq_true, decide_eq_true_eq] at h9
      omega
theorem bodies_fit {p : PoolP} (hp : p.right = true) : ∀ (ms : List SgP) (bs : List BdP), bs.length = ms.length → bodiesOk p ms bs = true → ∀ b ∈ bs, b.fit
  | [], [], _, _, _, hb => by cases hb
  | [], _ :: _, h, _, _, _ => by simp at h
  | _ :: _, [], _, _, _, hb => by cases hb
  | m :: ms, b :: bs, hl, h, x, hx => by
    simp only [bodiesOk, Bool.and_eq_true] at h
    rcases List.mem_cons.1 hx with rfl | hx
    · exact bdOk_fit hp h.1
    · exact bodies_fit hp ms bs (by simpa using hl) h.2 x hx
theorem right_fit {F : FileP} (hn : ∀ x ∈ F.p.nums, -9223372036854775808 ≤ x ∧ x ≤ 9223372036854775807) (h : F.right = true) : F.fit := by
  unfold FileP.right at h
  simp only [Bool.and_eq_true, decide_eq_true_eq] at h
  obtain ⟨⟨⟨h1, h2⟩, h3⟩, h4⟩ := h
  exact ⟨fright_fit h1, pright_fit hn h2, h3, bodies_fit h2 _ _ h3 h4⟩

/-- The numbers' bounds, which no text turns. -/
def FileP.nok (F : FileP) : Prop := ∀ x ∈ F.p.nums, -9223372036854775808 ≤ x ∧ x ≤ 9223372036854775807
theorem FileP.eta (F : FileP) : F = ⟨F.f, F.p, F.b⟩ := rfl
theorem dec_lay {F : FileP} (hn : F.nok) (h : F.right = true) : decOk (fileL F) = true ∧ (decR (fileL F)).1 = F := by
  have e := dec_fwd (right_fit hn h) []
  rw [List.append_nil] at e
  unfold decOk
  rw [e]
  exact ⟨by simp [h], rfl⟩
theorem numsR_ok : ∀ (k : Nat) (st : St), ∀ x ∈ (iterR intR k st).1, -9223372036854775808 ≤ x ∧ x ≤ 9223372036854775807
  | 0, _, _, h => by cases h
  | k + 1, st, x, h => by
    rw [iterR_cons] at h
    rcases List.mem_cons.1 h with rfl | h
    · have h1 := numR_le 4294967295 st
      have h2 := numR_le 4294967295 (numR 4294967295 st).2
      have := zz_unzz _ _ h1 h2
      exact ⟨this.2.1, this.2.2⟩
    · exact numsR_ok k _ x h
theorem decR_nok (l : List UInt8) : (decR l).1.nok := numsR_ok _ _
/-- What is laid, with more behind, or cut off, is none. -/
theorem dec_more {F : FileP} (hn : F.nok) (h : F.right = true) {u : List UInt8} (hu : u ≠ []) : decOk (fileL F ++ u) = false := by
  have e := dec_fwd (right_fit hn h) u
  unfold decOk
  rw [e]
  simp [hu]
theorem dec_cut {F : FileP} (hn : F.nok) (h : F.right = true) {t u : List UInt8} (hu : u ≠ []) (e : fileL F = t ++ u) : decOk t = false := by
  cases hd : decOk t with
  | false => rfl
  | true =>
    have e1 := dec_back hd
    have h2 : (decR t).1.right = true := by
      simp only [decOk, Bool.and_eq_true] at hd
      exact hd.2
    have e2 := dec_more (decR_nok t) h2 hu
    rw [e1, ← e] at e2
    have e3 := (dec_lay hn h).1
    rw [e2] at e3
    cases e3
/-- Unlike files have unlike bytes. -/
theorem file_inj {F G : FileP} (hF : F.nok) (hG : G.nok) (h1 : F.right = true) (h2 : G.right = true) (e : fileL F = fileL G) : F = G := by
  have e1 := (dec_lay hF h1).2
  have e2 := (dec_lay hG h2).2
  rw [← e1, e, e2]
theorem file_pre {F G : FileP} (hF : F.nok) (hG : G.nok) (h1 : F.right = true) (h2 : G.right = true) {n : Nat} (hn : n = (fileL F).length ∨ n = (fileL G).length) (e : (fileL F).take n = (fileL G).take n) (hm1 : n ≤ (fileL F).length) (hm2 : n ≤ (fileL G).length) : F = G := by
  rcases hn with rfl | rfl
  · rw [List.take_length] at e
    have e2 : fileL G = fileL F ++ (fileL G).drop (fileL F).length := by
      have := (List.take_append_drop (fileL F).length (fileL G)).symm
      rw [← e] at this
      exact this
    by_cases hd : (fileL G).drop (fileL F).length = []
    · rw [hd, List.append_nil] at e2
      exact file_inj hF hG h1 h2 e2.symm
    · have := dec_cut hG h2 hd e2
      rw [(dec_lay hF h1).1] at this
      cases this
  · rw [List.take_length] at e
    have e2 : fileL F = fileL G ++ (fileL F).drop (fileL G).length := by
      have := (List.take_append_drop (fileL G).length (fileL F)).symm
      rw [e] at this
      exact this
    by_cases hd : (fileL F).drop (fileL G).length = []
    · rw [hd, List.append_nil] at e2
      exact file_inj hF hG h1 h2 e2
    · have := dec_cut hF h1 hd e2
      rw [(dec_lay hG h2).1] at this
      cases this
end Go.Proofs.YtkldfbacagnhoaaDoor
