/- Unlike faces have unlike bytes; faces of few members are short as bytes: the plain laws; no statement of the seat is proved here. -/
import Derived.Test.YtkgnoemagklmiaaFaceM
import Derived.Test.YtkgnoemagklmiaaSigSameC
namespace Go.Proofs.Ytkgnoemagklmiaa
open Go.RowKit

theorem Sg.pl_p {m m' : Sg} : m.pl = m'.pl ↔ m.p = m'.p := by
  obtain ⟨n, st, A, k, c, ps, r⟩ := m
  obtain ⟨n', st', A', k', c', ps', r'⟩ := m'
  simp only [Sg.pl, Sg.p, SgP.mk.injEq, Prod.mk.injEq]
  constructor
  · rintro ⟨h1, h2, h3, h4⟩; exact ⟨h1, h2, h4, h3⟩
  · rintro ⟨h1, h2, h3, h4⟩; exact ⟨h1, h2, h4, h3⟩
theorem map_pl {l l' : List Sg} : l.map Sg.pl = l'.map Sg.pl ↔ l.map Sg.p = l'.map Sg.p := by
  constructor
  · intro h
    have : ∀ (l l' : List Sg), l.map Sg.pl = l'.map Sg.pl → l.map Sg.p = l'.map Sg.p := by
      intro l
      induction l with
      | nil => intro l' h; cases l' with | nil => rfl | cons _ _ => cases h
      | cons m l ih => intro l' h; cases l' with
        | nil => cases h
        | cons m' l' => simp only [List.map_cons, List.cons.injEq] at h ⊢; exact ⟨Sg.pl_p.1 h.1, ih l' h.2⟩
    exact this _ _ h
  · intro h
    have : ∀ (l l' : List Sg), l.map Sg.p = l'.map Sg.p → l.map Sg.pl = l'.map Sg.pl := by
      intro l
      induction l with
      | nil => intro l' h; cases l' with | nil => rfl | cons _ _ => cases h
      | cons m l ih => intro l' h; cases l' with
        | nil => cases h
        | cons m' l' => simp only [List.map_cons, List.cons.injEq] at h ⊢; exact ⟨Sg.pl_p.2 h.1, ih l' h.2⟩
    exact this _ _ h
theorem Fc.pl_p {f f' : Fc} : f.pl = f'.pl ↔ f.p = f'.p := by
  obtain ⟨n, su, fA, fl, fc, fs, mA, ml, mc, ms⟩ := f
  obtain ⟨n', su', fA', fl', fc', fs', mA', ml', mc', ms'⟩ := f'
  simp only [Fc.pl, Fc.p, FcP.mk.injEq, Prod.mk.injEq, map_pl]

/-- What stands ahead of anything is told by it. -/
def PI {α : Type} (g : α → List UInt8) (ok : α → Prop) : Prop := ∀ x y r r', ok x → ok y → g x ++ r = g y ++ r' → x = y ∧ r = r'
theorem viI : PI vi (fun n => n ≤ 9223372036854775807) := by
  intro a b r r' ha hb e
  have e1 := numR_vi (m := 9223372036854775807) r (show a < 9223372036854775808 by omega) ha
  have e2 := numR_vi (m := 9223372036854775807) r' (show b < 9223372036854775808 by omega) hb
  rw [e, e2] at e1
  injection e1 with h1 h2
  injection h2 with h2
  exact ⟨h1.symm, h2.symm⟩
theorem txI : PI tx short := by
  intro s t r r' hs ht e
  unfold tx at e
  rw [List.append_assoc, List.append_assoc] at e
  obtain ⟨h1, h2⟩ := viI _ _ _ _ hs ht e
  exact List.append_inj h2 h1
theorem flI : PI fl (fun _ => True) := by
  intro a b r r' _ _ e
  cases a <;> cases b <;> simp [fl] at e <;> simp [e]
theorem tyLI : PI tyL Ty.ok := by
  rintro ⟨n, a⟩ ⟨n', a'⟩ r r' h h' e
  unfold tyL at e
  rw [List.append_assoc, List.append_assoc] at e
  obtain ⟨h1, e⟩ := txI _ _ _ _ h h' e
  obtain ⟨h2, e⟩ := flI _ _ _ _ trivial trivial e
  simp only at h1 h2
  exact ⟨by rw [h1, h2], e⟩
theorem vrLI : PI vrL Vr.ok := by
  rintro ⟨n, t⟩ ⟨n', t'⟩ r r' h h' e
  unfold vrL at e
  rw [List.append_assoc, List.append_assoc] at e
  obtain ⟨h1, e⟩ := txI _ _ _ _ h.1 h'.1 e
  obtain ⟨h2, e⟩ := tyLI _ _ _ _ h.2 h'.2 e
  simp only at h1 h2
  exact ⟨by rw [h1, h2], e⟩
theorem catI {α : Type} {g : α → List UInt8} {ok : α → Prop} (h : PI g ok) : ∀ (l l' : List α) (r r' : List UInt8), l.length = l'.length → (∀ x ∈ l, ok x) → (∀ x ∈ l', ok x) → catAll g l ++ r = catAll g l' ++ r' → l = l' ∧ r = r'
  | [], [], r, r', _, _, _, e => ⟨rfl, by simpa [catAll] using e⟩
  | [], _ :: _, _, _, hl, _, _, _ => by simp at hl
  | _ :: _, [], _, _, hl, _, _, _ => by simp at hl
  | x :: l, y :: l', r, r', hl, h1, h2, e => by
    simp only [catAll, List.flatMap_cons, List.append_assoc] at e
    obtain ⟨hxy, e2⟩ := h _ _ _ _ (h1 x (List.mem_cons_self ..)) (h2 y (List.mem_cons_self ..)) e
    obtain ⟨hll, e3⟩ := catI h l l' r r' (by simpa using hl) (fun z hz => h1 z (List.mem_cons_of_mem _ hz)) (fun z hz => h2 z (List.mem_cons_of_mem _ hz)) e2
    exact ⟨by rw [hxy, hll], e3⟩
/-- A row of parts, their number ahead. -/
theorem secI' {α : Type} {g : α → List UInt8} {ok : α → Prop} (h : PI g ok) (l l' : List α) (r r' : List UInt8) (hl : l.length ≤ 9223372036854775807) (hl' : l'.length ≤ 9223372036854775807) (h1 : ∀ x ∈ l, ok x) (h2 : ∀ x ∈ l', ok x) (e : vi l.length ++ (catAll g l ++ r) = vi l'.length ++ (catAll g l' ++ r')) : l = l' ∧ r = r' := by
  obtain ⟨hl2, e⟩ := viI _ _ _ _ hl hl' e
  exact catI h l l' r r' hl2 h1 h2 e
def SgP.okI (m : SgP) : Prop := short m.n ∧ m.r.ok ∧ m.ps.length ≤ 9223372036854775807 ∧ ∀ p ∈ m.ps, p.ok
theorem sgLI : PI sgL SgP.okI := by
  rintro ⟨n, st, ps, t⟩ ⟨n', st', ps', t'⟩ r r' ⟨h1, h2, h3, h4⟩ ⟨h1', h2', h3', h4'⟩ e
  simp only at h1 h2 h3 h4 h1' h2' h3' h4'
  unfold sgL at e
  simp only [List.append_assoc] at e
  obtain ⟨q1, e⟩ := txI _ _ _ _ h1 h1' e
  obtain ⟨q2, e⟩ := flI _ _ _ _ trivial trivial e
  obtain ⟨q3, e⟩ := tyLI _ _ _ _ h2 h2' e
  obtain ⟨q4, e⟩ := secI' tyLI _ _ _ _ h3 h3' h4 h4' e
  exact ⟨by rw [q1, q2, q3, q4], e⟩
def FcP.okI (f : FcP) : Prop := short f.n ∧ short f.su ∧ (f.fs.length ≤ 9223372036854775807 ∧ ∀ v ∈ f.fs, v.ok) ∧ f.ms.length ≤ 9223372036854775807 ∧ ∀ m ∈ f.ms, m.okI
theorem fcL_inj {f g : FcP} (hf : f.okI) (hg : g.okI) (e : fcL f = fcL g) : f = g := by
  obtain ⟨n, su, fs, ms⟩ := f
  obtain ⟨n', su', fs', ms'⟩ := g
  obtain ⟨h1, h2, ⟨h3, h4⟩, h5, h6⟩ := hf
  obtain ⟨h1', h2', ⟨h3', h4'⟩, h5', h6'⟩ := hg
  simp only at h1 h2 h3 h4 h5 h6 h1' h2' h3' h4' h5' h6'
  unfold fcL at e
  simp only at e
  obtain ⟨q1, e⟩ := txI _ _ _ _ h1 h1' e
  obtain ⟨q2, e⟩ := txI _ _ _ _ h2 h2' e
  obtain ⟨q3, e⟩ := secI' vrLI _ _ _ _ h3 h3' h4 h4' e
  rw [← List.append_nil (catAll sgL ms), ← List.append_nil (catAll sgL ms')] at e
  obtain ⟨q4, e⟩ := secI' sgLI _ _ _ _ h5 h5' h6 h6' e
  rw [q1, q2, q3, q4]
theorem Fc.okI_pl {f : Fc} {w : World} {F : Nat → Prop} (h : f.at_ w F) : f.pl.okI := by
  obtain ⟨⟨_, hf, hfl, hfo⟩, ⟨_, hm, hml, hmo⟩, hn, hs⟩ := h
  refine ⟨hn, hs, ⟨by show f.fs.length ≤ _; omega, hfo⟩, by show (f.ms.map Sg.pl).length ≤ _; rw [List.length_map]; omega, fun m hm => ?_⟩
  obtain ⟨s, hs', rfl⟩ := List.mem_map.1 hm
  obtain ⟨_, h2, h3, h4, h5, h6⟩ := hmo s hs'
  exact ⟨h4, h5, by show s.ps.length ≤ _; omega, h6⟩

theorem cat_le {α : Type} {g : α → List UInt8} {c : Nat} : ∀ (l : List α), (∀ x ∈ l, (g x).length ≤ c) → (catAll g l).length ≤ l.length * c
  | [], _ => by simp [catAll]
  | x :: l, h => by
    have h1 := h x (List.mem_cons_self ..)
    have h2 := cat_le l (fun y hy => h y (List.mem_cons_of_mem _ hy))
    have e : catAll g (x :: l) = g x ++ catAll g l := by simp [catAll]
    rw [e, List.length_append, List.length_cons, Nat.succ_mul]
    omega
theorem tx_le {s : List UInt8} {k : Nat} (h : s.length ≤ k) (hk : k ≤ 1000) : (tx s).length ≤ k + 9 := by
  unfold tx
  rw [List.length_append]
  have := vi_len_9 s.length (by omega)
  omega
theorem ty_le {t : Ty} (h : t.n.length ≤ 60) : (tyL t).length ≤ 70 := by
  unfold tyL
  have := tx_le h (by omega)
  rw [List.length_append]
  simp [fl]
  omega
theorem few_le {f : Fc} {w : World} {F : Nat → Prop} (h : f.at_ w F) (hf : f.few) : (fcL f.pl).length ≤ 13000 := by
  obtain ⟨h1, h2, h3, h4, h5, h6⟩ := hf
  obtain ⟨⟨_, hfl, _, _⟩, ⟨_, hml, _, hmo⟩, _, _⟩ := h
  have a1 := tx_le h3 (by omega)
  have a2 := tx_le h4 (by omega)
  have a3 : (catAll vrL f.fs).length ≤ f.fs.length * 139 := cat_le _ (fun v hv => by
    have b1 := tx_le (h5 v hv).1 (by omega)
    have b2 := ty_le (h5 v hv).2
    unfold vrL
    rw [List.length_append]
    omega)
  have a4 : (catAll sgL (f.ms.map Sg.pl)).length ≤ (f.ms.map Sg.pl).length * 849 := cat_le _ (fun m hm => by
    obtain ⟨s, hs, rfl⟩ := List.mem_map.1 hm
    obtain ⟨c1, c2, c3, c4⟩ := h6 s hs
    have b1 := tx_le c1 (by omega)
    have b2 := ty_le c2
    have b3 := vi_len_9 s.ps.length (by have := (hmo s hs).2.1; omega)
    have b4 : (catAll tyL s.ps).length ≤ s.ps.length * 70 := cat_le _ (fun p hp => ty_le (c4 p hp))
    have b5 := (hmo s hs).2.1
    unfold sgL Sg.pl
    simp only [List.length_append, fl, List.length_cons, List.length_nil]
    omega)
  have a5 := vi_len_9 f.fs.length (by omega)
  have a6 := vi_len_9 (f.ms.map Sg.pl).length (by rw [List.length_map]; omega)
  rw [List.length_map] at a4
  unfold fcL Fc.pl
  simp only [List.length_append]
  omega
theorem face_eq {f g : Fc} {w w' : World} {F G : Nat → Prop} (hf : f.at_ w F) (hg : g.at_ w' G) : (fcL f.pl == fcL g.pl) = decide (f.p = g.p) := by
  by_cases e : f.p = g.p
  · rw [decide_eq_true e, Fc.pl_p.2 e]
    simp
  · rw [decide_eq_false e, beq_eq_false_iff_ne]
    exact fun h => e (Fc.pl_p.1 (fcL_inj (Fc.okI_pl hf) (Fc.okI_pl hg) h))
end Go.Proofs.Ytkgnoemagklmiaa
