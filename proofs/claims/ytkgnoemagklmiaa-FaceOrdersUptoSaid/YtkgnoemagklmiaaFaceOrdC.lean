/- FaceOrders: a class that came in, as face.Of takes it; how long a face's bytes are; no statement of the seat is proved here. -/
import Derived.Test.YtkgnoemagklmiaaFaceOrdM
import Derived.Test.YtkgnoemagklmiaaFaceHeadG
import Derived.Test.YtkgnoemagklmiaaK5Kl
import Derived.Test.YtkgnoemagklmiaaK5Set
namespace Go.Proofs.Ytkgnoemagklmiaa
open Go.RowKit

/-- A method that came in, as face.Of takes it. -/
def mdOf (m : K5.Me) : Md := ⟨m.ln, m.co, m.n, m.st, m.pA, m.pk, m.pc, m.ps, ⟨m.rn, m.ra⟩, m.bA, m.bk, m.bc⟩
theorem mdOf_cells (m : K5.Me) : (mdOf m).cells = m.cells := rfl
/-- No text of a face is longer than a bulk bears. -/
structure Fc.mid (f : Fc) : Prop where
  fl : f.fl ≤ 19
  ml : f.ml ≤ 19
  n : f.n.length ≤ 104857600
  su : f.su.length ≤ 104857600
  fs : ∀ v ∈ f.fs, v.n.length ≤ 104857600 ∧ v.t.n.length ≤ 104857600
  ms : ∀ m ∈ f.ms, m.n.length ≤ 104857600 ∧ m.r.n.length ≤ 104857600 ∧ m.k ≤ 200 ∧ ∀ p ∈ m.ps, p.n.length ≤ 104857600
theorem tx_mid {s : List UInt8} (h : s.length ≤ 104857600) : (tx s).length ≤ 104857609 := by
  unfold tx
  rw [List.length_append]
  have := vi_len_9 s.length (by omega)
  omega
theorem ty_mid {t : Ty} (h : t.n.length ≤ 104857600) : (tyL t).length ≤ 104857610 := by
  unfold tyL
  have := tx_mid h
  rw [List.length_append]
  simp [fl]
  omega
theorem mid_le {f : Fc} {w : World} {F : Nat → Prop} (h : f.at_ w F) (hf : f.mid) : (fcL f.pl).length ≤ 1099511627000 := by
  obtain ⟨h1, h2, h3, h4, h5, h6⟩ := hf
  obtain ⟨⟨_, hfl, _, _⟩, ⟨_, hml, _, hmo⟩, _, _⟩ := h
  have a1 := tx_mid h3
  have a2 := tx_mid h4
  have a3 : (catAll vrL f.fs).length ≤ f.fs.length * 209715300 := cat_le _ (fun v hv => by
    have b1 := tx_mid (h5 v hv).1
    have b2 := ty_mid (h5 v hv).2
    unfold vrL
    rw [List.length_append]
    omega)
  have a4 : (catAll sgL (f.ms.map Sg.pl)).length ≤ (f.ms.map Sg.pl).length * 22000000000 := cat_le _ (fun m hm => by
    obtain ⟨s, hs, rfl⟩ := List.mem_map.1 hm
    obtain ⟨c1, c2, c3, c4⟩ := h6 s hs
    have b1 := tx_mid c1
    have b2 := ty_mid c2
    have b3 := vi_len_9 s.ps.length (by have := (hmo s hs).2.1; omega)
    have b4 : (catAll tyL s.ps).length ≤ s.ps.length * 104857610 := cat_le _ (fun p hp => ty_mid (c4 p hp))
    have b5 := (hmo s hs).2.1
    unfold sgL Sg.pl
    simp only [List.length_append, Go.Proofs.Ytkgnoemagklmiaa.fl, List.length_cons, List.length_nil]
    omega)
  have a5 := vi_len_9 f.fs.length (by omega)
  have a6 := vi_len_9 (f.ms.map Sg.pl).length (by rw [List.length_map]; omega)
  rw [List.length_map] at a4
  unfold fcL Fc.pl
  simp only [List.length_append]
  omega
/-- The face of a class of such names is such a one. -/
theorem mid_of {f : Fc} {c : Cs} (hn : f.n = c.n) (hs : f.su = c.su) (hp : f.fs.Perm c.fs) (hm : (f.ms.map Sg.p).Perm (c.ms.map Md.p)) (hfl : f.fl ≤ 19) (hml : f.ml ≤ 19) (hk : ∀ m ∈ f.ms, m.k ≤ 200)
    (cn : c.n.length ≤ 104857600) (cs : c.su.length ≤ 104857600) (cf : ∀ v ∈ c.fs, v.n.length ≤ 104857600 ∧ v.t.n.length ≤ 104857600) (cm : ∀ m ∈ c.ms, m.n.length ≤ 104857600 ∧ m.r.n.length ≤ 104857600 ∧ ∀ p ∈ m.ps, p.t.n.length ≤ 104857600) : f.mid := by
  refine ⟨hfl, hml, by rw [hn]; exact cn, by rw [hs]; exact cs, fun v hv => cf v (hp.mem_iff.1 hv), fun m hm' => ?_⟩
  obtain ⟨q, hq, e⟩ := List.mem_map.1 (hm.mem_iff.1 (List.mem_map.2 ⟨m, hm', rfl⟩))
  obtain ⟨h1, h2, h3⟩ := cm q hq
  simp only [Prod.mk.injEq] at e
  obtain ⟨e1, _, e3, e4⟩ := e
  refine ⟨by rw [← e1]; exact h1, by rw [← e3]; exact h2, hk m hm', fun p hp' => ?_⟩
  rw [← e4] at hp'
  obtain ⟨v, hv, rfl⟩ := List.mem_map.1 hp'
  exact h3 v hv
end Go.Proofs.Ytkgnoemagklmiaa
