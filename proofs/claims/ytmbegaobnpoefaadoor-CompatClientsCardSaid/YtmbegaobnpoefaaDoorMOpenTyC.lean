/- An argument that is a type, or a face, opened; no statement of the seat is proved here. -/
import Derived.Test.YtmbegaobnpoefaaDoorMFaceDataC
import Derived.Test.YtmbegaobnpoefaaDoorMClsM2
import Derived.Test.YtmbegaobnpoefaaDoorMCliCompat
namespace Go.Proofs.YtmbegaobnpoefaaDoor
open Go.ChangeShapes Go.WideShapes Go.ChangeAt Go.RowKit Go.Deep
section
variable {H : Type} {enc : TypeId × Value → H} {w : World} {base : Nat} {spare : Nat → Bool} {held : Bool} {r : Reach} {b0 : Nat} {v : Value} {d : DataW H} {p : List MemPlace}
set_option maxRecDepth 100000 in
theorem open_ty (hv : Value.okWide Tryd.prog w r b0 24 v) (h : DataW.Trod enc Tryd.prog w base spare held 24 v d p) : ∃ t : Ty, v = t.val ∧ t.ok := by
 obtain ⟨cs, rfl, _⟩ := okWide_struct Tryd.underlying24 hv
 obtain ⟨fuel, hf⟩ := h
 have hc : (Value.agg cs).cells.toList = cs.toList := by simp [Value.cells]
 rw [hc] at hf
 obtain ⟨t, ht, hok⟩ := trod_ty hf
 exact ⟨t, by rw [show cs = cs.toList.toArray by simp, ht], hok⟩
end
end Go.Proofs.YtmbegaobnpoefaaDoor
namespace Go.Proofs.YtmbegaobnpoefaaDoor
open Go.ChangeShapes Go.WideShapes Go.ChangeAt Go.RowKit Go.Deep
set_option linter.unusedVariables false
section
variable {H : Type} {enc : TypeId × Value → H} {w : World} {base : Nat} {spare : Nat → Bool} {held : Bool}
theorem cap_of {P : Program} {t e : TypeId} {fuel : Nat} {A : Option Addr} {n c : Nat} {y : DataW H × List MemPlace} (ht : P.underlying t = some (.slice e)) (h : DataW.trod enc P w base spare held fuel t [.slice A n c] = some y) : n ≤ c := by
 rcases open_slice ht h with ⟨hcs, _⟩ | ⟨a, len, cap, m, n', D, Pl, hcs, _, hl, _⟩
 ·simp at hcs; omega
 ·simp at hcs
  obtain ⟨rfl, rfl, rfl⟩ := hcs
  omega
set_option maxRecDepth 100000 in
theorem trod_flC {cs : List Value} {n : Nat} {y : DataW H × List MemPlace} (h : DataW.trod enc Tryd.prog w base spare held n 52 cs = some y) : ∃ f : Fl, cs = f.cells ∧ f.at_ w (fun _ => False) ∧ f.f.ml ≤ f.f.mc ∧ f.bl ≤ f.bc := by
 obtain ⟨f, rfl, hat⟩ := trod_fl h
 obtain ⟨_, n', hf⟩ := trod_fld Tryd.underlying52 h
 obtain ⟨_, f0⟩ := hf 0 _ rfl
 obtain ⟨_, f2⟩ := hf 2 _ rfl
 obtain ⟨_, n2, hp⟩ := trod_fld Tryd.underlying43 f0
 obtain ⟨_, p3⟩ := hp 3 _ rfl
 exact ⟨f, rfl, hat, cap_of Tryd.underlying41 p3, cap_of Tryd.underlying50 f2⟩
set_option maxRecDepth 100000 in
theorem open_filesC {r : Reach} {b0 : Nat} {v : Value} {d : DataW H} {p : List MemPlace} (hv : Value.okWide Tryd.prog w r b0 22 v) (h : DataW.Trod enc Tryd.prog w base spare held 22 v d p) :
  ∃ (A : Option Addr) (n c : Nat) (Fs : List Fl), v = .slice A n c ∧ FlsAt w (fun k => w.heap.size ≤ k) A n Fs ∧ ∀ f ∈ Fs, f.f.ml ≤ f.f.mc ∧ f.bl ≤ f.bc := by
 obtain ⟨A, n, c, rfl⟩ := okWide_slice Tryd.underlying22 hv
 obtain ⟨fuel, hf⟩ := h
 have hc : (Value.slice A n c).cells.toList = [.slice A n c] := by simp [Value.cells]
 rw [hc] at hf
 obtain ⟨l, h1, h2, h3, h4⟩ := open_recs (f := Fl.cells) (size := 10) (fun f => f.at_ w (fun _ => False) ∧ f.f.ml ≤ f.f.mc ∧ f.bl ≤ f.bc) Tryd.underlying22 (by kernel_rfl) (by decide) (fun _ => rfl) (fun cs n' y h => by obtain ⟨f, e, a, b⟩ := trod_flC h; exact ⟨f, e, a, b⟩) hf
 exact ⟨A, n, c, l, rfl, ⟨h1.old, h2, h4, fun f hf => (h3 f hf).1.old⟩, fun f hf => (h3 f hf).2⟩
end
end Go.Proofs.YtmbegaobnpoefaaDoor
