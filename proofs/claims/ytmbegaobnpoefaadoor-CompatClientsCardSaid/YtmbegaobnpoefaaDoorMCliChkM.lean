/- Verification of files in plain Lean; an image as it lies; no statement of the seat is proved here. (Written by gen/vchk.py.) -/
import Derived.Test.YtmbegaobnpoefaaDoorMCliRunN
import Derived.Test.YtmbegaobnpoefaaDoorMHierTabH
namespace Go.Proofs.YtmbegaobnpoefaaDoor
open Go.RowKit Go.Maps
set_option linter.unusedVariables false
def sgZ : SgP := ⟨[], false, [], kZ⟩
def bdZ : BdP := ⟨0, 0, []⟩
def vOne (T : List Fc) (nm : List UInt8) (p : PoolP) (m : SgP) (b : BdP) : Bool := runM T p b.sk m.r b.code 10000000 ⟨(List.replicate b.code.length none).set 0 (some ⟨loM nm m.st m.ps b.lo.toNat, []⟩), [0]⟩
def vAt (T : List Fc) (F : FileP) (j : Nat) : Bool := vOne T F.f.n F.p (F.f.ms.getD j sgZ) (F.b.getD j bdZ)
def vFile (T : List Fc) (F : FileP) : Bool := (List.range F.f.ms.length).all (vAt T F)
def vAll (T : List Fc) (Fs : List FileP) : Bool := Fs.all (vFile T)
theorem bodies_at {p : PoolP} : ∀ (ms : List SgP) (bs : List BdP), bodiesOk p ms bs = true → ∀ j, j < ms.length → j < bs.length → bdOk p (ms.getD j sgZ) (bs.getD j bdZ) = true
 | [], _, _, j, h, _ => by simp at h
 | _ :: _, [], _, j, _, h => by simp at h
 | m :: ms, b :: bs, h, j, h1, h2 => by
  simp only [bodiesOk, Bool.and_eq_true] at h
  cases j with
  | zero => exact h.1
  | succ j => simpa using bodies_at ms bs h.2 j (by simpa using h1) (by simpa using h2)
structure Im (w : World) (F : Nat → Prop) (gi g m s n mf : Nat) (T : List Fc) (Fs : List Fl) (nA : Option Addr) (nc : Nat) : Prop where
 vt : Vt w gi g m s T n
 bk : Blk w gi 39 #[.pointer (some ⟨g, 0, none⟩), .map (some mf), .slice nA Fs.length nc]
 fm : FMapIs w mf Fs.length Fs
 nr : Rd w F 1 nA Fs.length (Fs.map fun f => S f.f.n)
 at_ : ∀ f ∈ Fs, f.at_ w F
 un : FUniq Fs
 ne : mf ≠ s
structure Vg (T : List Fc) (Fs : List Fl) : Prop where
 ends : Ends T
 right : ∀ f ∈ Fs, f.pl.right = true
 len : Fs.length ≤ 8
 few : ∀ f ∈ Fs, f.f.ml ≤ 13 ∧ (∀ b ∈ f.bs, b.k ≤ 100) ∧ ∀ x ∈ f.mts, x.m.k ≤ 200
section
variable {w w' : World} {F G : Nat → Prop} {gi g m s n n' mf nc : Nat} {T : List Fc} {Fs : List Fl} {nA : Option Addr} {f : Fl}
theorem Im.gis (h : Im w F gi g m s n mf T Fs nA nc) : gi ≠ s := by obtain ⟨D, hD⟩ := h.vt.tab.seen; exact blk_map_ne h.bk hD
theorem Im.keep (h : Im w F gi g m s n mf T Fs nA nc) (hv : Vt w' gi g m s T n') (hk : Keep (fun k => k = s) w w') (hF : F s) : Im w' F gi g m s n' mf T Fs nA nc :=
 ⟨hv, h.bk.keep hk h.gis, h.fm.keep hk h.ne, h.nr.keep (hk.mono (fun k _ e => e ▸ hF)), fun f hf => (h.at_ f hf).keep (hk.mono (fun k _ e => e ▸ hF)), h.un, h.ne⟩
theorem Im.below (h : Im w F gi g m s n mf T Fs nA nc) (hb : Below w.heap.size w w') : Im w' F gi g m s n mf T Fs nA nc :=
 ⟨h.vt.below hb, h.bk.below hb h.bk.lt, h.fm.below hb, h.nr.keep (keep_any hb), fun f hf => (h.at_ f hf).keep (keep_any hb), h.un, h.ne⟩
theorem Vg.at_ (v : Vg T Fs) (hf : f ∈ Fs) (h : f.at_ w F) (j : Nat) (hj : j < f.f.ml) (M : Nat) (hM : M ≤ 4000000000000000) : ∃ (hj1 : j < f.f.ms.length) (hj2 : j < f.bs.length),
  Rc f.bs[j].code.length M T f f.bs[j] ∧ 1 ≤ f.bs[j].code.length ∧ f.bs[j].code.length ≤ 100 ∧ f.f.ms[j].ps.length + (if f.f.ms[j].st then 0 else 1) ≤ f.bs[j].lo.toNat ∧ (∀ t ∈ f.f.ms[j].ps, short t.n) ∧ short f.f.n ∧ 0 ≤ f.bs[j].sk ∧ f.bs[j].lo ≤ 401 ∧ f.bs[j].sk ≤ 1000 ∧ f.bs[j].code.length = f.bs[j].k ∧
  vAt T f.pl j = runM T f.ppl f.bs[j].sk f.f.ms[j].r f.bs[j].code 10000000 ⟨(List.replicate f.bs[j].code.length none).set 0 (some ⟨loM f.f.n f.f.ms[j].st f.f.ms[j].ps f.bs[j].lo.toNat, []⟩), [0]⟩ := by
 have hr := v.right f hf
 obtain ⟨h1, h2, h3⟩ := v.few f hf
 simp only [FileP.right, Bool.and_eq_true, decide_eq_true_eq] at hr
 obtain ⟨⟨⟨_, hp⟩, hl⟩, hb⟩ := hr
 have hm : f.f.ms.length = f.f.ml := h.fa.2.1.2.1
 have hbl : f.bs.length = f.f.ms.length := by
  have e1 : (f.bs.map Bd.pl).length = (f.f.ms.map Sg.pl).length := hl
  simpa using e1
 have hj1 : j < f.f.ms.length := by omega
 have hj2 : j < f.bs.length := by omega
 have hms : f.pl.f.ms.getD j sgZ = f.f.ms[j].pl := by show (f.f.ms.map Sg.pl).getD j sgZ = _; rw [← List.getElem_eq_getD (h := by simpa using hj1)]; simp
 have hbs : f.pl.b.getD j bdZ = f.bs[j].pl := by show (f.bs.map Bd.pl).getD j bdZ = _; rw [← List.getElem_eq_getD (h := by simpa using hj2)]; simp
 have hok := bodies_at _ _ hb j (by show j < (f.f.ms.map Sg.pl).length; simpa using hj1) (by show j < (f.bs.map Bd.pl).length; simpa using hj2)
 rw [hms, hbs] at hok
 simp only [bdOk, Bool.and_eq_true, decide_eq_true_eq, List.all_eq_true] at hok
 obtain ⟨⟨⟨⟨⟨⟨k1, k2⟩, k3⟩, k4⟩, k5⟩, k6⟩, k7⟩ := hok
 have hB := h.bW f.bs[j] (List.getElem_mem hj2)
 have hS := h.fa.2.1.2.2.2 f.f.ms[j] (List.getElem_mem hj1)
 have hk := hB.2.1
 have hk9 := h2 f.bs[j] (List.getElem_mem hj2)
 have e1 : f.bs[j].pl.lo = f.bs[j].lo := rfl
 have e2 : f.bs[j].pl.sk = f.bs[j].sk := rfl
 have e3 : f.bs[j].pl.code = f.bs[j].code := rfl
 have e4 : f.f.ms[j].pl.st = f.f.ms[j].st := rfl
 have e5 : f.f.ms[j].pl.ps = f.f.ms[j].ps := rfl
 rw [e1] at k1 k2
 rw [e2] at k3 k4
 rw [e3] at k5
 rw [e4, e5] at k1
 have hpo := h.po
 have hps : f.f.ms[j].ps.length + (if f.f.ms[j].st then 0 else 1) ≤ f.bs[j].lo.toNat := by
  revert k1
  cases f.f.ms[j].st <;> simp <;> omega
 refine ⟨hj1, hj2, ⟨v.ends, ⟨hpo.cW, fun x hx => hpo.tW x hx, fun x hx => ⟨(hpo.dW x hx).2.2, (hpo.dW x hx).2.1⟩, fun x hx => ?_⟩, fun x hx => k7 x hx, ⟨by omega, by omega⟩, by omega, hk.symm, by omega, hM, h3⟩, by omega, by omega, hps, fun t ht => hS.2.2.2.2.2 t ht, h.fa.2.2.1, by omega, k2, k4, hk, ?_⟩
 ·have e9 : x ∈ f.mts.map Mt.pl := hx
  rw [List.mem_map] at e9
  obtain ⟨y, hy, rfl⟩ := e9
  have := hpo.mW y hy
  exact ⟨this.2, this.1.2.2.2.2.1⟩
 ·unfold vAt
  rw [hms, hbs]
  rfl
end
end Go.Proofs.YtmbegaobnpoefaaDoor
