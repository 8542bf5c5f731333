/- Whether a file is right: a body's closure, and what holds while instructions are looked at; no statement of the seat is proved here. -/
import Derived.Test.YtkldfbacagnhoaaDoorClsPR
import Derived.Deep.RegionHeld3
namespace Go.Proofs.YtkldfbacagnhoaaDoor
open Go.RowKit

set_option maxRecDepth 100000 in
theorem many_any (f : Fl) (b : Bd) (w : World) : Calls Tryd.prog 36 #[f.val, b.val] w fun e w' => e = .returned (.func (.func 60) #[] #[.pointer (some ⟨w.heap.size, 0, none⟩), .pointer (some ⟨w.heap.size + 1, 0, none⟩)]) ∧ w' = (w.alloc (.cells f.cells.toArray 36)).alloc (.cells b.cells.toArray 58) := by
  go_enter Tryd.func36, Tryd.ntmps36
  go_wp2_with fail
  go_ret
  exact ⟨by simp, rfl⟩

/-- What holds while a body's instructions are looked at. -/
structure Fq (f : Fl) (b : Bd) (x : Int × Int) (q0 q1 q2 : Nat) (wo w' : World) : Prop where
  bf : Blk w' q0 36 f.cells.toArray
  bb : Blk w' q1 58 b.cells.toArray
  bx : Blk w' q2 55 #[.int .i64 x.1, .int .i64 x.2]
  be : Below wo.heap.size wo w'
abbrev Fq.cellsAt (f : Fl) (b : Bd) (x : Int × Int) (q0 q1 q2 : Nat) (w' : World) : Prop :=
  w'.cell? ⟨q0, 0, none⟩ = some (S f.f.n) ∧ w'.cell? ⟨q0, 1, none⟩ = some (S f.f.su) ∧ w'.cell? ⟨q0, 2, none⟩ = some (.slice f.f.fA f.f.fl f.f.fc) ∧ w'.cell? ⟨q0, 3, none⟩ = some (.slice f.f.mA f.f.ml f.f.mc) ∧ w'.cell? ⟨q0, 4, none⟩ = some (.slice f.nA f.nl f.nc) ∧ w'.cell? ⟨q0, 5, none⟩ = some (.slice f.cA f.cl f.cc) ∧ w'.cell? ⟨q0, 6, none⟩ = some (.slice f.tA f.tl f.tc) ∧ w'.cell? ⟨q0, 7, none⟩ = some (.slice f.dA f.dl f.dc) ∧ w'.cell? ⟨q0, 8, none⟩ = some (.slice f.mA f.ml f.mc) ∧ w'.cell? ⟨q0, 9, none⟩ = some (.slice f.bA f.bl f.bc) ∧
  w'.cell? ⟨q1, 0, none⟩ = some (.int .i64 b.lo) ∧ w'.cell? ⟨q1, 1, none⟩ = some (.int .i64 b.sk) ∧ w'.cell? ⟨q1, 2, none⟩ = some (.slice b.A b.k b.c) ∧ w'.cell? ⟨q2, 0, none⟩ = some (.int .i64 x.1) ∧ w'.cell? ⟨q2, 1, none⟩ = some (.int .i64 x.2)
section
variable {f : Fl} {b : Bd} {x : Int × Int} {q0 q1 q2 : Nat} {wo w' w'' : World}
theorem Fq.cells (i : Fq f b x q0 q1 q2 wo w') : Fq.cellsAt f b x q0 q1 q2 w' :=
  ⟨i.bf.cell 0, i.bf.cell 1, i.bf.cell 2, i.bf.cell 3, i.bf.cell 4, i.bf.cell 5, i.bf.cell 6, i.bf.cell 7, i.bf.cell 8, i.bf.cell 9, i.bb.cell 0, i.bb.cell 1, i.bb.cell 2, i.bx.cell 0, i.bx.cell 1⟩
theorem Fq.below (i : Fq f b x q0 q1 q2 wo w') (h : Below w'.heap.size w' w'') : Fq f b x q0 q1 q2 wo w'' :=
  ⟨i.bf.below h i.bf.lt, i.bb.below h i.bb.lt, i.bx.below h i.bx.lt, i.be.trans (h.mono i.be.size)⟩
theorem fq_many (i : Fq f b x q0 q1 q2 wo w') : Calls Tryd.prog 36 #[f.val, b.val] w' fun e w'' => ∃ u v, e = .returned (.func (.func 60) #[] #[.pointer (some ⟨u, 0, none⟩), .pointer (some ⟨v, 0, none⟩)]) ∧ Blk w'' u 36 f.cells.toArray ∧ Blk w'' v 58 b.cells.toArray ∧ Fq f b x q0 q1 q2 wo w'' := by
  refine (many_any f b w').mono ?_
  rintro e w2 ⟨rfl, rfl⟩
  refine ⟨_, _, rfl, (Blk.new _ _ _).alloc _, ?_, i.below (((Below.refl _ _).alloc (Nat.le_refl _) _).alloc (by simp) _)⟩
  have := Blk.new (w'.alloc (.cells f.cells.toArray 36)) 58 b.cells.toArray
  simpa using this
theorem fq_right {u v : Nat} (hm : Laid wo) (i : Fq f b x q0 q1 q2 wo w') (h1 : Blk w' u 36 f.cells.toArray) (h2 : Blk w' v 58 b.cells.toArray) :
    Calls Tryd.prog 35 #[.agg #[.int .i64 x.1, .int .i64 x.2], .func (.func 60) #[] #[.pointer (some ⟨u, 0, none⟩), .pointer (some ⟨v, 0, none⟩)]] w' fun e w'' => e = .returned (.bool (rt x.1 x.2 (cntV f b (pl x.1)))) ∧ Fq f b x q0 q1 q2 wo w'' := by
  refine (oright_any x.1 x.2 (cntV f b (pl x.1)) _ _ w' (hm.below i.be (Nat.le_refl _)) (fun w2 hb => ?_)).mono ?_
  · exact cnt_any f b _ u v w2 (h1.below hb h1.lt) (h2.below hb h2.lt)
  · rintro e w2 ⟨rfl, hb⟩
    exact ⟨rfl, i.below hb⟩
end

theorem bodies_drop (p : PoolP) : ∀ (ms : List SgP) (bs : List BdP) (k : Nat) (h1 : k < ms.length) (h2 : k < bs.length), bodiesOk p (ms.drop k) (bs.drop k) = (bdOk p ms[k] bs[k] && bodiesOk p (ms.drop (k + 1)) (bs.drop (k + 1))) := by
  intro ms bs k h1 h2
  rw [List.drop_eq_getElem_cons h1, List.drop_eq_getElem_cons h2, bodiesOk]
theorem bodies_end (p : PoolP) (ms : List SgP) (bs : List BdP) (h : bs.length = ms.length) : bodiesOk p (ms.drop bs.length) (bs.drop bs.length) = true := by
  rw [h, List.drop_length, bodiesOk]
end Go.Proofs.YtkldfbacagnhoaaDoor
