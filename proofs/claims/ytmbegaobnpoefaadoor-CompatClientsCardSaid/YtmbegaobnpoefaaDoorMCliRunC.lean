/- Go's copy onto a row of types; no statement of the seat is proved here. -/
import Derived.Test.YtmbegaobnpoefaaDoorMCliRunM
import Derived.Test.YtmbegaobnpoefaaDoorMCliCopy
namespace Go.Proofs.YtmbegaobnpoefaaDoor
open Go.RowKit Go.Maps
set_option linter.unusedVariables false
theorem flat_take : ∀ (k : Nat) (l : List Ty), (l.take k).flatMap Ty.cells = (l.flatMap Ty.cells).take (k * 2)
 | 0, l => by simp
 | k + 1, [] => by simp
 | k + 1, a :: l => by
  rw [List.take_succ_cons, List.flatMap_cons, List.flatMap_cons, flat_take k l, show (k + 1) * 2 = k * 2 + 1 + 1 by omega]
  simp
theorem flat_drop : ∀ (k : Nat) (l : List Ty), (l.drop k).flatMap Ty.cells = (l.flatMap Ty.cells).drop (k * 2)
 | 0, l => by simp
 | k + 1, [] => by simp
 | k + 1, a :: l => by
  rw [List.drop_succ_cons, flat_drop k l, List.flatMap_cons, show (k + 1) * 2 = k * 2 + 1 + 1 by omega]
  simp
theorem flat_lenT : ∀ l : List Ty, (l.flatMap Ty.cells).length = l.length * 2
 | [] => rfl
 | a :: l => by rw [List.flatMap_cons, List.length_append, flat_lenT l, List.length_cons]; simp; omega
theorem copy_ty (w : World) (g k lo sc o : Nat) (l1 ps : List Ty) (sA : Option Addr) (F : Nat → Prop) (hb : Blk w g 24 (l1.flatMap Ty.cells).toArray) (hl : l1.length = lo) (hk : k + ps.length ≤ lo) (hs : Rd w F 2 sA ps.length (ps.flatMap Ty.cells)) (ho : o = k * 2 ∨ lo = k) :
  ∃ w', (Builtin.copy_ #[45, 45] 3 #[.slice (some ⟨g, o, none⟩) (lo - k) (lo - k), .slice sA ps.length sc]).run Tryd.prog w = .ok (goInt ps.length) w' ∧ Blk w' g 24 ((l1.take k ++ (ps ++ l1.drop (k + ps.length))).flatMap Ty.cells).toArray ∧ Keep (fun b => b = g) w w' := by
 have hsz : (Tryd.prog.info? 24).map (·.size) = some 2 := by kernel_rfl
 by_cases h0 : ps.length = 0
 ·obtain rfl := List.eq_nil_of_length_eq_zero h0
  refine ⟨w, run_copy_nilN (P := Tryd.prog) w 45 45 3 24 (some ⟨g, o, none⟩) sA (lo - k) (lo - k) 0 sc Tryd.underlying45 (by rw [hsz]; rfl) (by simp), ?_, Keep.refl _ _⟩
  simpa using hb
 ·obtain ⟨hx, hy⟩ := hs
  have ho2 : o = k * 2 := ho.elim id (fun e => by clear hy; omega)
  subst ho2
  obtain ⟨bb, oo, rfl, _, _, hc⟩ := hy (Nat.pos_of_ne_zero h0)
  have hfl := flat_lenT l1
  have hrun := run_copy_rowN (P := Tryd.prog) w 45 45 3 24 g (k * 2) (lo - k) (lo - k) ⟨bb, oo, none⟩ ps.length sc (l1.flatMap Ty.cells).toArray 24 (ps.flatMap Ty.cells) 2 ps.length Tryd.underlying45 hsz hb (by show ps.length = min ps.length (lo - k); omega) hx (fun j v h => by have := hc j v h; by_cases e : j = 0 <;> simp [Addr.add, e] at this ⊢ <;> exact this) (by simp only [List.size_toArray]; rw [hfl, hx]; omega) (fun v hv => by
   rw [List.mem_flatMap] at hv
   obtain ⟨t, _, ht⟩ := hv
   simp at ht
   rcases ht with rfl | rfl <;> rfl)
  refine ⟨_, hrun, ?_, ⟨rfl, rfl, rfl, by simp [World.setRow], fun k hk hn => setRow_other w g k _ hn⟩⟩
  have := setRow_heap w g (l1.flatMap Ty.cells).toArray ((l1.flatMap Ty.cells).take (k * 2) ++ (ps.flatMap Ty.cells ++ (l1.flatMap Ty.cells).drop (k * 2 + (ps.flatMap Ty.cells).length))).toArray 24 _ hb
  rw [List.flatMap_append, List.flatMap_append, flat_take, flat_drop, show (k + ps.length) * 2 = k * 2 + (ps.flatMap Ty.cells).length by rw [hx]; omega]
  simpa [Blk] using this
end Go.Proofs.YtmbegaobnpoefaaDoor
