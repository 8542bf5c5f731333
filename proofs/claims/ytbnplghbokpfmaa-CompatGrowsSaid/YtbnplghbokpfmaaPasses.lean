/- Whether a face may take another one's place, walked; no statement of the seat is proved here. -/
import Derived.Test.YtbnplghbokpfmaaFaceRight
import Derived.Test.YtbnplghbokpfmaaFaceFind
import Derived.Test.YtbnplghbokpfmaaIdxSg
namespace Go.Proofs.Ytbnplghbokpfmaa
open Go.RowKit

/-- Is a method kept by a face? -/
def keptM (n : Fc) (m : Sg) : Bool := (methOf n m.n).isSome && decide (((methOf n m.n).getD zeroSg).p = m.p)
/-- Is a method new, and not static? -/
def newM (o : Fc) (m : Sg) : Bool := !(methOf o m.n).isSome && !m.st
def passH (o n : Fc) : Bool := o.right && n.right && decide (o.n = n.n) && decide (o.su = n.su) && decide (o.fs = n.fs)
def passB (o n : Fc) : Bool := passH o n && o.ms.all (keptM n) && !(n.ms.any (newM o))

theorem meth_at {f : Fc} {w : World} {F : Nat → Prop} (h : f.at_ w F) (k : List UInt8) : ((methOf f k).getD zeroSg).at_ w F := by
  cases hm : methOf f k with
  | none => exact ⟨Rd.nil _ _ _ _, rfl, by simp [zeroSg], by simp [short, zeroSg], by simp [Ty.ok, short, zeroSg], by simp [zeroSg]⟩
  | some v => exact h.2.1.2.2.2 v (List.mem_of_find?_eq_some hm)

set_option maxRecDepth 100000 in
set_option maxHeartbeats 1000000 in
theorem passclo_any (o : Fc) (bx : Nat) (m : Sg) (w : World) (hbk : Blk w bx 25 #[S o.n, S o.su, .slice o.fA o.fl o.fc, .slice o.mA o.ml o.mc]) (ho : o.at_ w (fun k => w.heap.size ≤ k)) :
    Calls Try.prog 24 #[m.val, .pointer (some ⟨bx, 0, none⟩)] w (Gives w (.bool (newM o m))) := by
  obtain ⟨n, st, A, k, c, ps, rn, ra⟩ := m
  obtain ⟨V, hV⟩ : ∃ V, V = (methOf o n).getD zeroSg := ⟨_, rfl⟩
  obtain ⟨B, hB⟩ : ∃ B, B = (methOf o n).isSome := ⟨_, rfl⟩
  obtain ⟨w1, hw1⟩ : ∃ w1, w1 = w.alloc (.cells #[S n, .bool st, .slice A k c, S rn, .bool ra] 34) := ⟨_, rfl⟩
  have hB1 : Below w.heap.size w w1 := by rw [hw1]; exact (Below.refl _ _).alloc (Nat.le_refl _) _
  have hv1 : Blk w1 w.heap.size 34 #[S n, .bool st, .slice A k c, S rn, .bool ra] := by rw [hw1]; exact Blk.new _ _ _
  have hk1 := hbk.below hB1 hbk.lt
  have hfm := facemethod_any o n w1 ((ho.below hB1).weak (fun k hk => by have := hB1.size; omega))
  rw [← hV, ← hB] at hfm
  have HFM := hide hfm
  have HN : Hid (newM o ⟨n, st, A, k, c, ps, rn, ra⟩ = (!B && !st)) := hide (by rw [hB]; rfl)
  have c0 : w1.cell? ⟨bx, 0, none⟩ = some (S o.n) := hk1.cell 0
  have c1 : w1.cell? ⟨bx, 1, none⟩ = some (S o.su) := hk1.cell 1
  have c2 : w1.cell? ⟨bx, 2, none⟩ = some (.slice o.fA o.fl o.fc) := hk1.cell 2
  have c3 : w1.cell? ⟨bx, 3, none⟩ = some (.slice o.mA o.ml o.mc) := hk1.cell 3
  have d0 : w1.cell? ⟨w.heap.size, 0, none⟩ = some (S n) := hv1.cell 0
  clear hfm hV hB hbk hk1
  obtain ⟨R, hR⟩ : ∃ R, R = newM o ⟨n, st, A, k, c, ps, rn, ra⟩ := ⟨_, rfl⟩
  rw [← hR]
  rw [← hR] at HN
  clear hR ho
  subst hw1
  go_enter Try.func24, Try.ntmps24
  go_wp2_with fail
  refine HFM.out.mono ?_
  rintro e w2 ⟨rfl, hb2⟩
  have hB2 := hB1.trans (hb2.mono hB1.size)
  have hv2 := hv1.below hb2 hv1.lt
  have hB3 := hB2.alloc hB2.size (.cells #[S V.n, .bool V.st, .slice V.A V.k V.c, S V.r.n, .bool V.r.a] 34)
  have hv3 := hv2.alloc (.cells #[S V.n, .bool V.st, .slice V.A V.k V.c, S V.r.n, .bool V.r.a] 34)
  have d1 : (w2.alloc (.cells #[S V.n, .bool V.st, .slice V.A V.k V.c, S V.r.n, .bool V.r.a] 34)).cell? ⟨w.heap.size, 1, none⟩ = some (.bool st) := hv3.cell 1
  clear hb2 c0 c1 c2 c3 d0 hv1 hv2 hv3
  cases B
  all_goals
    go_wp2_with fail
    go_ret
    exact ⟨by rw [HN.out] <;> rfl, hB3⟩
end Go.Proofs.Ytbnplghbokpfmaa
