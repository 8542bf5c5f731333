/- What a method takes and gives: face.Of1, walked; no statement of the seat is proved here. -/
import Derived.Test.YtkgnoemagklmiaaVarClone
import Derived.Test.YtkgnoemagklmiaaSrt
namespace Go.Proofs.Ytkgnoemagklmiaa
open Go.RowKit

/-- A method as it lies. -/
structure Md where
  ln : Int
  cl : Int
  n : List UInt8
  st : Bool
  A : Option Addr
  k : Nat
  c : Nat
  ps : List Vr
  r : Ty
  bA : Option Addr
  bk : Nat
  bc : Nat
abbrev Md.cells (m : Md) : List Value := [.int .i64 m.ln, .int .i64 m.cl, S m.n, .bool m.st, .slice m.A m.k m.c, S m.r.n, .bool m.r.a, .slice m.bA m.bk m.bc]
abbrev Md.val (m : Md) : Value := .agg #[.int .i64 m.ln, .int .i64 m.cl, S m.n, .bool m.st, .slice m.A m.k m.c, S m.r.n, .bool m.r.a, .slice m.bA m.bk m.bc]
def Md.at_ (w : World) (F : Nat → Prop) (m : Md) : Prop := Rd w F 3 m.A m.k (m.ps.flatMap Vr.cells) ∧ m.ps.length = m.k ∧ m.k ≤ 200 ∧ short m.n ∧ short m.r.n ∧ ∀ p ∈ m.ps, p.ok
theorem Md.at_.below {w w' : World} {B : Nat} {m : Md} (h : m.at_ w (fun k => B ≤ k)) (hk : Below B w w') : m.at_ w' (fun k => B ≤ k) := ⟨h.1.below hk, h.2⟩
theorem Md.at_.weak {w : World} {F G : Nat → Prop} {m : Md} (h : m.at_ w F) (hs : ∀ k, k < w.heap.size → G k → F k) : m.at_ w G := ⟨h.1.weak hs, h.2⟩
def tyz (ps : List Vr) : List Ty := ps.map Vr.t
abbrev Md.p (m : Md) : List UInt8 × Bool × Ty × List Ty := (m.n, m.st, m.r, tyz m.ps)

set_option maxRecDepth 100000 in
set_option maxHeartbeats 8000000 in
theorem of1_any (m : Md) (w : World) (h : m.at_ w (fun k => w.heap.size ≤ k)) : Calls Try.prog 37 #[m.val] w (fun e w' => ∃ A' c', e = .returned (.agg #[S m.n, .bool m.st, .slice A' m.k c', S m.r.n, .bool m.r.a]) ∧ w'.ownsRow w.heap.size 43 2 (.slice A' m.k c') m.k ((tyz m.ps).flatMap Ty.cells) ∧ Below w.heap.size w w') := by
  obtain ⟨ln, cl, n, st, PA, kk, pc, ps, ⟨rn, ra⟩, bA, bk, bc⟩ := m
  obtain ⟨hrd, hln, hkk, -, -, -⟩ := h
  simp only at hrd hln hkk
  have HRD := hide hrd
  have HLN := hide hln
  clear hrd hln
  simp only [Md.val]
  go_enter Try.func37, Try.ntmps37
  go_upto_region 1 with fail
  refine name_world ?_
  intro wA hwA
  have HBA : Hid (Below w.heap.size w wA) := hide (by rw [hwA]; exact ((Below.refl _ _).alloc (Nat.le_refl _) _).alloc (by simp) _)
  have HM : Hid (Blk wA w.heap.size 48 #[.int .i64 ln, .int .i64 cl, S n, .bool st, .slice PA kk pc, S rn, .bool ra, .slice bA bk bc]) := hide (by rw [hwA]; exact (Blk.new _ _ _).alloc _)
  have HZ : Hid (Blk wA (w.heap.size + 1) 58 #[S [], .bool false, .slice none 0 0, S [], .bool false]) := hide (by
    rw [hwA]
    have := Blk.new (w.alloc (.cells #[.int .i64 ln, .int .i64 cl, S n, .bool st, .slice PA kk pc, S rn, .bool ra, .slice bA bk bc] 48)) 58 #[S [], .bool false, .slice none 0 0, S [], .bool false]
    rwa [World.size_alloc] at this)
  clear hwA
  obtain ⟨N, hN⟩ : ∃ N, N = w.heap.size + 1 := ⟨_, rfl⟩
  rw [← hN] at HZ ⊢
  have HNW : Hid (w.heap.size < N) := hide (by omega)
  clear hN
  have c2 := HM.out.cell 2
  have c3 := HM.out.cell 3
  have c5 := HM.out.cell 5
  have c6 := HM.out.cell 6
  simp at c2 c3 c5 c6
  go_upto_region 2 with fail
  refine name_world ?_
  intro wB hwB
  clear c2 c3 c5 c6
  have HX : Hid (Blk wB wA.heap.size 58 #[S n, .bool st, .slice none 0 0, S rn, .bool ra]) := hide (by rw [hwB]; exact Blk.new _ _ _)
  have HBB : Hid (Below w.heap.size w wB) := hide (by rw [hwB]; exact HBA.out.alloc HBA.out.size _)
  have HMB := hide (show Blk wB w.heap.size _ _ by rw [hwB]; exact HM.out.alloc _)
  have HZB := hide (show Blk wB N _ _ by rw [hwB]; exact HZ.out.alloc _)
  have HQN : Hid (N ≠ wA.heap.size) := hide (by have := HZ.out.lt; omega)
  have HQW : Hid (w.heap.size < wA.heap.size) := hide HM.out.lt
  clear hwB HM HZ
  obtain ⟨q, hq⟩ : ∃ q, q = wA.heap.size := ⟨_, rfl⟩
  rw [← hq] at HX HQN HQW ⊢
  clear hq HBA
  have c4 := HMB.out.cell 4
  simp at c4
  go_wp2_with fail
  clear c4
  go_loopw [16] (fun i wr => ∃ (k : Nat) (A : Option Addr) (c : Nat), k ≤ kk ∧ i = .int .i64 k ∧ Hid (Gx wr q 58 [S n, .bool st, .slice A k c, S rn, .bool ra] 2 wB.heap.size 43 2 k ((tyz (ps.take k)).flatMap Ty.cells) (.slice A k c)) ∧ Hid (Keep (fun i => i = q) wB wr)) (fun i _ => kk - (intOf i).toNat)
  case atStart => exact ⟨0, none, 0, Nat.zero_le _, rfl, hide ⟨HX.out, rfl, World.ownsRow_nil _ _ _ _, by decide⟩, hide (Keep.refl _ _)⟩
  case round =>
    obtain ⟨k, A, c, hk, rfl, HGX, HKP⟩ := hrel
    clear HX
    have HBR : Hid (Below w.heap.size w wr) := hide (((Keep.of_below (F := fun i => w.heap.size ≤ i) HBB.out (fun i _ h => h)).trans (HKP.out.mono (fun i _ h => by rw [h]; have := HQW.out; omega))).below (Nat.le_refl _) (fun i h => h))
    by_cases hlt : k < kk
    · have HK2 : Hid (k < 200) := hide (by omega)
      obtain ⟨x, o, rfl, _, hxl, hcell⟩ := Rd.rec_ (size := 3) (fun _ => rfl) (HRD.out.below HBR.out) HLN.out k hlt
      have hlk : k < ps.length := by have := HLN.out; omega
      have HTK : Hid (tyz (ps.take (k + 1)) = tyz (ps.take k) ++ [ps[k].t]) := hide (by unfold tyz; rw [List.take_succ_eq_append_getElem hlk, List.map_append]; rfl)
      generalize ps[k] = v at hcell HTK
      obtain ⟨vn, tn, ta⟩ := v
      have q0 : wr.cell? ⟨x, o + k * 3, none⟩ = some (S vn) := hcell 0 _ rfl
      have q1 : wr.cell? ⟨x, o + k * 3 + 1, none⟩ = some (S tn) := hcell 1 _ rfl
      have q2 : wr.cell? ⟨x, o + k * 3 + 2, none⟩ = some (.bool ta) := hcell 2 _ rfl
      have hki : (k : Int) < (kk : Int) := by omega
      clear hcell
      go_upto_region 5 with fail
      refine name_world ?_
      intro wC hwC
      clear q0 q1 q2
      have HGC : Hid (Gx wC q 58 [S n, .bool st, .slice A k c, S rn, .bool ra] 2 wB.heap.size 43 2 k ((tyz (ps.take k)).flatMap Ty.cells) (.slice A k c)) := hide (by rw [hwC]; exact HGX.out.alloc _)
      have HKC : Hid (Keep (fun i => i = q) wB wC) := hide (by rw [hwC]; exact HKP.out.alloc _)
      have HPC : Hid (Blk wC wr.heap.size 45 #[S vn, S tn, .bool ta]) := hide (by rw [hwC]; exact Blk.new _ _ _)
      clear hwC HGX HKP
      have c1 := HPC.out.cell 1
      have c2 := HPC.out.cell 2
      simp at c1 c2
      have cq := HGC.out.cell
      have HGA := hide (HGC.out.alloc (.cells #[S tn, .bool ta] 43))
      have HRL : Hid (Rd (wC.alloc (.cells #[S tn, .bool ta] 43)) (fun _ => False) 2 (some ⟨wC.heap.size, 0, none⟩) 1 [S tn, .bool ta]) := hide ⟨rfl, fun _ => ⟨_, 0, rfl, fun h => h, by simp, fun j u hu => by rw [Nat.zero_add, (Blk.new wC 43 #[S tn, .bool ta]).cell]; simpa using hu⟩⟩
      have HBs : Hid (wB.heap.size ≤ (wC.alloc (.cells #[S tn, .bool ta] 43)).heap.size) := hide (by have := HKC.out.size; simp; omega)
      go_upto_region 6 with (at_builtin; refine app_rd rfl (.tmp 21) (.tmp 24) 56 rfl wB.heap.size 43 _ 2 24 Try.underlying56 ty_info rfl (by decide) (.slice A k c) k ((tyz (ps.take k)).flatMap Ty.cells) rfl HGA.out.own (some ⟨wC.heap.size, 0, none⟩) 1 1 [S tn, .bool ta] rfl HRL.out (by intro u hu; simp only [List.mem_cons, List.not_mem_nil, or_false] at hu; rcases hu with rfl | rfl <;> rfl) (by unfold maxLen; have := HK2.out; omega) (by have := HK2.out; omega) HBs.out ?_; intro A5 c5 w5 hown5 hgrow5 hat5; obtain ⟨hg2, hc2, hf2⟩ := HGA.out.next hown5 hgrow5; have HG2 := hide hg2; have HKD := hide (Gx.keepNext (F := fun i => i = q ∨ some i = (Value.slice A k c).ownBlock) (q := q) (j := 2) (v2 := .slice A5 (k + 1) c5) hgrow5 (fun i hi => .inr hi.symm) (.inl rfl) ((Keep.refl _ wC).alloc (.cells #[S tn, .bool ta] 43))); clear hg2 hown5 hgrow5 hat5)
      clear c1 c2 cq hc2 hf2
      simp only [List.set_cons_zero, List.set_cons_succ] at HG2
      have HOW := hide HGC.out.own
      have HG5 : Hid (Gx (w5.setCell ⟨q, 2, none⟩ (.slice A5 (k + 1) c5)) q 58 [S n, .bool st, .slice A5 (k + 1) c5, S rn, .bool ra] 2 wB.heap.size 43 2 (k + 1) ((tyz (ps.take (k + 1))).flatMap Ty.cells) (.slice A5 (k + 1) c5)) := hide (by rw [HTK.out, List.flatMap_append, List.flatMap_singleton]; exact HG2.out)
      have HK5 : Hid (Keep (fun i => i = q) wB (w5.setCell ⟨q, 2, none⟩ (.slice A5 (k + 1) c5))) := hide (HKC.out.trans' HKD.out (fun i hi h => h.elim id (fun h => by have := own_base HOW.out h.symm; omega)))
      clear HG2 HKD HGA HRL HBs HGC HKC HOW HTK
      go_wp2_with fail
      go_roundw
      case rel => exact ⟨k + 1, A5, c5, by omega, by go_num, HG5, HK5⟩
      case measure => simp [intOf]; omega
    · obtain rfl : k = kk := by omega
      obtain ⟨wu, rfl⟩ : ∃ wu : World, wu = wr := ⟨_, rfl⟩
      have HTT : Hid (tyz (ps.take k) = tyz ps) := hide (by rw [List.take_of_length_le (by have := HLN.out; omega)])
      have HOW : Hid (wu.ownsRow wB.heap.size 43 2 (.slice A k c) k ((tyz ps).flatMap Ty.cells)) := hide (by have := HGX.out.own; rwa [HTT.out] at this)
      have HZU := hide (HZB.out.keep HKP.out HQN.out)
      have m0 := HGX.out.blk.cell 0
      have m1 := HGX.out.blk.cell 1
      have m2 := HGX.out.blk.cell 2
      have m3 := HGX.out.blk.cell 3
      have m4 := HGX.out.blk.cell 4
      have z0 := HZU.out.cell 0
      have z1 := HZU.out.cell 1
      have z2 := HZU.out.cell 2
      have z3 := HZU.out.cell 3
      have z4 := HZU.out.cell 4
      have fz := fun i => HZU.out.frozen i
      simp at m0 m1 m2 m3 m4 z0 z1 z2 z3 z4
      obtain ⟨wF, hwF⟩ : ∃ wF, wF = ((((wu.setCell ⟨N, 0, none⟩ (S n)).setCell ⟨N, 1, none⟩ (.bool st)).setCell ⟨N, 2, none⟩ (.slice A k c)).setCell ⟨N, 3, none⟩ (S rn)).setCell ⟨N, 4, none⟩ (.bool ra) := ⟨_, rfl⟩
      have HKF : Hid (Keep (fun i => i = N) wu wF) := hide (by rw [hwF]; exact ((((((Keep.refl (fun i => i = N) wu).setCell (p := ⟨N, 0, none⟩) (fun _ => rfl) _).setCell (p := ⟨N, 1, none⟩) (fun _ => rfl) _).setCell (p := ⟨N, 2, none⟩) (fun _ => rfl) _).setCell (p := ⟨N, 3, none⟩) (fun _ => rfl) _).setCell (p := ⟨N, 4, none⟩) (fun _ => rfl) _))
      have HBN : Hid (Blk wF N 58 #[S n, .bool st, .slice A k c, S rn, .bool ra]) := hide (by rw [hwF]; have := ((((HZU.out.set_ 0 (S n)).set_ 1 (.bool st)).set_ 2 (.slice A k c)).set_ 3 (S rn)).set_ 4 (.bool ra); simpa using this)
      have HOF : Hid (wF.ownsRow w.heap.size 43 2 (.slice A k c) k ((tyz ps).flatMap Ty.cells)) := hide (own_base_mono (own_keep HOW.out HKF.out (fun i hi h => by have := own_base HOW.out hi; have := HZB.out.lt; omega)) HBB.out.size)
      have HBF : Hid (Below w.heap.size w wF) := hide (((Keep.of_below (F := fun i => w.heap.size ≤ i) HBR.out (fun i _ h => h)).trans (HKF.out.mono (fun i _ h => by rw [h]; have := HNW.out; omega))).below (Nat.le_refl _) (fun i h => h))
      have r0 := HBN.out.cell 0
      have r1 := HBN.out.cell 1
      have r2 := HBN.out.cell 2
      have r3 := HBN.out.cell 3
      have r4 := HBN.out.cell 4
      simp at r0 r1 r2 r3 r4
      rw [hwF] at r0 r1 r2 r3 r4 HOF HBF
      clear HKF HBN hwF HOW HGX HKP HZU
      go_wp2_with fail
      refine bodyPost_ret (v := .agg #[S n, .bool st, .slice A k c, S rn, .bool ra]) ?_ rfl ?_
      · simp [results, Try.results37, go_sem, r0, r1, r2, r3, r4]
      exact ⟨A, c, rfl, HOF.out, HBF.out⟩
end Go.Proofs.Ytkgnoemagklmiaa
