/- The document's example of chapter 7, walked; no statement of the seat is proved here. -/
import Derived.Test.YtkgnoemagklmiaaOf
import Derived.Test.YtkgnoemagklmiaaDigestG
import Derived.Test.YtkgnoemagklmiaaShaEqFG
import Derived.Test.YtkgnoemagklmiaaFaceInj
import Derived.Deep.RegionHeld3
namespace Go.Proofs.Ytkgnoemagklmiaa
open Go.RowKit

set_option maxRecDepth 100000 in
theorem astint_any (w : World) : Calls Try.prog 27 #[] w (Gives w (.agg #[S nInt, .bool false])) := by
  go_enter Try.func27, Try.ntmps27
  have hb : ∀ o, Below w.heap.size w (w.alloc o) := fun o => (Below.refl _ _).alloc (Nat.le_refl _) o
  go_wp2_with fail
  refine bodyPost_ret (v := .agg #[S nInt, .bool false]) ?_ rfl ?_
  · simp [results, Try.results27, go_sem, nInt]
  · first
      | exact ⟨rfl, hb _⟩
      | exact ⟨rfl, (hb _).setCell (by simp) _⟩
set_option maxRecDepth 100000 in
theorem astbool_any (w : World) : Calls Try.prog 28 #[] w (Gives w (.agg #[S nBool, .bool false])) := by
  go_enter Try.func28, Try.ntmps28
  have hb : ∀ o, Below w.heap.size w (w.alloc o) := fun o => (Below.refl _ _).alloc (Nat.le_refl _) o
  go_wp2_with fail
  refine bodyPost_ret (v := .agg #[S nBool, .bool false]) ?_ rfl ?_
  · simp [results, Try.results28, go_sem, nBool]
  · first
      | exact ⟨rfl, hb _⟩
      | exact ⟨rfl, (hb _).setCell (by simp) _⟩

theorem fat_up {f : Fc} {w w' : World} (h : f.at_ w (fun k => w.heap.size ≤ k)) (hb : Below w.heap.size w w') : f.at_ w' (fun k => w'.heap.size ≤ k) := (h.below hb).weak (fun _ hk => Nat.le_trans hb.size hk)

def xInt : Vr := ⟨[120], ⟨nInt, false⟩⟩
def yBool : Vr := ⟨[121], ⟨nBool, false⟩⟩
def PA : FcP := ⟨[65], [], [xInt, yBool], []⟩
def clsA (g : Nat) : Cs := ⟨0, 0, [65], [], some ⟨g, 0, none⟩, 2, 2, [xInt, yBool], none, 0, 0, []⟩
def clsB (g : Nat) : Cs := ⟨0, 0, [65], [], some ⟨g, 0, none⟩, 2, 2, [yBool, xInt], none, 0, 0, []⟩
theorem ris_xy : Ris Vr.n [xInt, yBool] := by
  refine List.Pairwise.cons (fun b hb => ?_) (ris_one _)
  obtain rfl := List.mem_singleton.1 hb
  exact leN_of_lt (by decide)
theorem pl_of {f : Fc} (hn : f.n = [65]) (hs : f.su = []) (hp : f.fs.Perm [xInt, yBool]) (hr : Ris Vr.n f.fs) (hm : (f.ms.map Sg.p).Perm []) : f.pl = PA := by
  have h1 : f.fs = [xInt, yBool] := ris_unique hr ris_xy hp (by
    intro a ha b hb hab
    have ha' := hp.mem_iff.1 ha
    have hb' := hp.mem_iff.1 hb
    simp only [List.mem_cons, List.not_mem_nil, or_false] at ha' hb'
    rcases ha' with rfl | rfl <;> rcases hb' with rfl | rfl
    · rfl
    · exact absurd hab (by decide)
    · exact absurd hab (by decide)
    · rfl)
  have h2 : f.ms = [] := by
    have := hm.length_eq
    simp at this
    exact this
  unfold Fc.pl PA
  rw [hn, hs, h1, h2]
  rfl

/-- What holds while the example is gone through. -/
structure Hh (g1 g2 f1 f2 : Nat) (wo w' : World) : Prop where
  b1 : Blk w' g1 39 (clsA f1).cells.toArray
  b2 : Blk w' g2 39 (clsB f2).cells.toArray
  be : Below wo.heap.size wo w'
abbrev Hh.cellsAt (g1 g2 f1 f2 : Nat) (w' : World) : Prop :=
  w'.cell? ⟨g1, 0, none⟩ = some (.int .i64 0) ∧ w'.cell? ⟨g1, 1, none⟩ = some (.int .i64 0) ∧ w'.cell? ⟨g1, 2, none⟩ = some (S [65]) ∧ w'.cell? ⟨g1, 3, none⟩ = some (S []) ∧ w'.cell? ⟨g1, 4, none⟩ = some (.slice (some ⟨f1, 0, none⟩) 2 2) ∧ w'.cell? ⟨g1, 5, none⟩ = some (.slice none 0 0) ∧
  w'.cell? ⟨g2, 0, none⟩ = some (.int .i64 0) ∧ w'.cell? ⟨g2, 1, none⟩ = some (.int .i64 0) ∧ w'.cell? ⟨g2, 2, none⟩ = some (S [65]) ∧ w'.cell? ⟨g2, 3, none⟩ = some (S []) ∧ w'.cell? ⟨g2, 4, none⟩ = some (.slice (some ⟨f2, 0, none⟩) 2 2) ∧ w'.cell? ⟨g2, 5, none⟩ = some (.slice none 0 0)
theorem Hh.cells {g1 g2 f1 f2 : Nat} {wo w' : World} (i : Hh g1 g2 f1 f2 wo w') : Hh.cellsAt g1 g2 f1 f2 w' :=
  ⟨i.b1.cell 0, i.b1.cell 1, i.b1.cell 2, i.b1.cell 3, i.b1.cell 4, i.b1.cell 5, i.b2.cell 0, i.b2.cell 1, i.b2.cell 2, i.b2.cell 3, i.b2.cell 4, i.b2.cell 5⟩
theorem Hh.below {g1 g2 f1 f2 : Nat} {wo w' w'' : World} (i : Hh g1 g2 f1 f2 wo w') (h : Below w'.heap.size w' w'') : Hh g1 g2 f1 f2 wo w'' :=
  ⟨i.b1.below h i.b1.lt, i.b2.below h i.b2.lt, i.be.trans (h.mono i.be.size)⟩
theorem clsA_at {w : World} {f : Nat} (h : Blk w f 45 #[S [120], S nInt, .bool false, S [121], S nBool, .bool false]) : (clsA f).at_ w (fun k => w.heap.size ≤ k) where
  fr := ⟨rfl, fun _ => ⟨f, 0, rfl, by have := h.lt; omega, h.lt, fun j u hu => by rw [Nat.zero_add, h.cell]; simpa [clsA, xInt, yBool] using hu⟩⟩
  fl := rfl
  fb := by show 2 ≤ 19; omega
  fo := by intro v hv; simp [clsA] at hv; rcases hv with rfl | rfl <;> (constructor <;> simp [xInt, yBool, short, Ty.ok, nInt, nBool])
  mr := Rd.nil _ _ _ _
  ml := rfl
  mb := by show 0 ≤ 19; omega
  mo := by intro m hm; cases hm
  sn := by simp [clsA, short]
  ss := by simp [clsA, short]
theorem clsB_at {w : World} {f : Nat} (h : Blk w f 45 #[S [121], S nBool, .bool false, S [120], S nInt, .bool false]) : (clsB f).at_ w (fun k => w.heap.size ≤ k) where
  fr := ⟨rfl, fun _ => ⟨f, 0, rfl, by have := h.lt; omega, h.lt, fun j u hu => by rw [Nat.zero_add, h.cell]; simpa [clsB, xInt, yBool] using hu⟩⟩
  fl := rfl
  fb := by show 2 ≤ 19; omega
  fo := by intro v hv; simp [clsB] at hv; rcases hv with rfl | rfl <;> (constructor <;> simp [xInt, yBool, short, Ty.ok, nInt, nBool])
  mr := Rd.nil _ _ _ _
  ml := rfl
  mb := by show 0 ≤ 19; omega
  mo := by intro m hm; cases hm
  sn := by simp [clsB, short]
  ss := by simp [clsB, short]

set_option maxRecDepth 100000 in
set_option maxHeartbeats 8000000 in
theorem fhead_any (w : World) : Calls Try.prog 8 #[] w (Gives w (.bool true)) := by
  go_enter Try.func8, Try.ntmps8
  go_upto_region 2 with (first | (go_at_call 27; refine (astint_any _).mono ?_; rintro e w1 ⟨rfl, hb1⟩) | (go_at_call 28; refine (astbool_any _).mono ?_; rintro e w2 ⟨rfl, hb2⟩))
  refine name_world ?_
  intro wA hwA
  have HF1 : Hid (Blk wA w2.heap.size 45 #[S [120], S nInt, .bool false, S [121], S nBool, .bool false]) := hide (by rw [hwA]; exact (Blk.new _ _ _).alloc _)
  have HG1 : Hid (Blk wA (w2.heap.size + 1) 39 (clsA w2.heap.size).cells.toArray) := hide (by
    rw [hwA]
    have := Blk.new (w2.alloc (.cells #[S [120], S nInt, .bool false, S [121], S nBool, .bool false] 45)) 39 (clsA w2.heap.size).cells.toArray
    rw [World.size_alloc] at this
    exact this)
  have HBA : Hid (Below w.heap.size w wA) := hide (by rw [hwA]; exact (((hb1.trans (hb2.mono hb1.size)).alloc (hb1.trans (hb2.mono hb1.size)).size _).alloc (by have := (hb1.trans (hb2.mono hb1.size)).size; simp; omega) _))
  clear hwA hb1 hb2
  obtain ⟨f1, hf1⟩ : ∃ f, f = w2.heap.size := ⟨_, rfl⟩
  obtain ⟨g1, hg1⟩ : ∃ g, g = w2.heap.size + 1 := ⟨_, rfl⟩
  rw [← hg1] at HG1 ⊢
  rw [← hf1] at HF1 HG1 ⊢
  clear hf1 hg1
  go_upto_region 3 with (first | (go_at_call 28; refine (astbool_any _).mono ?_; rintro e w3 ⟨rfl, hb3⟩) | (go_at_call 27; refine (astint_any _).mono ?_; rintro e w4 ⟨rfl, hb4⟩))
  refine name_world ?_
  intro wB hwB
  have HB4 : Hid (Below wA.heap.size wA w4) := hide (hb3.trans (hb4.mono hb3.size))
  have HBB : Hid (Below wA.heap.size wA wB) := hide (by rw [hwB]; exact ((HB4.out.alloc HB4.out.size _).alloc (by have := HB4.out.size; simp; omega) _))
  have HF2 : Hid (Blk wB w4.heap.size 45 #[S [121], S nBool, .bool false, S [120], S nInt, .bool false]) := hide (by rw [hwB]; exact (Blk.new _ _ _).alloc _)
  have HG2 : Hid (Blk wB (w4.heap.size + 1) 39 (clsB w4.heap.size).cells.toArray) := hide (by
    rw [hwB]
    have := Blk.new (w4.alloc (.cells #[S [121], S nBool, .bool false, S [120], S nInt, .bool false] 45)) 39 (clsB w4.heap.size).cells.toArray
    rw [World.size_alloc] at this
    exact this)
  clear hwB hb3 hb4 HB4
  obtain ⟨f2, hf2⟩ : ∃ f, f = w4.heap.size := ⟨_, rfl⟩
  obtain ⟨g2, hg2⟩ : ∃ g, g = w4.heap.size + 1 := ⟨_, rfl⟩
  rw [← hg2] at HG2 ⊢
  rw [← hf2] at HF2 HG2 ⊢
  clear hf2 hg2
  have HFB1 := hide (HF1.out.below HBB.out HF1.out.lt)
  have HWB : Hid (Below w.heap.size w wB) := hide (HBA.out.trans (HBB.out.mono HBA.out.size))
  have i0 : Hh g1 g2 f1 f2 wB wB := ⟨HG1.out.below HBB.out HG1.out.lt, HG2.out, Below.refl _ _⟩
  obtain ⟨DZ, hDZ⟩ : ∃ d, d = darr (digF PA) := ⟨_, rfl⟩
  have hEQ : ∀ w, (binOp .eql 51 (.agg DZ) (.agg DZ)).run Try.prog w = .ok (.bool true) w := fun w => by
    have hl : (digF PA).length = 32 := by simp [digF, sumM_len]
    have := run_eql_darr (digF PA) (digF PA) hl hl w
    rw [hDZ]
    simpa using this
  have HDZ := hide (fun _ : Unit => hDZ)
  clear hDZ
  have HO1 : Hid (∀ w', Hh g1 g2 f1 f2 wB w' → Calls Try.prog 14 #[(clsA f1).val] w' (fun e w'' => ∃ f : Fc, e = .returned f.val ∧ f.pl = PA ∧ f.at_ w'' (fun k => w''.heap.size ≤ k) ∧ Below w'.heap.size w' w'' ∧ Hh g1 g2 f1 f2 wB w'')) := hide (fun w' i => by
    refine (faceof_any (clsA f1) w' (clsA_at (HFB1.out.below i.be HFB1.out.lt))).mono ?_
    rintro e w'' ⟨f, rfl, h1, h2, h3, h4, h5, -, h7, -, -, -, hb⟩
    exact ⟨f, rfl, pl_of h1 h2 h3 h4 h5, h7, hb, i.below hb⟩)
  have HO2 : Hid (∀ w', Hh g1 g2 f1 f2 wB w' → Calls Try.prog 14 #[(clsB f2).val] w' (fun e w'' => ∃ f : Fc, e = .returned f.val ∧ f.pl = PA ∧ f.at_ w'' (fun k => w''.heap.size ≤ k) ∧ Below w'.heap.size w' w'' ∧ Hh g1 g2 f1 f2 wB w'')) := hide (fun w' i => by
    refine (faceof_any (clsB f2) w' (clsB_at (HF2.out.below i.be HF2.out.lt))).mono ?_
    rintro e w'' ⟨f, rfl, h1, h2, h3, h4, h5, -, h7, -, -, -, hb⟩
    exact ⟨f, rfl, pl_of h1 h2 (h3.trans (List.Perm.swap _ _ _)) h4 h5, h7, hb, i.below hb⟩)
  have HSM : Hid (∀ w' (fa fb : Fc), fa.at_ w' (fun k => w'.heap.size ≤ k) → fb.at_ w' (fun k => w'.heap.size ≤ k) → fa.pl = PA → fb.pl = PA → Hh g1 g2 f1 f2 wB w' → Calls Try.prog 11 #[fa.val, fb.val] w' (fun e w'' => e = .returned (.bool true) ∧ Hh g1 g2 f1 f2 wB w'')) := hide (fun w' fa fb ha hb pa pb i => by
    refine (facesame_any fa fb w' ha hb).mono ?_
    rintro e w'' ⟨rfl, hbe⟩
    refine ⟨?_, i.below hbe⟩
    rw [decide_eq_true (Fc.pl_p.1 (pa.trans pb.symm))])
  have HDG : Hid (∀ w' (f : Fc), f.at_ w' (fun k => w'.heap.size ≤ k) → f.pl = PA → Hh g1 g2 f1 f2 wB w' → Calls Try.prog 15 #[f.val] w' (fun e w'' => e = .returned (.agg DZ) ∧ Below w'.heap.size w' w'' ∧ Hh g1 g2 f1 f2 wB w'')) := hide (fun w' f ha pa i => by
    refine (dig_any f w' ha (by rw [pa]; decide +kernel)).mono ?_
    rintro e w'' ⟨rfl, hbe⟩
    exact ⟨by rw [pa, HDZ.out ()], hbe, i.below hbe⟩)
  have hcel : wB.cell? ⟨g1, 0, none⟩ = some (.int .i64 0) ∧ wB.cell? ⟨g1, 1, none⟩ = some (.int .i64 0) ∧ wB.cell? ⟨g1, 2, none⟩ = some (S [65]) ∧ wB.cell? ⟨g1, 3, none⟩ = some (S []) ∧ wB.cell? ⟨g1, 4, none⟩ = some (.slice (some ⟨f1, 0, none⟩) 2 2) ∧ wB.cell? ⟨g1, 5, none⟩ = some (.slice none 0 0) ∧ wB.cell? ⟨g2, 0, none⟩ = some (.int .i64 0) ∧ wB.cell? ⟨g2, 1, none⟩ = some (.int .i64 0) ∧ wB.cell? ⟨g2, 2, none⟩ = some (S [65]) ∧ wB.cell? ⟨g2, 3, none⟩ = some (S []) ∧ wB.cell? ⟨g2, 4, none⟩ = some (.slice (some ⟨f2, 0, none⟩) 2 2) ∧ wB.cell? ⟨g2, 5, none⟩ = some (.slice none 0 0) := i0.cells
  have j0 := i0.below ((Below.refl _ wB).drew)
  clear HF1 HG1 HBA HBB HF2 HG2 HFB1
  simp only [clsA, clsB, Cs.val] at HO1 HO2
  (go_region_held3 (fun w' => w'.cell? ⟨g1, 0, none⟩ = some (.int .i64 0) ∧ w'.cell? ⟨g1, 1, none⟩ = some (.int .i64 0) ∧ w'.cell? ⟨g1, 2, none⟩ = some (S [65]) ∧ w'.cell? ⟨g1, 3, none⟩ = some (S []) ∧ w'.cell? ⟨g1, 4, none⟩ = some (.slice (some ⟨f1, 0, none⟩) 2 2) ∧ w'.cell? ⟨g1, 5, none⟩ = some (.slice none 0 0) ∧ w'.cell? ⟨g2, 0, none⟩ = some (.int .i64 0) ∧ w'.cell? ⟨g2, 1, none⟩ = some (.int .i64 0) ∧ w'.cell? ⟨g2, 2, none⟩ = some (S [65]) ∧ w'.cell? ⟨g2, 3, none⟩ = some (S []) ∧ w'.cell? ⟨g2, 4, none⟩ = some (.slice (some ⟨f2, 0, none⟩) 2 2) ∧ w'.cell? ⟨g2, 5, none⟩ = some (.slice none 0 0))
    (first | exact hcel | assumption | exact i.cells | exact j0.cells | exact i0.cells | fail)
    (first
      | (go_at_call 14; (with_reducible refine (HO1.out _ j0).mono ?_); rintro e w5 ⟨fa, rfl, pa, ha, hba, i⟩)
      | (go_at_call 14; (with_reducible refine (HO2.out _ i).mono ?_); rintro e w6 ⟨fb, rfl, pb, hb, hbb, i⟩; try have ha2 := fat_up ha hbb)
      | (go_at_call 11; (with_reducible refine (HSM.out _ fa fb ha2 hb pa pb i).mono ?_); rintro e w7 ⟨rfl, i⟩)
      | (go_at_call 14; (with_reducible refine (HO1.out _ i).mono ?_); rintro e w8 ⟨fc, rfl, pc, hc, hbc, i⟩)
      | (go_at_call 15; (with_reducible refine (HDG.out _ fc hc pc i).mono ?_); rintro e w9 ⟨rfl, hbd, i⟩)
      | (go_at_call 15; (with_reducible refine (HDG.out _ fb hb pb i).mono ?_); rintro e wa ⟨rfl, hbe, i⟩)
      | fail))
  go_wp2_with fail
  go_ret
  exact ⟨rfl, HWB.out.trans (i.be.mono HWB.out.size)⟩
end Go.Proofs.Ytkgnoemagklmiaa
