/- HierMembers, walked: it returns true for every input. -/
import Derived.Test.YtmhnfilingebfaaHierPageM
import Derived.Test.YtmhnfilingebfaaHierHead
namespace Go.Proofs.Ytmhnfilingebfaa
open Go.RowKit

theorem retF_form (C : Option (List UInt8 × Ty)) : ∃ (c tn : List UInt8) (ta b : Bool), retF C = .tuple #[S c, .agg #[S tn, .bool ta], .bool b] := by
  cases C with
  | none => exact ⟨_, _, _, _, rfl⟩
  | some p => obtain ⟨c, t⟩ := p; exact ⟨_, _, _, _, rfl⟩

theorem retM_form {T : List Fc} {w : World} {F : Nat → Prop} (hat : ∀ f ∈ T, f.at_ w F) (k : List UInt8) (st : Bool) (l : List (List UInt8)) :
    ∃ (c : List UInt8) (m : Sg) (b : Bool), retM (memM T k st l) = .tuple #[S c, m.val, .bool b] ∧ m.at_ w F := by
  cases h : memM T k st l with
  | none => exact ⟨_, zeroSg, _, rfl, Rd.nil _ _ _ _, rfl, by simp [zeroSg], by simp [short, zeroSg], by simp [Ty.ok, short, zeroSg], by simp [zeroSg]⟩
  | some p =>
    obtain ⟨c, m⟩ := p
    refine ⟨c, m, _, rfl, ?_⟩
    unfold memM at h
    obtain ⟨c0, _, h2⟩ := List.exists_of_findSome?_eq_some h
    cases hm : methOf (faceF T c0) k with
    | none => rw [hm] at h2; simp at h2
    | some v =>
      rw [hm] at h2
      simp only [Option.bind_some] at h2
      split at h2
      · injection h2 with h2
        injection h2 with _ h2
        subst h2
        exact (face_at2 hat c0).2.1.2.2.2 v (List.mem_of_find?_eq_some hm)
      · cases h2

set_option maxRecDepth 100000 in
set_option maxHeartbeats 4000000 in
theorem members_law (A : Option Addr) (n c : Nat) (T : List Fc) (x y : List UInt8) (st : Bool) (w : World) (h : FcsAt w (fun k => w.heap.size ≤ k) A n T) (hx : short x) :
    Calls Try.prog 6 #[.slice A n c, S x, S y, .bool st] w (Gives w (.bool true)) := by
  have HF := hide h
  clear h
  go_enter Try.func6, Try.ntmps6
  go_wp2_with fail
  refine (head_any w).mono ?_
  rintro e w1 ⟨rfl, hb1⟩
  go_wp2_with fail
  refine (fewlist_any A n c T w1 ((HF.out.below hb1).weak (fun k hk => by have := hb1.size; omega))).mono ?_
  rintro e w2 ⟨R, rfl, hb2, hR⟩
  have HR := hide hR
  have hB2 := hb1.trans (hb2.mono hb1.size)
  clear hR hb1 hb2
  cases R with
  | false =>
    go_wp2_with fail
    go_ret
    exact ⟨rfl, hB2⟩
  | true =>
    have hR8 := HR.out rfl
    clear HR
    obtain ⟨hn8, _⟩ := hR8
    have hTl : T.length ≤ 8 := by have := HF.out.2.1; omega
    have hsu : ∀ f ∈ T, short f.su := fun f hf => (HF.out.2.2.2 f hf).2.2.2
    have HS := hide hsu
    clear hsu
    by_cases g1 : 60 < (x.length : Int)
    · have d : decide (60 < (x.length : Int)) = true := by simpa using g1
      go_wp2_with fail
      go_ret
      exact ⟨rfl, hB2⟩
    have d1 : decide (60 < (x.length : Int)) = false := by simpa using g1
    by_cases g2 : 60 < (y.length : Int)
    · have d : decide (60 < (y.length : Int)) = true := by simpa using g2
      go_wp2_with fail
      go_ret
      exact ⟨rfl, hB2⟩
    have d2 : decide (60 < (y.length : Int)) = false := by simpa using g2
    go_wp2_with fail
    clear d1 d2 g1 g2
    refine (new_any A n c T w2 ((HF.out.below hB2).weak (fun k hk => by have := hB2.size; omega)) (by omega)).mono ?_
    rintro e w3 ⟨g, m, s, rfl, ht, hb3, hg, hm, hs⟩
    have hB3 := hB2.trans (hb3.mono hB2.size)
    have hsw := hB2.size
    have hgl : g < w3.heap.size ∧ m < w3.heap.size ∧ s < w3.heap.size := ⟨ht.blk.lt, ht.faces.lt, ht.slt⟩
    have HT3 := hide ht
    have hat3 : ∀ f ∈ T, f.at_ w3 (fun k => w.heap.size ≤ k) := fun f hf => (HF.out.2.2.2 f hf).below hB3
    have hc1 := tfield_any g m s 0 w.heap.size T x y w3 ht (by omega) hTl HS.out hx hat3 (by omega)
    have hp1 : ∀ w', FcsAt w' (fun k => w'.heap.size ≤ k) A n T → _ := fun w' h => pfield_any A n c T x y w' h hTl
    obtain ⟨fc, ftn, fta, fb, hret⟩ := retF_form (memF T y (up T 20 [] x).1)
    rw [hret] at hc1 hp1
    have hc2 : ∀ nn w', Tab w' g m s T nn → nn ≤ 800000 → (∀ f ∈ T, f.at_ w' (fun k => w.heap.size ≤ k)) → _ := fun nn w' h h1 h2 => tmethod_any g m s nn w.heap.size T x y st w' h h1 hTl HS.out hx h2 (by omega)
    have hp2 : ∀ w', FcsAt w' (fun k => w'.heap.size ≤ k) A n T → _ := fun w' h => pmethod_any A n c T x y st w' h hTl
    obtain ⟨mc, M, mb, hret2, hM⟩ := retM_form HF.out.2.2.2 y st (up T 20 [] x).1
    rw [hret2] at hc2 hp2
    have HC1 := hide hc1
    have HP1 := hide hp1
    have HC2 := hide hc2
    have HP2 := hide hp2
    have HM := hide hM
    clear hret hret2 hc1 hp1 hc2 hp2 hM ht hb3 hB2 hat3
    go_wp2_with fail
    refine HC1.out.mono ?_
    rintro e w4 ⟨rfl, ht4, hk4⟩
    have hB4 := hB3.trans (hk4.below (B := w.heap.size) hB3.size (fun k hk => by omega))
    obtain ⟨w5, hw5⟩ : ∃ w5, w5 = w4.alloc (.cells #[S ftn, .bool fta] 45) := ⟨_, rfl⟩
    have hB5 : Below w.heap.size w w5 := by rw [hw5]; exact hB4.alloc hB4.size _
    have ht5 := ht4.alloc (.cells #[S ftn, .bool fta] 45)
    rw [← hw5] at ht5
    have hq1 : Blk w5 w4.heap.size 45 #[S ftn, .bool fta] := by rw [hw5]; exact Blk.new _ _ _
    have hs4 : s < w4.heap.size := ht4.slt
    have HT5 := hide ht5
    have HQ1 := hide hq1
    clear ht4 hk4 hB4 ht5 hq1
    go_wp2_with fail
    rw [← hw5]
    clear hw5
    refine (HP1.out w5 ((HF.out.below hB5).weak (fun k hk => by have := hB5.size; omega))).mono ?_
    rintro e w6 ⟨rfl, hb6⟩
    obtain ⟨w7, hw7⟩ : ∃ w7, w7 = w6.alloc (.cells #[S ftn, .bool fta] 45) := ⟨_, rfl⟩
    have hb7 : Below w5.heap.size w5 w7 := by rw [hw7]; exact hb6.alloc hb6.size _
    have hB7 := hB5.trans (hb7.mono hB5.size)
    have HT7 := hide (HT5.out.below hb7)
    have hq2 : Blk w7 w6.heap.size 45 #[S ftn, .bool fta] := by rw [hw7]; exact Blk.new _ _ _
    have HQ2 := hide hq2
    have HQ1b := hide (HQ1.out.below hb7 HQ1.out.lt)
    have hs6 : s < w6.heap.size := by have := hb6.size; have := HT5.out.slt; omega
    clear hb6 hb7 hq2 hB5
    go_wp2_with fail
    rw [← hw7]
    clear hw7
    refine (HC2.out _ w7 HT7.out (by omega) (fun f hf => (HF.out.2.2.2 f hf).below hB7)).mono ?_
    rintro e w8 ⟨rfl, ht8, hk8⟩
    have hs7 := HT7.out.slt
    have hB8 := hB7.trans (hk8.below (B := w.heap.size) hB7.size (fun k hk => by omega))
    have HQ1c := hide (HQ1b.out.keep hk8 (by omega))
    have HQ2c := hide (HQ2.out.keep hk8 (by omega))
    obtain ⟨w9, hw9⟩ : ∃ w9, w9 = w8.alloc (.cells #[S M.n, .bool M.st, .slice M.A M.k M.c, S M.r.n, .bool M.r.a] 56) := ⟨_, rfl⟩
    have hb9 : Below w8.heap.size w8 w9 := by rw [hw9]; exact (Below.refl _ _).alloc (Nat.le_refl _) _
    have hB9 := hB8.trans (hb9.mono hB8.size)
    have hq3 : Blk w9 w8.heap.size 56 #[S M.n, .bool M.st, .slice M.A M.k M.c, S M.r.n, .bool M.r.a] := by rw [hw9]; exact Blk.new _ _ _
    have HQ3 := hide hq3
    have HQ1d := hide (HQ1c.out.below hb9 HQ1c.out.lt)
    have HQ2d := hide (HQ2c.out.below hb9 HQ2c.out.lt)
    clear ht8 hk8 hB8 hq3 hb9 hB7
    go_wp2_with fail
    rw [← hw9]
    clear hw9
    refine (HP2.out w9 ((HF.out.below hB9).weak (fun k hk => by have := hB9.size; omega))).mono ?_
    rintro e w10 ⟨rfl, hb10⟩
    obtain ⟨w11, hw11⟩ : ∃ w11, w11 = w10.alloc (.cells #[S M.n, .bool M.st, .slice M.A M.k M.c, S M.r.n, .bool M.r.a] 56) := ⟨_, rfl⟩
    have hb11 : Below w9.heap.size w9 w11 := by rw [hw11]; exact hb10.alloc hb10.size _
    have hB11 := hB9.trans (hb11.mono hB9.size)
    have hq4 : Blk w11 w10.heap.size 56 #[S M.n, .bool M.st, .slice M.A M.k M.c, S M.r.n, .bool M.r.a] := by rw [hw11]; exact Blk.new _ _ _
    have hq3 := HQ3.out.below hb11 HQ3.out.lt
    have hq2 := HQ2d.out.below hb11 HQ2d.out.lt
    have hq1 := HQ1d.out.below hb11 HQ1d.out.lt
    have a0 : w11.cell? ⟨w4.heap.size, 0, none⟩ = some (S ftn) := hq1.cell 0
    have a1 : w11.cell? ⟨w4.heap.size, 1, none⟩ = some (.bool fta) := hq1.cell 1
    have b0 : w11.cell? ⟨w6.heap.size, 0, none⟩ = some (S ftn) := hq2.cell 0
    have b1 : w11.cell? ⟨w6.heap.size, 1, none⟩ = some (.bool fta) := hq2.cell 1
    have c0 : w11.cell? ⟨w8.heap.size, 0, none⟩ = some (S M.n) := hq3.cell 0
    have c1 : w11.cell? ⟨w8.heap.size, 1, none⟩ = some (.bool M.st) := hq3.cell 1
    have c2 : w11.cell? ⟨w8.heap.size, 2, none⟩ = some (.slice M.A M.k M.c) := hq3.cell 2
    have c3 : w11.cell? ⟨w8.heap.size, 3, none⟩ = some (S M.r.n) := hq3.cell 3
    have c4 : w11.cell? ⟨w8.heap.size, 4, none⟩ = some (.bool M.r.a) := hq3.cell 4
    have e0 : w11.cell? ⟨w10.heap.size, 0, none⟩ = some (S M.n) := hq4.cell 0
    have e1 : w11.cell? ⟨w10.heap.size, 1, none⟩ = some (.bool M.st) := hq4.cell 1
    have e2 : w11.cell? ⟨w10.heap.size, 2, none⟩ = some (.slice M.A M.k M.c) := hq4.cell 2
    have e3 : w11.cell? ⟨w10.heap.size, 3, none⟩ = some (S M.r.n) := hq4.cell 3
    have e4 : w11.cell? ⟨w10.heap.size, 4, none⟩ = some (.bool M.r.a) := hq4.cell 4
    have hsm := sigsame_any M M w11 ((HM.out.below hB11).weak (fun k hk => by have := hB11.size; omega)) ((HM.out.below hB11).weak (fun k hk => by have := hB11.size; omega))
    rw [decide_eq_true rfl] at hsm
    have HSM := hide hsm
    clear hsm hq1 hq2 hq3 hq4 hb10 hb11 hB9 hB3
    clear e0 e1 e2 e3 e4
    subst hw11
    cases fb <;> cases mb
    all_goals
      go_wp2_with fail
      refine HSM.out.mono ?_
      rintro e w12 ⟨rfl, hb12⟩
      have hB12 := hB11.trans (hb12.mono hB11.size)
      go_wp2
      go_ret
      exact ⟨rfl, hB12⟩
end Go.Proofs.Ytmhnfilingebfaa
