/- CompatGoes, walked: it returns true for every input. -/
import Derived.Test.YtbnplghbokpfmaaPassHead
import Derived.Test.YtbnplghbokpfmaaPassLaw
namespace Go.Proofs.Ytbnplghbokpfmaa
open Go.RowKit

theorem fcells {w : World} {g : Nat} {t : TypeId} {x0 x1 x2 x3 : Value} (h : Blk w g t #[x0, x1, x2, x3]) :
    w.cell? ⟨g, 0, none⟩ = some x0 ∧ w.cell? ⟨g, 1, none⟩ = some x1 ∧ w.cell? ⟨g, 2, none⟩ = some x2 ∧ w.cell? ⟨g, 3, none⟩ = some x3 := ⟨h.cell 0, h.cell 1, h.cell 2, h.cell 3⟩

abbrev Fc.arr (f : Fc) : Array Value := #[S f.n, S f.su, .slice f.fA f.fl f.fc, .slice f.mA f.ml f.mc]

set_option maxRecDepth 100000 in
set_option maxHeartbeats 4000000 in
theorem goes_law (a b c : Fc) (w : World) (ha : a.at_ w (fun k => w.heap.size ≤ k)) (hb : b.at_ w (fun k => w.heap.size ≤ k)) (hc : c.at_ w (fun k => w.heap.size ≤ k)) :
    Calls Try.prog 5 #[a.val, b.val, c.val] w (Gives w (.bool true)) := by
  have few : ∀ f : Fc, f.at_ w (fun k => w.heap.size ≤ k) → ∀ w', Below w.heap.size w w' → Calls Try.prog 7 #[f.val] w' (Asks w' f.few) := fun f h w' hb => few_any f w' ((h.below hb).weak (fun k hk => by have := hb.size; omega))
  have pass : ∀ f g : Fc, f.at_ w (fun k => w.heap.size ≤ k) → g.at_ w (fun k => w.heap.size ≤ k) → ∀ w', Below w.heap.size w w' → Calls Try.prog 10 #[f.val, g.val] w' (Gives w' (.bool (passB f g))) := fun f g h h' w' hb =>
    pass_any f g w' ((h.below hb).weak (fun k hk => by have := hb.size; omega)) ((h'.below hb).weak (fun k hk => by have := hb.size; omega))
  have HFA := hide (few a ha)
  have HFB := hide (few b hb)
  have HFC := hide (few c hc)
  have hab := pass a b ha hb
  have hbc := pass b c hb hc
  have hac := pass a c ha hc
  have hba := pass b a hb ha
  have hsm : ∀ w', Below w.heap.size w w' → Calls Try.prog 14 #[a.val, b.val] w' (Gives w' (.bool (decide (a.p = b.p)))) := fun w' h' => facesame_any a b w' ((ha.below h').weak (fun k hk => by have := h'.size; omega)) ((hb.below h').weak (fun k hk => by have := h'.size; omega))
  obtain ⟨X, hX⟩ : ∃ X, X = passB a b := ⟨_, rfl⟩
  obtain ⟨Y, hY⟩ : ∃ Y, Y = passB b c := ⟨_, rfl⟩
  obtain ⟨Z, hZ⟩ : ∃ Z, Z = passB a c := ⟨_, rfl⟩
  obtain ⟨V, hV⟩ : ∃ V, V = passB b a := ⟨_, rfl⟩
  obtain ⟨E, hE⟩ : ∃ E, E = decide (a.p = b.p) := ⟨_, rfl⟩
  have HT : Hid (X = true → Y = true → Z = true) := hide (fun h1 h2 => by rw [hZ]; exact passB_trans (hX ▸ h1) (hY ▸ h2))
  have HB : Hid (X = true → V = true → E = true) := hide (fun h1 h2 => by rw [hE]; exact decide_eq_true (passB_both (hX ▸ h1) (hV ▸ h2)))
  rw [← hX] at hab
  rw [← hY] at hbc
  rw [← hZ] at hac
  rw [← hV] at hba
  rw [← hE] at hsm
  have HAB := hide hab
  have HBC := hide hbc
  have HAC := hide hac
  have HBA := hide hba
  have HSM := hide hsm
  clear few pass hab hbc hac hba hsm hX hY hZ hV hE ha hb hc
  obtain ⟨wB, hwB⟩ : ∃ wB, wB = ((w.alloc (.cells a.arr 25)).alloc (.cells b.arr 25)).alloc (.cells c.arr 25) := ⟨_, rfl⟩
  have hB0 : Below w.heap.size w wB := by rw [hwB]; exact (((Below.refl _ _).alloc (Nat.le_refl _) _).alloc (by simp) _).alloc (by simp; omega) _
  have kA : Blk wB w.heap.size 25 a.arr := by rw [hwB]; exact ((Blk.new _ _ _).alloc _).alloc _
  have kB : Blk wB (w.heap.size + 1) 25 b.arr := by
    rw [hwB]
    have := Blk.new (w.alloc (.cells a.arr 25)) 25 b.arr
    rw [World.size_alloc] at this
    exact this.alloc _
  have kC : Blk wB (w.heap.size + 1 + 1) 25 c.arr := by
    rw [hwB]
    have := Blk.new ((w.alloc (.cells a.arr 25)).alloc (.cells b.arr 25)) 25 c.arr
    rwa [World.size_alloc, World.size_alloc] at this
  go_enter Try.func5, Try.ntmps5
  go_wp2_with fail
  rw [← hwB]
  clear hwB
  refine (head_any wB).mono ?_
  rintro e w1 ⟨rfl, hb1⟩
  have hB1 := hB0.trans (hb1.mono hB0.size)
  have kA1 := kA.below hb1 kA.lt
  have kB1 := kB.below hb1 kB.lt
  have kC1 := kC.below hb1 kC.lt
  obtain ⟨a0, a1, a2, a3⟩ := fcells kA1
  clear kA kB kC hb1 hB0
  go_wp2_with fail
  refine (HFA.out w1 hB1).mono ?_
  rintro e w2 ⟨R, rfl, hb2, _⟩
  have hB2 := hB1.trans (hb2.mono hB1.size)
  have kA2 := kA1.below hb2 kA1.lt
  have kB2 := kB1.below hb2 kB1.lt
  have kC2 := kC1.below hb2 kC1.lt
  clear kA1 kB1 kC1 hb2 hB1 a0 a1 a2 a3
  cases R
  case false =>
    go_wp2_with fail
    go_ret
    exact ⟨rfl, hB2⟩
  case true =>
  obtain ⟨a0, a1, a2, a3⟩ := fcells kB2
  go_wp2_with fail
  refine (HFB.out w2 hB2).mono ?_
  rintro e w3 ⟨R, rfl, hb3, _⟩
  have hB3 := hB2.trans (hb3.mono hB2.size)
  have kA3 := kA2.below hb3 kA2.lt
  have kB3 := kB2.below hb3 kB2.lt
  have kC3 := kC2.below hb3 kC2.lt
  clear kA2 kB2 kC2 hb3 hB2 a0 a1 a2 a3
  cases R
  case false =>
    go_wp2_with fail
    go_ret
    exact ⟨rfl, hB3⟩
  case true =>
  obtain ⟨a0, a1, a2, a3⟩ := fcells kC3
  go_wp2_with fail
  refine (HFC.out w3 hB3).mono ?_
  rintro e w4 ⟨R, rfl, hb4, _⟩
  have hB4 := hB3.trans (hb4.mono hB3.size)
  have kA4 := kA3.below hb4 kA3.lt
  have kB4 := kB3.below hb4 kB3.lt
  have kC4 := kC3.below hb4 kC3.lt
  clear kA3 kB3 kC3 hb4 hB3 a0 a1 a2 a3
  cases R
  case false =>
    go_wp2_with fail
    go_ret
    exact ⟨rfl, hB4⟩
  case true =>
  obtain ⟨a0, a1, a2, a3⟩ := fcells kA4
  obtain ⟨b0, b1, b2, b3⟩ := fcells kB4
  go_wp2_with fail
  refine (HAB.out w4 hB4).mono ?_
  rintro e w5 ⟨rfl, hb5⟩
  have hB5 := hB4.trans (hb5.mono hB4.size)
  have kA5 := kA4.below hb5 kA4.lt
  have kB5 := kB4.below hb5 kB4.lt
  have kC5 := kC4.below hb5 kC4.lt
  clear kA4 kB4 kC4 hb5 hB4 a0 a1 a2 a3 b0 b1 b2 b3
  obtain ⟨a0, a1, a2, a3⟩ := fcells kB5
  obtain ⟨b0, b1, b2, b3⟩ := fcells kC5
  go_wp2_with fail
  refine (HBC.out w5 hB5).mono ?_
  rintro e w6 ⟨rfl, hb6⟩
  have hB6 := hB5.trans (hb6.mono hB5.size)
  have kA6 := kA5.below hb6 kA5.lt
  have kB6 := kB5.below hb6 kB5.lt
  have kC6 := kC5.below hb6 kC5.lt
  clear kA5 kB5 kC5 hb6 hB5 a0 a1 a2 a3 b0 b1 b2 b3
  obtain ⟨a0, a1, a2, a3⟩ := fcells kA6
  cases X
  case false =>
    cases Y
    all_goals
      go_wp2_with fail
      go_ret
      exact ⟨rfl, hB6⟩
  case true =>
  cases Y
  case false =>
    obtain ⟨b0, b1, b2, b3⟩ := fcells kB6
    go_wp2_with fail
    refine (HBA.out w6 hB6).mono ?_
    rintro e w8 ⟨rfl, hb8⟩
    have hB8 := hB6.trans (hb8.mono hB6.size)
    have kA8 := kA6.below hb8 kA6.lt
    have kB8 := kB6.below hb8 kB6.lt
    clear hb8 hB6 kA6 kB6 kC6 a0 a1 a2 a3 b0 b1 b2 b3
    obtain ⟨a0, a1, a2, a3⟩ := fcells kA8
    obtain ⟨b0, b1, b2, b3⟩ := fcells kB8
    cases V
    case false =>
      go_wp2_with fail
      go_ret
      exact ⟨rfl, hB8⟩
    case true =>
      have HE := hide (HB.out (by first | rfl | trivial) (by first | rfl | trivial))
      go_wp2_with fail
      refine (HSM.out w8 hB8).mono ?_
      rintro e w9 ⟨rfl, hb9⟩
      have hB9 := hB8.trans (hb9.mono hB8.size)
      go_wp2_with fail
      go_ret
      exact ⟨by rw [HE.out] <;> rfl, hB9⟩
  case true =>
    have HZ := hide (HT.out rfl rfl)
    obtain ⟨b0, b1, b2, b3⟩ := fcells kC6
    go_wp2_with fail
    refine (HAC.out w6 hB6).mono ?_
    rintro e w7 ⟨rfl, hb7⟩
    obtain rfl := HZ.out
    have hB7 := hB6.trans (hb7.mono hB6.size)
    have kA7 := kA6.below hb7 kA6.lt
    have kB7 := kB6.below hb7 kB6.lt
    clear hb7 hB6 kA6 kB6 kC6 a0 a1 a2 a3 b0 b1 b2 b3 HZ
    obtain ⟨a0, a1, a2, a3⟩ := fcells kA7
    obtain ⟨b0, b1, b2, b3⟩ := fcells kB7
    go_wp2_with fail
    refine (HBA.out w7 hB7).mono ?_
    rintro e w8 ⟨rfl, hb8⟩
    have hB8 := hB7.trans (hb8.mono hB7.size)
    have kA8 := kA7.below hb8 kA7.lt
    have kB8 := kB7.below hb8 kB7.lt
    clear hb8 hB7 kA7 kB7 a0 a1 a2 a3 b0 b1 b2 b3
    obtain ⟨a0, a1, a2, a3⟩ := fcells kA8
    obtain ⟨b0, b1, b2, b3⟩ := fcells kB8
    cases V
    case false =>
      go_wp2_with fail
      go_ret
      exact ⟨rfl, hB8⟩
    case true =>
      have HE := hide (HB.out (by first | rfl | trivial) (by first | rfl | trivial))
      go_wp2_with fail
      refine (HSM.out w8 hB8).mono ?_
      rintro e w9 ⟨rfl, hb9⟩
      have hB9 := hB8.trans (hb9.mono hB8.size)
      go_wp2_with fail
      go_ret
      exact ⟨by rw [HE.out] <;> rfl, hB9⟩
end Go.Proofs.Ytbnplghbokpfmaa
