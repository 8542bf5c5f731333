/- CompatPasses, walked: it returns true for every input. -/
import Derived.Test.YtbnplghbokpfmaaPassAll
import Derived.Test.YtbnplghbokpfmaaFacesFew
namespace Go.Proofs.Ytbnplghbokpfmaa
open Go.RowKit

def allG (T : List Fc) (f : Fc) : Bool := match T.find? (fun g => g.n == f.n) with
  | some g => passB f g
  | none => true
def fndB (T : List Fc) (f : Fc) : Bool := (T.find? (fun g => g.n == f.n)).isSome
theorem allG_fnd (T : List Fc) (f : Fc) : (allG T f && fndB T f) = allF T f := by
  unfold allG fndB allF
  cases T.find? (fun g => g.n == f.n) <;> simp
theorem take_skip {T : List Fc} {f : Fc} {q : Nat} (hq : q < T.length) (h : (T[q].n == f.n) = false) : allG (T.take (q + 1)) f = allG (T.take q) f ∧ fndB (T.take (q + 1)) f = fndB (T.take q) f := by
  have : (T.take (q + 1)).find? (fun g => g.n == f.n) = (T.take q).find? (fun g => g.n == f.n) := by
    rw [take_snoc hq, List.find?_append]
    simp [h]
  unfold allG fndB
  rw [this]
  exact ⟨rfl, rfl⟩
theorem take_found {T : List Fc} {f : Fc} {q : Nat} (hq : q < T.length) (h : fndB (T.take q) f = true) : allG (T.take (q + 1)) f = allG (T.take q) f ∧ fndB (T.take (q + 1)) f = true := by
  obtain ⟨x, hx⟩ := Option.isSome_iff_exists.1 h
  have : (T.take (q + 1)).find? (fun g => g.n == f.n) = some x := by
    rw [take_snoc hq, List.find?_append, hx]; rfl
  unfold allG fndB
  rw [this, hx]
  exact ⟨rfl, rfl⟩
theorem take_new {T : List Fc} {f : Fc} {q : Nat} (hq : q < T.length) (h : (T[q].n == f.n) = true) (h2 : fndB (T.take q) f = false) : allG (T.take q) f = true ∧ allG (T.take (q + 1)) f = passB f T[q] ∧ fndB (T.take (q + 1)) f = true := by
  have h3 : (T.take q).find? (fun g => g.n == f.n) = none := by simpa [fndB] using h2
  have : (T.take (q + 1)).find? (fun g => g.n == f.n) = some T[q] := by
    rw [take_snoc hq, List.find?_append, h3]
    simp [h]
  unfold allG fndB
  rw [this, h3]
  exact ⟨rfl, rfl, rfl⟩

set_option maxRecDepth 100000 in
set_option maxHeartbeats 8000000 in
theorem passes_law (a b : Fc) (P : Option Addr) (np cp : Nat) (l : List Fc) (M : Option Addr) (nm cm : Nat) (T : List Fc) (w : World) (ha : a.at_ w (fun k => w.heap.size ≤ k)) (hb : b.at_ w (fun k => w.heap.size ≤ k))
    (hl : FcsAt w (fun k => w.heap.size ≤ k) P np l) (hT : FcsAt w (fun k => w.heap.size ≤ k) M nm T) :
    Calls Try.prog 4 #[a.val, b.val, .slice P np cp, .slice M nm cm] w (Gives w (.bool true)) := by
  have few : ∀ f : Fc, f.at_ w (fun k => w.heap.size ≤ k) → ∀ w', Below w.heap.size w w' → Calls Try.prog 7 #[f.val] w' (Asks w' f.few) := fun f h w' hb => few_any f w' ((h.below hb).weak (fun k hk => by have := hb.size; omega))
  have pass : ∀ f g : Fc, f.at_ w (fun k => w.heap.size ≤ k) → g.at_ w (fun k => w.heap.size ≤ k) → ∀ w', Below w.heap.size w w' → Calls Try.prog 10 #[f.val, g.val] w' (Gives w' (.bool (passB f g))) := fun f g h h' w' hb =>
    pass_any f g w' ((h.below hb).weak (fun k hk => by have := hb.size; omega)) ((h'.below hb).weak (fun k hk => by have := hb.size; omega))
  have page : ∀ f g : Fc, f.at_ w (fun k => w.heap.size ≤ k) → g.at_ w (fun k => w.heap.size ≤ k) → ∀ w', Below w.heap.size w w' → Calls Try.prog 12 #[f.val, g.val] w' (Gives w' (.bool (passB f g))) := fun f g h h' w' hb =>
    page_any f g w' ((h.below hb).weak (fun k hk => by have := hb.size; omega)) ((h'.below hb).weak (fun k hk => by have := hb.size; omega))
  have HFA := hide (few a ha)
  have HFB := hide (few b hb)
  have HFL : Hid (∀ w', Below w.heap.size w w' → Calls Try.prog 11 #[.slice P np cp] w' (Asks w' (np ≤ 8 ∧ ∀ f ∈ l, f.few))) := hide (fun w' h' => fewlist_any P np cp l w' ((hl.below h').weak (fun k hk => by have := h'.size; omega)))
  have HFM : Hid (∀ w', Below w.heap.size w w' → Calls Try.prog 11 #[.slice M nm cm] w' (Asks w' (nm ≤ 8 ∧ ∀ f ∈ T, f.few))) := hide (fun w' h' => fewlist_any M nm cm T w' ((hT.below h').weak (fun k hk => by have := h'.size; omega)))
  have hab := pass a b ha hb
  have hpg := page a b ha hb
  have haa := pass a a ha ha
  rw [passB_self] at haa
  have hra : ∀ w', Below w.heap.size w w' → Calls Try.prog 8 #[a.val] w' (Gives w' (.bool a.right)) := fun w' h' => right_any a w' ((ha.below h').weak (fun k hk => by have := h'.size; omega))
  have hall : ∀ w', Below w.heap.size w w' → Calls Try.prog 13 #[.slice P np cp, .slice M nm cm] w' (Gives w' (.bool (allB l T))) := fun w' h' => all_any P np cp l M nm cm T w' ((hl.below h').weak (fun k hk => by have := h'.size; omega)) ((hT.below h').weak (fun k hk => by have := h'.size; omega))
  have hnil : ∀ w', Below w.heap.size w w' → Calls Try.prog 13 #[.slice none 0 0, .slice M nm cm] w' (Gives w' (.bool true)) := fun w' h' => all_any none 0 0 [] M nm cm T w' ⟨Rd.nil _ _ _ _, rfl, by omega, by simp⟩ ((hT.below h').weak (fun k hk => by have := h'.size; omega))
  obtain ⟨X, hX⟩ : ∃ X, X = passB a b := ⟨_, rfl⟩
  obtain ⟨Y, hY⟩ : ∃ Y, Y = a.right := ⟨_, rfl⟩
  obtain ⟨L, hL⟩ : ∃ L, L = allB l T := ⟨_, rfl⟩
  rw [← hX] at hab hpg
  rw [← hY] at haa hra
  rw [← hL] at hall
  have HLL := hide hL
  have HAB := hide hab
  have HPG := hide hpg
  have HAA := hide haa
  have HRA := hide hra
  have HALL := hide hall
  have HNIL := hide hnil
  have HPAGE := hide page
  have HL := hide hl
  have HT := hide hT
  have HLN := hide hl.2.1
  have HTN := hide hT.2.1
  have hmp := hl.2.2.1
  have hmm := hT.2.2.1
  clear few pass hab hpg haa hra hall hnil hX hY hL ha hb hl hT page
  obtain ⟨wB, hwB⟩ : ∃ wB, wB = (w.alloc (.cells a.arr 25)).alloc (.cells b.arr 25) := ⟨_, rfl⟩
  have hB0 : Below w.heap.size w wB := by rw [hwB]; exact ((Below.refl _ _).alloc (Nat.le_refl _) _).alloc (by simp) _
  have kA : Blk wB w.heap.size 25 a.arr := by rw [hwB]; exact (Blk.new _ _ _).alloc _
  have kB : Blk wB (w.heap.size + 1) 25 b.arr := by
    rw [hwB]
    have := Blk.new (w.alloc (.cells a.arr 25)) 25 b.arr
    rwa [World.size_alloc] at this
  go_enter Try.func4, Try.ntmps4
  go_wp2_with fail
  rw [← hwB]
  clear hwB
  refine (head_any wB).mono ?_
  rintro e w1 ⟨rfl, hb1⟩
  have hB1 := hB0.trans (hb1.mono hB0.size)
  have kA1 := kA.below hb1 kA.lt
  have kB1 := kB.below hb1 kB.lt
  obtain ⟨a0, a1, a2, a3⟩ := fcells kA1
  clear kA kB hb1 hB0
  go_wp2_with fail
  refine (HFA.out w1 hB1).mono ?_
  rintro e w2 ⟨R, rfl, hb2, _⟩
  have hB2 := hB1.trans (hb2.mono hB1.size)
  have kA2 := kA1.below hb2 kA1.lt
  have kB2 := kB1.below hb2 kB1.lt
  clear kA1 kB1 hb2 hB1 a0 a1 a2 a3
  cases R
  case false =>
    go_wp2_with fail
    go_ret
    exact ⟨rfl, hB2⟩
  case true =>
  obtain ⟨a0, a1, a2, a3⟩ := fcells kB2
  go_wp2_with fail
  refine (HFB.out w2 hB2).mono ?_
  rintro e w3 ⟨R, rfl, hb3, _⟩
  have hB3 := hB2.trans (hb3.mono hB2.size)
  have kA3 := kA2.below hb3 kA2.lt
  have kB3 := kB2.below hb3 kB2.lt
  clear kA2 kB2 hb3 hB2 a0 a1 a2 a3
  cases R
  case false =>
    go_wp2_with fail
    go_ret
    exact ⟨rfl, hB3⟩
  case true =>
  go_wp2_with fail
  refine (HFL.out w3 hB3).mono ?_
  rintro e w4 ⟨R, rfl, hb4, _⟩
  have hB4 := hB3.trans (hb4.mono hB3.size)
  have kA4 := kA3.below hb4 kA3.lt
  have kB4 := kB3.below hb4 kB3.lt
  clear kA3 kB3 hb4 hB3
  cases R
  case false =>
    go_wp2_with fail
    go_ret
    exact ⟨rfl, hB4⟩
  case true =>
  go_wp2_with fail
  refine (HFM.out w4 hB4).mono ?_
  rintro e w5 ⟨R, rfl, hb5, _⟩
  have hB5 := hB4.trans (hb5.mono hB4.size)
  have kA5 := kA4.below hb5 kA4.lt
  have kB5 := kB4.below hb5 kB4.lt
  clear kA4 kB4 hb5 hB4
  cases R
  case false =>
    go_wp2_with fail
    go_ret
    exact ⟨rfl, hB5⟩
  case true =>
  have g0 : ∀ t : After w5, t.val.cell? ⟨w.heap.size, 0, none⟩ = some (S a.n) := fun t => (kA5.below t.prop kA5.lt).cell 0
  have g1 : ∀ t : After w5, t.val.cell? ⟨w.heap.size, 1, none⟩ = some (S a.su) := fun t => (kA5.below t.prop kA5.lt).cell 1
  have g2 : ∀ t : After w5, t.val.cell? ⟨w.heap.size, 2, none⟩ = some (.slice a.fA a.fl a.fc) := fun t => (kA5.below t.prop kA5.lt).cell 2
  have g3 : ∀ t : After w5, t.val.cell? ⟨w.heap.size, 3, none⟩ = some (.slice a.mA a.ml a.mc) := fun t => (kA5.below t.prop kA5.lt).cell 3
  have h0 : ∀ t : After w5, t.val.cell? ⟨w.heap.size + 1, 0, none⟩ = some (S b.n) := fun t => (kB5.below t.prop kB5.lt).cell 0
  have h1 : ∀ t : After w5, t.val.cell? ⟨w.heap.size + 1, 1, none⟩ = some (S b.su) := fun t => (kB5.below t.prop kB5.lt).cell 1
  have h2 : ∀ t : After w5, t.val.cell? ⟨w.heap.size + 1, 2, none⟩ = some (.slice b.fA b.fl b.fc) := fun t => (kB5.below t.prop kB5.lt).cell 2
  have h3 : ∀ t : After w5, t.val.cell? ⟨w.heap.size + 1, 3, none⟩ = some (.slice b.mA b.ml b.mc) := fun t => (kB5.below t.prop kB5.lt).cell 3
  go_wp2_with fail
  refine region_after (by kernel_rfl) (by kernel_rfl) ?_
  repeat (go_big_quiet_step (first | (go_at_call 10; with_reducible refine call_after (HAB.out _ (hB5.trans (After.prop _ |>.mono hB5.size)))) | (go_at_call 12; with_reducible refine call_after (HPG.out _ (hB5.trans (After.prop _ |>.mono hB5.size)))) | (go_at_call 10; with_reducible refine call_after (HAA.out _ (hB5.trans (After.prop _ |>.mono hB5.size)))) | (go_at_call 8; with_reducible refine call_after (HRA.out _ (hB5.trans (After.prop _ |>.mono hB5.size))))))
  refine wpQuiet_nil ?_
  rintro _ ⟨t, rfl⟩
  have hB6 := hB5.trans (t.prop.mono hB5.size)
  go_wp2_with fail
  obtain ⟨wC, hwC⟩ : ∃ wC, wC = t.val := ⟨_, rfl⟩
  rw [← hwC] at hB6
  rw [← hwC]
  clear hwC g0 g1 g2 g3 h0 h1 h2 h3 kA5 kB5 hB5
  go_loopw [52, 9] (fun i v wr => ∃ k : Nat, k ≤ np ∧ i = .int .i64 k ∧ v = .bool ((l.take k).all (allF T)) ∧ Below wC.heap.size wC wr) (fun i _ _ => np - (intOf i).toNat)
  case atStart => exact ⟨0, Nat.zero_le _, rfl, by simp, Below.refl _ _⟩
  case round =>
    obtain ⟨k, hk, rfl, rfl, hbr⟩ := hrel
    have hBr := hB6.trans (hbr.mono hB6.size)
    obtain ⟨acc, hacc⟩ : ∃ acc, acc = (l.take k).all (allF T) := ⟨_, rfl⟩
    rw [← hacc]
    have HAC := hide hacc
    clear hacc
    by_cases hlt : k < np
    · obtain ⟨x, o, rfl, _, _, hcell⟩ := Rd.rec_ (size := 4) (fun _ => rfl) (HL.out.1.below hBr) HLN.out k hlt
      have hlk : k < l.length := by have := HLN.out; omega
      have hfa := HL.out.2.2.2 _ (List.getElem_mem hlk)
      have HST : Hid ((l.take (k + 1)).all (allF T) = (acc && allF T l[k])) := hide (by rw [take_snoc hlk, List.all_append, ← HAC.out]; simp)
      obtain ⟨f, hf⟩ : ∃ f, f = l[k] := ⟨_, rfl⟩
      rw [← hf] at hcell hfa HST
      have HFA2 := hide hfa
      clear hf hfa HAC
      have q0 : wr.cell? ⟨x, o + k * 4, none⟩ = some (S f.n) := hcell 0 _ rfl
      have q1 : wr.cell? ⟨x, o + k * 4 + 1, none⟩ = some (S f.su) := hcell 1 _ rfl
      have q2 : wr.cell? ⟨x, o + k * 4 + 2, none⟩ = some (.slice f.fA f.fl f.fc) := hcell 2 _ rfl
      have q3 : wr.cell? ⟨x, o + k * 4 + 3, none⟩ = some (.slice f.mA f.ml f.mc) := hcell 3 _ rfl
      clear hcell
      obtain ⟨w7, hw7⟩ : ∃ w7, w7 = wr.alloc (.cells f.arr 25) := ⟨_, rfl⟩
      have hb7 : Below wC.heap.size wC w7 := by rw [hw7]; exact hbr.alloc hbr.size _
      have hB7 := hB6.trans (hb7.mono hB6.size)
      have hv7 : Blk w7 wr.heap.size 25 f.arr := by rw [hw7]; exact Blk.new _ _ _
      go_wp2_with fail
      rw [← hw7]
      clear hw7 q0 q1 q2 q3
      obtain ⟨bn, hbn⟩ : ∃ bn, bn = wr.heap.size := ⟨_, rfl⟩
      rw [← hbn] at hv7
      rw [← hbn]
      clear hbn
      go_loopw [58, 12, 9] (fun i v12 v9 wx => ∃ q : Nat, q ≤ nm ∧ i = .int .i64 q ∧ v12 = .bool (fndB (T.take q) f) ∧ v9 = .bool (acc && allG (T.take q) f) ∧ Below w7.heap.size w7 wx) (fun i _ _ _ => nm - (intOf i).toNat)
      case atStart => exact ⟨0, Nat.zero_le _, rfl, by simp [fndB], by simp [allG], Below.refl _ _⟩
      case round =>
        obtain ⟨q, hq, rfl, rfl, rfl, hbx⟩ := hrel
        have hBx := hB7.trans (hbx.mono hB7.size)
        obtain ⟨F, hF⟩ : ∃ F, F = fndB (T.take q) f := ⟨_, rfl⟩
        obtain ⟨G, hG⟩ : ∃ G, G = allG (T.take q) f := ⟨_, rfl⟩
        rw [← hF, ← hG]
        have HF := hide hF
        have HG := hide hG
        clear hF hG
        by_cases hlt2 : q < nm
        · obtain ⟨y, o2, rfl, _, _, hcell⟩ := Rd.rec_ (size := 4) (fun _ => rfl) (HT.out.1.below hBx) HTN.out q hlt2
          have hlq : q < T.length := by have := HTN.out; omega
          have hga := HT.out.2.2.2 _ (List.getElem_mem hlq)
          obtain ⟨D, hD⟩ : ∃ D, D = passB f T[q] := ⟨_, rfl⟩
          have HPD : Hid (∀ w', Below w.heap.size w w' → Calls Try.prog 12 #[f.val, T[q].val] w' (Gives w' (.bool D))) := hide (by rw [hD]; exact HPAGE.out f T[q] HFA2.out hga)
          have HSK : Hid ((T[q].n == f.n) = false → allG (T.take (q + 1)) f = G ∧ fndB (T.take (q + 1)) f = F) := hide (fun h => by rw [HF.out, HG.out]; exact take_skip hlq h)
          have HFO : Hid (F = true → allG (T.take (q + 1)) f = G ∧ fndB (T.take (q + 1)) f = true) := hide (fun h => by rw [HG.out]; exact take_found hlq (by rw [← HF.out]; exact h))
          have HNE : Hid ((T[q].n == f.n) = true → F = false → G = true ∧ allG (T.take (q + 1)) f = D ∧ fndB (T.take (q + 1)) f = true) := hide (fun h h2 => by rw [HG.out, hD]; exact take_new hlq h (by rw [← HF.out]; exact h2))
          obtain ⟨u, hu⟩ : ∃ u, u = T[q] := ⟨_, rfl⟩
          rw [← hu] at hcell HPD HSK HNE
          clear hu hga hD
          have q0 : wr.cell? ⟨y, o2 + q * 4, none⟩ = some (S u.n) := hcell 0 _ rfl
          have q1 : wr.cell? ⟨y, o2 + q * 4 + 1, none⟩ = some (S u.su) := hcell 1 _ rfl
          have q2 : wr.cell? ⟨y, o2 + q * 4 + 2, none⟩ = some (.slice u.fA u.fl u.fc) := hcell 2 _ rfl
          have q3 : wr.cell? ⟨y, o2 + q * 4 + 3, none⟩ = some (.slice u.mA u.ml u.mc) := hcell 3 _ rfl
          clear hcell
          obtain ⟨w8, hw8⟩ : ∃ w8, w8 = wr.alloc (.cells u.arr 25) := ⟨_, rfl⟩
          have hb8 : Below w7.heap.size w7 w8 := by rw [hw8]; exact hbx.alloc hbx.size _
          have hB8 := hB7.trans (hb8.mono hB7.size)
          have hv8 := hv7.below hb8 hv7.lt
          have hu8 : Blk w8 wr.heap.size 25 u.arr := by rw [hw8]; exact Blk.new _ _ _
          obtain ⟨a0, a1, a2, a3⟩ := fcells hv8
          obtain ⟨b0, b1, b2, b3⟩ := fcells hu8
          clear hv8 hu8
          by_cases e : u.n = f.n
          · obtain ⟨un, usu, ufA, ufl, ufc, ufs, umA, uml, umc, ums⟩ := u
            obtain ⟨fn, fsu, ffA, ffl, ffc, ffs, fmA, fml, fmc, fms⟩ := f
            simp only at *
            subst e
            subst hw8
            cases F
            case true =>
              have HE := hide (HFO.out rfl)
              clear HSK HNE HFO
              go_wp2_with fail
              go_roundw
              case rel => exact ⟨q + 1, by omega, by go_num, by rw [HE.out.2], by rw [HE.out.1], hb8⟩
              case measure => simp [intOf]; omega
            case false =>
              have HE := hide (HNE.out (by simp) rfl)
              obtain rfl := HE.out.1
              clear HSK HNE HFO
              cases acc
              case false =>
                go_wp2_with fail
                go_roundw
                case rel => exact ⟨q + 1, by omega, by go_num, by rw [HE.out.2.2], by simp, hb8⟩
                case measure => simp [intOf]; omega
              case true =>
                go_wp2_with fail
                refine (HPD.out _ hB8).mono ?_
                rintro e w9 ⟨rfl, hb9⟩
                have hb9' := hb8.trans (hb9.mono hb8.size)
                clear hb9
                go_wp2_with fail
                go_roundw
                case rel => exact ⟨q + 1, by omega, by go_num, by rw [HE.out.2.2], by rw [HE.out.2.1]; rfl, hb9'⟩
                case measure => simp [intOf]; omega
          · have d : (u.n == f.n) = false := by simpa using e
            have HE := hide (HSK.out d)
            clear HSK HNE HFO
            subst hw8
            go_wp2_with fail
            go_roundw
            case rel => exact ⟨q + 1, by omega, by go_num, by rw [HE.out.2], by rw [HE.out.1], hb8⟩
            case measure => simp [intOf]; omega
        · have hTq : T.take q = T := List.take_of_length_le (by have := HTN.out; omega)
          have HE : Hid ((l.take (k + 1)).all (allF T) = ((acc && G) && F)) := hide (by
            rw [HST.out, ← allG_fnd, HF.out, HG.out, hTq, Bool.and_assoc])
          clear hTq HST HF HG
          have hbz := hb7.trans (hbx.mono hb7.size)
          cases acc <;> cases G <;> cases F
          all_goals
            go_wp2_with fail
            go_roundw
            case rel => exact ⟨k + 1, by omega, by go_num, by rw [HE.out]; rfl, hbz⟩
            case measure => simp [intOf]; omega
    · have HE : Hid (acc = L) := hide (by
        rw [HAC.out, HLL.out, List.take_of_length_le (by have := HLN.out; omega)]; rfl)
      obtain rfl := HE.out
      clear HE HAC HLL
      go_wp2_with fail
      refine (HALL.out wr hBr).mono ?_
      rintro e w7 ⟨rfl, hb7⟩
      have hB7 := hBr.trans (hb7.mono hBr.size)
      go_wp2_with fail
      refine (HNIL.out w7 hB7).mono ?_
      rintro e w8 ⟨rfl, hb8⟩
      have hB8 := hB7.trans (hb8.mono hB7.size)
      go_wp2_with fail
      go_ret
      exact ⟨rfl, hB8⟩
end Go.Proofs.Ytbnplghbokpfmaa
