/- Whether two faces, two methods, two slices of fields or types are the same, walked; no statement of the seat is proved here. -/
import Derived.Test.YtmbegaobnpoefaaDoorMOpLaidC
namespace Go.Proofs.YtmbegaobnpoefaaDoor
open Go.RowKit
theorem eq_of_all {α : Type} {l l' : List α} (hl : l.length = l'.length) (h : ∀ i (hi : i < l.length) (hi' : i < l'.length), l[i] = l'[i]) : l = l' := List.ext_getElem hl h
set_option maxRecDepth 100000 in
set_option maxHeartbeats 1000000 in
theorem equaltys_any (A : Option Addr) (n c : Nat) (l : List Ty) (A' : Option Addr) (n' c' : Nat) (l' : List Ty) (w : World) (h : Rd w (fun k => w.heap.size ≤ k) 2 A n (l.flatMap Ty.cells)) (hl : l.length = n)
  (h' : Rd w (fun k => w.heap.size ≤ k) 2 A' n' (l'.flatMap Ty.cells)) (hl' : l'.length = n') (hm : n ≤ 9223372036854775807) :
  Calls Tryd.prog 47 #[.slice A n c, .slice A' n' c'] w (Gives w (.bool (decide (l = l')))) := by
 have HL := hide hl
 have HL' := hide hl'
 clear hl hl'
 obtain ⟨B, hB⟩ : ∃ B, B = decide (l = l') := ⟨_, rfl⟩
 rw [← hB]
 have HB := hide hB
 clear hB
 by_cases en : n = n'
 ·subst en
  go_enter Tryd.func47, Tryd.ntmps47
  go_wp2_with fail
  go_loopw [13] (fun i wr => ∃ k : Nat, k ≤ n ∧ i = .int .i64 k ∧ Below w.heap.size w wr ∧ (∀ i (hi : i < l.length) (hi' : i < l'.length), i < k → l[i] = l'[i])) (fun i _ => n - (intOf i).toNat)
  case atStart => exact ⟨0, Nat.zero_le _, rfl, Below.refl _ _, by omega⟩
  case round =>
   obtain ⟨k, hk, rfl, hbr, hall⟩ := hrel
   have HA := hide hall
   clear hall
   by_cases hlt : k < n
   ·obtain ⟨x, o, rfl, _, _, hcell⟩ := Rd.rec_ (size := 2) (fun _ => rfl) (h.below hbr) HL.out k hlt
    obtain ⟨x', o', rfl, _, _, hcell'⟩ := Rd.rec_ (size := 2) (fun _ => rfl) (h'.below hbr) HL'.out k hlt
    have hlk : k < l.length := by have := HL.out; omega
    have hlk' : k < l'.length := by have := HL'.out; omega
    obtain ⟨p, hp⟩ : ∃ p, p = l[k] := ⟨_, rfl⟩
    obtain ⟨p', hp'⟩ : ∃ p', p' = l'[k] := ⟨_, rfl⟩
    rw [← hp] at hcell
    rw [← hp'] at hcell'
    have HP := hide (And.intro hp hp')
    clear hp hp'
    obtain ⟨pn, pa⟩ := p
    obtain ⟨pn', pa'⟩ := p'
    have q0 : wr.cell? ⟨x, o + k * 2, none⟩ = some (S pn) := hcell 0 _ rfl
    have q0' : wr.cell? ⟨x', o' + k * 2, none⟩ = some (S pn') := hcell' 0 _ rfl
    have q1 : wr.cell? ⟨x, o + k * 2 + 1, none⟩ = some (.bool pa) := hcell 1 _ rfl
    have q1' : wr.cell? ⟨x', o' + k * 2 + 1, none⟩ = some (.bool pa') := hcell' 1 _ rfl
    have hki : (k : Int) < (n : Int) := by omega
    clear hcell hcell'
    by_cases e : (⟨pn, pa⟩ : Ty) = ⟨pn', pa'⟩
    ·injection e with e0 e1
     subst e0 e1
     go_wp2_with fail
     go_quiet (fail)
     go_wp2_with fail
     go_roundw
     case rel => exact ⟨k + 1, by omega, by go_num, bdrewN hbr _, fun i hi hi' hlt' => by
      rcases Nat.lt_or_ge i k with h2 | h2
      ·exact HA.out i hi hi' h2
      ·obtain rfl : i = k := by omega
       rw [← HP.out.1, ← HP.out.2]⟩
     case measure => simp [intOf]; omega
    ·have HN : Hid (B = false) := hide (by
      rw [HB.out]
      refine decide_eq_false fun hll => e ?_
      subst hll
      exact HP.out.1.trans HP.out.2.symm)
     by_cases e0 : pn = pn'
     ·subst e0
      cases pa <;> cases pa'
      ·exact absurd rfl e
      ·skip
       go_wp2_with fail
       go_quiet (fail)
       go_wp2_with fail
       go_ret
       exact ⟨by rw [HN.out] <;> rfl, bdrewN hbr _⟩
      ·skip
       go_wp2_with fail
       go_quiet (fail)
       go_wp2_with fail
       go_ret
       exact ⟨by rw [HN.out] <;> rfl, bdrewN hbr _⟩
      ·exact absurd rfl e
     ·have d0 : (pn == pn') = false := by simpa using e0
      go_wp2_with fail
      go_quiet (fail)
      go_wp2_with fail
      go_ret
      exact ⟨by rw [HN.out] <;> rfl, bdrewN hbr _⟩
   ·have HY : Hid (B = true) := hide (by
     rw [HB.out]
     exact decide_eq_true (eq_of_all (by rw [HL.out, HL'.out]) (fun i hi hi' => HA.out i hi hi' (by have := HL.out; omega))))
    go_wp2_with fail
    go_ret
    exact ⟨by rw [HY.out] <;> rfl, hbr⟩
 ·have HN : Hid (B = false) := hide (by
   rw [HB.out]
   refine decide_eq_false fun hll => en ?_
   subst hll
   exact HL.out.symm.trans HL'.out)
  have d : ((n : Int) == (n' : Int)) = false := by simp; omega
  go_enter Tryd.func47, Tryd.ntmps47
  go_wp2_with fail
  go_ret
  exact ⟨by rw [HN.out] <;> rfl, Below.refl _ _⟩
set_option maxRecDepth 100000 in
set_option maxHeartbeats 1000000 in
theorem equalvrs_any (A : Option Addr) (n c : Nat) (l : List Vr) (A' : Option Addr) (n' c' : Nat) (l' : List Vr) (w : World) (h : Rd w (fun k => w.heap.size ≤ k) 3 A n (l.flatMap Vr.cells)) (hl : l.length = n)
  (h' : Rd w (fun k => w.heap.size ≤ k) 3 A' n' (l'.flatMap Vr.cells)) (hl' : l'.length = n') (hm : n ≤ 9223372036854775807) :
  Calls Tryd.prog 26 #[.slice A n c, .slice A' n' c'] w (Gives w (.bool (decide (l = l')))) := by
 have HL := hide hl
 have HL' := hide hl'
 clear hl hl'
 obtain ⟨B, hB⟩ : ∃ B, B = decide (l = l') := ⟨_, rfl⟩
 rw [← hB]
 have HB := hide hB
 clear hB
 by_cases en : n = n'
 ·subst en
  go_enter Tryd.func26, Tryd.ntmps26
  go_wp2_with fail
  go_loopw [13] (fun i wr => ∃ k : Nat, k ≤ n ∧ i = .int .i64 k ∧ Below w.heap.size w wr ∧ (∀ i (hi : i < l.length) (hi' : i < l'.length), i < k → l[i] = l'[i])) (fun i _ => n - (intOf i).toNat)
  case atStart => exact ⟨0, Nat.zero_le _, rfl, Below.refl _ _, by omega⟩
  case round =>
   obtain ⟨k, hk, rfl, hbr, hall⟩ := hrel
   have HA := hide hall
   clear hall
   by_cases hlt : k < n
   ·obtain ⟨x, o, rfl, _, _, hcell⟩ := Rd.rec_ (size := 3) (fun _ => rfl) (h.below hbr) HL.out k hlt
    obtain ⟨x', o', rfl, _, _, hcell'⟩ := Rd.rec_ (size := 3) (fun _ => rfl) (h'.below hbr) HL'.out k hlt
    have hlk : k < l.length := by have := HL.out; omega
    have hlk' : k < l'.length := by have := HL'.out; omega
    obtain ⟨p, hp⟩ : ∃ p, p = l[k] := ⟨_, rfl⟩
    obtain ⟨p', hp'⟩ : ∃ p', p' = l'[k] := ⟨_, rfl⟩
    rw [← hp] at hcell
    rw [← hp'] at hcell'
    have HP := hide (And.intro hp hp')
    clear hp hp'
    obtain ⟨pn, pt, pa⟩ := p
    obtain ⟨pn', pt', pa'⟩ := p'
    have q0 : wr.cell? ⟨x, o + k * 3, none⟩ = some (S pn) := hcell 0 _ rfl
    have q0' : wr.cell? ⟨x', o' + k * 3, none⟩ = some (S pn') := hcell' 0 _ rfl
    have q1 : wr.cell? ⟨x, o + k * 3 + 1, none⟩ = some (S pt) := hcell 1 _ rfl
    have q1' : wr.cell? ⟨x', o' + k * 3 + 1, none⟩ = some (S pt') := hcell' 1 _ rfl
    have q2 : wr.cell? ⟨x, o + k * 3 + 2, none⟩ = some (.bool pa) := hcell 2 _ rfl
    have q2' : wr.cell? ⟨x', o' + k * 3 + 2, none⟩ = some (.bool pa') := hcell' 2 _ rfl
    have hki : (k : Int) < (n : Int) := by omega
    clear hcell hcell'
    by_cases e : (⟨pn, ⟨pt, pa⟩⟩ : Vr) = ⟨pn', ⟨pt', pa'⟩⟩
    ·injection e with e0 e1
     injection e1 with e1 e2
     subst e0 e1 e2
     go_wp2_with fail
     go_quiet (fail)
     go_wp2_with fail
     go_roundw
     case rel => exact ⟨k + 1, by omega, by go_num, bdrewN hbr _, fun i hi hi' hlt' => by
      rcases Nat.lt_or_ge i k with h2 | h2
      ·exact HA.out i hi hi' h2
      ·obtain rfl : i = k := by omega
       rw [← HP.out.1, ← HP.out.2]⟩
     case measure => simp [intOf]; omega
    ·have HN : Hid (B = false) := hide (by
      rw [HB.out]
      refine decide_eq_false fun hll => e ?_
      subst hll
      exact HP.out.1.trans HP.out.2.symm)
     by_cases e0 : pn = pn'
     ·subst e0
      by_cases e1 : pt = pt'
      ·subst e1
       cases pa <;> cases pa'
       ·exact absurd rfl e
       ·skip
        go_wp2_with fail
        go_quiet (fail)
        go_wp2_with fail
        go_ret
        exact ⟨by rw [HN.out] <;> rfl, bdrewN hbr _⟩
       ·skip
        go_wp2_with fail
        go_quiet (fail)
        go_wp2_with fail
        go_ret
        exact ⟨by rw [HN.out] <;> rfl, bdrewN hbr _⟩
       ·exact absurd rfl e
      ·have d1 : (pt == pt') = false := by simpa using e1
       go_wp2_with fail
       go_quiet (fail)
       go_wp2_with fail
       go_ret
       exact ⟨by rw [HN.out] <;> rfl, bdrewN hbr _⟩
     ·have d0 : (pn == pn') = false := by simpa using e0
      go_wp2_with fail
      go_quiet (fail)
      go_wp2_with fail
      go_ret
      exact ⟨by rw [HN.out] <;> rfl, bdrewN hbr _⟩
   ·have HY : Hid (B = true) := hide (by
     rw [HB.out]
     exact decide_eq_true (eq_of_all (by rw [HL.out, HL'.out]) (fun i hi hi' => HA.out i hi hi' (by have := HL.out; omega))))
    go_wp2_with fail
    go_ret
    exact ⟨by rw [HY.out] <;> rfl, hbr⟩
 ·have HN : Hid (B = false) := hide (by
   rw [HB.out]
   refine decide_eq_false fun hll => en ?_
   subst hll
   exact HL.out.symm.trans HL'.out)
  have d : ((n : Int) == (n' : Int)) = false := by simp; omega
  go_enter Tryd.func26, Tryd.ntmps26
  go_wp2_with fail
  go_ret
  exact ⟨by rw [HN.out] <;> rfl, Below.refl _ _⟩
end Go.Proofs.YtmbegaobnpoefaaDoor
namespace Go.Proofs.YtmbegaobnpoefaaDoor
open Go.RowKit
abbrev Sg.p (m : Sg) : List UInt8 × Bool × Ty × List Ty := (m.n, m.st, m.r, m.ps)
abbrev SgQ : Type := List UInt8 × Bool × Ty × List Ty
instance : DecidableEq SgQ := inferInstance
instance : DecidableEq (List Vr × List SgQ) := instDecidableEqProd
instance : DecidableEq (List UInt8 × List Vr × List SgQ) := instDecidableEqProd
instance : DecidableEq (List UInt8 × List UInt8 × List Vr × List SgQ) := instDecidableEqProd
set_option maxRecDepth 100000 in
set_option maxHeartbeats 1000000 in
theorem sigsame_any (m m' : Sg) (w : World) (h : m.at_ w (fun k => w.heap.size ≤ k)) (h' : m'.at_ w (fun k => w.heap.size ≤ k)) :
  Calls Tryd.prog 27 #[m.val, m'.val] w (Gives w (.bool (decide (m.p = m'.p)))) := by
 obtain ⟨B, hB⟩ : ∃ B, B = decide (m.p = m'.p) := ⟨_, rfl⟩
 rw [← hB]
 have HB := hide hB
 clear hB
 obtain ⟨n, st, A, k, c, ps, rn, ra⟩ := m
 obtain ⟨n', st', A', k', c', ps', rn', ra'⟩ := m'
 simp only [Sg.p] at HB
 simp only [Sg.val]
 obtain ⟨wB, hwB⟩ : ∃ wB, wB = (w.alloc (.cells #[S n, .bool st, .slice A k c, S rn, .bool ra] 55)).alloc (.cells #[S n', .bool st', .slice A' k' c', S rn', .bool ra'] 55) := ⟨_, rfl⟩
 have hbB : Below w.heap.size w wB := by rw [hwB]; exact ((Below.refl _ _).alloc (Nat.le_refl _) _).alloc (by simp) _
 have H := hide ((h.below hbB).weak (G := fun k => wB.heap.size ≤ k) (fun k hk => by have := hbB.size; omega))
 have H' := hide ((h'.below hbB).weak (G := fun k => wB.heap.size ≤ k) (fun k hk => by have := hbB.size; omega))
 clear h h'
 by_cases e1 : n = n'
 ·subst e1
  by_cases e2 : st = st'
  ·subst e2
   by_cases e3 : (⟨rn, ra⟩ : Ty) = ⟨rn', ra'⟩
   ·injection e3 with e3 e4
    subst e3 e4
    have hq := equaltys_any A k c ps A' k' c' ps' wB H.out.1 H.out.2.1 H'.out.1 H'.out.2.1 H.out.2.2.1
    have hBB : B = decide (ps = ps') := by rw [HB.out]; simp
    rw [← hBB] at hq
    have HQ := hide hq
    clear hq hBB
    cases st
    all_goals
     go_enter Tryd.func27, Tryd.ntmps27
     go_wp2_with fail
     rw [← hwB]
     clear hwB
     refine HQ.out.mono ?_
     rintro e w2 ⟨rfl, hb2⟩
     go_wp2
     go_ret
     exact ⟨rfl, hbB.trans (hb2.mono hbB.size)⟩
   ·have HN : Hid (B = false) := hide (by rw [HB.out]; exact decide_eq_false fun hh => e3 (by injection hh with _ hh; injection hh with _ hh; injection hh))
    by_cases e4 : rn = rn'
    ·subst e4
     cases st <;> cases ra <;> cases ra'
     all_goals first
      | exact absurd rfl e3
      | skip
     all_goals
      go_enter Tryd.func27, Tryd.ntmps27
      go_wp2_with fail
      rw [← hwB]
      go_ret
      exact ⟨by rw [HN.out] <;> rfl, hbB⟩
    ·have d4 : (rn == rn') = false := by simpa using e4
     cases st
     all_goals
      go_enter Tryd.func27, Tryd.ntmps27
      go_wp2_with fail
      rw [← hwB]
      go_ret
      exact ⟨by rw [HN.out] <;> rfl, hbB⟩
  ·have HN : Hid (B = false) := hide (by rw [HB.out]; exact decide_eq_false fun hh => e2 (by injection hh with _ hh; injection hh))
   cases st <;> cases st'
   all_goals first
    | exact absurd rfl e2
    | skip
   all_goals
    go_enter Tryd.func27, Tryd.ntmps27
    go_wp2_with fail
    rw [← hwB]
    go_ret
    exact ⟨by rw [HN.out] <;> rfl, hbB⟩
 ·have HN : Hid (B = false) := hide (by rw [HB.out]; exact decide_eq_false fun hh => e1 (by injection hh))
  have d1 : (n == n') = false := by simpa using e1
  go_enter Tryd.func27, Tryd.ntmps27
  go_wp2_with fail
  rw [← hwB]
  go_ret
  exact ⟨by rw [HN.out] <;> rfl, hbB⟩
end Go.Proofs.YtmbegaobnpoefaaDoor
namespace Go.Proofs.YtmbegaobnpoefaaDoor
open Go.RowKit
def fieldOf (f : Fc) (k : List UInt8) : Option Vr := f.fs.find? (fun v => v.n == k)
def methOf (f : Fc) (k : List UInt8) : Option Sg := f.ms.find? (fun m => m.n == k)
def zeroTy : Ty := ⟨[], false⟩
def zeroSg : Sg := ⟨[], false, none, 0, 0, [], ⟨[], false⟩⟩
theorem drop_skip {α : Type} {p : α → Bool} {l : List α} {k : Nat} (hk : k < l.length) (h : p l[k] = false) : (l.drop k).find? p = (l.drop (k + 1)).find? p := by
 rw [List.drop_eq_getElem_cons hk, List.find?_cons, h]
theorem drop_hit {α : Type} {p : α → Bool} {l : List α} {k : Nat} (hk : k < l.length) (h : p l[k] = true) : (l.drop k).find? p = some l[k] := by
 rw [List.drop_eq_getElem_cons hk, List.find?_cons, h]
set_option maxRecDepth 100000 in
set_option maxHeartbeats 1000000 in
theorem facemethod_any (f : Fc) (name : List UInt8) (w : World) (h : f.at_ w (fun k => w.heap.size ≤ k)) :
  Calls Tryd.prog 9 #[f.val, S name] w
   (fun e w' => e = .returned (.tuple #[((methOf f name).getD zeroSg).val, .bool (methOf f name).isSome]) ∧ Below w.heap.size w w') := by
 obtain ⟨G, hG⟩ : ∃ G, G = methOf f name := ⟨_, rfl⟩
 rw [← hG]
 obtain ⟨n, su, fA, fl, fc, fs, mA, ml, mc, ms⟩ := f
 unfold methOf at hG
 simp only at hG
 have HG := hide hG
 clear hG
 obtain ⟨_, ⟨hr, hl, hm, _⟩, _⟩ := h
 simp only at hr hl hm
 have HL := hide hl
 clear hl
 simp only [Fc.val]
 obtain ⟨wA, hwA⟩ : ∃ wA, wA = (w.alloc (.cells #[S n, S su, .slice fA fl fc, .slice mA ml mc] 43)).alloc (.cells #[.string { data := #[] }, .bool false, .slice none 0 0, .string { data := #[] }, .bool false] 55) := ⟨_, rfl⟩
 have hbA : Below w.heap.size w wA := by rw [hwA]; exact ((Below.refl _ _).alloc (Nat.le_refl _) _).alloc (by simp) _
 have hbk : Blk wA (w.heap.size + 1) 55 #[.string { data := #[] }, .bool false, .slice none 0 0, .string { data := #[] }, .bool false] := by
  rw [hwA]
  have := Blk.new (w.alloc (.cells #[S n, S su, .slice fA fl fc, .slice mA ml mc] 43)) 55 #[.string { data := #[] }, .bool false, .slice none 0 0, .string { data := #[] }, .bool false]
  rwa [World.size_alloc] at this
 go_enter Tryd.func9, Tryd.ntmps9
 go_wp2_with fail
 rw [← hwA]
 clear hwA
 go_loopw [11] (fun i wr => ∃ k : Nat, k ≤ ml ∧ i = .int .i64 k ∧ Below wA.heap.size wA wr ∧ (ms.drop k).find? (fun v => v.n == name) = G) (fun i _ => ml - (intOf i).toNat)
 case atStart => exact ⟨0, Nat.zero_le _, rfl, Below.refl _ _, by rw [List.drop_zero]; exact HG.out.symm⟩
 case round =>
  obtain ⟨k, hk, rfl, hbr, hfd⟩ := hrel
  have HFD := hide hfd
  clear hfd
  have hbw := hbA.trans (hbr.mono hbA.size)
  have hb2 := hbk.below hbr hbk.lt
  by_cases hlt : k < ml
  ·obtain ⟨x, o, rfl, _, _, hcell⟩ := Rd.rec_ (size := 5) (fun _ => rfl) (hr.below hbw) HL.out k hlt
   have hlk : k < ms.length := by have := HL.out; omega
   have HH : Hid ((ms[k].n == name) = true → G = some ms[k]) := hide (fun e => HFD.out.symm.trans (drop_hit (p := fun v => v.n == name) hlk e))
   have HN : Hid ((ms[k].n == name) = false → (ms.drop (k + 1)).find? (fun v => v.n == name) = G) := hide (fun e => (drop_skip (p := fun v => v.n == name) hlk e).symm.trans HFD.out)
   generalize ms[k] = v at *
   obtain ⟨vn, vs, vA, vk, vc, vps, vt, va⟩ := v
   have q0 : wr.cell? ⟨x, o + k * 5, none⟩ = some (S vn) := hcell 0 _ rfl
   have q1 : wr.cell? ⟨x, o + k * 5 + 1, none⟩ = some (.bool vs) := hcell 1 _ rfl
   have q2 : wr.cell? ⟨x, o + k * 5 + 2, none⟩ = some (.slice vA vk vc) := hcell 2 _ rfl
   have q3 : wr.cell? ⟨x, o + k * 5 + 3, none⟩ = some (S vt) := hcell 3 _ rfl
   have q4 : wr.cell? ⟨x, o + k * 5 + 4, none⟩ = some (.bool va) := hcell 4 _ rfl
   clear hcell
   by_cases e : vn = name
   ·have hG : G = some ⟨vn, vs, vA, vk, vc, vps, vt, va⟩ := HH.out (by simpa using e)
    subst hG
    clear HH HN HFD HG
    subst e
    have hb3 := hb2.alloc (.cells #[S vn, .bool vs, .slice vA vk vc, S vt, .bool va] 55)
    have f0 : ∀ i, (wr.alloc (.cells #[S vn, .bool vs, .slice vA vk vc, S vt, .bool va] 55)).frozen? ⟨w.heap.size + 1, i, none⟩ = false := hb3.frozen
    have r0 : (wr.alloc (.cells #[S vn, .bool vs, .slice vA vk vc, S vt, .bool va] 55)).cell? ⟨w.heap.size + 1, 0, none⟩ = some (.string { data := #[] }) := hb3.cell 0
    have r1 : (wr.alloc (.cells #[S vn, .bool vs, .slice vA vk vc, S vt, .bool va] 55)).cell? ⟨w.heap.size + 1, 1, none⟩ = some (.bool false) := hb3.cell 1
    have r2 : (wr.alloc (.cells #[S vn, .bool vs, .slice vA vk vc, S vt, .bool va] 55)).cell? ⟨w.heap.size + 1, 2, none⟩ = some (.slice none 0 0) := hb3.cell 2
    have r3 : (wr.alloc (.cells #[S vn, .bool vs, .slice vA vk vc, S vt, .bool va] 55)).cell? ⟨w.heap.size + 1, 3, none⟩ = some (.string { data := #[] }) := hb3.cell 3
    have r4 : (wr.alloc (.cells #[S vn, .bool vs, .slice vA vk vc, S vt, .bool va] 55)).cell? ⟨w.heap.size + 1, 4, none⟩ = some (.bool false) := hb3.cell 4
    have hBz := hide (hbw.alloc hbw.size (.cells #[S vn, .bool vs, .slice vA vk vc, S vt, .bool va] 55))
    clear hb2 hb3 hbw
    go_wp2_with fail
    refine bodyPost_ret (v := .tuple #[.agg #[S vn, .bool vs, .slice vA vk vc, S vt, .bool va], .bool true]) ?_ rfl ?_
    ·simp [results, Tryd.results9, go_sem, r0, r1, r2, r3, r4]
    ·exact ⟨rfl, set_below' (set_below' (set_below' (set_below' (set_below' hBz.out (by simp) _) (by simp) _) (by simp) _) (by simp) _) (by simp) _⟩
   ·have HE := hide (HN.out (by simpa using e))
    have d : (vn == name) = false := by simpa using e
    clear HH HN HFD
    go_wp2_with fail
    go_roundw
    case rel => exact ⟨k + 1, by omega, by go_num, hbr.alloc hbr.size _, HE.out⟩
    case measure => simp [intOf]; omega
  ·have hG : G = none := by
    rw [← HFD.out, List.drop_eq_nil_of_le (by have := HL.out; omega)]; rfl
   subst hG
   have f0 : ∀ i, wr.frozen? ⟨w.heap.size + 1, i, none⟩ = false := hb2.frozen
   have r0 : wr.cell? ⟨w.heap.size + 1, 0, none⟩ = some (.string { data := #[] }) := hb2.cell 0
   have r1 : wr.cell? ⟨w.heap.size + 1, 1, none⟩ = some (.bool false) := hb2.cell 1
   have r2 : wr.cell? ⟨w.heap.size + 1, 2, none⟩ = some (.slice none 0 0) := hb2.cell 2
   have r3 : wr.cell? ⟨w.heap.size + 1, 3, none⟩ = some (.string { data := #[] }) := hb2.cell 3
   have r4 : wr.cell? ⟨w.heap.size + 1, 4, none⟩ = some (.bool false) := hb2.cell 4
   clear HFD HG
   go_wp2_with fail
   refine bodyPost_ret (v := .tuple #[zeroSg.val, .bool false]) ?_ rfl ?_
   ·simp [results, Tryd.results9, go_sem, r0, r1, r2, r3, r4, zeroSg]
   ·exact ⟨rfl, set_below' (set_below' (set_below' (set_below' (set_below' hbw (by simp) _) (by simp) _) (by simp) _) (by simp) _) (by simp) _⟩
end Go.Proofs.YtmbegaobnpoefaaDoor
namespace Go.Proofs.YtmbegaobnpoefaaDoor
open Go.RowKit
set_option maxRecDepth 100000 in
set_option maxHeartbeats 1000000 in
theorem idxsg_any (A : Option Addr) (n c : Nat) (l : List Sg) (bx : Nat) (p : Sg → Bool) (w : World) (h : Rd w (fun k => w.heap.size ≤ k) 5 A n (l.flatMap Sg.cells)) (hl : l.length = n) (hm : n ≤ 9223372036854775807)
  (hc : ∀ (w' : World), Below w.heap.size w w' → ∀ u ∈ l, Calls Tryd.prog 29 #[u.val, .pointer (some ⟨bx, 0, none⟩)] w' (Gives w' (.bool (p u)))) :
  Calls Tryd.prog 48 #[.slice A n c, .func (.func 29) #[] #[.pointer (some ⟨bx, 0, none⟩)]] w (Finds w l p) := by
 have HL := hide hl
 have HC := hide hc
 clear hl hc
 go_enter Tryd.func48, Tryd.ntmps48
 go_wp2_with fail
 go_loopw [8] (fun i wr => ∃ k : Nat, k ≤ n ∧ i = .int .i64 k ∧ Below w.heap.size w wr ∧ (∀ i (hi : i < l.length), i < k → p l[i] = false)) (fun i _ => n - (intOf i).toNat)
 case atStart => exact ⟨0, Nat.zero_le _, rfl, Below.refl _ _, by omega⟩
 case round =>
  obtain ⟨k, hk, rfl, hbr, hall⟩ := hrel
  have HA := hide hall
  clear hall
  by_cases hlt : k < n
  ·obtain ⟨x, o, rfl, _, _, hcell⟩ := Rd.rec_ (size := 5) (fun _ => rfl) (h.below hbr) HL.out k hlt
   have hlk : k < l.length := by have := HL.out; omega
   have hcc := HC.out wr hbr l[k] (List.getElem_mem hlk)
   obtain ⟨b, hb⟩ : ∃ b, b = p l[k] := ⟨_, rfl⟩
   rw [← hb] at hcc
   have HB := hide hb
   obtain ⟨u, hu⟩ : ∃ u, u = l[k] := ⟨_, rfl⟩
   rw [← hu] at hcell hcc
   clear hb hu
   have q0 : wr.cell? ⟨x, o + k * 5, none⟩ = some (S u.n) := hcell 0 _ rfl
   have q1 : wr.cell? ⟨x, o + k * 5 + 1, none⟩ = some (.bool u.st) := hcell 1 _ rfl
   have q2 : wr.cell? ⟨x, o + k * 5 + 2, none⟩ = some (.slice u.A u.k u.c) := hcell 2 _ rfl
   have q3 : wr.cell? ⟨x, o + k * 5 + 3, none⟩ = some (S u.r.n) := hcell 3 _ rfl
   have q4 : wr.cell? ⟨x, o + k * 5 + 4, none⟩ = some (.bool u.r.a) := hcell 4 _ rfl
   clear hcell
   have HCC := hide hcc
   clear hcc
   go_wp2_with fail
   refine HCC.out.mono ?_
   rintro e w2 ⟨rfl, hb2⟩
   have hB2 := hbr.trans (hb2.mono hbr.size)
   cases b with
   | true =>
    have HI : Hid (IdxIs l p (k : Int)) := hide (.inr ⟨k, hlk, rfl, HB.out.symm, HA.out⟩)
    go_wp2_with fail
    go_ret
    exact ⟨_, rfl, hB2, HI.out⟩
   | false =>
    go_wp2_with fail
    go_roundw
    case rel => exact ⟨k + 1, by omega, by go_num, hB2, all_step (p := fun u => p u = false) HA.out hlk HB.out.symm⟩
    case measure => simp [intOf]; omega
  ·have HI : Hid (IdxIs l p (-1)) := hide (.inl ⟨rfl, all_done (p := fun u => p u = false) HA.out (by have := HL.out; omega)⟩)
   go_wp2_with fail
   go_ret
   exact ⟨_, rfl, hbr, HI.out⟩
set_option maxRecDepth 100000 in
theorem hassg_any (A : Option Addr) (n c : Nat) (l : List Sg) (bx : Nat) (p : Sg → Bool) (w : World) (h : Rd w (fun k => w.heap.size ≤ k) 5 A n (l.flatMap Sg.cells)) (hl : l.length = n) (hm : n ≤ 9223372036854775807)
  (hc : ∀ (w' : World), Below w.heap.size w w' → ∀ u ∈ l, Calls Tryd.prog 29 #[u.val, .pointer (some ⟨bx, 0, none⟩)] w' (Gives w' (.bool (p u)))) :
  Calls Tryd.prog 28 #[.slice A n c, .func (.func 29) #[] #[.pointer (some ⟨bx, 0, none⟩)]] w (Gives w (.bool (l.any p))) := by
 have HI := hide (idxsg_any A n c l bx p w h hl hm hc)
 clear h hl hc
 obtain ⟨R, hR⟩ : ∃ R, R = l.any p := ⟨_, rfl⟩
 rw [← hR]
 have HR := hide hR
 clear hR
 go_enter Tryd.func28, Tryd.ntmps28
 go_wp2_with fail
 refine HI.out.mono ?_
 rintro e w2 ⟨z, rfl, hb2, hz⟩
 have HZ : Hid (decide (0 ≤ z) = R) := hide (by rw [HR.out]; exact hz.any)
 clear hz
 go_wp2_with fail
 go_ret
 exact ⟨by rw [← HZ.out]; rfl, hb2⟩
end Go.Proofs.YtmbegaobnpoefaaDoor
