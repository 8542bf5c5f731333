/- Whether members of a face side by side have one name, walked; no statement of the seat is proved here. -/
import Derived.Test.YtmbegaobnpoefaaDoorMOpLaidC
import Derived.Test.YtmbegaobnpoefaaDoorMFaceSameC
import Derived.Test.YtmbegaobnpoefaaDoorMHierNewH
import Derived.BigRegion
import Derived.Test.YtmbegaobnpoefaaDoorMHierKnownH
import Derived.Test.YtmbegaobnpoefaaDoorMHierTabH
import Derived.Deep.DeepCutAuto
namespace Go.Proofs.YtmbegaobnpoefaaDoor
open Go.RowKit
def adjN : List (List UInt8) → Bool
 | a :: b :: r => (a == b) || adjN (b :: r)
 | _ => false
theorem adjN_iff : ∀ l : List (List UInt8), adjN l = true ↔ ∃ i, ∃ h : i + 1 < l.length, l[i] = l[i + 1]
 | [] => by simp [adjN]
 | [a] => by simp [adjN]
 | a :: b :: r => by
  unfold adjN
  rw [Bool.or_eq_true, adjN_iff (b :: r)]
  constructor
  ·rintro (h | ⟨i, h, e⟩)
   ·exact ⟨0, by simp, by simpa using h⟩
   ·exact ⟨i + 1, by simpa using h, by simpa using e⟩
  ·rintro ⟨i, h, e⟩
   rcases i with _ | i
   ·exact .inl (by simpa using e)
   ·exact .inr ⟨i, by simpa using h, by simpa using e⟩
theorem adjN_false {l : List (List UInt8)} (h : ∀ i (hi : i + 1 < l.length), l[i] ≠ l[i + 1]) : adjN l = false := by
 rw [Bool.eq_false_iff]
 intro hh
 obtain ⟨i, hi, e⟩ := (adjN_iff l).1 hh
 exact h i hi e
def twiceB (f : Fc) : Bool := adjN (f.fs.map Vr.n) || adjN (f.ms.map Sg.n)
set_option maxRecDepth 100000 in
set_option maxHeartbeats 4000000 in
theorem twice_any (f : Fc) (w : World) (h : f.at_ w (fun k => w.heap.size ≤ k)) : Calls Tryd.prog 36 #[f.val] w (Gives w (.bool (twiceB f))) := by
 obtain ⟨n, su, fA, fl, fc, fs, mA, ml, mc, ms⟩ := f
 obtain ⟨⟨hf, hfl, hfm, _⟩, ⟨hm, hml, hmm, _⟩, _, _⟩ := h
 simp only at hf hfl hfm hm hml hmm
 obtain ⟨R, hR⟩ : ∃ R, R = twiceB ⟨n, su, fA, fl, fc, fs, mA, ml, mc, ms⟩ := ⟨_, rfl⟩
 rw [← hR]
 have HR : Hid (R = (adjN (fs.map Vr.n) || adjN (ms.map Sg.n))) := hide hR
 have HFL := hide hfl
 have HML := hide hml
 clear hR hfl hml
 obtain ⟨wA, hwA⟩ : ∃ wA, wA = w.alloc (.cells #[S n, S su, .slice fA fl fc, .slice mA ml mc] 43) := ⟨_, rfl⟩
 have hB1 : Below w.heap.size w wA := by rw [hwA]; exact (Below.refl _ _).alloc (Nat.le_refl _) _
 have hbk : Blk wA w.heap.size 43 #[S n, S su, .slice fA fl fc, .slice mA ml mc] := by rw [hwA]; exact Blk.new _ _ _
 have c2 : wA.cell? ⟨w.heap.size, 2, none⟩ = some (.slice fA fl fc) := hbk.cell 2
 rw [hwA] at c2
 go_enter Tryd.func36, Tryd.ntmps36
 go_wp2_with fail
 rw [← hwA]
 clear hwA c2
 go_loopw [8] (fun i wr => ∃ k : Nat, k ≤ fl ∧ i = .int .i64 k ∧ Below wA.heap.size wA wr ∧ (∀ i (hi : i + 1 < (fs.map Vr.n).length), i + 1 < k → (fs.map Vr.n)[i] ≠ (fs.map Vr.n)[i + 1])) (fun i _ => fl - (intOf i).toNat)
 case atStart => exact ⟨0, Nat.zero_le _, rfl, Below.refl _ _, by omega⟩
 case round =>
  obtain ⟨k, hk, rfl, hbr, hall⟩ := hrel
  have HA := hide hall
  have hBr := hB1.trans (hbr.mono hB1.size)
  clear hall
  by_cases hlt : k < fl
  ·rcases k with _ | j
   ·go_wp2_with fail
    go_quiet (fail)
    go_wp2_with fail
    go_roundw
    case rel => exact ⟨1, by omega, by go_num, bdrewN hbr _, by omega⟩
    case measure => simp [intOf]; omega
   ·obtain ⟨x, o, rfl, _, _, hcell⟩ := Rd.rec_ (size := 3) (fun _ => rfl) (hf.below hBr) HFL.out (j + 1) hlt
    obtain ⟨x', o', hx, _, _, hcell'⟩ := Rd.rec_ (size := 3) (fun _ => rfl) (hf.below hBr) HFL.out j (by omega)
    injection hx with hx
    injection hx with e1 e2
    subst e1 e2
    have q0 : wr.cell? ⟨x, o + (j + 1) * 3, none⟩ = some (S (fs[j + 1]'(by have := HFL.out; omega)).n) := hcell 0 _ rfl
    have q1 : wr.cell? ⟨x, o + j * 3, none⟩ = some (S (fs[j]'(by have := HFL.out; omega)).n) := hcell' 0 _ rfl
    have c2 : wr.cell? ⟨w.heap.size, 2, none⟩ = some (.slice (some ⟨x, o, none⟩) fl fc) := (hbk.below hbr hbk.lt).cell 2
    have HN : Hid (∀ e : (fs[j]'(by have := HFL.out; omega)).n = (fs[j + 1]'(by have := HFL.out; omega)).n, R = true) := hide (fun e => by
     rw [HR.out, (adjN_iff (fs.map Vr.n)).2 ⟨j, by have := HFL.out; simp; omega, by simpa using e⟩]; rfl)
    have HS : Hid ((fs[j]'(by have := HFL.out; omega)).n ≠ (fs[j + 1]'(by have := HFL.out; omega)).n → ∀ i (hi : i + 1 < (fs.map Vr.n).length), i + 1 < j + 1 + 1 → (fs.map Vr.n)[i] ≠ (fs.map Vr.n)[i + 1]) := hide (fun e i hi hlt' => by
     rcases Nat.lt_or_ge (i + 1) (j + 1) with h2 | h2
     ·exact HA.out i hi h2
     ·obtain rfl : i = j := by omega
      simpa using e)
    obtain ⟨a, ha⟩ : ∃ a, a = (fs[j]'(by have := HFL.out; omega)).n := ⟨_, rfl⟩
    obtain ⟨b, hb⟩ : ∃ b, b = (fs[j + 1]'(by have := HFL.out; omega)).n := ⟨_, rfl⟩
    rw [← hb] at q0
    rw [← ha] at q1
    rw [← ha, ← hb] at HN HS
    have h0 : decide (0 < (j : Int) + 1) = true := decide_eq_true (by omega)
    have h1 : IntKind.i64.wrap ((j : Int) + 1 - 1) = (j : Int) := by rw [IntKind.wrap_i64]; omega
    have h2 : (j : Int) < (fl : Int) := by omega
    have h3 : (j : Int) + 1 < (fl : Int) := by omega
    clear hcell hcell' ha hb
    by_cases e : a = b
    ·subst e
     have HX := hide (HN.out rfl)
     go_wp2_with fail
     go_quiet (fail)
     go_wp2_with fail
     go_ret
     exact ⟨by rw [HX.out] <;> rfl, bdrewN hBr _⟩
    ·have d : (a == b) = false := by simpa using e
     have HX := hide (HS.out e)
     go_wp2_with fail
     go_quiet (fail)
     go_wp2_with fail
     go_roundw
     case rel => exact ⟨j + 1 + 1, by omega, by go_num, bdrewN hbr _, HX.out⟩
     case measure => simp [intOf]; omega
  ·have HF : Hid (adjN (fs.map Vr.n) = false) := hide (adjN_false (fun i hi => HA.out i hi (by have := HFL.out; simp at hi; omega)))
   obtain ⟨wB, hwB⟩ : ∃ wB, wB = wr := ⟨_, rfl⟩
   have hbk2 := hbk.below hbr hbk.lt
   rw [← hwB] at hbk2 hBr
   rw [← hwB]
   have hB2 := hBr
   clear hwB hbr hBr HA
   have c3 : wB.cell? ⟨w.heap.size, 3, none⟩ = some (.slice mA ml mc) := hbk2.cell 3
   go_wp2_with fail
   clear c3
   go_loopw [33] (fun i wr => ∃ k : Nat, k ≤ ml ∧ i = .int .i64 k ∧ Below wB.heap.size wB wr ∧ (∀ i (hi : i + 1 < (ms.map Sg.n).length), i + 1 < k → (ms.map Sg.n)[i] ≠ (ms.map Sg.n)[i + 1])) (fun i _ => ml - (intOf i).toNat)
   case atStart => exact ⟨0, Nat.zero_le _, rfl, Below.refl _ _, by omega⟩
   case round =>
    obtain ⟨k, hk, rfl, hbr, hall⟩ := hrel
    have HA := hide hall
    have hBr := hB2.trans (hbr.mono hB2.size)
    clear hall
    by_cases hlt : k < ml
    ·rcases k with _ | j
     ·go_wp2_with fail
      go_quiet (fail)
      go_wp2_with fail
      go_roundw
      case rel => exact ⟨1, by omega, by go_num, bdrewN hbr _, by omega⟩
      case measure => simp [intOf]; omega
     ·obtain ⟨x, o, rfl, _, _, hcell⟩ := Rd.rec_ (size := 5) (fun _ => rfl) (hm.below hBr) HML.out (j + 1) hlt
      obtain ⟨x', o', hx, _, _, hcell'⟩ := Rd.rec_ (size := 5) (fun _ => rfl) (hm.below hBr) HML.out j (by omega)
      injection hx with hx
      injection hx with e1 e2
      subst e1 e2
      have q0 : wr.cell? ⟨x, o + (j + 1) * 5, none⟩ = some (S (ms[j + 1]'(by have := HML.out; omega)).n) := hcell 0 _ rfl
      have q1 : wr.cell? ⟨x, o + j * 5, none⟩ = some (S (ms[j]'(by have := HML.out; omega)).n) := hcell' 0 _ rfl
      have c3 : wr.cell? ⟨w.heap.size, 3, none⟩ = some (.slice (some ⟨x, o, none⟩) ml mc) := (hbk2.below hbr hbk2.lt).cell 3
      have HN : Hid (∀ e : (ms[j]'(by have := HML.out; omega)).n = (ms[j + 1]'(by have := HML.out; omega)).n, R = true) := hide (fun e => by
       rw [HR.out, (adjN_iff (ms.map Sg.n)).2 ⟨j, by have := HML.out; simp; omega, by simpa using e⟩]; simp)
      have HS : Hid ((ms[j]'(by have := HML.out; omega)).n ≠ (ms[j + 1]'(by have := HML.out; omega)).n → ∀ i (hi : i + 1 < (ms.map Sg.n).length), i + 1 < j + 1 + 1 → (ms.map Sg.n)[i] ≠ (ms.map Sg.n)[i + 1]) := hide (fun e i hi hlt' => by
       rcases Nat.lt_or_ge (i + 1) (j + 1) with h2 | h2
       ·exact HA.out i hi h2
       ·obtain rfl : i = j := by omega
        simpa using e)
      obtain ⟨a, ha⟩ : ∃ a, a = (ms[j]'(by have := HML.out; omega)).n := ⟨_, rfl⟩
      obtain ⟨b, hb⟩ : ∃ b, b = (ms[j + 1]'(by have := HML.out; omega)).n := ⟨_, rfl⟩
      rw [← hb] at q0
      rw [← ha] at q1
      rw [← ha, ← hb] at HN HS
      have h0 : decide (0 < (j : Int) + 1) = true := decide_eq_true (by omega)
      have h1 : IntKind.i64.wrap ((j : Int) + 1 - 1) = (j : Int) := by rw [IntKind.wrap_i64]; omega
      have h2 : (j : Int) < (ml : Int) := by omega
      have h3 : (j : Int) + 1 < (ml : Int) := by omega
      clear hcell hcell' ha hb
      by_cases e : a = b
      ·subst e
       have HX := hide (HN.out rfl)
       go_wp2_with fail
       go_quiet (fail)
       go_wp2_with fail
       go_ret
       exact ⟨by rw [HX.out] <;> rfl, bdrewN hBr _⟩
      ·have d : (a == b) = false := by simpa using e
       have HX := hide (HS.out e)
       go_wp2_with fail
       go_quiet (fail)
       go_wp2_with fail
       go_roundw
       case rel => exact ⟨j + 1 + 1, by omega, by go_num, bdrewN hbr _, HX.out⟩
       case measure => simp [intOf]; omega
    ·have HG : Hid (R = false) := hide (by
      rw [HR.out, HF.out, adjN_false (fun i hi => HA.out i hi (by have := HML.out; simp at hi; omega))]; rfl)
     go_wp2_with fail
     go_ret
     exact ⟨by rw [HG.out] <;> rfl, hBr⟩
end Go.Proofs.YtmbegaobnpoefaaDoor
namespace Go.Proofs.YtmbegaobnpoefaaDoor
open Go.RowKit
set_option maxRecDepth 100000 in
set_option maxHeartbeats 1000000 in
theorem facefield_any (f : Fc) (name : List UInt8) (w : World) (h : f.at_ w (fun k => w.heap.size ≤ k)) :
  Calls Tryd.prog 55 #[f.val, S name] w
   (fun e w' => e = .returned (.tuple #[.agg #[S (((fieldOf f name).map Vr.t).getD zeroTy).n, .bool (((fieldOf f name).map Vr.t).getD zeroTy).a], .bool (fieldOf f name).isSome]) ∧ Below w.heap.size w w') := by
 obtain ⟨G, hG⟩ : ∃ G, G = fieldOf f name := ⟨_, rfl⟩
 rw [← hG]
 obtain ⟨n, su, fA, fl, fc, fs, mA, ml, mc, ms⟩ := f
 unfold fieldOf at hG
 simp only at hG
 have HG := hide hG
 clear hG
 obtain ⟨⟨hr, hl, hm, _⟩, _⟩ := h
 simp only at hr hl hm
 have HL := hide hl
 clear hl
 simp only [Fc.val]
 obtain ⟨wA, hwA⟩ : ∃ wA, wA = (w.alloc (.cells #[S n, S su, .slice fA fl fc, .slice mA ml mc] 43)).alloc (.cells #[.string { data := #[] }, .bool false] 24) := ⟨_, rfl⟩
 have hbA : Below w.heap.size w wA := by rw [hwA]; exact ((Below.refl _ _).alloc (Nat.le_refl _) _).alloc (by simp) _
 have hbk : Blk wA (w.heap.size + 1) 24 #[.string { data := #[] }, .bool false] := by
  rw [hwA]
  have := Blk.new (w.alloc (.cells #[S n, S su, .slice fA fl fc, .slice mA ml mc] 43)) 24 #[.string { data := #[] }, .bool false]
  rwa [World.size_alloc] at this
 go_enter Tryd.func55, Tryd.ntmps55
 go_wp2_with fail
 rw [← hwA]
 clear hwA
 go_loopw [11] (fun i wr => ∃ k : Nat, k ≤ fl ∧ i = .int .i64 k ∧ Below wA.heap.size wA wr ∧ (fs.drop k).find? (fun v => v.n == name) = G) (fun i _ => fl - (intOf i).toNat)
 case atStart => exact ⟨0, Nat.zero_le _, rfl, Below.refl _ _, by rw [List.drop_zero]; exact HG.out.symm⟩
 case round =>
  obtain ⟨k, hk, rfl, hbr, hfd⟩ := hrel
  have HFD := hide hfd
  clear hfd
  have hbw := hbA.trans (hbr.mono hbA.size)
  have hb2 := hbk.below hbr hbk.lt
  by_cases hlt : k < fl
  ·obtain ⟨x, o, rfl, _, _, hcell⟩ := Rd.rec_ (size := 3) (fun _ => rfl) (hr.below hbw) HL.out k hlt
   have hlk : k < fs.length := by have := HL.out; omega
   have HH : Hid ((fs[k].n == name) = true → G = some fs[k]) := hide (fun e => HFD.out.symm.trans (drop_hit (p := fun v => v.n == name) hlk e))
   have HN : Hid ((fs[k].n == name) = false → (fs.drop (k + 1)).find? (fun v => v.n == name) = G) := hide (fun e => (drop_skip (p := fun v => v.n == name) hlk e).symm.trans HFD.out)
   generalize fs[k] = v at *
   obtain ⟨vn, vt, va⟩ := v
   have q0 : wr.cell? ⟨x, o + k * 3, none⟩ = some (S vn) := hcell 0 _ rfl
   have q1 : wr.cell? ⟨x, o + k * 3 + 1, none⟩ = some (S vt) := hcell 1 _ rfl
   have q2 : wr.cell? ⟨x, o + k * 3 + 2, none⟩ = some (.bool va) := hcell 2 _ rfl
   clear hcell
   by_cases e : vn = name
   ·have hG : G = some ⟨vn, vt, va⟩ := HH.out (by simpa using e)
    subst hG
    clear HH HN HFD HG
    subst e
    have hb3 := hb2.alloc (.cells #[S vn, S vt, .bool va] 63)
    have f0 : ∀ i, (wr.alloc (.cells #[S vn, S vt, .bool va] 63)).frozen? ⟨w.heap.size + 1, i, none⟩ = false := hb3.frozen
    have r0 : (wr.alloc (.cells #[S vn, S vt, .bool va] 63)).cell? ⟨w.heap.size + 1, 0, none⟩ = some (.string { data := #[] }) := hb3.cell 0
    have r1 : (wr.alloc (.cells #[S vn, S vt, .bool va] 63)).cell? ⟨w.heap.size + 1, 1, none⟩ = some (.bool false) := hb3.cell 1
    have hBz := hide (hbw.alloc hbw.size (.cells #[S vn, S vt, .bool va] 63))
    clear hb2 hb3 hbw
    go_wp2_with fail
    refine bodyPost_ret (v := .tuple #[.agg #[S vt, .bool va], .bool true]) ?_ rfl ?_
    ·simp [results, Tryd.results55, go_sem, r0, r1]
    ·exact ⟨rfl, set_below' (set_below' hBz.out (by simp) _) (by simp) _⟩
   ·have HE := hide (HN.out (by simpa using e))
    have d : (vn == name) = false := by simpa using e
    clear HH HN HFD
    go_wp2_with fail
    go_roundw
    case rel => exact ⟨k + 1, by omega, by go_num, hbr.alloc hbr.size _, HE.out⟩
    case measure => simp [intOf]; omega
  ·have hG : G = none := by
    rw [← HFD.out, List.drop_eq_nil_of_le (by have := HL.out; omega)]; rfl
   subst hG
   have f0 : ∀ i, wr.frozen? ⟨w.heap.size + 1, i, none⟩ = false := hb2.frozen
   have r0 : wr.cell? ⟨w.heap.size + 1, 0, none⟩ = some (.string { data := #[] }) := hb2.cell 0
   have r1 : wr.cell? ⟨w.heap.size + 1, 1, none⟩ = some (.bool false) := hb2.cell 1
   clear HFD HG
   go_wp2_with fail
   refine bodyPost_ret (v := .tuple #[.agg #[S [], .bool false], .bool false]) ?_ rfl ?_
   ·simp [results, Tryd.results55, go_sem, r0, r1]
   ·exact ⟨rfl, set_below' (set_below' hbw (by simp) _) (by simp) _⟩
end Go.Proofs.YtmbegaobnpoefaaDoor
namespace Go.Proofs.YtmbegaobnpoefaaDoor
open Go.RowKit
def memF (T : List Fc) (k : List UInt8) (l : List (List UInt8)) : Option (List UInt8 × Ty) := l.findSome? (fun c => (fieldOf (faceF T c) k).map (fun v => (c, v.t)))
def memM (T : List Fc) (k : List UInt8) (st : Bool) (l : List (List UInt8)) : Option (List UInt8 × Sg) := l.findSome? (fun c => (methOf (faceF T c) k).bind (fun m : Sg => if m.st = st then some (c, m) else none))
def retF : Option (List UInt8 × Ty) → Value
 | some (c, t) => .tuple #[S c, .agg #[S t.n, .bool t.a], .bool true]
 | none => .tuple #[S [], .agg #[S [], .bool false], .bool false]
def retM : Option (List UInt8 × Sg) → Value
 | some (c, m) => .tuple #[S c, m.val, .bool true]
 | none => .tuple #[S [], zeroSg.val, .bool false]
theorem some_skip {α β : Type} {p : α → Option β} {l : List α} {k : Nat} (hk : k < l.length) (h : p l[k] = none) : (l.drop k).findSome? p = (l.drop (k + 1)).findSome? p := by
 rw [List.drop_eq_getElem_cons hk, List.findSome?_cons, h]
theorem some_hit {α β : Type} {p : α → Option β} {l : List α} {k : Nat} {b : β} (hk : k < l.length) (h : p l[k] = some b) : (l.drop k).findSome? p = some b := by
 rw [List.drop_eq_getElem_cons hk, List.findSome?_cons, h]
theorem memF_hit {T : List Fc} {k : List UInt8} {l : List (List UInt8)} {j : Nat} (hj : j < l.length) {v : Vr} (h : fieldOf (faceF T l[j]) k = some v) : memF T k (l.drop j) = some (l[j], v.t) :=
 some_hit (p := fun c => (fieldOf (faceF T c) k).map (fun v : Vr => (c, v.t))) hj (by simp only [h]; rfl)
theorem memF_skip {T : List Fc} {k : List UInt8} {l : List (List UInt8)} {j : Nat} (hj : j < l.length) (h : fieldOf (faceF T l[j]) k = none) : memF T k (l.drop j) = memF T k (l.drop (j + 1)) :=
 some_skip (p := fun c => (fieldOf (faceF T c) k).map (fun v : Vr => (c, v.t))) hj (by simp only [h]; rfl)
theorem memM_hit {T : List Fc} {k : List UInt8} {st : Bool} {l : List (List UInt8)} {j : Nat} (hj : j < l.length) {v : Sg} (h : methOf (faceF T l[j]) k = some v) (hs : v.st = st) : memM T k st (l.drop j) = some (l[j], v) :=
 some_hit (p := fun c => (methOf (faceF T c) k).bind (fun m : Sg => if m.st = st then some (c, m) else none)) hj (by simp only [h, Option.bind_some]; rw [if_pos hs])
theorem memM_skip {T : List Fc} {k : List UInt8} {st : Bool} {l : List (List UInt8)} {j : Nat} (hj : j < l.length) (h : ∀ v, methOf (faceF T l[j]) k = some v → v.st ≠ st) : memM T k st (l.drop j) = memM T k st (l.drop (j + 1)) :=
 some_skip (p := fun c => (methOf (faceF T c) k).bind (fun m : Sg => if m.st = st then some (c, m) else none)) hj (by
  cases hm : methOf (faceF T l[j]) k with
  | none => simp only [Option.bind_none]
  | some v => simp only [Option.bind_some]; rw [if_neg (h v hm)])
theorem face_at2 {w : World} {F : Nat → Prop} {T : List Fc} (h : ∀ f ∈ T, f.at_ w F) (k : List UInt8) : (faceF T k).at_ w F := by
 unfold faceF
 cases hg : get T k with
 | some f => exact h f (get_mem hg).1
 | none => exact ⟨⟨Rd.nil _ _ _ _, rfl, by simp [zeroFc], by simp [zeroFc]⟩, ⟨Rd.nil _ _ _ _, rfl, by simp [zeroFc], by simp [zeroFc]⟩, by simp [short, zeroFc], by simp [short, zeroFc]⟩
theorem keep_s' {w w' : World} {s : Nat} (h : Below w.heap.size w w') : Keep (fun b => b = s) w w' := Keep.of_below h (fun k h1 h2 => by omega)
theorem set_tab2 {w w2 : World} {g m s n : Nat} {T : List Fc} (hlt : g < w.heap.size ∧ m < w.heap.size ∧ s < w.heap.size) (h : Tab w2 g m s T n ∧ Keep (fun b => b = s) w w2) {p : Addr} (hp : w.heap.size ≤ p.block) (u : Value) :
  Tab (w2.setCell p u) g m s T n ∧ Keep (fun b => b = s) w (w2.setCell p u) := set_tab hlt h hp u
set_option maxRecDepth 100000 in
set_option maxHeartbeats 2000000 in
theorem tfield_any (g m s n B : Nat) (T : List Fc) (a k : List UInt8) (w : World) (h : Tab w g m s T n) (hn : n ≤ 8000000000000000) (hT : T.length ≤ 8) (hs : ∀ f ∈ T, short f.su) (ha : short a) (hat : ∀ f ∈ T, f.at_ w (fun k => B ≤ k)) (hBs : B ≤ s) :
  Calls Tryd.prog 37 #[.pointer (some ⟨g, 0, none⟩), S a, S k] w
   (fun e w' => e = .returned (retF (memF T k (up T 20 [] a).1)) ∧ Tab w' g m s T (n + 40) ∧ Keep (fun b => b = s) w w') := by
 obtain ⟨C, hC⟩ : ∃ C, C = memF T k (up T 20 [] a).1 := ⟨_, rfl⟩
 rw [← hC]
 obtain ⟨wA, hwA⟩ : ∃ wA, wA = w.alloc (.cells #[.string { data := #[] }, .bool false] 24) := ⟨_, rfl⟩
 have hTA : Tab wA g m s T n := by rw [hwA]; exact h.alloc _
 have hbA : Below w.heap.size w wA := by rw [hwA]; exact (Below.refl _ _).alloc (Nat.le_refl _) _
 have hbk : Blk wA w.heap.size 24 #[.string { data := #[] }, .bool false] := by rw [hwA]; exact Blk.new _ _ _
 have hup := up_le T 20 [] a
 have hsx := up_short T hs 20 [] a (by simp) ha
 have ho := above_any g m s n T a wA hTA (by omega) hT hs ha
 have hgl : g < w.heap.size ∧ m < w.heap.size ∧ s < w.heap.size := ⟨h.blk.lt, h.faces.lt, h.slt⟩
 have hat2 := face_at2 hat
 obtain ⟨R, hR⟩ : ∃ R, R = up T 20 [] a := ⟨_, rfl⟩
 rw [← hR] at ho hup hC hsx
 obtain ⟨l, q⟩ := R
 simp only at hC hsx
 have HSX := hide hsx
 have HC := hide hC
 have HO := hide ho
 have HAT := hide hat2
 clear hR ho hC hsx hs hat hat2
 simp only [List.length_nil] at hup
 go_enter Tryd.func37, Tryd.ntmps37
 go_wp2_with fail
 rw [← hwA]
 refine HO.out.mono ?_
 rintro e w2 ⟨A, c, rfl, ht2, hk2, hr2⟩
 have hk2w := ((Keep.refl (fun b => b = s) w).alloc (.cells #[.string { data := #[] }, .bool false] 24))
 rw [← hwA] at hk2w
 have HT := hide ht2
 have HK := hide (hk2w.tr hk2)
 have HBK := hide (hbk.keep hk2 (by omega))
 have hr2' := hr2.weak (G := fun b => b = s) (fun k _ e => by have := hbA.size; omega)
 clear ht2 hk2 hr2 hk2w hwA hbk hTA
 go_wp2_with fail
 go_loopw [25] (fun i wr => ∃ j : Nat, j ≤ l.length ∧ i = .int .i64 j ∧ Tab wr g m s T (n + 9 + j) ∧ Keep (fun b => b = s) w2 wr ∧ memF T k (l.drop j) = C) (fun i _ => l.length - (intOf i).toNat)
 case atStart => exact ⟨0, Nat.zero_le _, rfl, by simpa using HT.out, Keep.refl _ _, by rw [List.drop_zero]; exact HC.out.symm⟩
 case round =>
  obtain ⟨j, hj, rfl, htr, hkr, hfd⟩ := hrel
  have HTR := hide htr
  have HFD := hide hfd
  have HKR := hide hkr
  have hb2 := HBK.out.keep hkr (by omega)
  have hkw := HK.out.tr hkr
  clear htr hfd
  by_cases hlt : j < l.length
  ·obtain ⟨bb, o, u, rfl, hu, hc⟩ := (hr2'.keep hkr).at_ j hlt
   obtain rfl : S l[j] = u := by simpa [hlt] using hu
   clear hu hkr
   have hys := HSX.out l[j] (List.getElem_mem hlt)
   have HH : Hid (∀ v, fieldOf (faceF T l[j]) k = some v → C = some (l[j], v.t)) := hide (fun v e => HFD.out.symm.trans (memF_hit hlt e))
   have HN : Hid (fieldOf (faceF T l[j]) k = none → memF T k (l.drop (j + 1)) = C) := hide (fun e => (memF_skip hlt e).symm.trans HFD.out)
   generalize l[j] = y at *
   have hfa := face_any g m s _ T y wr HTR.out (by omega) hys
   have hFat := HAT.out y
   obtain ⟨Fx, hFx⟩ : ∃ Fx, Fx = faceF T y := ⟨_, rfl⟩
   obtain ⟨Bx, hBx⟩ : ∃ Bx, Bx = (get T y).isSome := ⟨_, rfl⟩
   rw [← hFx] at hfa hFat HH HN
   rw [← hBx] at hfa
   have HFA := hide hfa
   have HFAT := hide hFat
   clear hfa hFat hFx hBx
   go_wp2_with fail
   refine HFA.out.mono ?_
   rintro e w3 ⟨rfl, ht3, hk3⟩
   have hkw3 := hkw.tr hk3
   obtain ⟨w4, hw4⟩ : ∃ w4, w4 = w3.alloc (.cells #[S Fx.n, S Fx.su, .slice Fx.fA Fx.fl Fx.fc, .slice Fx.mA Fx.ml Fx.mc] 43) := ⟨_, rfl⟩
   have hk4 : Keep (fun b => b = s) w w4 := by rw [hw4]; exact hkw3.alloc _
   have ht4 := ht3.alloc (.cells #[S Fx.n, S Fx.su, .slice Fx.fA Fx.fl Fx.fc, .slice Fx.mA Fx.ml Fx.mc] 43)
   rw [← hw4] at ht4
   have hb4 : Blk w4 w.heap.size 24 #[.string { data := #[] }, .bool false] := by rw [hw4]; exact (hb2.keep hk3 (by omega)).alloc _
   have hk24 : Keep (fun b => b = s) w2 w4 := by rw [hw4]; exact (HKR.out.tr hk3).alloc _
   have hff := facefield_any Fx k w4 ((HFAT.out.below (hk4.below (B := B) (by omega) (fun k hk => by omega))).weak (fun k hk => by have := hk4.size; omega))
   obtain ⟨V, hV⟩ : ∃ V, V = fieldOf Fx k := ⟨_, rfl⟩
   rw [← hV] at hff HH HN
   have HFF := hide hff
   have HT4 := hide ht4
   have HK4 := hide hk4
   have HB4 := hide hb4
   have HK24 := hide hk24
   clear hff hV ht3 hk3 hkw3 ht4 hk4 hb4 hk24 hb2 hkw
   go_wp2_with fail
   rw [← hw4]
   clear hw4
   refine HFF.out.mono ?_
   rintro e w5 ⟨rfl, hb5⟩
   have hs4 := HT4.out.slt
   have ht5 := HT4.out.below hb5
   have hk5 := HK4.out.tr (keep_s' (s := s) hb5)
   have hk25 := HK24.out.tr (keep_s' (s := s) hb5)
   have hb5b := HB4.out.below hb5 HB4.out.lt
   cases V with
   | some v =>
    obtain ⟨vn, vt, va⟩ := v
    have hC := HH.out _ rfl
    subst hC
    clear HH HN HC HFD
    obtain ⟨w6, hw6⟩ : ∃ w6, w6 = w5.alloc (.cells #[S vt, .bool va] 24) := ⟨_, rfl⟩
    have hb6 : Blk w6 w.heap.size 24 #[.string { data := #[] }, .bool false] := by rw [hw6]; exact hb5b.alloc _
    have hb7 : Blk w6 w5.heap.size 24 #[S vt, .bool va] := by rw [hw6]; exact Blk.new _ _ _
    have ht6 := ht5.alloc (.cells #[S vt, .bool va] 24)
    rw [← hw6] at ht6
    have hk6 : Keep (fun b => b = s) w w6 := by rw [hw6]; exact hk5.alloc _
    have HTK := hide (And.intro ht6.drew hk6.drew)
    have f0 : ∀ i, w6.frozen? ⟨w.heap.size, i, none⟩ = false := hb6.frozen
    have r0 : w6.cell? ⟨w.heap.size, 0, none⟩ = some (.string { data := #[] }) := hb6.cell 0
    have r1 : w6.cell? ⟨w.heap.size, 1, none⟩ = some (.bool false) := hb6.cell 1
    have p0 : w6.cell? ⟨w5.heap.size, 0, none⟩ = some (S vt) := hb7.cell 0
    have p1 : w6.cell? ⟨w5.heap.size, 1, none⟩ = some (.bool va) := hb7.cell 1
    clear hb6 hb7 ht6 hk6 ht5 hk5 hk25 hb5b hb5
    go_wp2_with fail
    rw [← hw6]
    clear hw6
    go_region
    all_goals
     go_wp2_with fail
     refine bodyPost_ret (v := .tuple #[S y, .agg #[S vt, .bool va], .bool true]) ?_ rfl ?_
     ·simp [results, Tryd.results37, go_sem, r0, r1]
     ·have := set_tab2 hgl (set_tab2 hgl HTK.out (p := ⟨w.heap.size, 0, none⟩) (Nat.le_refl _) (S vt)) (p := ⟨w.heap.size, 1, none⟩) (Nat.le_refl _) (.bool va)
      exact ⟨rfl, this.1.mono (by omega), this.2⟩
   | none =>
    have HE := hide (HN.out rfl)
    have HTK := hide (And.intro (ht5.alloc (.cells #[.string { data := #[] }, .bool false] 24)) (hk25.alloc (.cells #[.string { data := #[] }, .bool false] 24)))
    clear HH HN ht5 hk5 hk25 hb5b hb5
    go_wp2_with fail
    go_roundw
    case rel => exact ⟨j + 1, by omega, by go_num, HTK.out.1.mono (by omega), HTK.out.2, HE.out⟩
    case measure => simp [intOf]; omega
  ·have hCn : C = none := by
    rw [← HFD.out, List.drop_eq_nil_of_le (by omega)]; rfl
   subst hCn
   have f0 : ∀ i, wr.frozen? ⟨w.heap.size, i, none⟩ = false := hb2.frozen
   have r0 : wr.cell? ⟨w.heap.size, 0, none⟩ = some (.string { data := #[] }) := hb2.cell 0
   have r1 : wr.cell? ⟨w.heap.size, 1, none⟩ = some (.bool false) := hb2.cell 1
   have HTK := hide (And.intro HTR.out hkw)
   clear hb2 hkw hkr HFD HC
   go_wp2_with fail
   refine bodyPost_ret (v := .tuple #[S [], .agg #[S [], .bool false], .bool false]) ?_ rfl ?_
   ·simp [results, Tryd.results37, go_sem, r0, r1]
   ·have := set_tab2 hgl (set_tab2 hgl HTK.out (p := ⟨w.heap.size, 0, none⟩) (Nat.le_refl _) (S [])) (p := ⟨w.heap.size, 1, none⟩) (Nat.le_refl _) (.bool false)
    exact ⟨rfl, this.1.mono (by omega), this.2⟩
end Go.Proofs.YtmbegaobnpoefaaDoor
namespace Go.Proofs.YtmbegaobnpoefaaDoor
open Go.RowKit
set_option maxRecDepth 100000 in
set_option maxHeartbeats 2000000 in
theorem tmethod_any (g m s n B : Nat) (T : List Fc) (a k : List UInt8) (st : Bool) (w : World) (h : Tab w g m s T n) (hn : n ≤ 8000000000000000) (hT : T.length ≤ 8) (hs : ∀ f ∈ T, short f.su) (ha : short a) (hat : ∀ f ∈ T, f.at_ w (fun k => B ≤ k)) (hBs : B ≤ s) :
  Calls Tryd.prog 38 #[.pointer (some ⟨g, 0, none⟩), S a, S k, .bool st] w
   (fun e w' => e = .returned (retM (memM T k st (up T 20 [] a).1)) ∧ Tab w' g m s T (n + 40) ∧ Keep (fun b => b = s) w w') := by
 obtain ⟨C, hC⟩ : ∃ C, C = memM T k st (up T 20 [] a).1 := ⟨_, rfl⟩
 rw [← hC]
 obtain ⟨wA, hwA⟩ : ∃ wA, wA = w.alloc (.cells #[.string { data := #[] }, .bool false, .slice none 0 0, .string { data := #[] }, .bool false] 55) := ⟨_, rfl⟩
 have hTA : Tab wA g m s T n := by rw [hwA]; exact h.alloc _
 have hbA : Below w.heap.size w wA := by rw [hwA]; exact (Below.refl _ _).alloc (Nat.le_refl _) _
 have hbk : Blk wA w.heap.size 55 #[.string { data := #[] }, .bool false, .slice none 0 0, .string { data := #[] }, .bool false] := by rw [hwA]; exact Blk.new _ _ _
 have hup := up_le T 20 [] a
 have hsx := up_short T hs 20 [] a (by simp) ha
 have ho := above_any g m s n T a wA hTA (by omega) hT hs ha
 have hgl : g < w.heap.size ∧ m < w.heap.size ∧ s < w.heap.size := ⟨h.blk.lt, h.faces.lt, h.slt⟩
 have hat2 := face_at2 hat
 obtain ⟨R, hR⟩ : ∃ R, R = up T 20 [] a := ⟨_, rfl⟩
 rw [← hR] at ho hup hC hsx
 obtain ⟨l, q⟩ := R
 simp only at hC hsx
 have HSX := hide hsx
 have HC := hide hC
 have HO := hide ho
 have HAT := hide hat2
 clear hR ho hC hsx hs hat hat2
 simp only [List.length_nil] at hup
 go_enter Tryd.func38, Tryd.ntmps38
 go_wp2_with fail
 rw [← hwA]
 refine HO.out.mono ?_
 rintro e w2 ⟨A, c, rfl, ht2, hk2, hr2⟩
 have hk2w := ((Keep.refl (fun b => b = s) w).alloc (.cells #[.string { data := #[] }, .bool false, .slice none 0 0, .string { data := #[] }, .bool false] 55))
 rw [← hwA] at hk2w
 have HT := hide ht2
 have HK := hide (hk2w.tr hk2)
 have HBK := hide (hbk.keep hk2 (by omega))
 have hr2' := hr2.weak (G := fun b => b = s) (fun k _ e => by have := hbA.size; omega)
 clear ht2 hk2 hr2 hk2w hwA hbk hTA
 go_wp2_with fail
 go_loopw [27] (fun i wr => ∃ j : Nat, j ≤ l.length ∧ i = .int .i64 j ∧ Tab wr g m s T (n + 9 + j) ∧ Keep (fun b => b = s) w2 wr ∧ memM T k st (l.drop j) = C) (fun i _ => l.length - (intOf i).toNat)
 case atStart => exact ⟨0, Nat.zero_le _, rfl, by simpa using HT.out, Keep.refl _ _, by rw [List.drop_zero]; exact HC.out.symm⟩
 case round =>
  obtain ⟨j, hj, rfl, htr, hkr, hfd⟩ := hrel
  have HTR := hide htr
  have HFD := hide hfd
  have HKR := hide hkr
  have hb2 := HBK.out.keep hkr (by omega)
  have hkw := HK.out.tr hkr
  clear htr hfd
  by_cases hlt : j < l.length
  ·obtain ⟨bb, o, u, rfl, hu, hc⟩ := (hr2'.keep hkr).at_ j hlt
   obtain rfl : S l[j] = u := by simpa [hlt] using hu
   clear hu hkr
   have hys := HSX.out l[j] (List.getElem_mem hlt)
   have HH : Hid (∀ v, methOf (faceF T l[j]) k = some v → v.st = st → C = some (l[j], v)) := hide (fun v e hs => HFD.out.symm.trans (memM_hit hlt e hs))
   have HN : Hid ((∀ v, methOf (faceF T l[j]) k = some v → v.st ≠ st) → memM T k st (l.drop (j + 1)) = C) := hide (fun e => (memM_skip hlt e).symm.trans HFD.out)
   generalize l[j] = y at *
   have hfa := face_any g m s _ T y wr HTR.out (by omega) hys
   have hFat := HAT.out y
   obtain ⟨Fx, hFx⟩ : ∃ Fx, Fx = faceF T y := ⟨_, rfl⟩
   obtain ⟨Bx, hBx⟩ : ∃ Bx, Bx = (get T y).isSome := ⟨_, rfl⟩
   rw [← hFx] at hfa hFat HH HN
   rw [← hBx] at hfa
   have HFA := hide hfa
   have HFAT := hide hFat
   clear hfa hFat hFx hBx
   go_wp2_with fail
   refine HFA.out.mono ?_
   rintro e w3 ⟨rfl, ht3, hk3⟩
   have hkw3 := hkw.tr hk3
   obtain ⟨w4, hw4⟩ : ∃ w4, w4 = w3.alloc (.cells #[S Fx.n, S Fx.su, .slice Fx.fA Fx.fl Fx.fc, .slice Fx.mA Fx.ml Fx.mc] 43) := ⟨_, rfl⟩
   have hk4 : Keep (fun b => b = s) w w4 := by rw [hw4]; exact hkw3.alloc _
   have ht4 := ht3.alloc (.cells #[S Fx.n, S Fx.su, .slice Fx.fA Fx.fl Fx.fc, .slice Fx.mA Fx.ml Fx.mc] 43)
   rw [← hw4] at ht4
   have hb4 : Blk w4 w.heap.size 55 #[.string { data := #[] }, .bool false, .slice none 0 0, .string { data := #[] }, .bool false] := by rw [hw4]; exact (hb2.keep hk3 (by omega)).alloc _
   have hk24 : Keep (fun b => b = s) w2 w4 := by rw [hw4]; exact (HKR.out.tr hk3).alloc _
   have hff := facemethod_any Fx k w4 ((HFAT.out.below (hk4.below (B := B) (by omega) (fun k hk => by omega))).weak (fun k hk => by have := hk4.size; omega))
   obtain ⟨V, hV⟩ : ∃ V, V = methOf Fx k := ⟨_, rfl⟩
   rw [← hV] at hff HH HN
   have HFF := hide hff
   have HT4 := hide ht4
   have HK4 := hide hk4
   have HB4 := hide hb4
   have HK24 := hide hk24
   clear hff hV ht3 hk3 hkw3 ht4 hk4 hb4 hk24 hb2 hkw
   go_wp2_with fail
   rw [← hw4]
   clear hw4
   refine HFF.out.mono ?_
   rintro e w5 ⟨rfl, hb5⟩
   have hs4 := HT4.out.slt
   have ht5 := HT4.out.below hb5
   have hk5 := HK4.out.tr (keep_s' (s := s) hb5)
   have hk25 := HK24.out.tr (keep_s' (s := s) hb5)
   have hb5b := HB4.out.below hb5 HB4.out.lt
   cases V with
   | some v =>
    by_cases hst : v.st = st
    ·have hC := HH.out _ rfl hst
     subst hC
     clear HH HN HC HFD
     obtain ⟨vn, vs, vA, vk, vc, vps, vt, va⟩ := v
     simp only at hst
     subst hst
     obtain ⟨w6, hw6⟩ : ∃ w6, w6 = w5.alloc (.cells #[S vn, .bool vs, .slice vA vk vc, S vt, .bool va] 55) := ⟨_, rfl⟩
     have hb6 : Blk w6 w.heap.size 55 #[.string { data := #[] }, .bool false, .slice none 0 0, .string { data := #[] }, .bool false] := by rw [hw6]; exact hb5b.alloc _
     have hb7 : Blk w6 w5.heap.size 55 #[S vn, .bool vs, .slice vA vk vc, S vt, .bool va] := by rw [hw6]; exact Blk.new _ _ _
     have ht6 := ht5.alloc (.cells #[S vn, .bool vs, .slice vA vk vc, S vt, .bool va] 55)
     rw [← hw6] at ht6
     have hk6 : Keep (fun b => b = s) w w6 := by rw [hw6]; exact hk5.alloc _
     have HTK := hide (And.intro ht6 hk6)
     have f0 : ∀ i, w6.frozen? ⟨w.heap.size, i, none⟩ = false := hb6.frozen
     have r0 : w6.cell? ⟨w.heap.size, 0, none⟩ = some (.string { data := #[] }) := hb6.cell 0
     have r1 : w6.cell? ⟨w.heap.size, 1, none⟩ = some (.bool false) := hb6.cell 1
     have r2 : w6.cell? ⟨w.heap.size, 2, none⟩ = some (.slice none 0 0) := hb6.cell 2
     have r3 : w6.cell? ⟨w.heap.size, 3, none⟩ = some (.string { data := #[] }) := hb6.cell 3
     have r4 : w6.cell? ⟨w.heap.size, 4, none⟩ = some (.bool false) := hb6.cell 4
     have p0 : w6.cell? ⟨w5.heap.size, 0, none⟩ = some (S vn) := hb7.cell 0
     have p1 : w6.cell? ⟨w5.heap.size, 1, none⟩ = some (.bool vs) := hb7.cell 1
     have p2 : w6.cell? ⟨w5.heap.size, 2, none⟩ = some (.slice vA vk vc) := hb7.cell 2
     have p3 : w6.cell? ⟨w5.heap.size, 3, none⟩ = some (S vt) := hb7.cell 3
     have p4 : w6.cell? ⟨w5.heap.size, 4, none⟩ = some (.bool va) := hb7.cell 4
     clear hb6 hb7 ht6 hk6 ht5 hk5 hk25 hb5b hb5
     cases vs with
     | false =>
      go_wp2_with fail
      rw [← hw6]
      clear hw6
      go_region
      all_goals
       go_wp2_with fail
       refine bodyPost_ret (v := .tuple #[S y, .agg #[S vn, .bool false, .slice vA vk vc, S vt, .bool va], .bool true]) ?_ rfl ?_
       ·simp [results, Tryd.results38, go_sem, r0, r1, r2, r3, r4]
       ·have := set_tab2 hgl (set_tab2 hgl (set_tab2 hgl (set_tab2 hgl (set_tab2 hgl HTK.out (p := ⟨w.heap.size, 0, none⟩) (Nat.le_refl _) (S vn)) (p := ⟨w.heap.size, 1, none⟩) (Nat.le_refl _) (.bool false)) (p := ⟨w.heap.size, 2, none⟩) (Nat.le_refl _) (.slice vA vk vc)) (p := ⟨w.heap.size, 3, none⟩) (Nat.le_refl _) (S vt)) (p := ⟨w.heap.size, 4, none⟩) (Nat.le_refl _) (.bool va)
        exact ⟨rfl, this.1.drew.mono (by omega), this.2.drew⟩
     | true =>
      go_wp2_with fail
      rw [← hw6]
      clear hw6
      go_region
      all_goals
       go_wp2_with fail
       refine bodyPost_ret (v := .tuple #[S y, .agg #[S vn, .bool true, .slice vA vk vc, S vt, .bool va], .bool true]) ?_ rfl ?_
       ·simp [results, Tryd.results38, go_sem, r0, r1, r2, r3, r4]
       ·have := set_tab2 hgl (set_tab2 hgl (set_tab2 hgl (set_tab2 hgl (set_tab2 hgl HTK.out (p := ⟨w.heap.size, 0, none⟩) (Nat.le_refl _) (S vn)) (p := ⟨w.heap.size, 1, none⟩) (Nat.le_refl _) (.bool true)) (p := ⟨w.heap.size, 2, none⟩) (Nat.le_refl _) (.slice vA vk vc)) (p := ⟨w.heap.size, 3, none⟩) (Nat.le_refl _) (S vt)) (p := ⟨w.heap.size, 4, none⟩) (Nat.le_refl _) (.bool va)
        exact ⟨rfl, this.1.drew.mono (by omega), this.2.drew⟩
    ·have HE := hide (HN.out (fun v' hv' => by injection hv' with hv'; rw [← hv']; exact hst))
     obtain ⟨vn, vs, vA, vk, vc, vps, vt, va⟩ := v
     have HTK := hide (And.intro (ht5.alloc (.cells #[S vn, .bool vs, .slice vA vk vc, S vt, .bool va] 55)) (hk25.alloc (.cells #[S vn, .bool vs, .slice vA vk vc, S vt, .bool va] 55)))
     clear HH HN ht5 hk5 hk25 hb5b hb5
     cases vs <;> cases st
     all_goals first
      | exact absurd rfl hst
      | skip
     all_goals
      go_wp2_with fail
      go_roundw
      case rel => exact ⟨j + 1, by omega, by go_num, HTK.out.1.mono (by omega), HTK.out.2, HE.out⟩
      case measure => simp [intOf]; omega
   | none =>
    have HE := hide (HN.out (fun v hv => by cases hv))
    have HTK := hide (And.intro (ht5.alloc (.cells #[.string { data := #[] }, .bool false, .slice none 0 0, .string { data := #[] }, .bool false] 55)) (hk25.alloc (.cells #[.string { data := #[] }, .bool false, .slice none 0 0, .string { data := #[] }, .bool false] 55)))
    clear HH HN ht5 hk5 hk25 hb5b hb5
    go_wp2_with fail
    go_roundw
    case rel => exact ⟨j + 1, by omega, by go_num, HTK.out.1.mono (by omega), HTK.out.2, HE.out⟩
    case measure => simp [intOf]; omega
  ·have hCn : C = none := by
    rw [← HFD.out, List.drop_eq_nil_of_le (by omega)]; rfl
   subst hCn
   have f0 : ∀ i, wr.frozen? ⟨w.heap.size, i, none⟩ = false := hb2.frozen
   have r0 : wr.cell? ⟨w.heap.size, 0, none⟩ = some (.string { data := #[] }) := hb2.cell 0
   have r1 : wr.cell? ⟨w.heap.size, 1, none⟩ = some (.bool false) := hb2.cell 1
   have r2 : wr.cell? ⟨w.heap.size, 2, none⟩ = some (.slice none 0 0) := hb2.cell 2
   have r3 : wr.cell? ⟨w.heap.size, 3, none⟩ = some (.string { data := #[] }) := hb2.cell 3
   have r4 : wr.cell? ⟨w.heap.size, 4, none⟩ = some (.bool false) := hb2.cell 4
   have HTK := hide (And.intro HTR.out hkw)
   clear hb2 hkw hkr HFD HC
   go_wp2_with fail
   refine bodyPost_ret (v := .tuple #[S [], zeroSg.val, .bool false]) ?_ rfl ?_
   ·simp [results, Tryd.results38, go_sem, r0, r1, r2, r3, r4, zeroSg]
   ·have := set_tab2 hgl (set_tab2 hgl (set_tab2 hgl (set_tab2 hgl (set_tab2 hgl HTK.out (p := ⟨w.heap.size, 0, none⟩) (Nat.le_refl _) (S [])) (p := ⟨w.heap.size, 1, none⟩) (Nat.le_refl _) (.bool false)) (p := ⟨w.heap.size, 2, none⟩) (Nat.le_refl _) (.slice none 0 0)) (p := ⟨w.heap.size, 3, none⟩) (Nat.le_refl _) (S [])) (p := ⟨w.heap.size, 4, none⟩) (Nat.le_refl _) (.bool false)
    exact ⟨rfl, this.1.mono (by omega), this.2⟩
end Go.Proofs.YtmbegaobnpoefaaDoor
namespace Go.Proofs.YtmbegaobnpoefaaDoor
open Go.RowKit
def ovr (T : List Fc) (su : List UInt8) (m : Sg) : Bool := match memM T m.n false (up T 20 [] su).1 with
 | some (_, o) => !m.st && !decide (m.p = o.p)
 | none => false
def chkM (T : List Fc) (su : List UInt8) : List Sg → Int
 | [] => 0
 | m :: r => if (m.r :: m.ps).all (knownT T) = true then (if ovr T su m = true then 27 else chkM T su r) else 23
def chkL (T : List Fc) (f : Fc) : List Vr → Int
 | [] => chkM T f.su f.ms
 | v :: r => if knownT T v.t = true then (if (memF T v.n (up T 20 [] f.su).1).isSome = true then 6 else chkL T f r) else 23
def lastOf (l : List (List UInt8)) : List UInt8 := l.getLastD []
def chk (T : List Fc) (nm : List UInt8) : Int :=
 if (get T nm).isSome = true ∧ nm ≠ [] then
  (if (up T 20 [] nm).2 = true then (if twiceB (faceF T nm) = true then 6 else chkL T (faceF T nm) (faceF T nm).fs)
   else if (faceF T (lastOf (up T 20 [] nm).1)).su ∈ (up T 20 [] nm).1 then 26 else 23)
 else 23
theorem up_pos {T : List Fc} {nm : List UInt8} (h : (get T nm).isSome = true) (hn : nm ≠ []) : 0 < (up T 20 [] nm).1.length := by
 have key : ∀ (j : Nat) (out : List (List UInt8)) (x : List UInt8), out.length ≤ (up T j out x).1.length := by
  intro j
  induction j with
  | zero => intro out x; simp [up]
  | succ j ih =>
   intro out x
   unfold up
   split
   ·simp
   ·split
    ·have := ih (out ++ [x]) (faceF T x).su
     simp at this
     omega
    ·simp
 unfold up
 rw [if_neg hn, if_pos ⟨h, by simp⟩]
 have := key 19 ([] ++ [nm]) (faceF T nm).su
 simp at this
 simp
 omega
theorem last_at {l : List (List UInt8)} (h : 0 < l.length) : l[l.length - 1]'(by omega) = lastOf l := by
 unfold lastOf
 rw [List.getLastD_eq_getLast?, List.getLast?_eq_getElem?, List.getElem?_eq_getElem (by omega)]
 rfl
structure Cx (w w' : World) (g m s : Nat) (T : List Fc) (n : Nat) : Prop where
 tab : Tab w' g m s T n
 kp : Keep (fun b => b = s) w w'
section
variable {w w1 w2 : World} {g m s n n' B : Nat} {T : List Fc}
theorem Cx.alloc (h : Cx w w1 g m s T n) (o : Obj) : Cx w (w1.alloc o) g m s T n := ⟨h.tab.alloc o, h.kp.alloc o⟩
theorem Cx.step (h : Cx w w1 g m s T n) (ht : Tab w2 g m s T n') (hk : Keep (fun b => b = s) w1 w2) : Cx w w2 g m s T n' := ⟨ht, h.kp.tr hk⟩
theorem Cx.below (h : Cx w w1 g m s T n) (hb : Below w1.heap.size w1 w2) : Cx w w2 g m s T n := h.step (h.tab.below hb) (keep_s2 hb)
theorem Cx.mono (h : Cx w w1 g m s T n) (hn : n ≤ n') : Cx w w1 g m s T n' := ⟨h.tab.mono hn, h.kp⟩
theorem Cx.bel (h : Cx w w1 g m s T n) (hB : B ≤ s) (hs : B ≤ w.heap.size) : Below B w w1 := h.kp.below hs (fun k hk => by omega)
theorem Cx.faces (h : Cx w w1 g m s T n) (hB : B ≤ s) (hs : B ≤ w.heap.size) (hat : ∀ f ∈ T, f.at_ w (fun k => B ≤ k)) : ∀ f ∈ T, f.at_ w1 (fun k => B ≤ k) := fun f hf => (hat f hf).below (h.bel hB hs)
end
theorem Rd.of_own2 {w : World} {base n size : Nat} {e : TypeId} {A : Option Addr} {c : Nat} {xs : List Value} {F : Nat → Prop} (h : w.ownsRow base e size (.slice A n c) n xs) (hF : ∀ k, base ≤ k → ¬ F k) : Rd w F size A n xs := by
 refine ⟨h.1, fun hn => ?_⟩
 obtain ⟨g, cap, hv, hbg, hlt⟩ := h.form hn
 have hA : A = some ⟨g, 0, none⟩ := by injection hv
 subst hA
 refine ⟨g, 0, rfl, hF g hbg, hlt, fun j u hu => ?_⟩
 have := h.cells (g := g) rfl j u hu
 unfold Addr.add at this
 split at this
 ·rename_i h0; subst h0; simpa using this
 ·simpa using this
theorem known1_any (g m s : Nat) (T : List Fc) (tn : List UInt8) (ta : Bool) (hsh : short tn) (ww : World) (nn : Nat) (h : Tab ww g m s T nn) (hn : nn ≤ 7900000000000000) :
  Calls Tryd.prog 8 #[.pointer (some ⟨g, 0, none⟩), .slice (some ⟨ww.heap.size, 0, none⟩) 1 1] (ww.alloc (.cells #[S tn, .bool ta] 24))
   (fun e w' => e = .returned (.bool (knownT T ⟨tn, ta⟩)) ∧ Tab w' g m s T (nn + 20) ∧ Keep (fun b => b = s) ww w') := by
 have hl := h.slt
 have hb : Blk (ww.alloc (.cells #[S tn, .bool ta] 24)) ww.heap.size 24 #[S tn, .bool ta] := Blk.new _ _ _
 have hr : Rd (ww.alloc (.cells #[S tn, .bool ta] 24)) (fun b => b = s) 2 (some ⟨ww.heap.size, 0, none⟩) 1 ([(⟨tn, ta⟩ : Ty)].flatMap Ty.cells) := Rd.of_blk hb (by omega) rfl
 refine (knownt_any g m s nn T _ 1 1 [⟨tn, ta⟩] _ (h.alloc _) (by omega) hr rfl (by omega) (by simpa using hsh)).mono fun e w' ⟨h1, h2, h3⟩ => ?_
 exact ⟨by rw [h1]; simp, h2.mono (by omega), ((Keep.refl _ _).alloc _).tr h3⟩
end Go.Proofs.YtmbegaobnpoefaaDoor
namespace Go.Proofs.YtmbegaobnpoefaaDoor
open Go.RowKit
theorem fcells {w : World} {g : Nat} {t : TypeId} {x0 x1 x2 x3 : Value} (h : Blk w g t #[x0, x1, x2, x3]) :
  w.cell? ⟨g, 0, none⟩ = some x0 ∧ w.cell? ⟨g, 1, none⟩ = some x1 ∧ w.cell? ⟨g, 2, none⟩ = some x2 ∧ w.cell? ⟨g, 3, none⟩ = some x3 := ⟨h.cell 0, h.cell 1, h.cell 2, h.cell 3⟩
abbrev Fc.arr (f : Fc) : Array Value := #[S f.n, S f.su, .slice f.fA f.fl f.fc, .slice f.mA f.ml f.mc]
theorem ty_info : (Tryd.prog.info? 24).map (fun i => (i.zero, i.size, i.bytes)) = some (some (.agg #[.string { data := #[] }, .bool false]), 2, 24) := by kernel_rfl
theorem ty_one (l : List Ty) : ∀ u ∈ l.flatMap Ty.cells, u.oneCell' = true := by
 intro u hu
 obtain ⟨m, _, hm⟩ := List.mem_flatMap.1 hu
 simp only [Ty.cells, List.mem_cons, List.not_mem_nil, or_false] at hm
 rcases hm with rfl | rfl <;> rfl
theorem cells1 {w : World} {g : Nat} {t : TypeId} {x0 x1 x2 x3 x4 : Value} (h : Blk w g t #[x0, x1, x2, x3, x4]) :
  w.cell? ⟨g, 0, none⟩ = some x0 ∧ w.cell? ⟨g, 1, none⟩ = some x1 ∧ w.cell? ⟨g, 2, none⟩ = some x2 ∧ w.cell? ⟨g, 3, none⟩ = some x3 ∧ w.cell? ⟨g, 4, none⟩ = some x4 := ⟨h.cell 0, h.cell 1, h.cell 2, h.cell 3, h.cell 4⟩
theorem ovr_eq {T : List Fc} {su : List UInt8} {m o : Sg} (h : ∀ x, memM T m.n false (up T 20 [] su).1 = some x → x.2 = o) : ovr T su m = ((memM T m.n false (up T 20 [] su).1).isSome && !m.st && !decide (m.p = o.p)) := by
 unfold ovr
 cases hm : memM T m.n false (up T 20 [] su).1 with
 | none => rfl
 | some x =>
  obtain ⟨c, y⟩ := x
  have : y = o := h _ hm
  subst this
  simp
theorem retF_form2 (C : Option (List UInt8 × Ty)) : ∃ (c tn : List UInt8) (ta : Bool), retF C = .tuple #[S c, .agg #[S tn, .bool ta], .bool C.isSome] := by
 cases C with
 | none => exact ⟨_, _, _, rfl⟩
 | some p => obtain ⟨c, t⟩ := p; exact ⟨_, _, _, rfl⟩
theorem retM_form2 {T : List Fc} {w : World} {F : Nat → Prop} (hat : ∀ f ∈ T, f.at_ w F) (k : List UInt8) (st : Bool) (l : List (List UInt8)) :
  ∃ (c : List UInt8) (o : Sg), retM (memM T k st l) = .tuple #[S c, o.val, .bool (memM T k st l).isSome] ∧ o.at_ w F ∧ ∀ x, memM T k st l = some x → x.2 = o := by
 cases h : memM T k st l with
 | none => exact ⟨_, zeroSg, rfl, ⟨Rd.nil _ _ _ _, rfl, by simp [zeroSg], by simp [short, zeroSg], by simp [Ty.ok, short, zeroSg], by simp [zeroSg]⟩, by simp⟩
 | some p =>
  obtain ⟨c, m⟩ := p
  refine ⟨c, m, rfl, ?_, fun x hx => by injection hx with hx; rw [← hx]⟩
  unfold memM at h
  obtain ⟨c0, _, h2⟩ := List.exists_of_findSome?_eq_some h
  cases hm : methOf (faceF T c0) k with
  | none => rw [hm] at h2; simp at h2
  | some v =>
   rw [hm] at h2
   simp only [Option.bind_some] at h2
   split at h2
   ·injection h2 with h2
    injection h2 with _ h2
    subst h2
    exact (face_at2 hat c0).2.1.2.2.2 v (List.mem_of_find?_eq_some hm)
   ·cases h2
def Fc.fewM (f : Fc) : Prop := f.fl ≤ 12 ∧ f.ml ≤ 13 ∧ f.n.length ≤ 60 ∧ f.su.length ≤ 60 ∧ (∀ v ∈ f.fs, v.few) ∧ ∀ m ∈ f.ms, m.few
theorem face_few {T : List Fc} {nm : List UInt8} (h : ∀ f ∈ T, f.fewM) (hg : (get T nm).isSome = true) : (faceF T nm).fewM := by
 obtain ⟨f, hf⟩ := Option.isSome_iff_exists.1 hg
 unfold faceF
 rw [hf]
 exact h f (get_mem hf).1
set_option maxRecDepth 100000 in
set_option maxHeartbeats 8000000 in
theorem check_any (g m s n B : Nat) (T : List Fc) (nm : List UInt8) (w : World) (h : Tab w g m s T n) (hn : n ≤ 7000000000000000) (hT : T.length ≤ 8) (hs : ∀ f ∈ T, short f.su) (hnm : short nm) (hat : ∀ f ∈ T, f.at_ w (fun k => B ≤ k)) (hBs : B ≤ s) (hBw : B ≤ w.heap.size)
  (hfew : ∀ f ∈ T, f.fewM) :
  Calls Tryd.prog 16 #[.pointer (some ⟨g, 0, none⟩), S nm] w
   (fun e w' => e = .returned (.int .i64 (chk T nm)) ∧ Tab w' g m s T (n + 3000) ∧ Keep (fun b => b = s) w w') := by
 have hsw : s < w.heap.size := h.slt
 have hfa := face_any g m s n T nm w h (by omega) hnm
 obtain ⟨F, hF⟩ : ∃ F, F = faceF T nm := ⟨_, rfl⟩
 obtain ⟨Y, hY⟩ : ∃ Y, Y = (get T nm).isSome := ⟨_, rfl⟩
 rw [← hF, ← hY] at hfa
 obtain ⟨R, hR⟩ : ∃ R, R = chk T nm := ⟨_, rfl⟩
 rw [← hR]
 have HR := hide hR
 have HF := hide hF
 have HY := hide hY
 have HFA := hide hfa
 have HS := hide hs
 have HAT := hide hat
 have HFW := hide hfew
 clear hR hF hY hfa h hs hat hfew
 go_enter Tryd.func16, Tryd.ntmps16
 go_wp2_with fail
 refine HFA.out.mono ?_
 rintro e w1 ⟨rfl, ht1, hk1⟩
 have hC1 : Cx w (w1.alloc (.cells F.arr 43)) g m s T (n + 1) := Cx.alloc ⟨ht1, hk1⟩ _
 have hf1 : Blk (w1.alloc (.cells F.arr 43)) w1.heap.size 43 F.arr := Blk.new _ _ _
 have hs1 : s < w1.heap.size := ht1.slt
 clear ht1 hk1 HFA
 cases Y
 case false =>
  have HX : Hid (R = 23) := hide (by rw [HR.out]; unfold chk; rw [if_neg (fun hh => by rw [← HY.out] at hh; exact absurd hh.1 (by decide))])
  go_wp2_with fail
  go_ret
  exact ⟨by rw [HX.out] <;> rfl, hC1.tab.mono (by omega), hC1.kp⟩
 case true =>
 by_cases e0 : nm = []
 ·have HX : Hid (R = 23) := hide (by rw [HR.out]; unfold chk; rw [if_neg (fun hh => hh.2 e0)])
  subst e0
  go_wp2_with fail
  go_ret
  exact ⟨by rw [HX.out] <;> rfl, hC1.tab.mono (by omega), hC1.kp⟩
 have d0 : (nm == []) = false := by simpa using e0
 have hpos := up_pos HY.out.symm e0
 have HR2 : Hid (R = (if (up T 20 [] nm).2 = true then (if twiceB F = true then 6 else chkL T F F.fs) else if (faceF T (lastOf (up T 20 [] nm).1)).su ∈ (up T 20 [] nm).1 then 26 else 23)) := hide (by
  rw [HR.out, HF.out]; unfold chk; rw [if_pos ⟨HY.out.symm, e0⟩])
 have hus := up_short T HS.out 20 [] nm (by simp) hnm
 have hab : ∀ ww nn, Tab ww g m s T nn → nn ≤ 9000000000000000 → _ := fun ww nn h1 h2 => above_any g m s nn T nm ww h1 h2 hT HS.out hnm
 have hle := up_le T 20 [] nm
 obtain ⟨U, hU⟩ : ∃ U, U = up T 20 [] nm := ⟨_, rfl⟩
 rw [← hU] at hab hpos HR2 hus hle
 obtain ⟨l, q⟩ := U
 simp only [List.length_nil, Nat.zero_add] at hab hpos HR2 hus hle
 have hla := last_at hpos
 have hlm : lastOf l ∈ l := by rw [← hla]; exact List.getElem_mem _
 have hls := hus _ hlm
 obtain ⟨N, hN⟩ : ∃ N, l.length = N + 1 := ⟨l.length - 1, by omega⟩
 rw [hN] at hab
 have HLA : Hid ((l.map S)[N]? = some (S (lastOf l))) := hide (by
  rw [List.getElem?_map, List.getElem?_eq_getElem (by omega)]
  have : l[N]'(by omega) = lastOf l := by rw [← hla]; congr 1; omega
  rw [this]; rfl)
 obtain ⟨la, hlaE⟩ : ∃ la, la = lastOf l := ⟨_, rfl⟩
 have hfl : ∀ ww nn, Tab ww g m s T nn → nn ≤ 10000000000000000 → _ := fun ww nn h1 h2 => face_any g m s nn T (lastOf l) ww h1 h2 hls
 obtain ⟨G, hG⟩ : ∃ G, G = faceF T (lastOf l) := ⟨_, rfl⟩
 obtain ⟨Z, hZ⟩ : ∃ Z, Z = (get T (lastOf l)).isSome := ⟨_, rfl⟩
 rw [← hG, ← hZ] at hfl
 rw [← hG] at HR2
 rw [← hlaE] at hfl HLA
 have HYY : Hid ((get T nm).isSome = true) := hide HY.out.symm
 clear HY
 have HAB := hide hab
 have HFL := hide hfl
 have HN := hide hN
 have hNb : N ≤ 20 := by omega
 clear hU hab hpos hus hla hlm hls hN hlaE hG hZ hfl HR hle hnm
 go_wp2_with fail
 refine (HAB.out _ _ hC1.tab (by omega)).mono ?_
 rintro e w2 ⟨A2, c2, rfl, ht2, hk2, hr2⟩
 have hC2 := hC1.step ht2 hk2
 have hf2 := hf1.keep hk2 (by omega)
 have hsz1 := hf1.lt
 have hR2 : Rd w2 (fun b => b = s) 1 A2 (N + 1) (l.map S) := hr2.weak (fun k _ e => by omega)
 have HRD := hide hR2
 obtain ⟨x, o, rfl, hxs, _, hcl⟩ := hR2.2 (by omega)
 have hlast := hcl N _ HLA.out
 have hn1 : (0 : Int) ≤ (N : Int) := by omega
 have hn2 : (N : Int) < (N : Int) + 1 := by omega
 have hn3 : IntKind.i64.wrap ((N : Int) + 1 - 1) = (N : Int) := by rw [IntKind.wrap_i64]; omega
 clear ht2 hk2 hr2 hR2 hcl HAB hC1 hf1
 go_wp2_with fail
 refine (HFL.out _ _ hC2.tab (by omega)).mono ?_
 rintro e w3 ⟨rfl, ht3, hk3⟩
 have hC3 := hC2.step ht3 hk3
 have hf3 := hf2.keep hk3 (by omega)
 have hg3 : Blk (w3.alloc (.cells G.arr 43)) w3.heap.size 43 G.arr := Blk.new _ _ _
 have hC4 := hC3.alloc (.cells G.arr 43)
 have hf4 := hf3.alloc (.cells G.arr 43)
 have hR4 : Rd (w3.alloc (.cells G.arr 43)) (fun b => b = s) 1 (some ⟨x, o, none⟩) (N + 1) (l.map S) := (HRD.out.keep hk3).alloc _
 have hsz3 := hf3.lt
 clear ht3 hk3 hC3 hf3 hlast HFL hC2 hf2 HRD
 cases q
 case false =>
  have hco := contains_any (some ⟨x, o, none⟩) (N + 1) c2 l G.su (w3.alloc (.cells G.arr 43)) hR4 (by omega)
  obtain ⟨D, hD⟩ : ∃ D, D = decide (G.su ∈ l) := ⟨_, rfl⟩
  rw [← hD] at hco
  have HCO := hide hco
  have HX : Hid (R = if D = true then 26 else 23) := hide (by
   rw [HR2.out, if_neg (by simp), hD]
   by_cases hh : G.su ∈ l
   ·rw [if_pos hh, if_pos (decide_eq_true hh)]
   ·rw [if_neg hh, decide_eq_false hh]; rfl)
  obtain ⟨a0, a1, a2, a3⟩ := fcells hg3
  clear hco hD HR2 hR4
  go_wp2_with fail
  refine HCO.out.mono ?_
  rintro e wz ⟨rfl, hwz⟩
  subst hwz
  cases D
  all_goals
   go_wp2_with fail
   go_ret
   exact ⟨by rw [HX.out] <;> rfl, hC4.tab.mono (by omega), hC4.kp⟩
 case true =>
  have HR3 : Hid (R = if twiceB F = true then 6 else chkL T F F.fs) := hide (by rw [HR2.out, if_pos rfl])
  have hFat : ∀ ww, Below B w ww → F.at_ ww (fun k => B ≤ k) := fun ww hb => by rw [HF.out]; exact face_at2 (fun f hf => (HAT.out f hf).below hb) nm
  have hFew : F.fewM := by rw [HF.out]; exact face_few HFW.out HYY.out
  have HFAT := hide hFat
  have HFEW := hide hFew
  have hb4 := hC4.bel hBs hBw
  have htw := twice_any F (w3.alloc (.cells G.arr 43)) ((hFat _ hb4).weak (fun k hk => by have := hC4.kp.size; omega))
  obtain ⟨D, hD⟩ : ∃ D, D = twiceB F := ⟨_, rfl⟩
  rw [← hD] at htw HR3
  have HTW := hide htw
  obtain ⟨a0, a1, a2, a3⟩ := fcells hf4
  clear hFat hFew htw hD HR2 hR4 hg3
  go_wp2_with fail
  refine HTW.out.mono ?_
  rintro e w5 ⟨rfl, hb5⟩
  have hC5 := hC4.below hb5
  have hf5 := hf4.below hb5 hf4.lt
  clear a0 a1 a2 a3 hb5 hf4 hC4 HTW
  cases D
  case true =>
   have HX : Hid (R = 6) := hide (by rw [HR3.out, if_pos rfl])
   go_wp2_with fail
   go_ret
   exact ⟨by rw [HX.out] <;> rfl, hC5.tab.mono (by omega), hC5.kp⟩
  case false =>
  have HR4 : Hid (R = chkL T F F.fs) := hide (by rw [HR3.out, if_neg (by simp)])
  obtain ⟨fn, fsu, ffA, ffl, ffc, ffs, fmA, fml, fmc, fms⟩ := F
  have hss : short fsu := (HFAT.out w (Below.refl _ _)).2.2.2
  have hff := (HFAT.out w (Below.refl _ _)).1
  have hfm := (HFAT.out w (Below.refl _ _)).2.1
  have hfw := HFEW.out
  simp only [Fc.fewM] at hff hfm hfw
  obtain ⟨hffr, hffl, hffm, hffo⟩ := hff
  obtain ⟨hfmr, hfml, hfmm, hfmo⟩ := hfm
  obtain ⟨hf12, hm12, _, _, _, hmfew⟩ := hfw
  have HFFL := hide hffl
  have HFML := hide hfml
  have HFFO := hide hffo
  have HFMO := hide hfmo
  have HMFEW := hide hmfew
  have hsf : ∀ (k : List UInt8) (ww : World) (nn : Nat), Cx w ww g m s T nn → nn ≤ 7900000000000000 → Calls Tryd.prog 37 #[.pointer (some ⟨g, 0, none⟩), S fsu, S k] ww (fun e w' => e = .returned (retF (memF T k (up T 20 [] fsu).1)) ∧ Tab w' g m s T (nn + 40) ∧ Keep (fun b => b = s) ww w') :=
   fun k ww nn hc hnn => tfield_any g m s nn B T fsu k ww hc.tab (by omega) hT HS.out hss (hc.faces hBs hBw HAT.out) hBs
  have hsm : ∀ (k : List UInt8) (ww : World) (nn : Nat), Cx w ww g m s T nn → nn ≤ 7900000000000000 → Calls Tryd.prog 38 #[.pointer (some ⟨g, 0, none⟩), S fsu, S k, .bool false] ww (fun e w' => e = .returned (retM (memM T k false (up T 20 [] fsu).1)) ∧ Tab w' g m s T (nn + 40) ∧ Keep (fun b => b = s) ww w') :=
   fun k ww nn hc hnn => tmethod_any g m s nn B T fsu k false ww hc.tab (by omega) hT HS.out hss (hc.faces hBs hBw HAT.out) hBs
  have HSF := hide hsf
  have HSM := hide hsm
  clear hffl hfml hffo hfmo hmfew hsf hsm HR3 hss
  obtain ⟨a0, a1, a2, a3⟩ := fcells hf5
  obtain ⟨bf, hbf⟩ : ∃ bf, bf = w1.heap.size := ⟨_, rfl⟩
  have hbs : s < bf := by omega
  rw [← hbf] at hf5 a0 a1 a2 a3
  rw [← hbf]
  clear hbf
  go_wp2_with fail
  clear a0 a1 a2 a3
  go_loopw [69] (fun i wr => ∃ k : Nat, k ≤ ffl ∧ i = .int .i64 k ∧ Cx w wr g m s T (n + 11 + 60 * k) ∧ Blk wr bf 43 #[S fn, S fsu, .slice ffA ffl ffc, .slice fmA fml fmc] ∧ chkL T ⟨fn, fsu, ffA, ffl, ffc, ffs, fmA, fml, fmc, fms⟩ ffs = chkL T ⟨fn, fsu, ffA, ffl, ffc, ffs, fmA, fml, fmc, fms⟩ (ffs.drop k)) (fun i _ => ffl - (intOf i).toNat)
  case atStart => exact ⟨0, Nat.zero_le _, rfl, hC5.mono (by omega), hf5, rfl⟩
  case round =>
   obtain ⟨k, hk, rfl, hC, hfb, hch⟩ := hrel
   have HCH := hide hch
   clear hch
   by_cases hlt : k < ffl
   ·obtain ⟨x, o, rfl, _, _, hcell⟩ := Rd.rec_ (size := 3) (fun _ => rfl) (hffr.below (hC.bel hBs hBw)) HFFL.out k hlt
    have hlk : k < ffs.length := by have := HFFL.out; omega
    have hvo := HFFO.out _ (List.getElem_mem hlk)
    have HD : Hid (ffs.drop k = ffs[k] :: ffs.drop (k + 1)) := hide (List.drop_eq_getElem_cons hlk)
    obtain ⟨v, hv⟩ : ∃ v, v = ffs[k] := ⟨_, rfl⟩
    rw [← hv] at hcell HD hvo
    clear hv
    obtain ⟨vn, vt, va⟩ := v
    have hvs : short vt := hvo.2
    have q0 : wr.cell? ⟨x, o + k * 3, none⟩ = some (S vn) := hcell 0 _ rfl
    have q1 : wr.cell? ⟨x, o + k * 3 + 1, none⟩ = some (S vt) := hcell 1 _ rfl
    have q2 : wr.cell? ⟨x, o + k * 3 + 2, none⟩ = some (.bool va) := hcell 2 _ rfl
    obtain ⟨K, hK⟩ : ∃ K, K = knownT T ⟨vt, va⟩ := ⟨_, rfl⟩
    obtain ⟨M, hM⟩ : ∃ M, M = memF T vn (up T 20 [] fsu).1 := ⟨_, rfl⟩
    have HE : Hid (R = if K = true then (if M.isSome = true then 6 else chkL T ⟨fn, fsu, some ⟨x, o, none⟩, ffl, ffc, ffs, fmA, fml, fmc, fms⟩ (ffs.drop (k + 1))) else 23) := hide (by
     rw [HR4.out, HCH.out, HD.out, hK, hM]; rfl)
    have HE2 : Hid (K = true → M.isSome = false → chkL T ⟨fn, fsu, some ⟨x, o, none⟩, ffl, ffc, ffs, fmA, fml, fmc, fms⟩ ffs = chkL T ⟨fn, fsu, some ⟨x, o, none⟩, ffl, ffc, ffs, fmA, fml, fmc, fms⟩ (ffs.drop (k + 1))) := hide (fun h1 h2 => by
     rw [HCH.out, HD.out]
     show (if knownT T ⟨vt, va⟩ = true then (if (memF T vn (up T 20 [] fsu).1).isSome = true then 6 else _) else 23) = _
     rw [← hK, ← hM, if_pos h1, if_neg (by rw [h2]; simp)])
    have hC1 := hC.alloc (.cells #[S vn, S vt, .bool va] 63)
    have hfb1 := hfb.alloc (.cells #[S vn, S vt, .bool va] 63)
    have hv1 : Blk (wr.alloc (.cells #[S vn, S vt, .bool va] 63)) wr.heap.size 63 #[S vn, S vt, .bool va] := Blk.new _ _ _
    have hkn := known1_any g m s T vt va hvs _ _ hC1.tab (by omega)
    rw [← hK, World.size_alloc] at hkn
    have HKN := hide hkn
    have hse : ∀ (ww : World) (nn : Nat), Cx w ww g m s T nn → nn ≤ 7900000000000000 → _ := HSF.out vn
    obtain ⟨cc, tn, ta, hret⟩ := retF_form2 (memF T vn (up T 20 [] fsu).1)
    rw [hret] at hse
    rw [← hM] at hse
    have HSE := hide hse
    have hsr := hfb.lt
    clear hcell hK hM hkn hse hret hvo hvs
    go_wp2_with fail
    refine HKN.out.mono ?_
    rintro e w2 ⟨rfl, ht2, hk2⟩
    have hC2 := hC1.step ht2 hk2
    have hfb2 := hfb1.keep hk2 (by omega)
    have hv2 := hv1.keep hk2 (by omega)
    have c1 : w2.cell? ⟨bf, 1, none⟩ = some (S fsu) := hfb2.cell 1
    have v0 : w2.cell? ⟨wr.heap.size, 0, none⟩ = some (S vn) := hv2.cell 0
    clear ht2 hk2 hC1 hfb1 hv1 HKN q0 q1 q2
    cases K
    case false =>
     have HX : Hid (R = 23) := hide (by rw [HE.out]; simp)
     go_wp2_with fail
     go_ret
     exact ⟨by rw [HX.out] <;> rfl, hC2.tab.mono (by omega), hC2.kp⟩
    case true =>
     go_wp2_with fail
     refine (HSE.out _ _ hC2 (by omega)).mono ?_
     rintro e w3 ⟨rfl, ht3, hk3⟩
     have hC3 := (hC2.step ht3 hk3).alloc (.cells #[S tn, .bool ta] 24)
     have hfb3 := (hfb2.keep hk3 (by omega)).alloc (.cells #[S tn, .bool ta] 24)
     clear ht3 hk3 hC2 hfb2 hv2 c1 v0 HSE
     obtain ⟨Mi, hMi⟩ : ∃ Mi, Mi = M.isSome := ⟨_, rfl⟩
     rw [← hMi]
     rw [← hMi] at HE HE2
     clear hMi
     cases Mi
     case true =>
      have HX : Hid (R = 6) := hide (by rw [HE.out]; simp)
      go_wp2_with fail
      go_ret
      exact ⟨by rw [HX.out] <;> rfl, hC3.tab.mono (by omega), hC3.kp⟩
     case false =>
      have HZ := hide (HE2.out (by first | rfl | trivial) (by first | rfl | trivial))
      go_wp2_with fail
      go_roundw
      case rel => exact ⟨k + 1, by omega, by go_num, hC3.mono (by omega), hfb3, HZ.out⟩
      case measure => simp [intOf]; omega
   ·have HRM : Hid (R = chkM T fsu fms) := hide (by rw [HR4.out, HCH.out, List.drop_of_length_le (by have := HFFL.out; omega)]; rfl)
    obtain rfl : k = ffl := by omega
    obtain ⟨wB, hwB⟩ : ∃ wB, wB = wr := ⟨_, rfl⟩
    rw [← hwB] at hC hfb
    rw [← hwB]
    clear hwB HCH HR4
    obtain ⟨a0, a1, a2, a3⟩ := fcells hfb
    have hCB : Cx w wB g m s T (n + 800) := hC.mono (by omega)
    clear hC
    go_wp2_with fail
    clear a0 a1 a2 a3
    go_loopw [94] (fun i wr => ∃ j : Nat, j ≤ fml ∧ i = .int .i64 j ∧ Cx w wr g m s T (n + 800 + 60 * j) ∧ Blk wr bf 43 #[S fn, S fsu, .slice ffA k ffc, .slice fmA fml fmc] ∧ chkM T fsu fms = chkM T fsu (fms.drop j)) (fun i _ => fml - (intOf i).toNat)
    case atStart => exact ⟨0, Nat.zero_le _, rfl, hCB, hfb, rfl⟩
    case round =>
     obtain ⟨j, hj, rfl, hC, hfb, hch⟩ := hrel
     have HCH := hide hch
     clear hch
     by_cases hlt2 : j < fml
     ·obtain ⟨x, o, rfl, _, _, hcell⟩ := Rd.rec_ (size := 5) (fun _ => rfl) (hfmr.below (hC.bel hBs hBw)) HFML.out j hlt2
      have hlj : j < fms.length := by have := HFML.out; omega
      have hmw := HFMO.out _ (List.getElem_mem hlj)
      have hmf := HMFEW.out _ (List.getElem_mem hlj)
      have HD : Hid (fms.drop j = fms[j] :: fms.drop (j + 1)) := hide (List.drop_eq_getElem_cons hlj)
      obtain ⟨v, hv⟩ : ∃ v, v = fms[j] := ⟨_, rfl⟩
      rw [← hv] at hcell HD hmw hmf
      clear hv
      obtain ⟨oc, ov, hret, hoat, huniq⟩ := retM_form2 HAT.out v.n false (up T 20 [] fsu).1
      have hoe := ovr_eq huniq
      have hse : ∀ (ww : World) (nn : Nat), Cx w ww g m s T nn → nn ≤ 7900000000000000 → _ := HSM.out v.n
      rw [hret] at hse
      obtain ⟨K, hK⟩ : ∃ K, K = (v.r :: v.ps).all (knownT T) := ⟨_, rfl⟩
      obtain ⟨Mi, hMi⟩ : ∃ Mi, Mi = (memM T v.n false (up T 20 [] fsu).1).isSome := ⟨_, rfl⟩
      obtain ⟨D, hDD⟩ : ∃ D, D = decide (v.p = ov.p) := ⟨_, rfl⟩
      rw [← hMi] at hse
      have HE : Hid (R = if K = true then (if (Mi && !v.st && !D) = true then 27 else chkM T fsu (fms.drop (j + 1))) else 23) := hide (by
       rw [HRM.out, HCH.out, HD.out]
       show (if (v.r :: v.ps).all (knownT T) = true then (if ovr T fsu v = true then 27 else _) else 23) = _
       rw [hK, hMi, hDD, hoe])
      have HE2 : Hid (K = true → (Mi && !v.st && !D) = false → chkM T fsu fms = chkM T fsu (fms.drop (j + 1))) := hide (fun h1 h2 => by
       rw [HCH.out, HD.out]
       show (if (v.r :: v.ps).all (knownT T) = true then (if ovr T fsu v = true then 27 else _) else 23) = _
       rw [← hK, hoe, ← hMi, ← hDD, if_pos h1, if_neg (by rw [h2]; simp)])
      have hpar : ∀ ww nn A' c', Tab ww g m s T nn → nn ≤ 7900000000000000 → Rd ww (fun b => b = s) 2 A' (1 + v.k) ((v.r :: v.ps).flatMap Ty.cells) → Calls Tryd.prog 8 #[.pointer (some ⟨g, 0, none⟩), .slice A' (1 + v.k) c'] ww (fun e w' => e = .returned (.bool K) ∧ Tab w' g m s T (nn + (1 + v.k)) ∧ Keep (fun b => b = s) ww w') := fun ww nn A' c' h1 h2 h3 => by
       rw [hK]
       refine knownt_any g m s nn T A' (1 + v.k) c' (v.r :: v.ps) ww h1 (by omega) h3 (by have := hmw.2.1; simp; omega) (by have := hmf.2.2.1; omega) (fun t ht => ?_)
       rcases List.mem_cons.1 ht with rfl | ht
       ·exact hmw.2.2.2.2.1
       ·exact hmw.2.2.2.2.2 t ht
      have hsame : ∀ ww, Below B w ww → Calls Tryd.prog 27 #[v.val, ov.val] ww (Gives ww (.bool D)) := fun ww hb => by
       have hsz := hb.size
       rw [hDD]
       exact sigsame_any v ov ww ((hmw.below hb).weak (fun k hk => by omega)) ((hoat.below hb).weak (fun k hk => by omega))
      have HPAR := hide hpar
      have HSAME := hide hsame
      have HSE := hide hse
      have hmk : v.k ≤ 10 := hmf.2.2.1
      have HMW := hide hmw
      clear hmw hmf hret hoat huniq hoe hse hK hMi hDD hpar hsame
      obtain ⟨mn, mst, mA, mk, mc, mps, mrn, mra⟩ := v
      simp only at hmk
      have q0 : wr.cell? ⟨x, o + j * 5, none⟩ = some (S mn) := hcell 0 _ rfl
      have q1 : wr.cell? ⟨x, o + j * 5 + 1, none⟩ = some (.bool mst) := hcell 1 _ rfl
      have q2 : wr.cell? ⟨x, o + j * 5 + 2, none⟩ = some (.slice mA mk mc) := hcell 2 _ rfl
      have q3 : wr.cell? ⟨x, o + j * 5 + 3, none⟩ = some (S mrn) := hcell 3 _ rfl
      have q4 : wr.cell? ⟨x, o + j * 5 + 4, none⟩ = some (.bool mra) := hcell 4 _ rfl
      obtain ⟨w2, hw2⟩ : ∃ w2, w2 = (wr.alloc (.cells #[S mn, .bool mst, .slice mA mk mc, S mrn, .bool mra] 55)).alloc (.cells #[S mrn, .bool mra] 24) := ⟨_, rfl⟩
      have hk2 : Keep (fun _ => False) wr w2 := by rw [hw2]; exact ((Keep.refl _ wr).alloc _).alloc _
      have hm2 : Blk w2 wr.heap.size 55 #[S mn, .bool mst, .slice mA mk mc, S mrn, .bool mra] := by rw [hw2]; exact (Blk.new _ _ _).alloc _
      have hown2 : w2.ownsRow (wr.heap.size + 1) 24 2 (.slice (some ⟨wr.heap.size + 1, 0, none⟩) 1 1) 1 [S mrn, .bool mra] := by
       rw [hw2]
       refine ⟨by simp, .inr ⟨wr.heap.size + 1, 1, #[S mrn, .bool mra], rfl, by omega, ?_, by omega, by unfold maxLen; omega, by simp, by simp⟩⟩
       have := heap_alloc_new (wr.alloc (.cells #[S mn, .bool mst, .slice mA mk mc, S mrn, .bool mra] 55)) (.cells #[S mrn, .bool mra] 24)
       rw [World.size_alloc] at this
       exact this
      have hrd2 : Rd w2 (fun k => B ≤ k) 2 mA mk (mps.flatMap Ty.cells) := HMW.out.1.below ((hC.bel hBs hBw).trans (hk2.below (by have := hC.kp.size; omega) (fun k hk => absurd hk id)))
      have hsz2 : wr.heap.size + 1 ≤ w2.heap.size := by rw [hw2]; simp
      rw [hw2] at hown2 hrd2 hsz2
      have hbw := hfb.lt
      have hsr := hC.tab.slt
      clear hcell
      go_wp2_with (at_builtin; refine app_rd rfl (.tmp 101) (.tmp 103) 45 rfl (wr.heap.size + 1) 24 _ 2 24 Tryd.underlying45 ty_info rfl (by decide) (.slice (some ⟨wr.heap.size + 1, 0, none⟩) 1 1) 1 [S mrn, .bool mra] rfl hown2 mA mk mc (mps.flatMap Ty.cells) rfl hrd2 (ty_one _) (by unfold maxLen; omega) (by omega) hsz2 ?_; intro A' c' w3 hown3 hgrow3 _)
      have hgrow3' : w2.grownBy w3 (some (wr.heap.size + 1)) := by rw [hw2]; exact hgrow3
      have hk3 : Keep (fun _ => False) wr w3 := hk2.grown hgrow3' (fun k hk hlt => by injection hk with hk; omega)
      have hC3 := hC.step (hC.tab.keep hk3 id id id) (hk3.mono (fun _ _ h => absurd h id))
      have hfb3 := hfb.keep hk3 id
      have hm3 := hm2.grown hgrow3' (by simp)
      have hrd3 : Rd w3 (fun b => b = s) 2 A' (1 + mk) (((⟨mrn, mra⟩ : Ty) :: mps).flatMap Ty.cells) := Rd.of_own2 (base := wr.heap.size + 1) (e := 24) (c := c') (by simpa using hown3) (fun k hk e => by omega)
      have hpa := HPAR.out w3 _ A' c' hC3.tab (by omega) hrd3
      have HPA := hide hpa
      clear hgrow3 hgrow3' hk3 hk2 hown3 hown2 hrd2 hrd3 hpa hw2 hm2 hC hfb HPAR q0 q1 q2 q3 q4 hsz2
      refine HPA.out.mono ?_
      rintro e w4 ⟨rfl, ht4, hk4⟩
      have hC4 := hC3.step ht4 hk4
      have hfb4 := hfb3.keep hk4 (by omega)
      have hm4 := hm3.keep hk4 (by omega)
      have c1 : w4.cell? ⟨bf, 1, none⟩ = some (S fsu) := hfb4.cell 1
      have m0 : w4.cell? ⟨wr.heap.size, 0, none⟩ = some (S mn) := hm4.cell 0
      clear ht4 hk4 hC3 hfb3 hm3 HPA
      cases K
      case false =>
       have HX : Hid (R = 23) := hide (by rw [HE.out]; simp)
       go_wp2_with fail
       go_ret
       exact ⟨by rw [HX.out] <;> rfl, hC4.tab.mono (by omega), hC4.kp⟩
      case true =>
       go_wp2_with fail
       refine (HSE.out _ _ hC4 (by omega)).mono ?_
       rintro e w5 ⟨rfl, ht5, hk5⟩
       have hC5 := (hC4.step ht5 hk5).alloc (.cells #[S ov.n, .bool ov.st, .slice ov.A ov.k ov.c, S ov.r.n, .bool ov.r.a] 55)
       have hfb5 := (hfb4.keep hk5 (by omega)).alloc (.cells #[S ov.n, .bool ov.st, .slice ov.A ov.k ov.c, S ov.r.n, .bool ov.r.a] 55)
       have hm5 := (hm4.keep hk5 (by omega)).alloc (.cells #[S ov.n, .bool ov.st, .slice ov.A ov.k ov.c, S ov.r.n, .bool ov.r.a] 55)
       obtain ⟨m0', m1', m2', m3', m4'⟩ := cells1 hm5
       clear ht5 hk5 hC4 hfb4 hm4 c1 m0 HSE
       cases Mi
       case false =>
        have HZ := hide (HE2.out (by first | rfl | trivial) (by simp))
        go_wp2_with fail
        go_roundw
        case rel => exact ⟨j + 1, by omega, by go_num, hC5.mono (by omega), hfb5, HZ.out⟩
        case measure => simp [intOf]; omega
       case true =>
        cases mst
        case true =>
         have HZ := hide (HE2.out (by first | rfl | trivial) (by simp))
         go_wp2_with fail
         go_roundw
         case rel => exact ⟨j + 1, by omega, by go_num, hC5.mono (by omega), hfb5, HZ.out⟩
         case measure => simp [intOf]; omega
        case false =>
         have hb5 := hC5.bel hBs hBw
         go_wp2_with fail
         refine (HSAME.out _ hb5).mono ?_
         rintro e w6 ⟨rfl, hb6⟩
         have hC6 := hC5.below hb6
         have hfb6 := hfb5.below hb6 hfb5.lt
         clear hb6 hb5 hC5 hfb5 hm5 m0' m1' m2' m3' m4'
         cases D
         case true =>
          have HZ := hide (HE2.out (by first | rfl | trivial) (by simp))
          go_wp2_with fail
          go_roundw
          case rel => exact ⟨j + 1, by omega, by go_num, hC6.mono (by omega), hfb6, HZ.out⟩
          case measure => simp [intOf]; omega
         case false =>
          have HX : Hid (R = 27) := hide (by rw [HE.out]; simp)
          go_wp2_with fail
          go_ret
          exact ⟨by rw [HX.out] <;> rfl, hC6.tab.mono (by omega), hC6.kp⟩
     ·have HX : Hid (R = 0) := hide (by rw [HRM.out, HCH.out, List.drop_of_length_le (by have := HFML.out; omega)]; rfl)
      go_wp2_with fail
      go_ret
      exact ⟨by rw [HX.out] <;> rfl, hC.tab.mono (by omega), hC.kp⟩
end Go.Proofs.YtmbegaobnpoefaaDoor
