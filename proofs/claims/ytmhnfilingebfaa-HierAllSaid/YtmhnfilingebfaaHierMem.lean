/- Whose field, whose method a class has by a name: the table's walks; no statement of the seat is proved here. -/
import Derived.Test.YtmhnfilingebfaaFaceField
import Derived.Test.YtmhnfilingebfaaHierPage
import Derived.BigRegion
namespace Go.Proofs.Ytmhnfilingebfaa
open Go.RowKit

/-- Whose field, and its type. -/
def memF (T : List Fc) (k : List UInt8) (l : List (List UInt8)) : Option (List UInt8 × Ty) := l.findSome? (fun c => (fieldOf (faceF T c) k).map (fun v => (c, v.t)))
def memM (T : List Fc) (k : List UInt8) (st : Bool) (l : List (List UInt8)) : Option (List UInt8 × Sg) := l.findSome? (fun c => (methOf (faceF T c) k).bind (fun m : Sg => if m.st = st then some (c, m) else none))

def retF : Option (List UInt8 × Ty) → Value
  | some (c, t) => .tuple #[S c, .agg #[S t.n, .bool t.a], .bool true]
  | none => .tuple #[S [], .agg #[S [], .bool false], .bool false]
def retM : Option (List UInt8 × Sg) → Value
  | some (c, m) => .tuple #[S c, m.val, .bool true]
  | none => .tuple #[S [], zeroSg.val, .bool false]

theorem some_skip {α β : Type} {p : α → Option β} {l : List α} {k : Nat} (hk : k < l.length) (h : p l[k] = none) : (l.drop k).findSome? p = (l.drop (k + 1)).findSome? p := by
  rw [List.drop_eq_getElem_cons hk, List.findSome?_cons, h]
theorem some_hit {α β : Type} {p : α → Option β} {l : List α} {k : Nat} {b : β} (hk : k < l.length) (h : p l[k] = some b) : (l.drop k).findSome? p = some b := by
  rw [List.drop_eq_getElem_cons hk, List.findSome?_cons, h]

theorem memF_hit {T : List Fc} {k : List UInt8} {l : List (List UInt8)} {j : Nat} (hj : j < l.length) {v : Vr} (h : fieldOf (faceF T l[j]) k = some v) : memF T k (l.drop j) = some (l[j], v.t) :=
  some_hit (p := fun c => (fieldOf (faceF T c) k).map (fun v : Vr => (c, v.t))) hj (by simp only [h]; rfl)
theorem memF_skip {T : List Fc} {k : List UInt8} {l : List (List UInt8)} {j : Nat} (hj : j < l.length) (h : fieldOf (faceF T l[j]) k = none) : memF T k (l.drop j) = memF T k (l.drop (j + 1)) :=
  some_skip (p := fun c => (fieldOf (faceF T c) k).map (fun v : Vr => (c, v.t))) hj (by simp only [h]; rfl)
theorem memM_hit {T : List Fc} {k : List UInt8} {st : Bool} {l : List (List UInt8)} {j : Nat} (hj : j < l.length) {v : Sg} (h : methOf (faceF T l[j]) k = some v) (hs : v.st = st) : memM T k st (l.drop j) = some (l[j], v) :=
  some_hit (p := fun c => (methOf (faceF T c) k).bind (fun m : Sg => if m.st = st then some (c, m) else none)) hj (by simp only [h, Option.bind_some]; rw [if_pos hs])
theorem memM_skip {T : List Fc} {k : List UInt8} {st : Bool} {l : List (List UInt8)} {j : Nat} (hj : j < l.length) (h : ∀ v, methOf (faceF T l[j]) k = some v → v.st ≠ st) : memM T k st (l.drop j) = memM T k st (l.drop (j + 1)) :=
  some_skip (p := fun c => (methOf (faceF T c) k).bind (fun m : Sg => if m.st = st then some (c, m) else none)) hj (by
    cases hm : methOf (faceF T l[j]) k with
    | none => simp only [Option.bind_none]
    | some v => simp only [Option.bind_some]; rw [if_neg (h v hm)])

theorem face_at2 {w : World} {F : Nat → Prop} {T : List Fc} (h : ∀ f ∈ T, f.at_ w F) (k : List UInt8) : (faceF T k).at_ w F := by
  unfold faceF
  cases hg : get T k with
  | some f => exact h f (get_mem hg).1
  | none => exact ⟨⟨Rd.nil _ _ _ _, rfl, by simp [zeroFc], by simp [zeroFc]⟩, ⟨Rd.nil _ _ _ _, rfl, by simp [zeroFc], by simp [zeroFc]⟩, by simp [short, zeroFc], by simp [short, zeroFc]⟩

theorem keep_s' {w w' : World} {s : Nat} (h : Below w.heap.size w w') : Keep (fun b => b = s) w w' := Keep.of_below h (fun k h1 h2 => by omega)

theorem set_tab2 {w w2 : World} {g m s n : Nat} {T : List Fc} (hlt : g < w.heap.size ∧ m < w.heap.size ∧ s < w.heap.size) (h : Tab w2 g m s T n ∧ Keep (fun b => b = s) w w2) {p : Addr} (hp : w.heap.size ≤ p.block) (u : Value) :
    Tab (w2.setCell p u) g m s T n ∧ Keep (fun b => b = s) w (w2.setCell p u) := set_tab hlt h hp u

set_option maxRecDepth 100000 in
set_option maxHeartbeats 2000000 in
theorem tfield_any (g m s n B : Nat) (T : List Fc) (a k : List UInt8) (w : World) (h : Tab w g m s T n) (hn : n ≤ 800000) (hT : T.length ≤ 8) (hs : ∀ f ∈ T, short f.su) (ha : short a) (hat : ∀ f ∈ T, f.at_ w (fun k => B ≤ k)) (hBs : B ≤ s) :
    Calls Try.prog 24 #[.pointer (some ⟨g, 0, none⟩), S a, S k] w
      (fun e w' => e = .returned (retF (memF T k (up T 20 [] a).1)) ∧ Tab w' g m s T (n + 40) ∧ Keep (fun b => b = s) w w') := by
  obtain ⟨C, hC⟩ : ∃ C, C = memF T k (up T 20 [] a).1 := ⟨_, rfl⟩
  rw [← hC]
  obtain ⟨wA, hwA⟩ : ∃ wA, wA = w.alloc (.cells #[.string { data := #[] }, .bool false] 45) := ⟨_, rfl⟩
  have hTA : Tab wA g m s T n := by rw [hwA]; exact h.alloc _
  have hbA : Below w.heap.size w wA := by rw [hwA]; exact (Below.refl _ _).alloc (Nat.le_refl _) _
  have hbk : Blk wA w.heap.size 45 #[.string { data := #[] }, .bool false] := by rw [hwA]; exact Blk.new _ _ _
  have hup := up_le T 20 [] a
  have hsx := up_short T hs 20 [] a (by simp) ha
  have ho := above_any g m s n T a wA hTA (by omega) hT hs ha
  have hgl : g < w.heap.size ∧ m < w.heap.size ∧ s < w.heap.size := ⟨h.blk.lt, h.faces.lt, h.slt⟩
  have hat2 := face_at2 hat
  obtain ⟨R, hR⟩ : ∃ R, R = up T 20 [] a := ⟨_, rfl⟩
  rw [← hR] at ho hup hC hsx
  obtain ⟨l, q⟩ := R
  simp only at hC hsx
  have HSX := hide hsx
  have HC := hide hC
  have HO := hide ho
  have HAT := hide hat2
  clear hR ho hC hsx hs hat hat2
  simp only [List.length_nil] at hup
  go_enter Try.func24, Try.ntmps24
  go_wp2_with fail
  rw [← hwA]
  refine HO.out.mono ?_
  rintro e w2 ⟨A, c, rfl, ht2, hk2, hr2⟩
  have hk2w := ((Keep.refl (fun b => b = s) w).alloc (.cells #[.string { data := #[] }, .bool false] 45))
  rw [← hwA] at hk2w
  have HT := hide ht2
  have HK := hide (hk2w.trans' hk2 (fun _ _ h => h))
  have HBK := hide (hbk.keep hk2 (by omega))
  have hr2' := hr2.weak (G := fun b => b = s) (fun k _ e => by have := hbA.size; omega)
  clear ht2 hk2 hr2 hk2w hwA hbk hTA
  go_wp2_with fail
  go_loopw [25] (fun i wr => ∃ j : Nat, j ≤ l.length ∧ i = .int .i64 j ∧ Tab wr g m s T (n + 9 + j) ∧ Keep (fun b => b = s) w2 wr ∧ memF T k (l.drop j) = C) (fun i _ => l.length - (intOf i).toNat)
  case atStart => exact ⟨0, Nat.zero_le _, rfl, by simpa using HT.out, Keep.refl _ _, by rw [List.drop_zero]; exact HC.out.symm⟩
  case round =>
    obtain ⟨j, hj, rfl, htr, hkr, hfd⟩ := hrel
    have HTR := hide htr
    have HFD := hide hfd
    have HKR := hide hkr
    have hb2 := HBK.out.keep hkr (by omega)
    have hkw := HK.out.trans' hkr (fun _ _ h => h)
    clear htr hfd
    by_cases hlt : j < l.length
    · obtain ⟨bb, o, u, rfl, hu, hc⟩ := (hr2'.keep hkr).at_ j hlt
      obtain rfl : S l[j] = u := by simpa [hlt] using hu
      clear hu hkr
      have hys := HSX.out l[j] (List.getElem_mem hlt)
      have HH : Hid (∀ v, fieldOf (faceF T l[j]) k = some v → C = some (l[j], v.t)) := hide (fun v e => HFD.out.symm.trans (memF_hit hlt e))
      have HN : Hid (fieldOf (faceF T l[j]) k = none → memF T k (l.drop (j + 1)) = C) := hide (fun e => (memF_skip hlt e).symm.trans HFD.out)
      generalize l[j] = y at *
      have hfa := face_any g m s _ T y wr HTR.out (by omega) hys
      have hFat := HAT.out y
      obtain ⟨Fx, hFx⟩ : ∃ Fx, Fx = faceF T y := ⟨_, rfl⟩
      obtain ⟨Bx, hBx⟩ : ∃ Bx, Bx = (get T y).isSome := ⟨_, rfl⟩
      rw [← hFx] at hfa hFat HH HN
      rw [← hBx] at hfa
      have HFA := hide hfa
      have HFAT := hide hFat
      clear hfa hFat hFx hBx
      go_wp2_with fail
      refine HFA.out.mono ?_
      rintro e w3 ⟨rfl, ht3, hk3⟩
      have hkw3 := hkw.trans' hk3 (fun _ _ h => h)
      obtain ⟨w4, hw4⟩ : ∃ w4, w4 = w3.alloc (.cells #[S Fx.n, S Fx.su, .slice Fx.fA Fx.fl Fx.fc, .slice Fx.mA Fx.ml Fx.mc] 38) := ⟨_, rfl⟩
      have hk4 : Keep (fun b => b = s) w w4 := by rw [hw4]; exact hkw3.alloc _
      have ht4 := ht3.alloc (.cells #[S Fx.n, S Fx.su, .slice Fx.fA Fx.fl Fx.fc, .slice Fx.mA Fx.ml Fx.mc] 38)
      rw [← hw4] at ht4
      have hb4 : Blk w4 w.heap.size 45 #[.string { data := #[] }, .bool false] := by rw [hw4]; exact (hb2.keep hk3 (by omega)).alloc _
      have hk24 : Keep (fun b => b = s) w2 w4 := by rw [hw4]; exact (HKR.out.trans' hk3 (fun _ _ h => h)).alloc _
      have hff := facefield_any Fx k w4 ((HFAT.out.below (hk4.below (B := B) (by omega) (fun k hk => by omega))).weak (fun k hk => by have := hk4.size; omega))
      obtain ⟨V, hV⟩ : ∃ V, V = fieldOf Fx k := ⟨_, rfl⟩
      rw [← hV] at hff HH HN
      have HFF := hide hff
      have HT4 := hide ht4
      have HK4 := hide hk4
      have HB4 := hide hb4
      have HK24 := hide hk24
      clear hff hV ht3 hk3 hkw3 ht4 hk4 hb4 hk24 hb2 hkw
      go_wp2_with fail
      rw [← hw4]
      clear hw4
      refine HFF.out.mono ?_
      rintro e w5 ⟨rfl, hb5⟩
      have hs4 := HT4.out.slt
      have ht5 := HT4.out.below hb5
      have hk5 := HK4.out.trans' (keep_s' (s := s) hb5) (fun _ _ h => h)
      have hk25 := HK24.out.trans' (keep_s' (s := s) hb5) (fun _ _ h => h)
      have hb5b := HB4.out.below hb5 HB4.out.lt
      cases V with
      | some v =>
        obtain ⟨vn, vt, va⟩ := v
        have hC := HH.out _ rfl
        subst hC
        clear HH HN HC HFD
        obtain ⟨w6, hw6⟩ : ∃ w6, w6 = w5.alloc (.cells #[S vt, .bool va] 45) := ⟨_, rfl⟩
        have hb6 : Blk w6 w.heap.size 45 #[.string { data := #[] }, .bool false] := by rw [hw6]; exact hb5b.alloc _
        have hb7 : Blk w6 w5.heap.size 45 #[S vt, .bool va] := by rw [hw6]; exact Blk.new _ _ _
        have ht6 := ht5.alloc (.cells #[S vt, .bool va] 45)
        rw [← hw6] at ht6
        have hk6 : Keep (fun b => b = s) w w6 := by rw [hw6]; exact hk5.alloc _
        have HTK := hide (And.intro ht6.drew hk6.drew)
        have f0 : ∀ i, w6.frozen? ⟨w.heap.size, i, none⟩ = false := hb6.frozen
        have r0 : w6.cell? ⟨w.heap.size, 0, none⟩ = some (.string { data := #[] }) := hb6.cell 0
        have r1 : w6.cell? ⟨w.heap.size, 1, none⟩ = some (.bool false) := hb6.cell 1
        have p0 : w6.cell? ⟨w5.heap.size, 0, none⟩ = some (S vt) := hb7.cell 0
        have p1 : w6.cell? ⟨w5.heap.size, 1, none⟩ = some (.bool va) := hb7.cell 1
        clear hb6 hb7 ht6 hk6 ht5 hk5 hk25 hb5b hb5
        go_wp2_with fail
        rw [← hw6]
        clear hw6
        go_region
        all_goals
          go_wp2_with fail
          refine bodyPost_ret (v := .tuple #[S y, .agg #[S vt, .bool va], .bool true]) ?_ rfl ?_
          · simp [results, Try.results24, go_sem, r0, r1]
          · have := set_tab2 hgl (set_tab2 hgl HTK.out (p := ⟨w.heap.size, 0, none⟩) (Nat.le_refl _) (S vt)) (p := ⟨w.heap.size, 1, none⟩) (Nat.le_refl _) (.bool va)
            exact ⟨rfl, this.1.mono (by omega), this.2⟩
      | none =>
        have HE := hide (HN.out rfl)
        have HTK := hide (And.intro (ht5.alloc (.cells #[.string { data := #[] }, .bool false] 45)) (hk25.alloc (.cells #[.string { data := #[] }, .bool false] 45)))
        clear HH HN ht5 hk5 hk25 hb5b hb5
        go_wp2_with fail
        go_roundw
        case rel => exact ⟨j + 1, by omega, by go_num, HTK.out.1.mono (by omega), HTK.out.2, HE.out⟩
        case measure => simp [intOf]; omega
    · have hCn : C = none := by
        rw [← HFD.out, List.drop_eq_nil_of_le (by omega)]; rfl
      subst hCn
      have f0 : ∀ i, wr.frozen? ⟨w.heap.size, i, none⟩ = false := hb2.frozen
      have r0 : wr.cell? ⟨w.heap.size, 0, none⟩ = some (.string { data := #[] }) := hb2.cell 0
      have r1 : wr.cell? ⟨w.heap.size, 1, none⟩ = some (.bool false) := hb2.cell 1
      have HTK := hide (And.intro HTR.out hkw)
      clear hb2 hkw hkr HFD HC
      go_wp2_with fail
      refine bodyPost_ret (v := .tuple #[S [], .agg #[S [], .bool false], .bool false]) ?_ rfl ?_
      · simp [results, Try.results24, go_sem, r0, r1]
      · have := set_tab2 hgl (set_tab2 hgl HTK.out (p := ⟨w.heap.size, 0, none⟩) (Nat.le_refl _) (S [])) (p := ⟨w.heap.size, 1, none⟩) (Nat.le_refl _) (.bool false)
        exact ⟨rfl, this.1.mono (by omega), this.2⟩
end Go.Proofs.Ytmhnfilingebfaa
