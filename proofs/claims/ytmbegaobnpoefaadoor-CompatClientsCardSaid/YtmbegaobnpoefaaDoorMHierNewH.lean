/- How the table is made, walked; no statement of the seat is proved here. -/
import Derived.Test.YtmbegaobnpoefaaDoorMHierTabH
import Derived.Test.YtmbegaobnpoefaaDoorMOpLaidC
import Derived.Deep.AppendLies
import Derived.Deep.RegionLaw
namespace Go.Proofs.YtmbegaobnpoefaaDoor
open Go.RowKit Go.Maps
set_option maxRecDepth 100000 in
set_option maxHeartbeats 1000000 in
theorem new_any (A : Option Addr) (n c : Nat) (T : List Fc) (w : World) (h : FcsAt w (fun k => w.heap.size ≤ k) A n T) (hn : n ≤ 1000) :
  Calls Tryd.prog 15 #[.slice A n c] w
   (fun e w' => ∃ g m s, e = .returned (.pointer (some ⟨g, 0, none⟩)) ∧ Tab w' g m s T 0 ∧ Below w.heap.size w w' ∧ w.heap.size ≤ g ∧ w.heap.size ≤ m ∧ w.heap.size ≤ s) := by
 obtain ⟨hr, hl, hm, hok⟩ := h
 have HL := hide hl
 have HO := hide hok
 clear hl hok
 have hmm := @run_makeMap Tryd.prog
 obtain ⟨wA, hwA⟩ : ∃ wA, wA = ((w.alloc (.map #[] 0)).alloc (.map #[] 0)).alloc (.cells #[.map (some w.heap.size), .map (some (w.heap.size + 1))] 102) := ⟨_, rfl⟩
 have hbA : Below w.heap.size w wA := by rw [hwA]; exact (((Below.refl _ _).alloc (Nat.le_refl _) _).alloc (by simp) _).alloc (by simp; omega) _
 have hM : MapIs wA w.heap.size 0 [] := by
  rw [hwA]
  refine ((MapIs.made w).of_block (Below.heap_alloc _ _ _ ?_)).of_block (Below.heap_alloc _ _ _ ?_) <;> simp <;> omega
 have hE : ∃ D : DataW Value, wA.ownsMap Tryd.prog 9 heldR (w.heap.size + 1) 0 D := by
  rw [hwA]
  have := World.ownsMap_made (w.alloc (.map #[] 0)) Tryd.prog 9 heldR
  rw [World.size_alloc] at this
  exact ⟨_, this.alloc _⟩
 have hg : Blk wA (w.heap.size + 1 + 1) 102 #[.map (some w.heap.size), .map (some (w.heap.size + 1))] := by
  rw [hwA]
  have := Blk.new ((w.alloc (.map #[] 0)).alloc (.map #[] 0)) 102 #[.map (some w.heap.size), .map (some (w.heap.size + 1))]
  rwa [World.size_alloc, World.size_alloc] at this
 go_enter Tryd.func15, Tryd.ntmps15
 go_wp2_with fail
 rw [← hwA]
 clear hwA hmm
 go_loopw [12] (fun i wr => ∃ k : Nat, k ≤ n ∧ i = .int .i64 k ∧ MapIs wr w.heap.size k (T.take k) ∧ Keep (fun b => b = w.heap.size) wA wr) (fun i _ => n - (intOf i).toNat)
 case atStart => exact ⟨0, Nat.zero_le _, rfl, by rw [List.take_zero]; exact hM, Keep.refl _ _⟩
 case round =>
  obtain ⟨k, hk, rfl, hmk, hkp⟩ := hrel
  have hbr := hbA.trans (hkp.below (B := w.heap.size) hbA.size (fun k hk => by omega))
  by_cases hlt : k < n
  ·obtain ⟨x, o, rfl, hx1, _, hcell⟩ := Rd.rec_ (size := 4) (fun _ => rfl) (hr.below hbr) HL.out k hlt
   have hlk : k < T.length := by have := HL.out; omega
   have hsh := (HO.out _ (List.getElem_mem hlk)).2.2.1
   have HT : Hid (T.take (k + 1) = T.take k ++ [T[k]]) := hide (by rw [List.take_add_one, List.getElem?_eq_getElem hlk]; rfl)
   obtain ⟨f, hf⟩ : ∃ f, f = T[k] := ⟨_, rfl⟩
   rw [← hf] at hcell hsh HT
   clear hf
   have q0 : wr.cell? ⟨x, o + k * 4, none⟩ = some (S f.n) := hcell 0 _ rfl
   have q1 : wr.cell? ⟨x, o + k * 4 + 1, none⟩ = some (S f.su) := hcell 1 _ rfl
   have q2 : wr.cell? ⟨x, o + k * 4 + 2, none⟩ = some (.slice f.fA f.fl f.fc) := hcell 2 _ rfl
   have q3 : wr.cell? ⟨x, o + k * 4 + 3, none⟩ = some (.slice f.mA f.ml f.mc) := hcell 3 _ rfl
   clear hcell
   obtain ⟨wb, hwb⟩ : ∃ wb, wb = wr.alloc (.cells #[S f.n, S f.su, .slice f.fA f.fl f.fc, .slice f.mA f.ml f.mc] 43) := ⟨_, rfl⟩
   have hkb : Keep (fun b => b = w.heap.size) wA wb := by rw [hwb]; exact hkp.alloc _
   have hgb := hg.keep hkb (by omega)
   have d0 : wb.cell? ⟨w.heap.size + 1 + 1, 0, none⟩ = some (.map (some w.heap.size)) := hgb.cell 0
   have hnb : Blk wb wr.heap.size 43 #[S f.n, S f.su, .slice f.fA f.fl f.fc, .slice f.mA f.ml f.mc] := by rw [hwb]; exact Blk.new _ _ _
   have d1 : wb.cell? ⟨wr.heap.size, 0, none⟩ = some (S f.n) := hnb.cell 0
   have d2 : wb.cell? ⟨wr.heap.size, 1, none⟩ = some (S f.su) := hnb.cell 1
   have d3 : wb.cell? ⟨wr.heap.size, 2, none⟩ = some (.slice f.fA f.fl f.fc) := hnb.cell 2
   have d4 : wb.cell? ⟨wr.heap.size, 3, none⟩ = some (.slice f.mA f.ml f.mc) := hnb.cell 3
   have hmb := hmk.of_block (w' := wb) (by rw [hwb]; exact Below.heap_alloc _ _ _ hmk.lt)
   obtain ⟨D, hD, hat⟩ := hmb
   have HD := hide hD
   have HAt := hide hat
   have hkey := key_S hsh
   clear hD hat
   go_wp2_with fail
   rw [← hwb]
   clear hwb q0 q1 q2 q3 hgb hnb
   go_still_tail 7, (by kernel_rfl)
   refine wpList_mapUpdate_own wb.drew rfl _ _ _ 99 rfl 9 43 klaw Tryd.underlying99 heldR w.heap.size k D rfl HD.out.drew (by unfold maxLen; omega) _ _ _ rfl rfl hkey (.held f.val) [] rfl ?_
   intro w2 hown2 hgrow2
   have hk2 : Keep (fun b => b = w.heap.size) wA w2 := hkb.drew.grown hgrow2 (fun k hk _ => by injection hk with hk; exact hk.symm)
   have hm2 : Hid (MapIs w2 w.heap.size (k + 1) (T.take (k + 1))) := hide (by
    rw [HT.out]
    exact ⟨_, hown2, put_is HD.out.isMap HAt.out⟩)
   clear hown2 hgrow2 d0 d1 d2 d3 d4
   go_wp2
   go_roundw
   case rel => exact ⟨k + 1, by omega, by go_num, hm2.out, hk2⟩
   case measure => simp [intOf]; omega
  ·have hTk : T.take k = T := List.take_of_length_le (by have := HL.out; omega)
   have hkn : k = T.length := by have := HL.out; omega
   rw [hTk, hkn] at hmk
   have HM := hide hmk
   have HG := hide (hg.keep hkp (by omega))
   obtain ⟨D, hD⟩ := hE
   have HE := hide (owns_of_block hD (hkp.block _ hD.lt (by omega)))
   clear hmk hTk hkn hM hg hD
   go_wp2
   go_ret
   exact ⟨_, _, _, rfl, ⟨HG.out, HM.out, ⟨D, HE.out⟩, by omega⟩, hbr, by omega, by omega, by omega⟩
end Go.Proofs.YtmbegaobnpoefaaDoor
namespace Go.Proofs.YtmbegaobnpoefaaDoor
open Go.RowKit
set_option maxRecDepth 100000 in
theorem index_any (A : Option Addr) (n c : Nat) (l : List (List UInt8)) (x : List UInt8) (w : World) {F : Nat → Prop} (h : Rd w F 1 A n (l.map S)) (hn : n ≤ 9223372036854775807) :
  Calls Tryd.prog 54 #[.slice A n c, S x] w (fun e w' => w' = w ∧ ∃ j : Int, e = .returned (.int .i64 j) ∧ decide (0 ≤ j) = decide (x ∈ l)) := by
 have HL : Hid (l.length = n) := hide (by have := h.1; simpa using this)
 go_enter Tryd.func54, Tryd.ntmps54
 go_wp2_with fail
 go_loopw [8] (fun i wr => ∃ k : Nat, k ≤ n ∧ i = .int .i64 k ∧ wr = w ∧ (∀ i (hi : i < l.length), i < k → l[i] ≠ x)) (fun i _ => n - (intOf i).toNat)
 case atStart => exact ⟨0, Nat.zero_le _, rfl, rfl, by omega⟩
 case round =>
  obtain ⟨k, hk, rfl, hw, hall⟩ := hrel
  have h' : Rd wr F 1 A n (l.map S) := by rw [hw]; exact h
  have HW := hide hw
  clear hw
  have HA := hide hall
  clear hall
  by_cases hlt : k < n
  ·obtain ⟨b, o, u, rfl, hu, hc⟩ := h'.at_ k hlt
   have hlk : k < l.length := by have := HL.out; omega
   obtain rfl : S l[k] = u := by simpa [hlk] using hu
   clear hu
   obtain ⟨y, hy⟩ : ∃ y, y = l[k] := ⟨_, rfl⟩
   rw [← hy] at hc
   have HY := hide hy
   clear hy
   by_cases e : x = y
   ·subst e
    go_wp2_with fail
    go_ret
    exact ⟨HW.out, _, rfl, by rw [HY.out]; simp⟩
   ·have d : (x == y) = false := by simpa using e
    go_wp2_with fail
    go_roundw
    case rel => exact ⟨k + 1, by omega, by go_num, HW.out, all_step (p := fun z => z ≠ x) HA.out hlk (by rw [← HY.out]; exact Ne.symm e)⟩
    case measure => simp [intOf]; omega
  ·have HN : Hid (∀ z ∈ l, z ≠ x) := hide (all_done HA.out (by have := HL.out; omega))
   clear HA
   go_wp2_with fail
   go_ret
   exact ⟨HW.out, _, rfl, by rw [decide_eq_false (by omega), decide_eq_false (fun hm => HN.out x hm rfl)]⟩
set_option maxRecDepth 100000 in
theorem contains_any (A : Option Addr) (n c : Nat) (l : List (List UInt8)) (x : List UInt8) (w : World) {F : Nat → Prop} (h : Rd w F 1 A n (l.map S)) (hn : n ≤ 9223372036854775807) :
  Calls Tryd.prog 35 #[.slice A n c, S x] w (fun e w' => e = .returned (.bool (decide (x ∈ l))) ∧ w' = w) := by
 obtain ⟨B, hB⟩ : ∃ B, B = decide (x ∈ l) := ⟨_, rfl⟩
 rw [← hB]
 have HB := hide hB
 clear hB
 go_enter Tryd.func35, Tryd.ntmps35
 go_wp2_with fail
 refine (index_any A n c l x w h hn).mono ?_
 rintro e w' ⟨rfl, j, rfl, hj⟩
 rw [← HB.out] at hj
 go_wp2
 go_ret
 exact ⟨by first | rfl | rw [hj], rfl⟩
end Go.Proofs.YtmbegaobnpoefaaDoor
namespace Go.Proofs.YtmbegaobnpoefaaDoor
open Go.RowKit Go.Maps
def up (T : List Fc) : Nat → List (List UInt8) → List UInt8 → List (List UInt8) × Bool
 | 0, out, _ => (out, false)
 | j + 1, out, nm => if nm = [] then (out, true) else if (get T nm).isSome = true ∧ nm ∉ out then up T j (out ++ [nm]) (faceF T nm).su else (out, false)
def lenOf : Value → Nat
 | .slice _ n _ => n
 | _ => 0
theorem nodup_len {α : Type} [DecidableEq α] : ∀ (l m : List α), l.Nodup → (∀ x ∈ l, x ∈ m) → l.length ≤ m.length
 | [], m, _, _ => by simp
 | x :: l, m, hn, hs => by
  have hx : x ∈ m := hs x (by simp)
  obtain ⟨h1, h2⟩ := List.nodup_cons.1 hn
  have := nodup_len l (m.erase x) h2 (fun y hy => (List.mem_erase_of_ne (fun e => h1 (by rw [← e]; exact hy))).2 (hs y (List.mem_cons_of_mem _ hy)))
  rw [List.length_erase_of_mem hx] at this
  have := List.length_pos_of_mem hx
  simp only [List.length_cons]
  omega
theorem len_le_of_nodup {T : List Fc} {l : List (List UInt8)} (hn : l.Nodup) (hs : ∀ x ∈ l, ∃ y ∈ T, y.n = x) : l.length ≤ T.length := by
 have := nodup_len l (T.map Fc.n) hn (fun x hx => by obtain ⟨y, hy, rfl⟩ := hs x hx; exact List.mem_map_of_mem hy)
 simpa using this
theorem Rd.of_own {w : World} {base : Nat} {e : TypeId} {A : Option Addr} {n c : Nat} {xs : List Value} (h : w.ownsRow base e 1 (.slice A n c) n xs) : Rd w (fun b => b < base) 1 A n xs := by
 refine ⟨by simpa using h.1, fun hn => ?_⟩
 obtain ⟨g, cap, hv, hb, hlt⟩ := h.form hn
 injection hv with hA _ hc
 subst hA hc
 refine ⟨g, 0, rfl, by omega, hlt, fun j u hu => ?_⟩
 have := h.cells (g := g) rfl j u hu
 simpa [Addr.add_lit] using this
theorem own_base {w : World} {base : Nat} {e : TypeId} {size n : Nat} {v : Value} {xs : List Value} (h : w.ownsRow base e size v n xs) {k : Nat} (hk : v.ownBlock = some k) : base ≤ k ∧ k < w.heap.size := by
 rcases h.2 with ⟨rfl, _⟩ | ⟨g', cap, cur, rfl, hb, hh, _⟩
 ·simp [Value.ownBlock] at hk
 ·have : g' = k := by simpa [Value.ownBlock] using hk
  subst this
  exact ⟨hb, (Array.getElem?_eq_some_iff.1 hh).1⟩
structure UpRel (w wr : World) (g m s n : Nat) (T : List Fc) (a : List UInt8) (v1 v6 : Value) (l : List (List UInt8)) (nm : List UInt8) : Prop where
 e1 : v1 = S nm
 own : wr.ownsRow w.heap.size 9 1 v6 l.length (l.map S)
 tab : Tab wr g m s T (n + l.length)
 keep : Keep (fun b => b = s) w wr
 eq : up T (20 - l.length) l nm = up T 20 [] a
 nod : l.Nodup
 inT : ∀ x ∈ l, (get T x).isSome = true
 sh : short nm
theorem UpRel.len {w wr : World} {g m s n : Nat} {T : List Fc} {a : List UInt8} {v1 v6 : Value} {l : List (List UInt8)} {nm : List UInt8} (h : UpRel w wr g m s n T a v1 v6 l nm) : l.length ≤ T.length :=
 len_le_of_nodup h.nod (fun x hx => by
  have := h.inT x hx
  obtain ⟨f, hf⟩ := Option.isSome_iff_exists.1 this
  exact ⟨f, (get_mem hf).1, (get_mem hf).2⟩)
theorem Tab.drew {w : World} {g m s n : Nat} {T : List Fc} (h : Tab w g m s T n) : Tab w.drew g m s T n := ⟨h.blk, h.faces, h.seen, h.ne⟩
theorem UpRel.step {w w3 w4 : World} {g m s n : Nat} {T : List Fc} {a : List UInt8} {A : Option Addr} {c : Nat} {l : List (List UInt8)} {nm su : List UInt8} {o : Obj} {g' cap' : Nat}
  (hg0 : g < w.heap.size ∧ m < w.heap.size ∧ s < w.heap.size) (hT : Tab w3 g m s T (n + l.length + 1)) (hk : Keep (fun b => b = s) w w3) (ho : w3.ownsRow w.heap.size 9 1 (.slice A l.length c) l.length (l.map S))
  (hown : w4.ownsRow w.heap.size 9 1 (.slice (some ⟨g', 0, none⟩) (l.length + 1) cap') (l.length + 1) (l.map S ++ [S nm])) (hgrow : ((w3.alloc o).drew).grownBy w4 (Value.slice A l.length c).ownBlock)
  (heq : up T (19 - l.length) (l ++ [nm]) su = up T 20 [] a) (hnod : l.Nodup) (hinT : ∀ x ∈ l, (get T x).isSome = true) (hg : (get T nm).isSome = true) (hm : nm ∉ l) (hsh : short su) :
  UpRel w w4 g m s n T a (S su) (.slice (some ⟨g', 0, none⟩) (l.length + 1) cap') (l ++ [nm]) su := by
 have hl : (l ++ [nm]).length = l.length + 1 := by simp
 have hF : Keep (fun k => (Value.slice A l.length c).ownBlock = some k) (w3.alloc o).drew w4 := (Keep.refl _ _).grown hgrow (fun k hk _ => hk)
 have hfar : ∀ k, k < w.heap.size → ¬ (Value.slice A l.length c).ownBlock = some k := fun k hk h => by have := (own_base ho h).1; omega
 refine ⟨rfl, ?_, ?_, ?_, ?_, ?_, ?_, hsh⟩
 ·rw [hl, List.map_append]; exact hown
 ·rw [hl]
  exact ((hT.alloc o).drew).keep hF (hfar _ hg0.1) (hfar _ hg0.2.1) (hfar _ hg0.2.2)
 ·exact ((hk.alloc o).drew).trans' hF (fun k hk h => absurd h (hfar k hk))
 ·rw [hl, show 20 - (l.length + 1) = 19 - l.length by omega]; exact heq
 ·rw [List.nodup_append]
  exact ⟨hnod, by simp, fun x hx y hy => by rw [List.mem_singleton] at hy; subst hy; rintro rfl; exact hm hx⟩
 ·intro x hx
  rcases List.mem_append.1 hx with h | h
  ·exact hinT x h
  ·rw [List.mem_singleton] at h; subst h; exact hg
set_option maxRecDepth 100000 in
set_option maxHeartbeats 1000000 in
theorem above_any (g m s n : Nat) (T : List Fc) (a : List UInt8) (w : World) (h : Tab w g m s T n) (hn : n ≤ 9000000000000000) (hT : T.length ≤ 8) (hs : ∀ f ∈ T, short f.su) (ha : short a) :
  Calls Tryd.prog 34 #[.pointer (some ⟨g, 0, none⟩), S a] w
   (fun e w' => ∃ A c, e = .returned (.tuple #[.slice A (up T 20 [] a).1.length c, .bool (up T 20 [] a).2]) ∧ Tab w' g m s T (n + 9) ∧ Keep (fun b => b = s) w w' ∧
    Rd w' (fun b => b < w.heap.size) 1 A (up T 20 [] a).1.length ((up T 20 [] a).1.map S)) := by
 obtain ⟨i0, hi0, hz0, hz1, hz2⟩ := info_parts str_info
 obtain ⟨R, hR⟩ : ∃ R, R = up T 20 [] a := ⟨_, rfl⟩
 rw [← hR]
 have HR := hide hR
 clear hR
 have HS := hide hs
 clear hs
 go_enter Tryd.func34, Tryd.ntmps34
 go_wp2_with fail
 go_loopw [1, 6] (fun v1 v6 wr => ∃ l nm, UpRel w wr g m s n T a v1 v6 l nm) (fun _ v6 _ => 20 - lenOf v6)
 case atStart => exact ⟨[], a, rfl, by simpa using World.ownsRow_nil w _ _ 1, h, Keep.refl _ _, rfl, List.nodup_nil, by simp, ha⟩
 case round =>
  obtain ⟨l, nm, hrel⟩ := hrel
  have hlen := hrel.len
  obtain ⟨rfl, hown, htab, hkeep, heq, hnod, hinT, hsh⟩ := hrel
  obtain ⟨A, c, rfl⟩ := own_slice hown
  have hup : 20 - l.length = (19 - l.length) + 1 := by omega
  rw [hup, up] at heq
  by_cases e : nm = []
  ·subst e
   rw [if_pos rfl] at heq
   have hRl : R = (l, true) := HR.out.trans heq.symm
   subst hRl
   have HF := hide (show Tab wr g m s T (n + 9) ∧ Keep (fun b => b = s) w wr ∧ Rd wr (fun b => b < w.heap.size) 1 A l.length (l.map S) from ⟨htab.mono (by omega), hkeep, Rd.of_own hown⟩)
   go_wp2_with fail
   go_ret2
   exact ⟨A, ⟨c, rfl⟩, HF.out⟩
  ·rw [if_neg e] at heq
   have d0 : (nm == []) = false := by simpa using e
   obtain ⟨F, hF⟩ : ∃ F, F = faceF T nm := ⟨_, rfl⟩
   have hFs : short F.su := by
    rw [hF]
    unfold faceF
    cases hg : get T nm with
    | none => simp [zeroFc, short]
    | some f => exact HS.out f (get_mem hg).1
   have hfa := face_any g m s (n + l.length) T nm wr htab (by omega) hsh
   rw [← hF] at heq hfa
   have HF := hide hF
   clear hF
   by_cases hg : (get T nm).isSome = true
   ·rw [hg] at hfa
    have HFA := hide hfa
    clear hfa
    go_wp2_with fail
    refine HFA.out.mono ?_
    rintro e w2 ⟨rfl, ht2, hk2⟩
    have hsw := h.slt
    have hown2 := own_keep hown hk2 (fun k hk hks => by have := (own_base hown hk).1; omega)
    have hkk := hkeep.tr hk2
    have hrd2 : Rd w2 (fun b => b < w.heap.size) 1 A l.length (l.map S) := Rd.of_own hown2
    clear hown hkeep hk2 htab
    by_cases hm : nm ∈ l
    ·rw [if_neg (fun h => h.2 hm)] at heq
     have hRl : R = (l, false) := HR.out.trans heq.symm
     subst hRl
     have d1 : decide (nm ∈ l) = true := by simpa using hm
     have hB2 := (Below.refl w2.heap.size w2).alloc (Nat.le_refl _) (.cells #[S F.n, S F.su, .slice F.fA F.fl F.fc, .slice F.mA F.ml F.mc] 43)
     have HF2 := hide (show Tab (w2.alloc (.cells #[S F.n, S F.su, .slice F.fA F.fl F.fc, .slice F.mA F.ml F.mc] 43)) g m s T (n + 9) ∧ Keep (fun b => b = s) w (w2.alloc (.cells #[S F.n, S F.su, .slice F.fA F.fl F.fc, .slice F.mA F.ml F.mc] 43)) ∧ Rd (w2.alloc (.cells #[S F.n, S F.su, .slice F.fA F.fl F.fc, .slice F.mA F.ml F.mc] 43)) (fun b => b < w.heap.size) 1 A l.length (l.map S)
      from ⟨(ht2.alloc _).mono (by omega), hkk.alloc _, hrd2.alloc _⟩)
     have HC := hide (hrd2.alloc (.cells #[S F.n, S F.su, .slice F.fA F.fl F.fc, .slice F.mA F.ml F.mc] 43))
     clear ht2 hkk hrd2 hown2 hB2
     go_wp2_with fail
     refine (contains_any A _ c l nm _ HC.out (by omega)).mono ?_
     rintro e w3 ⟨rfl, rfl⟩
     go_wp2_with fail
     go_ret2
     exact ⟨A, ⟨c, rfl⟩, HF2.out⟩
    ·rw [if_pos ⟨hg, hm⟩] at heq
     have d1 : decide (nm ∈ l) = false := by simpa using hm
     obtain ⟨wB, hwB⟩ : ∃ wB, wB = w2.alloc (.cells #[S F.n, S F.su, .slice F.fA F.fl F.fc, .slice F.mA F.ml F.mc] 43) := ⟨_, rfl⟩
     have hb3 : Blk wB w2.heap.size 43 #[S F.n, S F.su, .slice F.fA F.fl F.fc, .slice F.mA F.ml F.mc] := by rw [hwB]; exact Blk.new _ _ _
     have ht3 : Tab wB g m s T (n + l.length + 1) := by rw [hwB]; exact ht2.alloc _
     have hk3 : Keep (fun b => b = s) w wB := by rw [hwB]; exact hkk.alloc _
     have hr3 : Rd wB (fun b => b < w.heap.size) 1 A l.length (l.map S) := by rw [hwB]; exact hrd2.alloc _
     have ho3 : wB.ownsRow w.heap.size 9 1 (.slice A l.length c) l.length (l.map S) := by rw [hwB]; exact hown2.alloc _
     have hsz3 : wB.heap.size = w2.heap.size + 1 := by rw [hwB]; simp
     have HC := hide hr3
     have hszw : w.heap.size ≤ w2.heap.size := hkk.size
     clear ht2 hkk hrd2 hown2 hr3
     go_wp2_with fail
     rw [← hwB]
     clear hwB
     refine (contains_any A _ c l nm _ HC.out (by omega)).mono ?_
     rintro e w3 ⟨rfl, rfl⟩
     go_wp2_with fail
     have hoD : ((w3.alloc (.cells #[S nm] 9)).drew).ownsRow w.heap.size 9 1 (.slice A l.length c) l.length (l.map S) := ho3.alloc _
     have hnD : ∀ j u, [S nm][j]? = some u → ((w3.alloc (.cells #[S nm] 9)).drew).cell? ((⟨w2.heap.size + 1, 0, none⟩ : Addr).add j) = some u := by rw [← hsz3]; exact cell_one_new w3 _ _
     have h1c : ∀ u ∈ [S nm], u.oneCell' = true := by intro u hu; rw [List.mem_singleton] at hu; subst hu; rfl
     have hcB : w3.cell? ⟨w2.heap.size, 1, none⟩ = some (S F.su) := hb3.cell 1
     have hcA : ((w3.alloc (.cells #[S nm] 9)).drew).cell? ⟨w2.heap.size, 1, none⟩ = some (S F.su) := (hb3.alloc _).cell 1
     have hne : ∀ w4 : World, ((w3.alloc (.cells #[S nm] 9)).drew).grownBy w4 (Value.slice A l.length c).ownBlock → w4.cell? ⟨w2.heap.size, 1, none⟩ = some (S F.su) := fun w4 hg => by
      have hne : some w2.heap.size ≠ (Value.slice A l.length c).ownBlock := fun h => by
       have := own_blk_ne ho3 hb3 (by decide)
       exact this h.symm
      exact (hg.cell_far ⟨w2.heap.size, 1, none⟩ (by simp; omega) hne).trans hcA
     have HK := hide hk3
     have HT := hide ht3
     have HB := hide hb3
     have HO := hide ho3
     clear hk3 ht3 hb3 ho3
     go_region_law (refine step_append_lies _ rfl (.tmp 25) (.tmp 27) 37 rfl w.heap.size 9 i0 (.string { data := #[] }) 1 16 Tryd.underlying37 hi0 hz0 hz1 hz2 rfl (by decide) _ _ _ rfl hoD ⟨w2.heap.size + 1, 0, none⟩ 1 1 [S nm] rfl rfl hnD h1c (by decide) (by unfold maxLen; omega) (by omega) (by simp; omega) _ rfl ?_; intro g' cap' w4 hown4 hgrow4 _ _; have hcell4 := hne w4 hgrow4)
     all_goals
      have HN := hide (UpRel.step ⟨h.blk.lt, h.faces.lt, h.slt⟩ HT.out HK.out HO.out hown4 hgrow4 heq hnod hinT hg hm hFs)
      clear hown4 hgrow4 hcell4 hoD hnD hcA hne hcB
      simp [go_sem, Act.put]
      go_wp2
      go_roundw
      case rel => exact ⟨l ++ [nm], F.su, HN.out⟩
      case measure => simp [lenOf]; omega
   ·rw [if_neg (fun h => hg h.1)] at heq
    have hg' : (get T nm).isSome = false := by simpa using hg
    rw [hg'] at hfa
    have HFA := hide hfa
    clear hfa
    go_wp2_with fail
    refine HFA.out.mono ?_
    rintro e w2 ⟨rfl, ht2, hk2⟩
    have hsw := h.slt
    have hown2 := own_keep hown hk2 (fun k hk hks => by have := (own_base hown hk).1; omega)
    have hkk := hkeep.tr hk2
    have hrd2 : Rd w2 (fun b => b < w.heap.size) 1 A l.length (l.map S) := Rd.of_own hown2
    have hRl : R = (l, false) := HR.out.trans heq.symm
    subst hRl
    have HF2 := hide (show Tab (w2.alloc (.cells #[S F.n, S F.su, .slice F.fA F.fl F.fc, .slice F.mA F.ml F.mc] 43)) g m s T (n + 9) ∧ Keep (fun b => b = s) w (w2.alloc (.cells #[S F.n, S F.su, .slice F.fA F.fl F.fc, .slice F.mA F.ml F.mc] 43)) ∧ Rd (w2.alloc (.cells #[S F.n, S F.su, .slice F.fA F.fl F.fc, .slice F.mA F.ml F.mc] 43)) (fun b => b < w.heap.size) 1 A l.length (l.map S)
      from ⟨(ht2.alloc _).mono (by omega), hkk.alloc _, hrd2.alloc _⟩)
    clear ht2 hkk hrd2 hown2 hown hkeep hk2 htab
    go_wp2_with fail
    go_ret2
    exact ⟨A, ⟨c, rfl⟩, HF2.out⟩
theorem up_le (T : List Fc) : ∀ (j : Nat) (out : List (List UInt8)) (nm : List UInt8), (up T j out nm).1.length ≤ out.length + j
 | 0, out, nm => by simp [up]
 | j + 1, out, nm => by
  unfold up
  split
  ·simp
  ·split
   ·have := up_le T j (out ++ [nm]) (faceF T nm).su
    rw [List.length_append, List.length_singleton] at this
    omega
   ·simp
set_option maxRecDepth 100000 in
theorem below_any (g m s n : Nat) (T : List Fc) (a b : List UInt8) (w : World) (h : Tab w g m s T n) (hn : n ≤ 9000000000000000) (hT : T.length ≤ 8) (hs : ∀ f ∈ T, short f.su) (ha : short a) :
  Calls Tryd.prog 69 #[.pointer (some ⟨g, 0, none⟩), S a, S b] w
   (fun e w' => e = .returned (.bool (decide (b ∈ (up T 20 [] a).1))) ∧ Tab w' g m s T (n + 9) ∧ Keep (fun b => b = s) w w') := by
 obtain ⟨B, hB⟩ : ∃ B, B = decide (b ∈ (up T 20 [] a).1) := ⟨_, rfl⟩
 rw [← hB]
 have HB := hide hB
 clear hB
 have hup := up_le T 20 [] a
 have ho := above_any g m s n T a w h hn hT hs ha
 obtain ⟨R, hR⟩ : ∃ R, R = up T 20 [] a := ⟨_, rfl⟩
 rw [← hR] at ho hup HB
 obtain ⟨l, q⟩ := R
 clear hR
 simp only [List.length_nil] at hup
 have HO := hide ho
 clear ho
 go_enter Tryd.func69, Tryd.ntmps69
 go_wp2_with fail
 refine HO.out.mono ?_
 rintro e w2 ⟨A, c, rfl, ht2, hk2, hr2⟩
 have HT := hide ht2
 have HK := hide hk2
 clear ht2 hk2
 go_wp2_with fail
 refine (contains_any A _ c l b w2 hr2 (by omega)).mono ?_
 rintro e w3 ⟨rfl, rfl⟩
 rw [← HB.out]
 go_wp2
 go_ret
 exact ⟨rfl, HT.out, HK.out⟩
def common (T : List Fc) (a b : List UInt8) : List UInt8 := ((up T 20 [] a).1.find? (fun x => decide (x ∈ (up T 20 [] b).1))).getD []
theorem find_skip {α : Type} {p : α → Bool} {l : List α} {k : Nat} (hk : k < l.length) (h : p l[k] = false) : (l.drop k).find? p = (l.drop (k + 1)).find? p := by
 rw [List.drop_eq_getElem_cons hk, List.find?_cons, h]
theorem find_hit {α : Type} {p : α → Bool} {l : List α} {k : Nat} (hk : k < l.length) (h : p l[k] = true) : (l.drop k).find? p = some l[k] := by
 rw [List.drop_eq_getElem_cons hk, List.find?_cons, h]
theorem up_short (T : List Fc) (hs : ∀ f ∈ T, short f.su) : ∀ (j : Nat) (out : List (List UInt8)) (nm : List UInt8), (∀ x ∈ out, short x) → short nm → ∀ x ∈ (up T j out nm).1, short x
 | 0, out, nm, h1, h2 => by simpa [up] using h1
 | j + 1, out, nm, h1, h2 => by
  unfold up
  split
  ·exact h1
  ·split
   ·refine up_short T hs j (out ++ [nm]) _ (fun x hx => ?_) ?_
    ·rcases List.mem_append.1 hx with h | h
     ·exact h1 x h
     ·rw [List.mem_singleton] at h; subst h; exact h2
    ·unfold faceF
     cases hg : get T nm with
     | none => simp [zeroFc, short]
     | some f => exact hs f (get_mem hg).1
   ·exact h1
set_option maxRecDepth 100000 in
set_option maxHeartbeats 1000000 in
theorem common_any (g m s n : Nat) (T : List Fc) (a b : List UInt8) (w : World) (h : Tab w g m s T n) (hn : n ≤ 8000000000000000) (hT : T.length ≤ 8) (hs : ∀ f ∈ T, short f.su) (ha : short a) (hb : short b) :
  Calls Tryd.prog 66 #[.pointer (some ⟨g, 0, none⟩), S a, S b] w
   (fun e w' => e = .returned (S (common T a b)) ∧ Tab w' g m s T (n + 200) ∧ Keep (fun b => b = s) w w') := by
 obtain ⟨C, hC⟩ : ∃ C, C = common T a b := ⟨_, rfl⟩
 rw [← hC]
 have hup := up_le T 20 [] a
 have hsx := up_short T hs 20 [] a (by simp) ha
 have ho := above_any g m s n T a w h (by omega) hT hs ha
 have hgl : g < w.heap.size ∧ m < w.heap.size ∧ s < w.heap.size := ⟨h.blk.lt, h.faces.lt, h.slt⟩
 unfold common at hC
 obtain ⟨R, hR⟩ : ∃ R, R = up T 20 [] a := ⟨_, rfl⟩
 rw [← hR] at ho hup hC hsx
 obtain ⟨l, q⟩ := R
 simp only at hC hsx
 have HSX := hide hsx
 have HC := hide hC
 have HO := hide ho
 have HSS := hide hs
 clear hR ho hC hsx hs
 simp only [List.length_nil] at hup
 go_enter Tryd.func66, Tryd.ntmps66
 go_wp2_with fail
 refine HO.out.mono ?_
 rintro e w2 ⟨A, c, rfl, ht2, hk2, hr2⟩
 have HT := hide ht2
 have HK := hide hk2
 have HL : Hid (l.length = l.length) := rfl
 have hr2' := hr2.weak (G := fun b => b = s) (fun k _ e => by omega)
 clear ht2 hk2 hr2
 go_wp2_with fail
 go_loopw [19] (fun i wr => ∃ k : Nat, k ≤ l.length ∧ i = .int .i64 k ∧ Tab wr g m s T (n + 9 + k * 9) ∧ Keep (fun b => b = s) w2 wr ∧ (l.drop k).find? (fun x => decide (x ∈ (up T 20 [] b).1)) = l.find? (fun x => decide (x ∈ (up T 20 [] b).1))) (fun i _ => l.length - (intOf i).toNat)
 case atStart => exact ⟨0, Nat.zero_le _, rfl, by simpa using HT.out, Keep.refl _ _, by simp⟩
 case round =>
  obtain ⟨k, hk, rfl, htr, hkr, hfd⟩ := hrel
  have HTR := hide htr
  have HFD := hide hfd
  clear htr hfd
  by_cases hlt : k < l.length
  ·obtain ⟨bb, o, u, rfl, hu, hc⟩ := (hr2'.keep hkr).at_ k hlt
   obtain rfl : S l[k] = u := by simpa [hlt] using hu
   clear hu
   have hys := HSX.out l[k] (List.getElem_mem hlt)
   have HH : Hid (decide (l[k] ∈ (up T 20 [] b).1) = true → l.find? (fun x => decide (x ∈ (up T 20 [] b).1)) = some l[k]) := hide (fun e => HFD.out.symm.trans (find_hit (p := fun x => decide (x ∈ (up T 20 [] b).1)) hlt e))
   have HN : Hid (decide (l[k] ∈ (up T 20 [] b).1) = false → (l.drop (k + 1)).find? (fun x => decide (x ∈ (up T 20 [] b).1)) = l.find? (fun x => decide (x ∈ (up T 20 [] b).1))) := hide (fun e => (find_skip (p := fun x => decide (x ∈ (up T 20 [] b).1)) hlt e).symm.trans HFD.out)
   generalize l[k] = y at *
   have HKR := hide hkr
   clear hkr
   have hbe := below_any g m s _ T b y wr HTR.out (by omega) hT HSS.out hb
   obtain ⟨B, hB⟩ : ∃ B, B = decide (y ∈ (up T 20 [] b).1) := ⟨_, rfl⟩
   rw [← hB] at hbe HH HN
   have HBE := hide hbe
   clear hB hbe
   go_wp2_with fail
   refine HBE.out.mono ?_
   rintro e w3 ⟨rfl, ht3, hk3⟩
   have HT3 := hide ht3
   have HK3 := hide (HKR.out.tr hk3)
   clear ht3 hk3
   cases B with
   | true =>
    go_wp2
    go_ret
    exact ⟨by rw [HC.out, HH.out (by simp)]; rfl, HT3.out.mono (by omega), HK.out.tr HK3.out⟩
   | false =>
    go_wp2
    go_roundw
    case rel => exact ⟨k + 1, by omega, by go_num, HT3.out.mono (by omega), HK3.out, HN.out (by simp)⟩
    case measure => simp [intOf]; omega
  ·have HNn : Hid (l.find? (fun x => decide (x ∈ (up T 20 [] b).1)) = none) := hide (by
    rw [← HFD.out, List.drop_eq_nil_of_le (by omega)]; rfl)
   have HKR := hide hkr
   clear hkr
   go_wp2
   go_ret
   exact ⟨by rw [HC.out, HNn.out]; rfl, HTR.out.mono (by omega), HK.out.tr HKR.out⟩
end Go.Proofs.YtmbegaobnpoefaaDoor
namespace Go.Proofs.YtmbegaobnpoefaaDoor
def ch (T : List Fc) : Nat → List UInt8 → Option (List (List UInt8))
 | 0, _ => none
 | j + 1, nm => if nm = [] then some [] else if (get T nm).isSome = true then (ch T j (faceF T nm).su).map (nm :: ·) else none
theorem ch_mono (T : List Fc) : ∀ (j : Nat) (nm : List UInt8) (t : List (List UInt8)), ch T j nm = some t → ∀ j', j ≤ j' → ch T j' nm = some t
 | 0, nm, t, h, _, _ => by simp [ch] at h
 | j + 1, nm, t, h, 0, hj => by omega
 | j + 1, nm, t, h, j' + 1, hj => by
  unfold ch at h ⊢
  split
  ·rename_i e; rwa [if_pos e] at h
  ·rename_i e
   rw [if_neg e] at h
   split
   ·rename_i hg
    rw [if_pos hg] at h
    cases hc : ch T j (faceF T nm).su with
    | none => rw [hc] at h; simp at h
    | some u => rw [ch_mono T j _ u hc j' (by omega)]; rw [hc] at h; exact h
   ·rename_i hg
    rw [if_neg hg] at h; simp at h
theorem ch_suffix (T : List Fc) : ∀ (p : List (List UInt8)) (j : Nat) (nm x : List UInt8) (q : List (List UInt8)), ch T j nm = some (p ++ x :: q) → ∃ j', j' ≤ j ∧ ch T j' x = some (x :: q)
 | _, 0, nm, x, q, h => by simp [ch] at h
 | [], j + 1, nm, x, q, h => by
  have h0 := h
  unfold ch at h
  split at h
  ·simp at h
  ·split at h
   ·cases hc : ch T j (faceF T nm).su with
    | none => rw [hc] at h; simp at h
    | some u =>
     rw [hc] at h
     simp at h
     obtain ⟨rfl, rfl⟩ := h
     exact ⟨j + 1, Nat.le_refl _, h0⟩
   ·simp at h
 | y :: p, j + 1, nm, x, q, h => by
  unfold ch at h
  split at h
  ·simp at h
  ·split at h
   ·cases hc : ch T j (faceF T nm).su with
    | none => rw [hc] at h; simp at h
    | some u =>
     rw [hc] at h
     simp at h
     obtain ⟨rfl, rfl⟩ := h
     obtain ⟨j', hj, hx⟩ := ch_suffix T p j _ x q hc
     exact ⟨j', by omega, hx⟩
   ·simp at h
theorem up_ch (T : List Fc) : ∀ (j : Nat) (out : List (List UInt8)) (nm : List UInt8), (up T j out nm).2 = true → out.Nodup → ∃ t, ch T j nm = some t ∧ (up T j out nm).1 = out ++ t ∧ (out ++ t).Nodup
 | 0, out, nm, h, _ => by simp [up] at h
 | j + 1, out, nm, h, hn => by
  unfold up at h ⊢
  unfold ch
  split at h
  ·rename_i e
   rw [if_pos e, if_pos e]
   exact ⟨[], rfl, by simp, by simpa using hn⟩
  ·rename_i e
   rw [if_neg e, if_neg e]
   split at h
   ·rename_i hg
    rw [if_pos hg, if_pos hg.1]
    obtain ⟨t, h1, h2, h3⟩ := up_ch T j (out ++ [nm]) _ h (by
     rw [List.nodup_append]
     exact ⟨hn, by simp, fun x hx y hy => by rw [List.mem_singleton] at hy; subst hy; rintro rfl; exact hg.2 hx⟩)
    exact ⟨nm :: t, by rw [h1]; rfl, by rw [h2]; simp, by simpa using h3⟩
   ·simp at h
theorem whole_ch {T : List Fc} {a : List UInt8} (h : (up T 20 [] a).2 = true) : ch T 20 a = some (up T 20 [] a).1 ∧ (up T 20 [] a).1.Nodup := by
 obtain ⟨t, h1, h2, h3⟩ := up_ch T 20 [] a h List.nodup_nil
 rw [List.nil_append] at h2 h3
 rw [h2]
 exact ⟨h1, h3⟩
theorem common_mem {T : List Fc} {a b : List UInt8} (h : common T a b ≠ []) : common T a b ∈ (up T 20 [] a).1 ∧ common T a b ∈ (up T 20 [] b).1 := by
 unfold common at h ⊢
 cases hf : (up T 20 [] a).1.find? (fun x => decide (x ∈ (up T 20 [] b).1)) with
 | none => rw [hf] at h; exact absurd rfl h
 | some x =>
  have h1 := List.mem_of_find?_eq_some hf
  have h2 := List.find?_some hf
  exact ⟨h1, by simpa using h2⟩
end Go.Proofs.YtmbegaobnpoefaaDoor
namespace Go.Proofs.YtmbegaobnpoefaaDoor
open Go.RowKit
end Go.Proofs.YtmbegaobnpoefaaDoor
