/- Whose a method is that a class has: the linker's walk; no statement of the seat is proved here. (Written by gen/vlink.py.) -/
import Derived.Test.YtmbegaobnpoefaaDoorMTk
import Derived.Test.YtmbegaobnpoefaaDoorMHierTwiceH
import Derived.Test.YtmbegaobnpoefaaDoorMClsM2
import Derived.Test.YtmbegaobnpoefaaDoorMHierTabH
import Derived.Deep.RegionHeld3
namespace Go.Proofs.YtmbegaobnpoefaaDoor
open Go.RowKit Go.Maps
set_option linter.unusedVariables false
set_option linter.unusedSimpArgs false
def fitM (T : List Fc) (m : Sg) (c : List UInt8) : Bool := (methOf (faceF T c) m.n).isSome && decide (((methOf (faceF T c) m.n).getD zeroSg).p = m.p)
def findM (T : List Fc) (m : Sg) (l : List (List UInt8)) : Option (List UInt8) := l.find? (fitM T m)
set_option maxRecDepth 100000 in
set_option maxHeartbeats 4000000 in
theorem find_any (gi g m s n B : Nat) (T : List Fc) (x : Mt) (Fm Nm : Value) (w : World) (hi : Blk w gi 39 #[.pointer (some ⟨g, 0, none⟩), Fm, Nm]) (h : Tab w g m s T n) (hn : n ≤ 8000000000000000) (hT : T.length ≤ 8) (hs : ∀ f ∈ T, short f.su) (hx : x.at_ w (fun k => B ≤ k)) (hat : ∀ f ∈ T, f.at_ w (fun k => B ≤ k)) (hBs : B ≤ s) (hBw : B ≤ w.heap.size) :
  Calls Tryd.prog 39 #[.pointer (some ⟨gi, 0, none⟩), x.val] w
   (fun e w' => e = .returned (.tuple #[S ((findM T x.m (up T 20 [] x.c).1).getD []), .bool (findM T x.m (up T 20 [] x.c).1).isSome]) ∧ Tab w' g m s T (n + 40) ∧ Keep (fun b => b = s) w w') := by
 obtain ⟨w1, hw1⟩ : ∃ y, y = w.alloc (.cells #[S x.m.n, .bool x.m.st, .slice x.m.A x.m.k x.m.c, S x.m.r.n, .bool x.m.r.a, S x.c] 95) := ⟨_, rfl⟩
 obtain ⟨b3, hb3⟩ : ∃ y, y = w.heap.size := ⟨_, rfl⟩
 have HXB : Hid (Blk w1 b3 95 #[S x.m.n, .bool x.m.st, .slice x.m.A x.m.k x.m.c, S x.m.r.n, .bool x.m.r.a, S x.c]) := hide (by rw [hw1, hb3]; exact Blk.new _ _ _)
 have hbl : Below w.heap.size w w1 := by rw [hw1]; exact (Below.refl _ _).alloc (Nat.le_refl _) _
 have HB1 := hide hbl
 have HT := hide (h.below hbl)
 have HIM := hide (hi.below hbl hi.lt)
 have hslt := h.slt
 have hil := hi.lt
 have hgs : gi ≠ s := by obtain ⟨D, hD⟩ := h.seen; exact blk_map_ne hi hD
 have hx1 : x.at_ w1 (fun k => B ≤ k) := hx.below (hbl.mono hBw)
 have hat1 : ∀ f ∈ T, f.at_ w1 (fun k => B ≤ k) := fun f hf => (hat f hf).below (hbl.mono hBw)
 have HX := hide hx1
 have hat2 := face_at2 hat1
 have HAT := hide hat2
 have hsh : short x.m.n := hx.1.2.2.2.1
 have hsc : short x.c := hx.2
 have hb3e : w.heap.size ≤ b3 ∧ b3 < w1.heap.size := ⟨by omega, HXB.out.lt⟩
 have hup := up_le T 20 [] x.c
 have hsx := up_short T hs 20 [] x.c (by simp) hsc
 have ho := fun ww (ht : Tab ww g m s T n) => above_any g m s n T x.c ww ht (by omega) hT hs hsc
 obtain ⟨R, hR⟩ : ∃ R, R = findM T x.m (up T 20 [] x.c).1 := ⟨_, rfl⟩
 rw [← hR]
 obtain ⟨U, hU⟩ : ∃ R, R = up T 20 [] x.c := ⟨_, rfl⟩
 rw [← hU] at ho hup hR hsx
 obtain ⟨l, qq⟩ := U
 simp only at hR hsx
 simp only [List.length_nil] at hup
 have HSX := hide hsx
 have HRR := hide hR
 have HOO := hide ho
 clear hR hU ho hsx hs hat hat1 hat2 hx hx1 h hi hbl
 go_enter Tryd.func39, Tryd.ntmps39
 go_upto_region 1 with fail
 rw [show (w.alloc (.cells #[.string { data := x.m.n.toArray }, .bool x.m.st, .slice x.m.A x.m.k x.m.c, .string { data := x.m.r.n.toArray }, .bool x.m.r.a, .string { data := x.c.toArray }] 95)) = w1 from hw1.symm]
 rw [← hb3]
 clear hw1 hb3
 have HS : Hid (∀ w', Keep (fun b => b = s) w1 w' → w'.cell? ⟨gi, 0, none⟩ = some (.pointer (some ⟨g, 0, none⟩)) ∧ w'.cell? ⟨b3, 5, none⟩ = some (S x.c)) := hide (fun w' hk => by
  have t0 := HIM.out.keep hk hgs
  have t1 := HXB.out.keep hk (by show ¬ b3 = s; omega)
  exact ⟨t0.cell 0, t1.cell 5⟩
  )
 have HR : Hid (Keep (fun b => b = s) w1 w1.drew) := hide (Keep.refl _ _).drew
 replace HT := hide HT.out.drew
 refine wp_region_noPanic ?_
 refine tkB HS HR.out (fun hHeld => ?_)
 obtain ⟨w2, hw2⟩ : ∃ x, x = w1.drew := ⟨_, rfl⟩
 rw [← hw2] at hHeld HR HT ⊢
 clear hw2
 have HO := hide (HOO.out _ HT.out)
 clear HOO
 have hw2 := HR.out.size
 refine tkL 0 ?_ ?_ ?_
 rotate_left
 ·(rintro wS ⟨e0, e1⟩; go_simp; try with_reducible rfl)
 try simp only [sP]
 refine tkL 1 ?_ ?_ ?_
 rotate_left
 ·(rintro wS ⟨e0, e1⟩; go_simp; try with_reducible rfl)
 try simp only [sP]
 refine tkL 2 ?_ ?_ ?_
 rotate_left
 ·(rintro wS ⟨e0, e1⟩; go_simp; try with_reducible rfl)
 try simp only [sP]
 refine tkL 3 ?_ ?_ ?_
 rotate_left
 ·(rintro wS ⟨e0, e1⟩; go_simp; try with_reducible rfl)
 try simp only [sP]
 refine tkL 4 ?_ ?_ ?_
 rotate_left
 ·(rintro wS ⟨e0, e1⟩; go_simp; try with_reducible rfl)
 try simp only [sP]
 refine tkL 5 ?_ ?_ ?_
 rotate_left
 ·(rintro wS ⟨e0, e1⟩; go_simp; try with_reducible rfl)
 try simp only [sP]
 refine tkC 6 (fun K hK => ?_)
 try rw [if_pos (by rfl)]
 go_simp
 go_at_call 34
 refine HO.out.mono ?_
 rintro e w3 ⟨A, c, rfl, ht3, hk3, hr3⟩
 replace HR := hide (HR.out.tr hk3)
 have HT3 := hide ht3
 have HR3 := hide hr3
 clear ht3 hk3 hr3 HO HT
 try go_wp2_with fail
 refine hK.out _ _ (HS.out _ HR.out) (fun hHeld => ?_)
 clear hK K
 try simp only [sP]
 refine tkL 7 ?_ ?_ ?_
 rotate_left
 ·(rintro wS ⟨e0, e1⟩; go_simp; try with_reducible rfl)
 try simp only [sP]
 refine tkL 8 ?_ ?_ ?_
 rotate_left
 ·(rintro wS ⟨e0, e1⟩; go_simp; try with_reducible rfl)
 try simp only [sP]
 refine tkL 9 ?_ ?_ ?_
 rotate_left
 ·(rintro wS ⟨e0, e1⟩; go_simp; try with_reducible rfl)
 try simp only [sP]
 refine tkL 10 ?_ ?_ ?_
 rotate_left
 ·(rintro wS ⟨e0, e1⟩; go_simp; try with_reducible rfl)
 try simp only [sP]
 refine tkL 11 ?_ ?_ ?_
 rotate_left
 ·(rintro wS ⟨e0, e1⟩; go_simp; try with_reducible rfl)
 try simp only [sP]
 refine wpAnyH_done (by kernel_rfl) ?_ _
 refine NoPanic.normal ?_
 have HIM3 := hide (HIM.out.keep HR.out hgs)
 have HXB3 := hide (HXB.out.keep HR.out (by omega))
 have HRD : Hid (Rd w3 (fun b => b = s) 1 A l.length (l.map S)) := hide (HR3.out.weak (fun k _ e => by omega))
 have HK3 := HR
 clear HIM HXB HS HR HR3 hw2
 go_wp2_with fail
 go_loopw [26] (fun i wr => ∃ j : Nat, j ≤ l.length ∧ i = .int .i64 j ∧ Hid (Tab wr g m s T (n + 9 + j)) ∧ Hid (Keep (fun b => b = s) w3 wr) ∧ Hid (findM T x.m (l.drop j) = R)) (fun i _ => l.length - (intOf i).toNat)
 case atStart => exact ⟨0, Nat.zero_le _, rfl, hide (by simpa using HT3.out), hide (Keep.refl _ _), hide (by rw [List.drop_zero]; exact HRR.out.symm)⟩
 case round =>
  obtain ⟨j, hj, rfl, HTR, HKR, HFD⟩ := hrel
  clear HT3
  have HIMr := hide (HIM3.out.keep HKR.out hgs)
  have HXBr := hide (HXB3.out.keep HKR.out (by omega))
  have HKW : Hid (Keep (fun b => b = s) w1 wr) := hide (HK3.out.tr HKR.out)
  have hwrs := HKW.out.size
  by_cases hlt : j < l.length
  case neg =>
   have hRn : R = none := by rw [← HFD.out, List.drop_eq_nil_of_le (by omega)]; rfl
   subst hRn
   go_wp2_with fail
   go_ret2
   exact ⟨rfl, HTR.out.mono (by omega), (Keep.of_below (F := fun b => b = s) HB1.out (fun k h1 h2 => by omega)).tr HKW.out⟩
  case pos =>
   obtain ⟨bb, o, u, rfl, hu, hc⟩ := (HRD.out.keep HKR.out).at_ j hlt
   obtain rfl : S l[j] = u := by simpa [hlt] using hu
   clear hu
   have hys := HSX.out l[j] (List.getElem_mem hlt)
   have HH : Hid (fitM T x.m l[j] = true → R = some l[j]) := hide (fun e => HFD.out.symm.trans (drop_hit hlt e))
   have HN : Hid (fitM T x.m l[j] = false → findM T x.m (l.drop (j + 1)) = R) := hide (fun e => (drop_skip hlt e).symm.trans HFD.out)
   generalize l[j] = y at *
   have hfa := face_any g m s _ T y wr HTR.out (by omega) hys
   have hFat := HAT.out y
   obtain ⟨V, hV⟩ : ∃ V, V = methOf (faceF T y) x.m.n := ⟨_, rfl⟩
   have HFI : Hid (fitM T x.m y = (V.isSome && decide ((V.getD zeroSg).p = x.m.p))) := hide (by rw [hV]; rfl)
   have hVat : ∀ v, V = some v → v.at_ w1 (fun k => B ≤ k) := fun v hv => hFat.2.1.2.2.2 v (List.mem_of_find?_eq_some (hV.symm.trans hv))
   obtain ⟨Fx, hFx⟩ : ∃ Fx, Fx = faceF T y := ⟨_, rfl⟩
   obtain ⟨Bx, hBx⟩ : ∃ Bx, Bx = (get T y).isSome := ⟨_, rfl⟩
   rw [← hFx] at hfa hFat hV
   rw [← hBx] at hfa
   have HFA := hide hfa
   have HFAT := hide hFat
   have HVA := hide hVat
   have HVV := hide (fun _ : Unit => hV)
   clear hfa hFat hFx hBx hVat hV
   have i0 : wr.cell? ⟨gi, 0, none⟩ = some (.pointer (some ⟨g, 0, none⟩)) := HIMr.out.cell 0
   go_upto_region 6 with (go_at_call 24; refine HFA.out.mono ?_; rintro e w4 ⟨rfl, ht4, hk4⟩; have HT4 := hide ht4; have HK4 := hide hk4; clear ht4 hk4)
   obtain ⟨w5, hw5⟩ : ∃ y, y = w4.alloc (.cells #[S Fx.n, S Fx.su, .slice Fx.fA Fx.fl Fx.fc, .slice Fx.mA Fx.ml Fx.mc] 43) := ⟨_, rfl⟩
   obtain ⟨r10, hr10⟩ : ∃ y, y = w4.heap.size := ⟨_, rfl⟩
   have hb5 : Below w4.heap.size w4 w5 := by rw [hw5]; exact (Below.refl _ _).alloc (Nat.le_refl _) _
   have HF5 : Hid (Blk w5 r10 43 #[S Fx.n, S Fx.su, .slice Fx.fA Fx.fl Fx.fc, .slice Fx.mA Fx.ml Fx.mc]) := hide (by rw [hw5, hr10]; exact Blk.new _ _ _)
   have HT5 := hide (HT4.out.below hb5)
   have HK5 : Hid (Keep (fun b => b = s) wr w5) := hide (HK4.out.tr (keep_s' (s := s) hb5))
   have hw4s := HK4.out.size
   rw [show (w4.alloc (.cells #[.string { data := Fx.n.toArray }, .string { data := Fx.su.toArray }, .slice Fx.fA Fx.fl Fx.fc, .slice Fx.mA Fx.ml Fx.mc] 43)) = w5 from hw5.symm]
   rw [← hr10]
   clear hw5 hr10 hb5 HT4 HK4 i0 hc HFA
   have hk15 : Keep (fun b => b = s) w1 w5 := HKW.out.tr HK5.out
   have HFF : Hid (Calls Tryd.prog 9 #[Fx.val, S x.m.n] w5 (fun e w' => e = .returned (.tuple #[(V.getD zeroSg).val, .bool V.isSome]) ∧ Below w5.heap.size w5 w')) := hide (by rw [HVV.out ()]; exact facemethod_any Fx x.m.n w5 ((HFAT.out.below (hk15.below (B := B) (by omega) (fun k hk => by omega))).weak (fun k hk => by have := hk15.size; omega)))
   have HK15 := hide hk15
   clear hk15
   have HXB5 := hide (HXBr.out.keep HK5.out (by omega))
   have f0 : w5.cell? ⟨r10, 0, none⟩ = some (S Fx.n) := HF5.out.cell 0
   have f1 : w5.cell? ⟨r10, 1, none⟩ = some (S Fx.su) := HF5.out.cell 1
   have f2 : w5.cell? ⟨r10, 2, none⟩ = some (.slice Fx.fA Fx.fl Fx.fc) := HF5.out.cell 2
   have f3 : w5.cell? ⟨r10, 3, none⟩ = some (.slice Fx.mA Fx.ml Fx.mc) := HF5.out.cell 3
   have x0 : w5.cell? ⟨b3, 0, none⟩ = some (S x.m.n) := HXB5.out.cell 0
   go_upto_region 7 with (go_at_call 9; refine HFF.out.mono ?_; rintro e w6 ⟨rfl, hb6⟩; have HB6 := hide hb6; clear hb6)
   obtain ⟨vs, hvs⟩ : ∃ y, y = V.getD zeroSg := ⟨_, rfl⟩
   have HVS := hide (fun _ : Unit => hvs)
   rw [← hvs]
   clear hvs
   obtain ⟨w7, hw7⟩ : ∃ y, y = w6.alloc (.cells #[S vs.n, .bool vs.st, .slice vs.A vs.k vs.c, S vs.r.n, .bool vs.r.a] 55) := ⟨_, rfl⟩
   obtain ⟨r12, hr12⟩ : ∃ y, y = w6.heap.size := ⟨_, rfl⟩
   have hb7 : Below w6.heap.size w6 w7 := by rw [hw7]; exact (Below.refl _ _).alloc (Nat.le_refl _) _
   have HB7 : Hid (Below w5.heap.size w5 w7) := hide (HB6.out.trans (hb7.mono HB6.out.size))
   have HT7 := hide (HT5.out.below HB7.out)
   have HK7 : Hid (Keep (fun b => b = s) wr w7) := hide (HK5.out.tr (keep_s' (s := s) HB7.out))
   have HXB7 := hide (HXB5.out.below HB7.out HXB5.out.lt)
   have HS7 : Hid (Blk w7 r12 55 #[S vs.n, .bool vs.st, .slice vs.A vs.k vs.c, S vs.r.n, .bool vs.r.a]) := hide (by rw [hw7, hr12]; exact Blk.new _ _ _)
   rw [show (w6.alloc (.cells #[.string { data := vs.n.toArray }, .bool vs.st, .slice vs.A vs.k vs.c, .string { data := vs.r.n.toArray }, .bool vs.r.a] 55)) = w7 from hw7.symm]
   rw [← hr12]
   clear hw7 hr12 hb7 HF5 HFF f0 f1 f2 f3 x0 HXBr HXB5
   cases V
   case none =>
    have HE := hide (HN.out (by rw [HFI.out]; rfl))
    go_wp2_with fail
    go_roundw
    case rel => exact ⟨j + 1, by omega, by go_num, hide (HT7.out.mono (by omega)), hide (HKR.out.tr HK7.out), hide HE.out⟩
    case measure => simp [intOf]; omega
   case some v =>
    have hvv : vs = v := HVS.out ()
    subst hvv
    have hk17 : Keep (fun b => b = s) w1 w7 := HKW.out.tr HK7.out
    have hlow : ∀ {y : Sg}, y.at_ w1 (fun k => B ≤ k) → y.at_ w7 (fun k => w7.heap.size ≤ k) := fun h => (h.below (hk17.below (B := B) (by omega) (fun k hk => by omega))).weak (fun k hk => by have := hk17.size; omega)
    have hsm := sigsame_any vs x.m w7 (hlow (HVA.out vs rfl)) (hlow HX.out.1)
    obtain ⟨Q, hQ⟩ : ∃ y, y = decide (vs.p = x.m.p) := ⟨_, rfl⟩
    rw [← hQ] at hsm
    have HSM := hide hsm
    have HQ : Hid (fitM T x.m y = Q) := hide (by rw [HFI.out, hQ]; rfl)
    clear hsm hQ hlow hk17
    have d0 : w7.cell? ⟨r12, 0, none⟩ = some (S vs.n) := HS7.out.cell 0
    have d1 : w7.cell? ⟨r12, 1, none⟩ = some (.bool vs.st) := HS7.out.cell 1
    have d2 : w7.cell? ⟨r12, 2, none⟩ = some (.slice vs.A vs.k vs.c) := HS7.out.cell 2
    have d3 : w7.cell? ⟨r12, 3, none⟩ = some (S vs.r.n) := HS7.out.cell 3
    have d4 : w7.cell? ⟨r12, 4, none⟩ = some (.bool vs.r.a) := HS7.out.cell 4
    have e0 : w7.cell? ⟨b3, 0, none⟩ = some (S x.m.n) := HXB7.out.cell 0
    have e1 : w7.cell? ⟨b3, 1, none⟩ = some (.bool x.m.st) := HXB7.out.cell 1
    have e2 : w7.cell? ⟨b3, 2, none⟩ = some (.slice x.m.A x.m.k x.m.c) := HXB7.out.cell 2
    have e3 : w7.cell? ⟨b3, 3, none⟩ = some (S x.m.r.n) := HXB7.out.cell 3
    have e4 : w7.cell? ⟨b3, 4, none⟩ = some (.bool x.m.r.a) := HXB7.out.cell 4
    have e5 : w7.cell? ⟨b3, 5, none⟩ = some (S x.c) := HXB7.out.cell 5
    cases Q
    case false =>
     have HE := hide (HN.out HQ.out)
     go_wp2_with (go_at_call 27; refine HSM.out.mono ?_; rintro e w8 ⟨rfl, hb8⟩; have HB8 := hide hb8; clear hb8)
     go_roundw
     case rel => exact ⟨j + 1, by omega, by go_num, hide ((HT7.out.below HB8.out).mono (by omega)), hide ((HKR.out.tr HK7.out).tr (keep_s' (s := s) HB8.out)), hide HE.out⟩
     case measure => simp [intOf]; omega
    case true =>
     have hRy : R = some y := HH.out HQ.out
     subst hRy
     go_wp2_with (go_at_call 27; refine HSM.out.mono ?_; rintro e w8 ⟨rfl, hb8⟩; have HB8 := hide hb8; clear hb8)
     go_ret2
     exact ⟨rfl, (HT7.out.below HB8.out).mono (by omega), ((Keep.of_below (F := fun b => b = s) HB1.out (fun k h1 h2 => by omega)).tr (HKW.out.tr HK7.out)).tr (keep_s' (s := s) HB8.out)⟩
end Go.Proofs.YtmbegaobnpoefaaDoor
