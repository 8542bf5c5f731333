/- Whether an instruction is right, where a file's closure counts, walked; no statement of the seat is proved here. -/
import Derived.Test.YtmbegaobnpoefaaDoorMOpLaidC
import Derived.Test.YtmbegaobnpoefaaDoorMClsM2
import Derived.Deep.RegionHeld3
namespace Go.Proofs.YtmbegaobnpoefaaDoor
open Go.RowKit
def rt (c a v : Int) : Bool := kn c && (if pl c == 0 then a == 0 else decide (0 ≤ a) && decide (a < v))
theorem pl_kn {c : Int} (h : kn c = false) : pl c = 0 := by unfold pl; rw [h]; rfl
set_option maxRecDepth 100000 in
set_option maxHeartbeats 4000000 in
theorem oright_any (c a v : Int) (p1 p2 : Value) (w : World) (h : Laid w) (hc : ∀ w', Below w.heap.size w w' → Calls Tryd.prog 53 #[.int .i32 (pl c), p1, p2] w' fun e w'' => e = .returned (.int .i64 v) ∧ w'' = w') :
  Calls Tryd.prog 32 #[.agg #[.int .i64 c, .int .i64 a], .func (.func 53) #[] #[p1, p2]] w (Gives w (.bool (rt c a v))) := by
 obtain ⟨wB, hwB⟩ : ∃ wB, wB = w.alloc (.cells #[.int .i64 c, .int .i64 a] 87) := ⟨_, rfl⟩
 have hB : Below w.heap.size w wB := by rw [hwB]; exact (Below.refl _ _).alloc (Nat.le_refl _) _
 have hL : Laid wB := h.below hB (Nat.le_refl _)
 have hblk : Blk wB w.heap.size 87 #[.int .i64 c, .int .i64 a] := by rw [hwB]; exact Blk.new _ _ _
 have c0 : wB.cell? ⟨w.heap.size, 0, none⟩ = some (.int .i64 c) := hblk.cell 0
 have c1 : wB.cell? ⟨w.heap.size, 1, none⟩ = some (.int .i64 a) := hblk.cell 1
 have qt1 : ∀ t : After wB, t.val.cell? ⟨w.heap.size, 1, none⟩ = some (.int .i64 a) := fun t => (hblk.below t.prop hblk.lt).cell 1
 have HCT : Hid (∀ t : After wB, Calls Tryd.prog 53 #[.int .i32 (pl c), p1, p2] t.val (Gives t.val (.int .i64 v))) := hide (fun t => (hc t.val (hB.trans (t.prop.mono hB.size))).mono (by rintro e w' ⟨rfl, rfl⟩; exact ⟨rfl, Below.refl _ _⟩))
 have HK := hide (known_any c wB)
 have HP := hide (pool_any c wB hL)
 have HB := hide hB
 obtain ⟨R, hR⟩ : ∃ R, R = rt c a v := ⟨_, rfl⟩
 rw [← hR]
 unfold rt at hR
 have hpk : kn c = false → pl c = 0 := pl_kn
 obtain ⟨kk, hkk⟩ : ∃ kk, kk = kn c := ⟨_, rfl⟩
 rw [← hkk] at hR HK hpk
 obtain ⟨p, hp⟩ : ∃ p, p = pl c := ⟨_, rfl⟩
 rw [← hp] at hR HP HCT hpk
 clear hp hkk h hB hL hblk hc
 cases kk with
 | false =>
  have HR : Hid (R = false) := hide (by rw [hR]; rfl)
  clear hR hpk
  go_enter Tryd.func32, Tryd.ntmps32
  go_wp2_with fail
  rw [← hwB]
  clear hwB
  refine HK.out.mono ?_
  rintro e w' ⟨rfl, hw'⟩
  subst w'
  go_wp2_with fail
  go_ret
  exact ⟨by rw [HR.out]; rfl, HB.out⟩
 | true =>
  clear hpk
  cases hz : (p == 0) with
  | true =>
   have HR : Hid (R = (a == 0)) := hide (by rw [hR, hz]; rfl)
   clear hR
   go_enter Tryd.func32, Tryd.ntmps32
   go_wp2_with fail
   rw [← hwB]
   clear hwB
   refine HK.out.mono ?_
   rintro e w' ⟨rfl, hw'⟩
   subst w'
   go_wp2_with fail
   refine HP.out.mono ?_
   rintro e w' ⟨rfl, hw'⟩
   subst w'
   go_wp2_with fail
   go_ret
   exact ⟨by rw [HR.out]; rfl, HB.out⟩
  | false =>
   cases ha : decide (0 ≤ a) with
   | false =>
    have HR : Hid (R = false) := hide (by rw [hR, hz, ha]; rfl)
    clear hR
    go_enter Tryd.func32, Tryd.ntmps32
    go_wp2_with fail
    rw [← hwB]
    clear hwB
    refine HK.out.mono ?_
    rintro e w' ⟨rfl, hw'⟩
    subst w'
    go_wp2_with fail
    refine HP.out.mono ?_
    rintro e w' ⟨rfl, hw'⟩
    subst w'
    go_wp2_with fail
    refine region_after (by kernel_rfl) (by kernel_rfl) ?_
    repeat (go_big_quiet_step (fail))
    refine wpQuiet_nil ?_
    rintro _ ⟨t, rfl⟩
    have HB2 := hide (HB.out.trans (t.prop.mono HB.out.size))
    clear qt1 HCT
    go_wp2_with fail
    go_ret
    exact ⟨by rw [HR.out]; rfl, HB2.out⟩
   | true =>
    have HR : Hid (R = decide (a < v)) := hide (by rw [hR, hz, ha]; simp)
    clear hR
    go_enter Tryd.func32, Tryd.ntmps32
    go_wp2_with fail
    rw [← hwB]
    clear hwB
    refine HK.out.mono ?_
    rintro e w' ⟨rfl, hw'⟩
    subst w'
    go_wp2_with fail
    refine HP.out.mono ?_
    rintro e w' ⟨rfl, hw'⟩
    subst w'
    go_wp2_with fail
    refine region_after (by kernel_rfl) (by kernel_rfl) ?_
    repeat (go_big_quiet_step ((refine call_after (HCT.out _))))
    refine wpQuiet_nil ?_
    rintro _ ⟨t, rfl⟩
    have HB2 := hide (HB.out.trans (t.prop.mono HB.out.size))
    clear qt1 HCT
    go_wp2_with fail
    go_ret
    exact ⟨by rw [HR.out]; rfl, HB2.out⟩
end Go.Proofs.YtmbegaobnpoefaaDoor
namespace Go.Proofs.YtmbegaobnpoefaaDoor
open Go.RowKit
def cntV (f : Fl) (b : Bd) (k : Int) : Int :=
 if k == 110 then f.nl else if k == 99 then f.cl else if k == 116 then f.tl else if k == 102 then f.dl else if k == 109 then f.ml else if k == 108 then b.lo else if k == 106 then b.k else 2
theorem cntV_eq {w : World} {F : Nat → Prop} {f : Fl} {b : Bd} (h : f.pat w F) (hb : b.at_ w F) (k : Int) : cntV f b k = manyV f.ppl b.pl k := by
 unfold cntV manyV Fl.ppl Bd.pl
 simp only [List.length_map]
 rw [h.nL, h.cL, h.tL, h.dL, h.mL, hb.2.1]
set_option maxRecDepth 100000 in
set_option maxHeartbeats 2000000 in
theorem cnt_any (f : Fl) (b : Bd) (k : Int) (g1 g2 : Nat) (w : World) (h1 : Blk w g1 52 f.cells.toArray) (h2 : Blk w g2 75 b.cells.toArray) :
  Calls Tryd.prog 53 #[.int .i32 k, .pointer (some ⟨g1, 0, none⟩), .pointer (some ⟨g2, 0, none⟩)] w fun e w' => e = .returned (.int .i64 (cntV f b k)) ∧ w' = w := by
 have c4 := h1.cell 4
 have c5 := h1.cell 5
 have c6 := h1.cell 6
 have c7 := h1.cell 7
 have c8 := h1.cell 8
 have d0 := h2.cell 0
 have d2 := h2.cell 2
 simp at c4 c5 c6 c7 c8 d0 d2
 obtain ⟨R, hR⟩ : ∃ R, R = cntV f b k := ⟨_, rfl⟩
 rw [← hR]
 unfold cntV at hR
 clear h1 h2
 obtain ⟨lo, sk, bA, bk, bc, code⟩ := b
 simp only at d0 d2 hR
 cases e1 : (k == 110) with
 | true =>
  have HR := hide (fun _ : Unit => hR.trans (by rw [if_pos e1]))
  clear hR
  go_enter Tryd.func53, Tryd.ntmps53
  go_wp2_with fail
  go_ret
  exact ⟨by rw [HR.out ()] <;> rfl, rfl⟩
 | false =>
  rw [if_neg (by rw [e1]; decide)] at hR
  cases e2 : (k == 99) with
  | true =>
   have HR := hide (fun _ : Unit => hR.trans (by rw [if_pos e2]))
   clear hR
   go_enter Tryd.func53, Tryd.ntmps53
   go_wp2_with fail
   go_ret
   exact ⟨by rw [HR.out ()] <;> rfl, rfl⟩
  | false =>
   rw [if_neg (by rw [e2]; decide)] at hR
   cases e3 : (k == 116) with
   | true =>
    have HR := hide (fun _ : Unit => hR.trans (by rw [if_pos e3]))
    clear hR
    go_enter Tryd.func53, Tryd.ntmps53
    go_wp2_with fail
    go_ret
    exact ⟨by rw [HR.out ()] <;> rfl, rfl⟩
   | false =>
    rw [if_neg (by rw [e3]; decide)] at hR
    cases e4 : (k == 102) with
    | true =>
     have HR := hide (fun _ : Unit => hR.trans (by rw [if_pos e4]))
     clear hR
     go_enter Tryd.func53, Tryd.ntmps53
     go_wp2_with fail
     go_ret
     exact ⟨by rw [HR.out ()] <;> rfl, rfl⟩
    | false =>
     rw [if_neg (by rw [e4]; decide)] at hR
     cases e5 : (k == 109) with
     | true =>
      have HR := hide (fun _ : Unit => hR.trans (by rw [if_pos e5]))
      clear hR
      go_enter Tryd.func53, Tryd.ntmps53
      go_wp2_with fail
      go_ret
      exact ⟨by rw [HR.out ()] <;> rfl, rfl⟩
     | false =>
      rw [if_neg (by rw [e5]; decide)] at hR
      cases e6 : (k == 108) with
      | true =>
       have HR := hide (fun _ : Unit => hR.trans (by rw [if_pos e6]))
       clear hR
       go_enter Tryd.func53, Tryd.ntmps53
       go_wp2_with fail
       go_ret
       exact ⟨by rw [HR.out ()] <;> rfl, rfl⟩
      | false =>
       rw [if_neg (by rw [e6]; decide)] at hR
       cases e7 : (k == 106) with
       | true =>
        have HR := hide (fun _ : Unit => hR.trans (by rw [if_pos e7]))
        clear hR
        go_enter Tryd.func53, Tryd.ntmps53
        go_wp2_with fail
        go_ret
        exact ⟨by rw [HR.out ()] <;> rfl, rfl⟩
       | false =>
        have HR := hide (fun _ : Unit => hR.trans (by rw [if_neg (by rw [e7]; decide)]))
        clear hR
        go_enter Tryd.func53, Tryd.ntmps53
        go_wp2_with fail
        go_ret
        exact ⟨by rw [HR.out ()] <;> rfl, rfl⟩
set_option maxRecDepth 100000 in
theorem cls_any (s : List UInt8) (w : World) : Calls Tryd.prog 49 #[S s] w (Gives w (.bool (cname s))) := by
 have HO := fun w => hide (of_any s w)
 have HC := fun w => hide (class_any s false w)
 obtain ⟨R, hR⟩ : ∃ R, R = cname s := ⟨_, rfl⟩
 rw [← hR]
 unfold cname at hR
 have hcl : Ty.cls ⟨s, false⟩ = great s := rfl
 obtain ⟨G, hG⟩ : ∃ G, G = great s := ⟨_, rfl⟩
 rw [hcl, ← hG] at HC
 rw [← hG] at hR
 clear hG hcl
 cases G
 all_goals
  have HR := hide (fun _ : Unit => hR)
  clear hR
  go_enter Tryd.func49, Tryd.ntmps49
  go_wp2_with (first
   | (go_at_call 22; refine (HO _).out.mono ?_; rintro e w1 ⟨rfl, hb1⟩; have HB1 := hide hb1; clear hb1)
   | (go_at_call 23; refine (HC _).out.mono ?_; rintro e w2 ⟨rfl, hb2⟩; have HB2 := hide (HB1.out.trans (hb2.mono HB1.out.size)); clear hb2))
  go_ret
  exact ⟨by rw [HR.out ()]; simp <;> omega, HB2.out⟩
def oneF (m : Sg) (nm : List UInt8) (g : Nat) : Fc := ⟨nm, [], none, 0, 0, [], some ⟨g, 0, none⟩, 1, 1, [m]⟩
theorem oneF_at {m : Sg} {nm : List UInt8} {g : Nat} {w : World} (hn : short nm) (h : m.at_ w (fun k => w.heap.size ≤ k)) (hb : Blk w g 55 m.cells.toArray) : (oneF m nm g).at_ w (fun k => w.heap.size ≤ k) := by
 have hlt := hb.lt
 refine ⟨⟨⟨rfl, fun h => absurd h (Nat.lt_irrefl 0)⟩, rfl, Nat.zero_le _, fun v hv => by cases hv⟩, ⟨⟨rfl, fun _ => ⟨g, 0, rfl, by simp only; omega, hlt, fun j u hu => ?_⟩⟩, rfl, by show 1 ≤ 9223372036854775807; omega, fun m' hm => ?_⟩, hn, by show 0 ≤ 9223372036854775807; omega⟩
 ·rw [Nat.zero_add, hb.cell j]
  simp only [oneF, List.flatMap_cons, List.flatMap_nil, List.append_nil] at hu
  simpa using hu
 ·obtain rfl := List.mem_singleton.1 hm
  exact h
set_option maxRecDepth 100000 in
set_option maxHeartbeats 1000000 in
theorem sig_any (m : Sg) (w : World) (h : m.at_ w (fun k => w.heap.size ≤ k)) : Calls Tryd.prog 50 #[m.val] w (Gives w (.bool (FcP.right ⟨[65], [], [], [m.pl]⟩))) := by
 have HF : Hid (∀ w' g, Below w.heap.size w w' → Blk w' g 55 m.cells.toArray → Calls Tryd.prog 25 #[(oneF m [65] g).val] w' (Gives w' (.bool (FcP.right ⟨[65], [], [], [m.pl]⟩)))) := hide (by
  intro w' g hb hblk
  have hat := oneF_at (nm := [65]) (by show 1 ≤ 9223372036854775807; omega) ((h.below hb).weak (G := fun k => w'.heap.size ≤ k) (fun k hk => by have := hb.size; omega)) hblk
  have h2 := right_any _ w' hat
  rw [Fc.right_pl hat] at h2
  exact h2)
 obtain ⟨n, st, A, k, c, ps, r⟩ := m
 obtain ⟨r, a⟩ := r
 simp only [oneF, Fc.val, Sg.cells] at HF
 generalize FcP.right _ = R at HF ⊢
 go_enter Tryd.func50, Tryd.ntmps50
 go_upto_region 1 with fail
 refine name_world ?_
 intro wB hwB
 have HB : Hid (Below w.heap.size w wB) := hide (by rw [hwB]; exact (Below.refl _ _).alloc (Nat.le_refl _) _)
 have HT : Hid (Blk wB w.heap.size 55 #[S n, .bool st, .slice A k c, S r, .bool a]) := hide (by rw [hwB]; exact Blk.new _ _ _)
 clear hwB h
 have c0 := HT.out.cell 0
 have c1 := HT.out.cell 1
 have c2 := HT.out.cell 2
 have c3 := HT.out.cell 3
 have c4 := HT.out.cell 4
 simp at c0 c1 c2 c3 c4
 have HC : Hid (Calls Tryd.prog 25 #[.agg #[S [65], S [], .slice none 0 0, .slice (some ⟨wB.heap.size, 0, none⟩) 1 1]] (wB.alloc (.cells #[S n, .bool st, .slice A k c, S r, .bool a] 55)) (Gives (wB.alloc (.cells #[S n, .bool st, .slice A k c, S r, .bool a] 55)) (.bool R))) := hide (HF.out _ _ (HB.out.alloc HB.out.size _) (Blk.new _ _ _))
 go_wp2_with (go_at_call 25; refine HC.out.mono ?_; rintro e w2 ⟨rfl, hb2⟩)
 go_ret
 exact ⟨rfl, (HB.out.alloc HB.out.size _).trans (hb2.mono (Nat.le_trans HB.out.size (by simp)))⟩
end Go.Proofs.YtmbegaobnpoefaaDoor
namespace Go.Proofs.YtmbegaobnpoefaaDoor
open Go.RowKit
def I6 (n : Nat) : Value := .int .i64 (n : Int)
theorem drop_all {α : Type} (p : α → Bool) (l : List α) (k : Nat) (h : k < l.length) : (l.drop k).all p = (p l[k] && (l.drop (k + 1)).all p) := by
 rw [List.drop_eq_getElem_cons h, List.all_cons]
def most (n : Nat) : Bool := decide (n ≤ 16384)
def mtOkM (x : Mt) : Bool := cname x.c && FcP.right ⟨[65], [], [], [x.m.pl]⟩
def prV (f : Fl) : Bool := [f.nl, f.cl, f.tl, f.dl, f.ml].all most && (f.cls.all cname && (f.tys.all Ty.good && (f.fds.all fdOk && f.mts.all mtOkM)))
theorem prV_eq {w : World} {F : Nat → Prop} {f : Fl} (h : f.pat w F) : prV f = f.ppl.right := by
 unfold prV PoolP.right Fl.ppl
 simp only [List.length_map, h.nL, h.cL, h.tL, h.dL, h.mL, List.all_cons, List.all_nil, Bool.and_true, List.all_map, most]
 rw [show (mtOk ∘ Mt.pl) = mtOkM from rfl]
 simp only [Bool.and_assoc]
set_option maxRecDepth 100000 in
set_option maxHeartbeats 8000000 in
theorem pright_any (f : Fl) (w : World) (h : f.pat w (fun k => w.heap.size ≤ k)) : Calls Tryd.prog 31 #[f.pval] w (Gives w (.bool (prV f))) := by
 have HP := hide h
 clear h
 have hn := HP.out.nB
 have hc := HP.out.cB
 have ht := HP.out.tB
 have hd := HP.out.dB
 have hm := HP.out.mB
 have hcL := HP.out.cL
 have htL := HP.out.tL
 have hdL := HP.out.dL
 have hmL := HP.out.mL
 obtain ⟨R, hR⟩ : ∃ R, R = prV f := ⟨_, rfl⟩
 rw [← hR]
 have HR0 := hide hR
 clear hR
 go_enter Tryd.func31, Tryd.ntmps31
 go_upto_region 1 with fail
 refine name_world ?_
 intro wA hwA
 have HB1 : Hid (Below w.heap.size w wA) := hide (by rw [hwA]; exact (Below.refl _ _).alloc (Nat.le_refl _) _)
 have HK : Hid (Blk wA w.heap.size 49 f.pcells.toArray) := hide (by rw [hwA]; exact Blk.new _ _ _)
 clear hwA
 have k0 := HK.out.cell 0
 have k1 := HK.out.cell 1
 have k2 := HK.out.cell 2
 have k3 := HK.out.cell 3
 have k4 := HK.out.cell 4
 simp at k0 k1 k2 k3 k4
 go_upto_region 2 with fail
 clear k0 k1 k2 k3 k4
 refine name_world ?_
 intro w1 hw1
 have HB2 : Hid (Below wA.heap.size wA w1) := hide (by rw [hw1]; exact (Below.refl _ _).alloc (Nat.le_refl _) _)
 have HL : Hid (Blk w1 wA.heap.size 3 #[I6 f.nl, I6 f.cl, I6 f.tl, I6 f.dl, I6 f.ml]) := hide (by rw [hw1]; exact Blk.new _ _ _)
 clear hw1
 generalize wA.heap.size = g1 at HL ⊢
 go_wp2_with fail
 go_loopw [30] (fun i wr => ∃ k : Nat, k ≤ 5 ∧ i = .int .i64 (k : Int) ∧ wr = w1 ∧ Hid (R = (([f.nl, f.cl, f.tl, f.dl, f.ml].drop k).all most && (f.cls.all cname && (f.tys.all Ty.good && (f.fds.all fdOk && f.mts.all mtOkM)))))) (fun i _ => 5 - (intOf i).toNat)
 case atStart => exact ⟨0, by omega, rfl, rfl, HR0⟩
 case round =>
  obtain ⟨k, hk, rfl, hw, HR⟩ := hrel
  subst hw
  clear HR0
  by_cases hlt : k < 5
  ·obtain ⟨x, hx⟩ : ∃ x, x = [f.nl, f.cl, f.tl, f.dl, f.ml][k] := ⟨_, rfl⟩
   have hcx : wr.cell? ⟨g1, k, none⟩ = some (.int .i64 (x : Int)) := by
    rw [HL.out.cell k, hx]
    have : k = 0 ∨ k = 1 ∨ k = 2 ∨ k = 3 ∨ k = 4 := by omega
    rcases this with rfl | rfl | rfl | rfl | rfl <;> rfl
   have HD := hide (drop_all most [f.nl, f.cl, f.tl, f.dl, f.ml] k hlt)
   rw [← hx] at HD
   clear hx
   by_cases hb : 16384 < x
   ·have d : decide (16384 < (x : Int)) = true := by simp; omega
    have HF : Hid (R = false) := hide (by rw [HR.out, HD.out, show most x = false by simp [most]; omega]; rfl)
    clear HR HD
    go_wp2_with fail
    go_ret
    exact ⟨by rw [HF.out] <;> rfl, HB1.out.trans (HB2.out.mono HB1.out.size)⟩
   ·have d : decide (16384 < (x : Int)) = false := by simp; omega
    have HF := hide (HR.out.trans (by rw [HD.out, show most x = true by simp [most]; omega, Bool.true_and]))
    clear HR HD
    go_wp2_with fail
    go_roundw
    case rel => exact ⟨k + 1, by omega, by go_num, trivial, HF⟩
    case measure => simp [intOf]; omega
  ·obtain rfl : k = 5 := by omega
   have HR1 : Hid (R = (f.cls.all cname && (f.tys.all Ty.good && (f.fds.all fdOk && f.mts.all mtOkM)))) := HR
   clear HR HL
   have k1 := (HK.out.below HB2.out HK.out.lt).cell 1
   simp at k1
   go_upto_region 8 with fail
   go_wp2_with fail
   clear k1
   have HBW : Hid (Below w.heap.size w wr) := hide (HB1.out.trans (HB2.out.mono HB1.out.size))
   have HKO := hide (HK.out.below HB2.out HK.out.lt)
   clear HB1 HB2 HK
   obtain ⟨wo, hwo⟩ : ∃ wo : World, wo = wr := ⟨_, rfl⟩
   subst hwo
   go_loopw [40] (fun i wr => ∃ k : Nat, k ≤ f.cl ∧ i = .int .i64 (k : Int) ∧ Hid (Below wo.heap.size wo wr) ∧ Hid (R = ((f.cls.drop k).all cname && (f.tys.all Ty.good && (f.fds.all fdOk && f.mts.all mtOkM))))) (fun i _ => f.cl - (intOf i).toNat)
   case atStart => exact ⟨0, by omega, rfl, hide (Below.refl _ _), HR1⟩
   case round =>
    obtain ⟨k, hk, rfl, HBR, HR⟩ := hrel
    clear HR1
    by_cases hlt : k < f.cl
    ·have hlt' : k < f.cls.length := by omega
     have HD := hide (drop_all cname f.cls k hlt')
     obtain ⟨b, o, u, hA, hu, hc0⟩ := (HP.out.cr.below (HBW.out.trans (HBR.out.mono HBW.out.size))).at_ k hlt
     obtain rfl : S f.cls[k] = u := by simpa [hlt'] using hu
     generalize f.cls[k] = x at hc0 HD
     clear hu
     have HC := fun w => hide (cls_any x w)
     rw [hA]
     obtain ⟨G, hG⟩ : ∃ G, G = cname x := ⟨_, rfl⟩
     simp only [← hG] at HC HD
     clear hG
     cases G
     case' false => have HF : Hid (R = false) := hide (by rw [HR.out, HD.out]; rfl)
     case' true => have HF : Hid (R = ((f.cls.drop (k + 1)).all cname && (f.tys.all Ty.good && (f.fds.all fdOk && f.mts.all mtOkM)))) := hide (by rw [HR.out, HD.out]; simp)
     all_goals
      clear HR HD
      go_wp2_with (go_at_call 49; refine (HC _).out.mono ?_; rintro e w2 ⟨rfl, hb2⟩; have HB3 : Hid (Below wo.heap.size wo w2) := hide (HBR.out.trans (hb2.mono HBR.out.size)); clear hb2)
     ·skip
      go_roundw
      case rel => (repeat apply Exists.intro); exact ⟨⟨k + 1, by omega, by go_num, HB3, HF⟩, rfl⟩
      case measure => simp [intOf]; omega
     ·skip
      go_ret
      exact ⟨by rw [HF.out] <;> rfl, HBW.out.trans (HB3.out.mono HBW.out.size)⟩
    ·obtain rfl : k = f.cl := by omega
     have HR1 : Hid (R = (f.tys.all Ty.good && (f.fds.all fdOk && f.mts.all mtOkM))) := hide (by rw [HR.out, ← hcL, List.drop_length]; rfl)
     clear HR
     have HBW2 : Hid (Below w.heap.size w wr) := hide (HBW.out.trans (HBR.out.mono HBW.out.size))
     have HKO2 := hide (HKO.out.below HBR.out HKO.out.lt)
     clear HBW HBR HKO
     have HBW := HBW2
     have HKO := HKO2
     clear HBW2 HKO2
     have k1 := HKO.out.cell 2
     simp at k1
     go_upto_region 14 with fail
     go_wp2_with fail
     clear k1
     obtain ⟨wo, hwo⟩ : ∃ wo : World, wo = wr := ⟨_, rfl⟩
     subst hwo
     go_loopw [51] (fun i wr => ∃ k : Nat, k ≤ f.tl ∧ i = .int .i64 (k : Int) ∧ Hid (Below wo.heap.size wo wr) ∧ Hid (R = ((f.tys.drop k).all Ty.good && (f.fds.all fdOk && f.mts.all mtOkM)))) (fun i _ => f.tl - (intOf i).toNat)
     case atStart => exact ⟨0, by omega, rfl, hide (Below.refl _ _), HR1⟩
     case round =>
      obtain ⟨k, hk, rfl, HBR, HR⟩ := hrel
      clear HR1
      by_cases hlt : k < f.tl
      ·have hlt' : k < f.tys.length := by omega
       have HD := hide (drop_all Ty.good f.tys k hlt')
       obtain ⟨b, o, hA, _, _, hcs⟩ := Rd.rec_ (f := Ty.cells) (fun _ => rfl) (HP.out.tr.below (HBW.out.trans (HBR.out.mono HBW.out.size))) htL k hlt
       generalize f.tys[k] = x at hcs HD
       have c0 := hcs 0 _ rfl
       have c1 := hcs 1 _ rfl
       clear hcs
       obtain ⟨xn, xa⟩ := x
       simp only [Nat.add_zero] at c0 c1
       have HC := fun w => hide (good_any xn xa w)
       rw [hA]
       obtain ⟨G, hG⟩ : ∃ G, G = Ty.good ⟨xn, xa⟩ := ⟨_, rfl⟩
       simp only [← hG] at HC HD
       clear hG
       cases G
       case' false => have HF : Hid (R = false) := hide (by rw [HR.out, HD.out]; rfl)
       case' true => have HF : Hid (R = ((f.tys.drop (k + 1)).all Ty.good && (f.fds.all fdOk && f.mts.all mtOkM))) := hide (by rw [HR.out, HD.out]; simp)
       all_goals
        clear HR HD
        go_wp2_with (go_at_call 21; refine (HC _).out.mono ?_; rintro e w2 ⟨rfl, hb2⟩; have HB3 : Hid (Below wo.heap.size wo w2) := hide ((HBR.out.alloc HBR.out.size _).trans (hb2.mono (Nat.le_trans HBR.out.size (by simp)))); clear hb2)
       ·skip
        go_roundw
        case rel => (repeat apply Exists.intro); exact ⟨⟨k + 1, by omega, by go_num, HB3, HF⟩, rfl⟩
        case measure => simp [intOf]; omega
       ·skip
        go_ret
        exact ⟨by rw [HF.out] <;> rfl, HBW.out.trans (HB3.out.mono HBW.out.size)⟩
      ·obtain rfl : k = f.tl := by omega
       have HR1 : Hid (R = (f.fds.all fdOk && f.mts.all mtOkM)) := hide (by rw [HR.out, ← htL, List.drop_length]; rfl)
       clear HR
       have HBW2 : Hid (Below w.heap.size w wr) := hide (HBW.out.trans (HBR.out.mono HBW.out.size))
       have HKO2 := hide (HKO.out.below HBR.out HKO.out.lt)
       clear HBW HBR HKO
       have HBW := HBW2
       have HKO := HKO2
       clear HBW2 HKO2
       have k1 := HKO.out.cell 3
       simp at k1
       go_upto_region 20 with fail
       go_wp2_with fail
       clear k1
       obtain ⟨wo, hwo⟩ : ∃ wo : World, wo = wr := ⟨_, rfl⟩
       subst hwo
       go_loopw [62] (fun i wr => ∃ k : Nat, k ≤ f.dl ∧ i = .int .i64 (k : Int) ∧ Hid (Below wo.heap.size wo wr) ∧ Hid (R = ((f.fds.drop k).all fdOk && f.mts.all mtOkM))) (fun i _ => f.dl - (intOf i).toNat)
       case atStart => exact ⟨0, by omega, rfl, hide (Below.refl _ _), HR1⟩
       case round =>
        obtain ⟨k, hk, rfl, HBR, HR⟩ := hrel
        clear HR1
        by_cases hlt : k < f.dl
        ·have hlt' : k < f.fds.length := by omega
         have HD := hide (drop_all fdOk f.fds k hlt')
         obtain ⟨b, o, hA, _, _, hcs⟩ := Rd.rec_ (f := FdP.cells) (fun _ => rfl) (HP.out.dr.below (HBW.out.trans (HBR.out.mono HBW.out.size))) hdL k hlt
         generalize f.fds[k] = x at hcs HD
         have c0 := hcs 0 _ rfl
         have c1 := hcs 1 _ rfl
         have c2 := hcs 2 _ rfl
         have c3 := hcs 3 _ rfl
         clear hcs
         obtain ⟨⟨xn, ⟨tn, ta⟩⟩, xc⟩ := x
         simp only [Nat.add_zero] at c0 c1 c2 c3
         have HC := fun w => hide (cls_any xc w)
         have HG := fun w => hide (good_any tn ta w)
         rw [hA]
         obtain ⟨G, hG⟩ : ∃ G, G = cname xc := ⟨_, rfl⟩
         obtain ⟨T, hT⟩ : ∃ T, T = Ty.good ⟨tn, ta⟩ := ⟨_, rfl⟩
         simp only [fdOk, ← hG, ← hT] at HC HD HG
         obtain ⟨E, hE⟩ : ∃ E, (xn == []) = E := ⟨_, rfl⟩
         obtain ⟨M, hM⟩ : ∃ M, decide (40 < (xn.length : Int)) = M := ⟨_, rfl⟩
         rw [hE, dec_le xn.length 40, show decide (((40 : Nat) : Int) < (xn.length : Int)) = M from hM] at HD
         clear hG hT
         go_upto_region 22 with fail
         refine name_world ?_
         intro wB hwB
         have HBB : Hid (Below wo.heap.size wo wB) := hide (by rw [hwB]; exact HBR.out.alloc HBR.out.size _)
         have HXB : Hid (Blk wB wr.heap.size 93 #[S xn, S tn, .bool ta, S xc]) := hide (by rw [hwB]; exact Blk.new _ _ _)
         have hlq : w.heap.size ≤ wr.heap.size := Nat.le_trans HBW.out.size HBR.out.size
         clear hwB c0 c1 c2 c3
         generalize wr.heap.size = q at HXB hlq ⊢
         have c3 := HXB.out.cell 3
         simp at c3
         go_wp2_with fail
         go_at_call 49
         refine (HC _).out.mono ?_
         rintro e w2 ⟨rfl, hb2⟩
         have HB3 : Hid (Below wo.heap.size wo w2) := hide (HBB.out.trans (hb2.mono HBB.out.size))
         have HX2 := hide (HXB.out.below hb2 HXB.out.lt)
         clear hb2 c3
         have c0 := HX2.out.cell 0
         have c1 := HX2.out.cell 1
         have c2 := HX2.out.cell 2
         simp at c0 c1 c2
         cases G with
         | false =>
          have HF : Hid (R = false) := hide (by rw [HR.out, HD.out]; rfl)
          clear HR HD
          go_wp2_with fail
          go_ret
          exact ⟨by rw [HF.out] <;> rfl, HBW.out.trans (HB3.out.mono HBW.out.size)⟩
         | true =>
          cases E with
          | true =>
           have HF : Hid (R = false) := hide (by rw [HR.out, HD.out]; rfl)
           clear HR HD
           go_wp2_with fail
           go_ret
           exact ⟨by rw [HF.out] <;> rfl, HBW.out.trans (HB3.out.mono HBW.out.size)⟩
          | false =>
           cases M with
           | true =>
            have HF : Hid (R = false) := hide (by rw [HR.out, HD.out]; rfl)
            clear HR HD
            go_wp2_with fail
            go_ret
            exact ⟨by rw [HF.out] <;> rfl, HBW.out.trans (HB3.out.mono HBW.out.size)⟩
           | false =>
            cases T
            case' false => have HF : Hid (R = false) := hide (by rw [HR.out, HD.out]; rfl)
            case' true => have HF : Hid (R = ((f.fds.drop (k + 1)).all fdOk && f.mts.all mtOkM)) := hide (by rw [HR.out, HD.out]; simp)
            all_goals
             clear HR HD
             go_wp2_with (go_at_call 21; refine (HG _).out.mono ?_; rintro e w3 ⟨rfl, hb3⟩; have HB4 : Hid (Below wo.heap.size wo w3) := hide (HB3.out.trans (hb3.mono HB3.out.size)); clear hb3)
            ·skip
             go_roundw
             case rel => (repeat apply Exists.intro); exact ⟨⟨k + 1, by omega, by go_num, HB4, HF⟩, rfl⟩
             case measure => simp [intOf]; omega
            ·skip
             go_ret
             exact ⟨by rw [HF.out] <;> rfl, HBW.out.trans (HB4.out.mono HBW.out.size)⟩
        ·obtain rfl : k = f.dl := by omega
         have HR1 : Hid (R = f.mts.all mtOkM) := hide (by rw [HR.out, ← hdL, List.drop_length]; rfl)
         clear HR
         have HBW2 : Hid (Below w.heap.size w wr) := hide (HBW.out.trans (HBR.out.mono HBW.out.size))
         have HKO2 := hide (HKO.out.below HBR.out HKO.out.lt)
         clear HBW HBR HKO
         have HBW := HBW2
         have HKO := HKO2
         clear HBW2 HKO2
         have k1 := HKO.out.cell 4
         simp at k1
         go_upto_region 26 with fail
         go_wp2_with fail
         clear k1
         obtain ⟨wo, hwo⟩ : ∃ wo : World, wo = wr := ⟨_, rfl⟩
         subst hwo
         go_loopw [94] (fun i wr => ∃ k : Nat, k ≤ f.ml ∧ i = .int .i64 (k : Int) ∧ Hid (Below wo.heap.size wo wr) ∧ Hid (R = ((f.mts.drop k).all mtOkM && true))) (fun i _ => f.ml - (intOf i).toNat)
         case atStart => exact ⟨0, by omega, rfl, hide (Below.refl _ _), hide (by rw [HR1.out]; simp)⟩
         case round =>
          obtain ⟨k, hk, rfl, HBR, HR⟩ := hrel
          clear HR1
          by_cases hlt : k < f.ml
          ·have hlt' : k < f.mts.length := by omega
           have HD := hide (drop_all mtOkM f.mts k hlt')
           obtain ⟨b, o, hA, _, _, hcs⟩ := Rd.rec_ (f := Mt.cells) (fun _ => rfl) (HP.out.mr.below (HBW.out.trans (HBR.out.mono HBW.out.size))) hmL k hlt
           have hmW := HP.out.mW f.mts[k] (List.getElem_mem hlt')
           generalize f.mts[k] = x at hcs HD hmW
           have c0 := hcs 0 _ rfl
           have c1 := hcs 1 _ rfl
           have c2 := hcs 2 _ rfl
           have c3 := hcs 3 _ rfl
           have c4 := hcs 4 _ rfl
           have c5 := hcs 5 _ rfl
           clear hcs
           obtain ⟨⟨xn, xst, xA, xk, xc', xps, ⟨rn, ra⟩⟩, xc⟩ := x
           simp only [Nat.add_zero] at c0 c1 c2 c3 c4 c5
           have HC := fun w => hide (cls_any xc w)
           have HSG := fun w' (h : Below w.heap.size w w') => hide (sig_any ⟨xn, xst, xA, xk, xc', xps, ⟨rn, ra⟩⟩ w' ((hmW.1.below h).weak (G := fun k => w'.heap.size ≤ k) (fun k hk => by have := h.size; omega)))
           clear hmW
           rw [hA]
           obtain ⟨G, hG⟩ : ∃ G, G = cname xc := ⟨_, rfl⟩
           obtain ⟨T, hT⟩ : ∃ T, T = FcP.right ⟨[65], [], [], [Sg.pl ⟨xn, xst, xA, xk, xc', xps, ⟨rn, ra⟩⟩]⟩ := ⟨_, rfl⟩
           simp only [mtOkM, ← hG, ← hT] at HC HD HSG
           clear hG hT
           go_upto_region 28 with fail
           refine name_world ?_
           intro wB hwB
           have HBB : Hid (Below wo.heap.size wo wB) := hide (by rw [hwB]; exact HBR.out.alloc HBR.out.size _)
           have HXB : Hid (Blk wB wr.heap.size 95 #[S xn, .bool xst, .slice xA xk xc', S rn, .bool ra, S xc]) := hide (by rw [hwB]; exact Blk.new _ _ _)
           clear hwB c0 c1 c2 c3 c4 c5
           generalize wr.heap.size = q at HXB ⊢
           have c5 := HXB.out.cell 5
           simp at c5
           go_wp2_with fail
           go_at_call 49
           refine (HC _).out.mono ?_
           rintro e w2 ⟨rfl, hb2⟩
           have HB3 : Hid (Below wo.heap.size wo w2) := hide (HBB.out.trans (hb2.mono HBB.out.size))
           have HX2 := hide (HXB.out.below hb2 HXB.out.lt)
           clear hb2 c5
           have c0 := HX2.out.cell 0
           have c1 := HX2.out.cell 1
           have c2 := HX2.out.cell 2
           have c3 := HX2.out.cell 3
           have c4 := HX2.out.cell 4
           simp at c0 c1 c2 c3 c4
           cases G with
           | false =>
            have HF : Hid (R = false) := hide (by rw [HR.out, HD.out]; rfl)
            clear HR HD
            go_wp2_with fail
            go_ret
            exact ⟨by rw [HF.out] <;> rfl, HBW.out.trans (HB3.out.mono HBW.out.size)⟩
           | true =>
            have HS2 := hide (HSG w2 (HBW.out.trans (HB3.out.mono HBW.out.size))).out
            cases T
            case' false => have HF : Hid (R = false) := hide (by rw [HR.out, HD.out]; rfl)
            case' true => have HF : Hid (R = ((f.mts.drop (k + 1)).all mtOkM && true)) := hide (by rw [HR.out, HD.out]; simp)
            all_goals
             clear HR HD
             go_wp2_with (go_at_call 50; refine HS2.out.mono ?_; rintro e w3 ⟨rfl, hb3⟩; have HB4 : Hid (Below wo.heap.size wo w3) := hide (HB3.out.trans (hb3.mono HB3.out.size)); clear hb3)
            ·skip
             go_roundw
             case rel => (repeat apply Exists.intro); exact ⟨⟨k + 1, by omega, by go_num, HB4, HF⟩, rfl⟩
             case measure => simp [intOf]; omega
            ·skip
             go_ret
             exact ⟨by rw [HF.out] <;> rfl, HBW.out.trans (HB4.out.mono HBW.out.size)⟩
          ·obtain rfl : k = f.ml := by omega
           have HF : Hid (R = true) := hide (by rw [HR.out, ← hmL, List.drop_length]; rfl)
           clear HR
           go_wp2_with fail
           go_ret
           exact ⟨by rw [HF.out] <;> rfl, HBW.out.trans (HBR.out.mono HBW.out.size)⟩
end Go.Proofs.YtmbegaobnpoefaaDoor
namespace Go.Proofs.YtmbegaobnpoefaaDoor
open Go.RowKit
set_option maxRecDepth 100000 in
theorem many_any (f : Fl) (b : Bd) (w : World) : Calls Tryd.prog 33 #[f.val, b.val] w fun e w' => e = .returned (.func (.func 53) #[] #[.pointer (some ⟨w.heap.size, 0, none⟩), .pointer (some ⟨w.heap.size + 1, 0, none⟩)]) ∧ w' = (w.alloc (.cells f.cells.toArray 52)).alloc (.cells b.cells.toArray 75) := by
 go_enter Tryd.func33, Tryd.ntmps33
 go_wp2_with fail
 go_ret
 exact ⟨by simp, rfl⟩
structure Fq (f : Fl) (b : Bd) (x : Int × Int) (q0 q1 q2 : Nat) (wo w' : World) : Prop where
 bf : Blk w' q0 52 f.cells.toArray
 bb : Blk w' q1 75 b.cells.toArray
 bx : Blk w' q2 87 #[.int .i64 x.1, .int .i64 x.2]
 be : Below wo.heap.size wo w'
abbrev Fq.cellsAt (f : Fl) (b : Bd) (x : Int × Int) (q0 q1 q2 : Nat) (w' : World) : Prop :=
 w'.cell? ⟨q0, 0, none⟩ = some (S f.f.n) ∧ w'.cell? ⟨q0, 1, none⟩ = some (S f.f.su) ∧ w'.cell? ⟨q0, 2, none⟩ = some (.slice f.f.fA f.f.fl f.f.fc) ∧ w'.cell? ⟨q0, 3, none⟩ = some (.slice f.f.mA f.f.ml f.f.mc) ∧ w'.cell? ⟨q0, 4, none⟩ = some (.slice f.nA f.nl f.nc) ∧ w'.cell? ⟨q0, 5, none⟩ = some (.slice f.cA f.cl f.cc) ∧ w'.cell? ⟨q0, 6, none⟩ = some (.slice f.tA f.tl f.tc) ∧ w'.cell? ⟨q0, 7, none⟩ = some (.slice f.dA f.dl f.dc) ∧ w'.cell? ⟨q0, 8, none⟩ = some (.slice f.mA f.ml f.mc) ∧ w'.cell? ⟨q0, 9, none⟩ = some (.slice f.bA f.bl f.bc) ∧
 w'.cell? ⟨q1, 0, none⟩ = some (.int .i64 b.lo) ∧ w'.cell? ⟨q1, 1, none⟩ = some (.int .i64 b.sk) ∧ w'.cell? ⟨q1, 2, none⟩ = some (.slice b.A b.k b.c) ∧ w'.cell? ⟨q2, 0, none⟩ = some (.int .i64 x.1) ∧ w'.cell? ⟨q2, 1, none⟩ = some (.int .i64 x.2)
section
variable {f : Fl} {b : Bd} {x : Int × Int} {q0 q1 q2 : Nat} {wo w' w'' : World}
theorem Fq.cells (i : Fq f b x q0 q1 q2 wo w') : Fq.cellsAt f b x q0 q1 q2 w' :=
 ⟨i.bf.cell 0, i.bf.cell 1, i.bf.cell 2, i.bf.cell 3, i.bf.cell 4, i.bf.cell 5, i.bf.cell 6, i.bf.cell 7, i.bf.cell 8, i.bf.cell 9, i.bb.cell 0, i.bb.cell 1, i.bb.cell 2, i.bx.cell 0, i.bx.cell 1⟩
theorem Fq.below (i : Fq f b x q0 q1 q2 wo w') (h : Below w'.heap.size w' w'') : Fq f b x q0 q1 q2 wo w'' :=
 ⟨i.bf.below h i.bf.lt, i.bb.below h i.bb.lt, i.bx.below h i.bx.lt, i.be.trans (h.mono i.be.size)⟩
theorem fq_many (i : Fq f b x q0 q1 q2 wo w') : Calls Tryd.prog 33 #[f.val, b.val] w' fun e w'' => ∃ u v, e = .returned (.func (.func 53) #[] #[.pointer (some ⟨u, 0, none⟩), .pointer (some ⟨v, 0, none⟩)]) ∧ Blk w'' u 52 f.cells.toArray ∧ Blk w'' v 75 b.cells.toArray ∧ Fq f b x q0 q1 q2 wo w'' := by
 refine (many_any f b w').mono ?_
 rintro e w2 ⟨rfl, rfl⟩
 refine ⟨_, _, rfl, (Blk.new _ _ _).alloc _, ?_, i.below (((Below.refl _ _).alloc (Nat.le_refl _) _).alloc (by simp) _)⟩
 have := Blk.new (w'.alloc (.cells f.cells.toArray 52)) 75 b.cells.toArray
 simpa using this
theorem fq_right {u v : Nat} (hm : Laid wo) (i : Fq f b x q0 q1 q2 wo w') (h1 : Blk w' u 52 f.cells.toArray) (h2 : Blk w' v 75 b.cells.toArray) :
  Calls Tryd.prog 32 #[.agg #[.int .i64 x.1, .int .i64 x.2], .func (.func 53) #[] #[.pointer (some ⟨u, 0, none⟩), .pointer (some ⟨v, 0, none⟩)]] w' fun e w'' => e = .returned (.bool (rt x.1 x.2 (cntV f b (pl x.1)))) ∧ Fq f b x q0 q1 q2 wo w'' := by
 refine (oright_any x.1 x.2 (cntV f b (pl x.1)) _ _ w' (hm.below i.be (Nat.le_refl _)) (fun w2 hb => ?_)).mono ?_
 ·exact cnt_any f b _ u v w2 (h1.below hb h1.lt) (h2.below hb h2.lt)
 ·rintro e w2 ⟨rfl, hb⟩
  exact ⟨rfl, i.below hb⟩
end
theorem bodies_drop (p : PoolP) : ∀ (ms : List SgP) (bs : List BdP) (k : Nat) (h1 : k < ms.length) (h2 : k < bs.length), bodiesOk p (ms.drop k) (bs.drop k) = (bdOk p ms[k] bs[k] && bodiesOk p (ms.drop (k + 1)) (bs.drop (k + 1))) := by
 intro ms bs k h1 h2
 rw [List.drop_eq_getElem_cons h1, List.drop_eq_getElem_cons h2, bodiesOk]
theorem bodies_end (p : PoolP) (ms : List SgP) (bs : List BdP) (h : bs.length = ms.length) : bodiesOk p (ms.drop bs.length) (bs.drop bs.length) = true := by
 rw [h, List.drop_length, bodiesOk]
end Go.Proofs.YtmbegaobnpoefaaDoor
namespace Go.Proofs.YtmbegaobnpoefaaDoor
open Go.RowKit
theorem i64_le {a b : Int} {c : Bool} (h : decide (a < b) = c) : decide (b ≤ a) = !c := by
 rw [← h]
 by_cases h : a < b
 ·have : ¬ b ≤ a := by omega
  simp [h, this]
 ·have : b ≤ a := by omega
  simp [h, this]
theorem rise_k : ∀ (ms : List Sg) (last : List UInt8), riseM last ms = true → ∀ m ∈ ms, m.k ≤ 200
 | [], _, _, m, hm => by cases hm
 | x :: ms, last, h, m, hm => by
  simp only [riseM, Bool.and_eq_true] at h
  rcases List.mem_cons.1 hm with rfl | hm
  ·have := h.1.2
   simp only [Sg.good, Bool.and_eq_true, decide_eq_true_eq] at this
   exact this.1.2
  ·exact rise_k ms x.n h.2 m hm
theorem right_k {f : Fc} (h : f.right = true) : ∀ m ∈ f.ms, m.k ≤ 200 := by
 simp only [Fc.right, Bool.and_eq_true] at h
 exact rise_k _ _ h.2
set_option maxRecDepth 100000 in
set_option maxHeartbeats 8000000 in
theorem fright_any (f : Fl) (w : World) (hm : Laid w) (h : f.at_ w (fun k => w.heap.size ≤ k)) : Calls Tryd.prog 14 #[f.val] w (Gives w (.bool f.pl.right)) := by
 have HAT := hide h
 have HM := hide hm
 clear hm
 obtain ⟨R, hR⟩ : ∃ R, R = f.pl.right := ⟨_, rfl⟩
 rw [← hR]
 obtain ⟨F1, hF1⟩ : ∃ F1, F1 = f.f.right := ⟨_, rfl⟩
 obtain ⟨P1, hP1⟩ : ∃ P1, P1 = prV f := ⟨_, rfl⟩
 obtain ⟨p, hp⟩ : ∃ p, p = f.ppl := ⟨_, rfl⟩
 obtain ⟨M, hM⟩ : ∃ M, M = f.f.ms.map Sg.pl := ⟨_, rfl⟩
 obtain ⟨Bs, hBs⟩ : ∃ Bs, Bs = f.bs.map Bd.pl := ⟨_, rfl⟩
 have HR0 : Hid (R = (F1 && P1 && decide (Bs.length = M.length) && bodiesOk p M Bs)) := hide (by
  rw [hR, hF1, hP1, Fc.right_pl h.fa, prV_eq h.po, hp, hM, hBs]; rfl)
 have HFR := fun w' (hb : Below w.heap.size w w') => hide (right_any f.f w' ((h.fa.below hb).weak (G := fun k => w'.heap.size ≤ k) (fun k hk => by have := hb.size; omega)))
 have HPR := fun w' (hb : Below w.heap.size w w') => hide (pright_any f w' ((h.po.below hb).weak (G := fun k => w'.heap.size ≤ k) (fun k hk => by have := hb.size; omega)))
 rw [← hF1] at HFR
 rw [← hP1] at HPR
 have hML : M.length = f.f.ml := by rw [hM, List.length_map]; exact h.fa.2.1.2.1
 have hBL : Bs.length = f.bl := by rw [hBs, List.length_map]; exact h.bL
 have hbB := h.bB
 have hmB : f.f.ml ≤ 9223372036854775807 := h.fa.2.1.2.2.1
 have HMS := hide (fun _ : Unit => hM)
 have HBS := hide (fun _ : Unit => hBs)
 have HPP := hide (fun _ : Unit => hp)
 have HF1R := hide (fun _ : Unit => hF1)
 clear h hR hF1 hP1 hM hBs hp
 go_enter Tryd.func14, Tryd.ntmps14
 go_upto_region 1 with fail
 refine name_world ?_
 intro wA hwA
 have HB1 : Hid (Below w.heap.size w wA) := hide (by rw [hwA]; exact (Below.refl _ _).alloc (Nat.le_refl _) _)
 have HK : Hid (Blk wA w.heap.size 52 f.cells.toArray) := hide (by rw [hwA]; exact Blk.new _ _ _)
 clear hwA
 have k0 := HK.out.cell 0
 have k1 := HK.out.cell 1
 have k2 := HK.out.cell 2
 have k3 := HK.out.cell 3
 simp at k0 k1 k2 k3
 have HF1 := hide (HFR wA HB1.out).out
 go_wp2_with fail
 clear k0 k1 k2 k3
 go_at_call 25
 refine HF1.out.mono ?_
 rintro e w2 ⟨rfl, hb2⟩
 have HB2 : Hid (Below w.heap.size w w2) := hide (HB1.out.trans (hb2.mono HB1.out.size))
 have HK2 := hide (HK.out.below hb2 HK.out.lt)
 clear hb2 HB1 HK HF1 HFR
 cases F1 with
 | false =>
  have HF : Hid (R = false) := hide (by rw [HR0.out]; rfl)
  clear HR0
  go_wp2_with fail
  go_ret
  exact ⟨by rw [HF.out] <;> rfl, HB2.out⟩
 | true =>
  have k4 := HK2.out.cell 4
  have k5 := HK2.out.cell 5
  have k6 := HK2.out.cell 6
  have k7 := HK2.out.cell 7
  have k8 := HK2.out.cell 8
  simp at k4 k5 k6 k7 k8
  have HP1 := hide (HPR w2 HB2.out).out
  go_wp2_with fail
  clear k4 k5 k6 k7 k8
  go_at_call 31
  refine HP1.out.mono ?_
  rintro e w3 ⟨rfl, hb3⟩
  have HB3 : Hid (Below w.heap.size w w3) := hide (HB2.out.trans (hb3.mono HB2.out.size))
  have HK3 := hide (HK2.out.below hb3 HK2.out.lt)
  clear hb3 HB2 HK2 HP1 HPR
  cases P1 with
  | false =>
   have HF : Hid (R = false) := hide (by rw [HR0.out]; rfl)
   clear HR0
   go_wp2_with fail
   go_ret
   exact ⟨by rw [HF.out] <;> rfl, HB3.out⟩
  | true =>
   have k9 := HK3.out.cell 9
   have k3 := HK3.out.cell 3
   simp at k9 k3
   obtain ⟨E, hE⟩ : ∃ E, ((f.bl : Int) != (f.f.ml : Int)) = E := ⟨_, rfl⟩
   have hEL : decide (Bs.length = M.length) = !E := by
    rw [← hE, hML, hBL]
    by_cases h : f.bl = f.f.ml
    ·simp [h]
    ·have : ¬ (f.bl : Int) = (f.f.ml : Int) := by omega
     simp [h, this]
   cases E with
   | true =>
    have HF : Hid (R = false) := hide (by rw [HR0.out, hEL]; rfl)
    clear HR0
    go_wp2_with fail
    go_ret
    exact ⟨by rw [HF.out] <;> rfl, HB3.out⟩
   | false =>
    have hlen : Bs.length = M.length := by simpa using hEL
    have HR1 : Hid (R = bodiesOk p M Bs) := hide (by rw [HR0.out, hEL]; simp)
    clear HR0 hEL
    go_upto_region 4 with fail
    clear hE k9 k3
    go_wp2_with fail
    obtain ⟨wo, hwo⟩ : ∃ wo : World, wo = w3 := ⟨_, rfl⟩
    subst hwo
    go_loopw [32] (fun i wr => ∃ k : Nat, k ≤ f.bl ∧ i = .int .i64 (k : Int) ∧ Hid (Below wo.heap.size wo wr) ∧ Hid (R = bodiesOk p (M.drop k) (Bs.drop k))) (fun i _ => f.bl - (intOf i).toNat)
    case atStart => exact ⟨0, by omega, rfl, hide (Below.refl _ _), HR1⟩
    case round =>
     obtain ⟨k, hk, rfl, HBR, HR⟩ := hrel
     clear HR1
     by_cases hlt : k < f.bl
     ·have hk1 : k < f.bs.length := by rw [← HAT.out.bL] at hlt; exact hlt
      have hk2 : k < f.f.ms.length := by have := HAT.out.fa.2.1.2.1; omega
      obtain ⟨bb, bo, hbA, _, _, hbs⟩ := Rd.rec_ (f := Bd.cells) (fun _ => rfl) (HAT.out.below (HB3.out.trans (HBR.out.mono HB3.out.size))).br HAT.out.bL k hlt
      have hbw := HAT.out.bW f.bs[k] (List.getElem_mem hk1)
      have hmw := HAT.out.fa.2.1.2.2.2 f.f.ms[k] (List.getElem_mem hk2)
      have hmk200 := right_k (HF1R.out ()).symm f.f.ms[k] (List.getElem_mem hk2)
      have HD := hide (bodies_drop p M Bs k (by omega) (by omega))
      have hMk : M[k]'(by omega) = f.f.ms[k].pl := by simp only [HMS.out ()]; simp
      have hBk : Bs[k]'(by omega) = f.bs[k].pl := by simp only [HBS.out ()]; simp
      rw [hMk, hBk] at HD
      clear hMk hBk
      have HCV : Hid (∀ z, cntV f f.bs[k] z = manyV p f.bs[k].pl z) := hide (fun z => by rw [HPP.out ()]; exact cntV_eq HAT.out.po hbw z)
      generalize f.bs[k] = b at hbs hbw HD HCV
      have HMC : Hid (∀ w', Below w.heap.size w w' → ∃ mb mo, f.f.mA = some ⟨mb, mo, none⟩ ∧ ∀ j u, (Sg.cells f.f.ms[k])[j]? = some u → w'.cell? ⟨mb, mo + k * 5 + j, none⟩ = some u) := hide (fun w' hb => by
       obtain ⟨mb, mo, e, _, _, h⟩ := Rd.rec_ (f := Sg.cells) (fun _ => rfl) (HAT.out.below hb).fa.2.1.1 HAT.out.fa.2.1.2.1 k (by omega)
       exact ⟨mb, mo, e, h⟩)
      generalize f.f.ms[k] = m at HMC hmw hmk200 HD
      obtain ⟨lo, sk, bA, bk, bc, code⟩ := b
      obtain ⟨mn, st, mA, mk, mc, mps, ⟨rn, ra⟩⟩ := m
      obtain ⟨hcr, hcl, hcb, _, _, _⟩ := hbw
      simp only at hcr hcl hcb
      have HCR := hide hcr
      have hmk : mps.length = mk := hmw.2.1
      have hmkb : mk ≤ 200 := hmk200
      clear hcr hmw
      have d0 := hbs 0 _ rfl
      have d1 := hbs 1 _ rfl
      have d2 := hbs 2 _ rfl
      clear hbs
      simp only [Nat.add_zero] at d0 d1 d2
      rw [hbA]
      obtain ⟨mb, mo, hmA, _⟩ := HMC.out w (Below.refl _ _)
      rw [hmA]
      have hbl64 := hbB
      go_upto_region 6 with fail
      refine name_world ?_
      intro w5 hw5
      have HB5 : Hid (Below wo.heap.size wo w5) := hide (by rw [hw5]; exact HBR.out.alloc HBR.out.size _)
      have HBK5 : Hid (Blk w5 wr.heap.size 75 #[.int .i64 lo, .int .i64 sk, .slice bA bk bc]) := hide (by rw [hw5]; exact Blk.new _ _ _)
      clear hw5 d0 d1 d2 HBR
      generalize wr.heap.size = q1 at HBK5 ⊢
      have k3 := (HK3.out.below HB5.out HK3.out.lt).cell 3
      simp at k3
      obtain ⟨mb2, mo2, hmA2, hms⟩ := HMC.out w5 (HB3.out.trans (HB5.out.mono HB3.out.size))
      rw [hmA] at hmA2
      injection hmA2 with hmA2
      injection hmA2 with hmA3 hmA4
      subst hmA3 hmA4
      rw [hmA] at k3
      have e0 := hms 0 _ rfl
      have e1 := hms 1 _ rfl
      have e2 := hms 2 _ rfl
      have e3 := hms 3 _ rfl
      have e4 := hms 4 _ rfl
      clear hms HMC
      simp only [Nat.add_zero] at e0 e1 e2 e3 e4
      have hb5 := HBK5.out.lt
      go_upto_region 7 with fail
      refine name_world ?_
      intro wB hwB
      have HBB0 : Hid (Below wo.heap.size wo wB) := hide (by rw [hwB]; exact HB5.out.alloc HB5.out.size _)
      have HWB : Hid (Below w.heap.size w wB) := hide (HB3.out.trans (HBB0.out.mono HB3.out.size))
      have HBK : Hid (Blk wB q1 75 #[.int .i64 lo, .int .i64 sk, .slice bA bk bc]) := hide (by rw [hwB]; exact HBK5.out.alloc _)
      have HSB : Hid (Blk wB w5.heap.size 55 #[S mn, .bool st, .slice mA mk mc, S rn, .bool ra]) := hide (by rw [hwB]; exact Blk.new _ _ _)
      have HKF := hide (HK3.out.below HBB0.out HK3.out.lt)
      clear hwB e0 e1 e2 e3 e4 k3 HB5 HBK5 hb5
      generalize w5.heap.size = q3 at HSB ⊢
      have HBB := HWB
      have s1 := HSB.out.cell 1
      have s2 := HSB.out.cell 2
      have b0 := HBK.out.cell 0
      have b1 := HBK.out.cell 1
      have b2 := HBK.out.cell 2
      simp at s1 s2 b0 b1 b2
      obtain ⟨RS, hRS⟩ : ∃ RS, RS = bodiesOk p (M.drop (k + 1)) (Bs.drop (k + 1)) := ⟨_, rfl⟩
      have HRS := hide (fun _ : Unit => hRS)
      obtain ⟨q, hq⟩ : ∃ q : Int × Int → Bool, q = fun x => rtC x.1 x.2 (manyV p ⟨lo, sk, code⟩ (pl x.1)) := ⟨_, rfl⟩
      have HQQ : Hid (∀ x, q x = rt x.1 x.2 (cntV f ⟨lo, sk, bA, bk, bc, code⟩ (pl x.1))) := hide (fun x => by rw [HCV.out, hq]; rfl)
      have HD1 : Hid (R = (((decide ((if st then (mk : Int) else mk + 1) ≤ lo) && decide (lo ≤ 401) && decide (0 ≤ sk) && decide (sk ≤ 1000) && decide (1 ≤ bk) && decide (bk ≤ 16384)) && code.all q) && RS)) := hide (by
       rw [HR.out, HD.out, hRS, hq]
       simp only [bdOk, Sg.pl, Bd.pl, hmk, hcl]
       rfl)
      clear HR HD HCV hRS hq
      obtain ⟨v2, d2⟩ : ∃ v, decide (401 < lo) = v := ⟨_, rfl⟩
      obtain ⟨v3, d3⟩ : ∃ v, decide (sk < 0) = v := ⟨_, rfl⟩
      obtain ⟨v4, d4⟩ : ∃ v, decide (1000 < sk) = v := ⟨_, rfl⟩
      obtain ⟨v5, d5⟩ : ∃ v, decide ((bk : Int) < 1) = v := ⟨_, rfl⟩
      obtain ⟨v6, d6⟩ : ∃ v, decide (16384 < (bk : Int)) = v := ⟨_, rfl⟩
      have h5 : decide (1 ≤ bk) = !v5 := by
       rw [← d5]
       by_cases h : 1 ≤ bk
       ·have : ¬ (bk : Int) < 1 := by omega
        simp [h, this]
       ·have : (bk : Int) < 1 := by omega
        simp [h, this]
      have h6 : decide (bk ≤ 16384) = !v6 := by rw [← d6]; exact dec_le bk 16384
      rw [i64_le d2, i64_le d3, i64_le d4, h5, h6] at HD1
      clear h5 h6
      have HC := hide (And.intro hcl (And.intro hcb (And.intro hbB hlt)))
      clear hcl hcb hmk hlen hML hBL hbB hmB hlt hk1 hk2 hbl64
      cases st
      case' false => obtain ⟨v1, d1⟩ : ∃ v, decide (lo < (mk : Int) + 1) = v := ⟨_, rfl⟩
      case' true => obtain ⟨v1, d1⟩ : ∃ v, decide (lo < (mk : Int)) = v := ⟨_, rfl⟩
      all_goals
       have HD2 : Hid (R = (((!v1 && !v2 && !v3 && !v4 && !v5 && !v6) && code.all q) && RS)) := hide (by rw [HD1.out]; simp only [if_true, if_false, Bool.false_eq_true, i64_le d1])
       clear HD1
       go_upto_region 10 with fail
       clear hmkb s1 s2
       cases v1 with
       | true =>
        have HF : Hid (R = false) := hide (by rw [HD2.out]; simp)
        clear HD2
        go_wp2_with fail
        go_ret
        exact ⟨by rw [HF.out] <;> rfl, HWB.out⟩
       | false =>
        cases v2 with
        | true =>
         have HF : Hid (R = false) := hide (by rw [HD2.out]; simp)
         clear HD2
         go_wp2_with fail
         go_ret
         exact ⟨by rw [HF.out] <;> rfl, HWB.out⟩
        | false =>
         cases v3 with
         | true =>
          have HF : Hid (R = false) := hide (by rw [HD2.out]; simp)
          clear HD2
          go_wp2_with fail
          go_ret
          exact ⟨by rw [HF.out] <;> rfl, HWB.out⟩
         | false =>
          cases v4 with
          | true =>
           have HF : Hid (R = false) := hide (by rw [HD2.out]; simp)
           clear HD2
           go_wp2_with fail
           go_ret
           exact ⟨by rw [HF.out] <;> rfl, HWB.out⟩
          | false =>
           cases v5 with
           | true =>
            have HF : Hid (R = false) := hide (by rw [HD2.out]; simp)
            clear HD2
            go_wp2_with fail
            go_ret
            exact ⟨by rw [HF.out] <;> rfl, HWB.out⟩
           | false =>
            cases v6 with
            | true =>
             have HF : Hid (R = false) := hide (by rw [HD2.out]; simp)
             clear HD2
             go_wp2_with fail
             go_ret
             exact ⟨by rw [HF.out] <;> rfl, HWB.out⟩
            | false =>
             have HG : Hid (R = (code.all q && RS)) := hide (by rw [HD2.out]; simp)
             clear HD2
             go_upto_region 12 with fail
             clear d2 d3 d4 d5 d6 b0 b1
             go_upto_region 13 with fail
             go_wp2_with fail
             clear b2
             obtain ⟨hcl, hcb, hbB, hlt⟩ := HC.out
             go_loopw [85] (fun i wx => ∃ j : Nat, j ≤ bk ∧ i = .int .i64 (j : Int) ∧ Hid (Below wB.heap.size wB wx) ∧ Hid (R = ((code.drop j).all q && RS))) (fun i _ => bk - (intOf i).toNat)
             case atStart => exact ⟨0, by omega, rfl, hide (Below.refl _ _), HG⟩
             case round =>
              obtain ⟨j, hj, rfl, HBX, HJ⟩ := hrel
              clear HG
              by_cases hlt2 : j < bk
              ·obtain ⟨cb, co, hcA, _, _, hcs⟩ := Rd.rec_ (f := coC) (fun _ => rfl) (HCR.out.below (HBB.out.trans (HBX.out.mono HBB.out.size))) hcl j hlt2
               have hj' : j < code.length := by omega
               have HDJ := hide (drop_all q code j hj')
               have HQ := hide (HQQ.out code[j])
               generalize code[j] = x at hcs HDJ HQ
               obtain ⟨xc, xa⟩ := x
               have c0 := hcs 0 _ rfl
               have c1 := hcs 1 _ rfl
               clear hcs
               simp only [Nat.add_zero] at c0 c1
               subst hcA
               go_upto_region 15 with fail
               refine name_world ?_
               intro wC hwC
               have i4 : Fq f ⟨lo, sk, some ⟨cb, co, none⟩, bk, bc, code⟩ (xc, xa) w.heap.size q1 wr.heap.size wB wC := ⟨HKF.out.below (B := wB.heap.size) (by rw [hwC]; exact HBX.out.alloc HBX.out.size _) HKF.out.lt, HBK.out.below (B := wB.heap.size) (by rw [hwC]; exact HBX.out.alloc HBX.out.size _) HBK.out.lt, by rw [hwC]; exact Blk.new _ _ _, by rw [hwC]; exact HBX.out.alloc HBX.out.size _⟩
               clear hwC c0 c1 HBX
               generalize wr.heap.size = q2 at i4 ⊢
               have HMN : Hid (∀ w', Fq f ⟨lo, sk, some ⟨cb, co, none⟩, bk, bc, code⟩ (xc, xa) w.heap.size q1 q2 wB w' → Calls Tryd.prog 33 #[f.val, .agg #[.int .i64 lo, .int .i64 sk, .slice (some ⟨cb, co, none⟩) bk bc]] w' fun e w'' => ∃ u v, e = .returned (.func (.func 53) #[] #[.pointer (some ⟨u, 0, none⟩), .pointer (some ⟨v, 0, none⟩)]) ∧ Blk w'' u 52 f.cells.toArray ∧ Blk w'' v 75 #[.int .i64 lo, .int .i64 sk, .slice (some ⟨cb, co, none⟩) bk bc] ∧ Fq f ⟨lo, sk, some ⟨cb, co, none⟩, bk, bc, code⟩ (xc, xa) w.heap.size q1 q2 wB w'') := hide (fun w' i => fq_many i)
               have HRT : Hid (∀ w' u v, Fq f ⟨lo, sk, some ⟨cb, co, none⟩, bk, bc, code⟩ (xc, xa) w.heap.size q1 q2 wB w' → Blk w' u 52 f.cells.toArray → Blk w' v 75 #[.int .i64 lo, .int .i64 sk, .slice (some ⟨cb, co, none⟩) bk bc] → Calls Tryd.prog 32 #[.agg #[.int .i64 xc, .int .i64 xa], .func (.func 53) #[] #[.pointer (some ⟨u, 0, none⟩), .pointer (some ⟨v, 0, none⟩)]] w' fun e w'' => e = .returned (.bool (q (xc, xa))) ∧ Fq f ⟨lo, sk, some ⟨cb, co, none⟩, bk, bc, code⟩ (xc, xa) w.heap.size q1 q2 wB w'') := hide (fun w' u v i h1 h2 => by rw [HQ.out]; exact fq_right (HM.out.below HWB.out (Nat.le_refl _)) i h1 h2)
               generalize q (xc, xa) = T at HRT HDJ
               clear HQ
               clear hmA hbA
               have hcel : wC.cell? ⟨w.heap.size, 0, none⟩ = some (S f.f.n) ∧ wC.cell? ⟨w.heap.size, 1, none⟩ = some (S f.f.su) ∧ wC.cell? ⟨w.heap.size, 2, none⟩ = some (.slice f.f.fA f.f.fl f.f.fc) ∧ wC.cell? ⟨w.heap.size, 3, none⟩ = some (.slice f.f.mA f.f.ml f.f.mc) ∧ wC.cell? ⟨w.heap.size, 4, none⟩ = some (.slice f.nA f.nl f.nc) ∧ wC.cell? ⟨w.heap.size, 5, none⟩ = some (.slice f.cA f.cl f.cc) ∧ wC.cell? ⟨w.heap.size, 6, none⟩ = some (.slice f.tA f.tl f.tc) ∧ wC.cell? ⟨w.heap.size, 7, none⟩ = some (.slice f.dA f.dl f.dc) ∧ wC.cell? ⟨w.heap.size, 8, none⟩ = some (.slice f.mA f.ml f.mc) ∧ wC.cell? ⟨w.heap.size, 9, none⟩ = some (.slice f.bA f.bl f.bc) ∧ wC.cell? ⟨q1, 0, none⟩ = some (.int .i64 lo) ∧ wC.cell? ⟨q1, 1, none⟩ = some (.int .i64 sk) ∧ wC.cell? ⟨q1, 2, none⟩ = some (.slice (some ⟨cb, co, none⟩) bk bc) ∧ wC.cell? ⟨q2, 0, none⟩ = some (.int .i64 xc) ∧ wC.cell? ⟨q2, 1, none⟩ = some (.int .i64 xa) := i4.cells
               have i5' := i4.below ((Below.refl _ _).drew)
               (go_region_held3 (fun w' => w'.cell? ⟨w.heap.size, 0, none⟩ = some (S f.f.n) ∧ w'.cell? ⟨w.heap.size, 1, none⟩ = some (S f.f.su) ∧ w'.cell? ⟨w.heap.size, 2, none⟩ = some (.slice f.f.fA f.f.fl f.f.fc) ∧ w'.cell? ⟨w.heap.size, 3, none⟩ = some (.slice f.f.mA f.f.ml f.f.mc) ∧ w'.cell? ⟨w.heap.size, 4, none⟩ = some (.slice f.nA f.nl f.nc) ∧ w'.cell? ⟨w.heap.size, 5, none⟩ = some (.slice f.cA f.cl f.cc) ∧ w'.cell? ⟨w.heap.size, 6, none⟩ = some (.slice f.tA f.tl f.tc) ∧ w'.cell? ⟨w.heap.size, 7, none⟩ = some (.slice f.dA f.dl f.dc) ∧ w'.cell? ⟨w.heap.size, 8, none⟩ = some (.slice f.mA f.ml f.mc) ∧ w'.cell? ⟨w.heap.size, 9, none⟩ = some (.slice f.bA f.bl f.bc) ∧ w'.cell? ⟨q1, 0, none⟩ = some (.int .i64 lo) ∧ w'.cell? ⟨q1, 1, none⟩ = some (.int .i64 sk) ∧ w'.cell? ⟨q1, 2, none⟩ = some (.slice (some ⟨cb, co, none⟩) bk bc) ∧ w'.cell? ⟨q2, 0, none⟩ = some (.int .i64 xc) ∧ w'.cell? ⟨q2, 1, none⟩ = some (.int .i64 xa))
                (first | exact hcel | assumption | exact i5.cells | exact i6.cells | fail)
                (first
                 | (go_at_call 33; (with_reducible refine (HMN.out _ i5').mono ?_); rintro e w5 ⟨u, v, rfl, hu, hv, i5⟩)
                 | (go_at_call 32; (with_reducible refine (HRT.out _ u v i5 hu hv).mono ?_); rintro e w6 ⟨rfl, i6⟩)
                 | fail))
               clear hcel i4 i5 hu hv i5'
               have HBX6 := hide i6.be
               clear i6 HMN HRT HKF
               cases T with
               | false =>
                have HF : Hid (R = false) := hide (by rw [HJ.out, HDJ.out]; rfl)
                clear HJ HDJ
                go_wp2_with fail
                go_ret
                exact ⟨by rw [HF.out] <;> rfl, HWB.out.trans (HBX6.out.mono HWB.out.size)⟩
               | true =>
                have HF : Hid (R = ((code.drop (j + 1)).all q && RS)) := hide (by rw [HJ.out, HDJ.out]; simp)
                clear HJ HDJ
                go_wp2_with fail
                go_roundw
                case rel => first | exact ⟨j + 1, by omega, by go_num, HBX6, HF⟩ | ((repeat apply Exists.intro); exact ⟨⟨j + 1, by omega, by go_num, HBX6, HF⟩, rfl⟩)
                case measure => simp [intOf]; omega
              ·obtain rfl : j = bk := by omega
               have HF : Hid (R = RS) := hide (by rw [HJ.out, ← hcl, List.drop_length]; rfl)
               clear HJ
               go_wp2_with fail
               go_roundw
               case rel => first | exact ⟨k + 1, by omega, by go_num, hide (HBB0.out.trans (HBX.out.mono HBB0.out.size)), hide (by rw [HF.out, HRS.out ()])⟩ | ((repeat apply Exists.intro); exact ⟨⟨k + 1, by omega, by go_num, hide (HBB0.out.trans (HBX.out.mono HBB0.out.size)), hide (by rw [HF.out, HRS.out ()])⟩, rfl⟩)
               case measure => simp [intOf]; omega
     ·obtain rfl : k = f.bl := by omega
      have HF : Hid (R = true) := hide (by rw [HR.out, ← hBL]; exact bodies_end p M Bs hlen)
      clear HR
      go_wp2_with fail
      go_ret
      exact ⟨by rw [HF.out] <;> rfl, HB3.out.trans (HBR.out.mono HB3.out.size)⟩
end Go.Proofs.YtmbegaobnpoefaaDoor
