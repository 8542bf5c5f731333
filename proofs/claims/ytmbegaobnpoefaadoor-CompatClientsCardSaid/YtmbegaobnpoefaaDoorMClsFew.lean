/- What the laws' 'Few' of a file tells, walked; no statement of the seat is proved here. -/
import Derived.Test.YtmbegaobnpoefaaDoorMOpLaidC
import Derived.Test.YtmbegaobnpoefaaDoorMClsM2
import Derived.Test.YtmbegaobnpoefaaDoorMFaceDataC
import Derived.Test.YtmbegaobnpoefaaDoorMBase
import Derived.Test.YtmbegaobnpoefaaDoorMCliChkM
namespace Go.Proofs.YtmbegaobnpoefaaDoor
open Go.RowKit
def Mt.few (x : Mt) : Prop := x.c.length ≤ 60 ∧ x.m.few
structure Fl.few (f : Fl) : Prop where
 fa : f.f.few
 n : f.nl ≤ 20
 c : f.cl ≤ 20
 t : f.tl ≤ 20
 d : f.dl ≤ 20
 m : f.ml ≤ 20
 b : f.bl ≤ 12
 cs : ∀ x ∈ f.cls, x.length ≤ 60
 ts : ∀ x ∈ f.tys, x.n.length ≤ 60
 ms : ∀ x ∈ f.mts, x.few
 bs : ∀ x ∈ f.bs, x.k ≤ 60
theorem Rd.one5 {w : World} {F : Nat → Prop} {b : Nat} {t : TypeId} {l : List Value} {n size : Nat} (hb : Blk w b t l.toArray) (hF : ¬ F b) (hl : l.length = n * size) : Rd w F size (some ⟨b, 0, none⟩) n l :=
 ⟨hl, fun _ => ⟨b, 0, rfl, hF, hb.lt, fun j u hu => by rw [Nat.zero_add, hb.cell j]; simpa using hu⟩⟩
theorem one_at {w : World} {F : Nat → Prop} {m : Sg} {b : Nat} {s : List UInt8} (hs : short s) (hb : Blk w b 55 m.cells.toArray) (hF : ¬ F b) (hm : m.at_ w F) : (⟨s, [], none, 0, 0, [], some ⟨b, 0, none⟩, 1, 1, [m]⟩ : Fc).at_ w F :=
 ⟨⟨Rd.nil _ _ _ _, rfl, Nat.zero_le _, (fun _ h => by cases h)⟩, ⟨Rd.one5 (by simpa using hb) hF rfl, rfl, by show 1 ≤ 9223372036854775807; omega, (fun x hx => by obtain rfl := List.mem_singleton.1 hx; exact hm)⟩, hs, by show 0 ≤ 9223372036854775807; omega⟩
set_option maxRecDepth 100000 in
set_option maxHeartbeats 8000000 in
theorem cfew_any (f : Fl) (w : World) (h : f.at_ w (fun k => w.heap.size ≤ k)) : Calls Tryd.prog 13 #[f.val] w (Asks w f.few) := by
 obtain ⟨⟨n, su, fA, fl, fc, fs, mfA, mfl, mfc, mfs⟩, nA, nl, nc, nums, cA, cl, cc, cls, tA, tl, tc, tys, dA, dl, dc, fds, mA, ml, mc, mts, bA, bl, bc, bs⟩ := f
 obtain ⟨wA, hwA⟩ : ∃ wA, wA = w.alloc (.cells (Fl.cells ⟨⟨n, su, fA, fl, fc, fs, mfA, mfl, mfc, mfs⟩, nA, nl, nc, nums, cA, cl, cc, cls, tA, tl, tc, tys, dA, dl, dc, fds, mA, ml, mc, mts, bA, bl, bc, bs⟩).toArray 52) := ⟨_, rfl⟩
 have hbA : Below w.heap.size w wA := by rw [hwA]; exact (Below.refl _ _).alloc (Nat.le_refl _) _
 have hbk : Blk wA w.heap.size 52 (Fl.cells ⟨⟨n, su, fA, fl, fc, fs, mfA, mfl, mfc, mfs⟩, nA, nl, nc, nums, cA, cl, cc, cls, tA, tl, tc, tys, dA, dl, dc, fds, mA, ml, mc, mts, bA, bl, bc, bs⟩).toArray := by rw [hwA]; exact Blk.new _ _ _
 obtain ⟨HFA, HPO, HBR, HBL, HBB, HBW⟩ := h
 obtain ⟨HNR, HNL, HNB, HNW, HCR, HCL, HCB, HCW, HTR, HTL, HTB, HTW, HDR, HDL, HDB, HDW, HMR, HML, HMB, HMW⟩ := HPO
 simp only at HFA HBR HBL HBB HBW HNL HNB HCR HCL HCB HTR HTL HTB HDR HDL HDB HMR HML HMB HMW
 have HF0 := hide (few_any _ wA ((HFA.below hbA).weak (fun k hk => Nat.le_trans hbA.size hk)))
 have HC := hide HCR
 have HT := hide HTR
 have HD := hide HDR
 have HM := hide HMR
 have HB := hide HBR
 have LC := hide HCL
 have LT := hide HTL
 have LD := hide HDL
 have LM := hide HML
 have LB := hide HBL
 have WM := hide HMW
 have WB := hide HBW
 have HS := hide (And.intro HNB (And.intro HCB (And.intro HTB (And.intro HDB (And.intro HMB HBB)))))
 clear HFA HBR HBL HBB HBW HNR HNL HNB HNW HCR HCL HCB HCW HTR HTL HTB HTW HDR HDL HDB HDW HMR HML HMB HMW
 have HBK := hide hbk
 have p0 := hbk.cell 0
 have p1 := hbk.cell 1
 have p2 := hbk.cell 2
 have p3 := hbk.cell 3
 have p4 := hbk.cell 4
 have p5 := hbk.cell 5
 have p6 := hbk.cell 6
 have p7 := hbk.cell 7
 have p8 := hbk.cell 8
 have p9 := hbk.cell 9
 simp at p0 p1 p2 p3 p4 p5 p6 p7 p8 p9
 clear hbk
 go_enter Tryd.func13, Tryd.ntmps13
 go_upto_region 1 with fail
 rw [← hwA]
 clear hwA
 have HBA := hide hbA
 clear hbA
 go_wp2_with fail
 refine HF0.out.mono ?_
 clear HF0
 rintro e w1 ⟨R0, rfl, hb1, hR0⟩
 have HB1 : Hid (Below w.heap.size w w1) := hide (HBA.out.trans (hb1.mono HBA.out.size))
 have HK1 : Hid (Blk w1 w.heap.size 52 _) := hide (HBK.out.below hb1 HBK.out.lt)
 have H0 := hide hR0
 clear p0 p1 p2 p3 p4 p5 p6 p7 p8 p9 hb1 hR0 HBK HBA
 have p4 := HK1.out.cell 4
 have p5 := HK1.out.cell 5
 have p6 := HK1.out.cell 6
 have p7 := HK1.out.cell 7
 have p8 := HK1.out.cell 8
 have p9 := HK1.out.cell 9
 simp at p4 p5 p6 p7 p8 p9
 cases R0 with
 | false =>
  go_wp2_with fail
  go_ret
  exact ⟨_, rfl, HB1.out, by simp⟩
 | true =>
  by_cases ev0 : 20 < (nl : Int)
  ·have dv0 : decide (20 < (nl : Int)) = true := by simpa using ev0
   go_wp2_with fail
   go_ret
   exact ⟨_, rfl, HB1.out, by simp⟩
  have dv0 : decide (20 < (nl : Int)) = false := by simpa using ev0
  by_cases ev1 : 20 < (cl : Int)
  ·have dv1 : decide (20 < (cl : Int)) = true := by simpa using ev1
   go_wp2_with fail
   go_ret
   exact ⟨_, rfl, HB1.out, by simp⟩
  have dv1 : decide (20 < (cl : Int)) = false := by simpa using ev1
  by_cases ev2 : 20 < (tl : Int)
  ·have dv2 : decide (20 < (tl : Int)) = true := by simpa using ev2
   go_wp2_with fail
   go_ret
   exact ⟨_, rfl, HB1.out, by simp⟩
  have dv2 : decide (20 < (tl : Int)) = false := by simpa using ev2
  by_cases ev3 : 20 < (dl : Int)
  ·have dv3 : decide (20 < (dl : Int)) = true := by simpa using ev3
   go_wp2_with fail
   go_ret
   exact ⟨_, rfl, HB1.out, by simp⟩
  have dv3 : decide (20 < (dl : Int)) = false := by simpa using ev3
  by_cases ev4 : 20 < (ml : Int)
  ·have dv4 : decide (20 < (ml : Int)) = true := by simpa using ev4
   go_wp2_with fail
   go_ret
   exact ⟨_, rfl, HB1.out, by simp⟩
  have dv4 : decide (20 < (ml : Int)) = false := by simpa using ev4
  by_cases ev5 : 12 < (bl : Int)
  ·have dv5 : decide (12 < (bl : Int)) = true := by simpa using ev5
   go_wp2_with fail
   go_ret
   exact ⟨_, rfl, HB1.out, by simp⟩
  have dv5 : decide (12 < (bl : Int)) = false := by simpa using ev5
  have HN : Hid (nl ≤ 20 ∧ cl ≤ 20 ∧ tl ≤ 20 ∧ dl ≤ 20 ∧ ml ≤ 20 ∧ bl ≤ 12) := hide ⟨by omega, by omega, by omega, by omega, by omega, by omega⟩
  clear ev0 ev1 ev2 ev3 ev4 ev5
  go_upto_region 3 with fail
  clear dv0 dv1 dv2 dv3 dv4 dv5
  go_wp2_with fail
  clear p5
  go_loopw [62] (fun i wr => ∃ k : Nat, k ≤ cl ∧ i = .int .i64 k ∧ Hid (Below w1.heap.size w1 wr) ∧ Hid (∀ i (hi : i < cls.length), i < k → (fun x : List UInt8 => x.length ≤ 60) cls[i])) (fun i _ => cl - (intOf i).toNat)
  case atStart => exact ⟨0, Nat.zero_le _, rfl, hide (Below.refl _ _), hide (by omega)⟩
  case round =>
   obtain ⟨k, hk, rfl, HBR, HA⟩ := hrel
   have HBW : Hid (Below w.heap.size w wr) := hide (HB1.out.trans (HBR.out.mono HB1.out.size))
   have hbd : cl ≤ 20 := by obtain ⟨z1, z2, z3, z4, z5, z6⟩ := HN.out; omega
   by_cases hlt : k < cl
   ·obtain ⟨x, o, u, rfl, hu, hcell⟩ := Rd.at_ ((HC.out).below HBW.out) k hlt
    have hlk : k < cls.length := by have := LC.out; omega
    rw [List.getElem?_map, List.getElem?_eq_getElem hlk] at hu
    simp only [Option.map_some, Option.some.injEq] at hu
    obtain ⟨v, hv⟩ : ∃ v, v = cls[k] := ⟨_, rfl⟩
    rw [← hv] at hu
    have HV := hide hv
    clear hv
    subst hu
    by_cases e1 : 60 < (v.length : Int)
    ·have d1 : decide (60 < (v.length : Int)) = true := by simpa using e1
     go_wp2_with fail
     go_ret
     exact ⟨_, rfl, HBW.out, by simp⟩
    have d1 : decide (60 < (v.length : Int)) = false := by simpa using e1
    go_wp2_with fail
    go_roundw
    case rel => exact ⟨k + 1, by omega, by go_num, HBR, hide (all_step (p := fun x : List UInt8 => x.length ≤ 60) HA.out hlk (by rw [← HV.out]; show v.length ≤ 60; omega))⟩
    case measure => simp [intOf]; omega
   ·have A0 : Hid (∀ x ∈ cls, (fun x : List UInt8 => x.length ≤ 60) x) := hide (all_done HA.out (by have := LC.out; omega))
    clear HA
    obtain ⟨w2, rfl⟩ : ∃ w2 : World, w2 = wr := ⟨_, rfl⟩
    have HB2 : Hid (Below w.heap.size w w2) := HBW
    have HK2 : Hid (Blk w2 w.heap.size 52 _) := hide (HK1.out.below HBR.out HK1.out.lt)
    clear p6 p7 p8 p9 p4 HBR HBW HK1 HB1
    have p6 := HK2.out.cell 6
    have p7 := HK2.out.cell 7
    have p8 := HK2.out.cell 8
    have p9 := HK2.out.cell 9
    simp at p6 p7 p8 p9
    go_wp2_with fail
    clear p6
    go_loopw [74] (fun i wr => ∃ k : Nat, k ≤ tl ∧ i = .int .i64 k ∧ Hid (Below w2.heap.size w2 wr) ∧ Hid (∀ i (hi : i < tys.length), i < k → (fun x : Ty => x.n.length ≤ 60) tys[i])) (fun i _ => tl - (intOf i).toNat)
    case atStart => exact ⟨0, Nat.zero_le _, rfl, hide (Below.refl _ _), hide (by omega)⟩
    case round =>
     obtain ⟨k, hk, rfl, HBR, HA⟩ := hrel
     have HBW : Hid (Below w.heap.size w wr) := hide (HB2.out.trans (HBR.out.mono HB2.out.size))
     have hbd : tl ≤ 20 := by obtain ⟨z1, z2, z3, z4, z5, z6⟩ := HN.out; omega
     by_cases hlt : k < tl
     ·obtain ⟨x, o, rfl, hx1, _, hcell⟩ := Rd.rec_ (size := 2) (fun _ => rfl) ((HT.out).below HBW.out) LT.out k hlt
      have hlk : k < tys.length := by have := LT.out; omega
      obtain ⟨v, hv⟩ : ∃ v, v = tys[k] := ⟨_, rfl⟩
      rw [← hv] at hcell
      have HV := hide hv
      clear hv
      obtain ⟨vn, va⟩ := v
      have q0 : wr.cell? ⟨x, o + k * 2, none⟩ = some (S vn) := hcell 0 _ rfl
      have q1 : wr.cell? ⟨x, o + k * 2 + 1, none⟩ = some (.bool va) := hcell 1 _ rfl
      clear hcell hx1
      by_cases e1 : 60 < (vn.length : Int)
      ·have d1 : decide (60 < (vn.length : Int)) = true := by simpa using e1
       go_wp2_with fail
       go_ret
       exact ⟨_, rfl, HBW.out.alloc HBW.out.size _, by simp⟩
      have d1 : decide (60 < (vn.length : Int)) = false := by simpa using e1
      go_wp2_with fail
      go_roundw
      case rel => exact ⟨k + 1, by omega, by go_num, hide (HBR.out.alloc HBR.out.size _), hide (all_step (p := fun x : Ty => x.n.length ≤ 60) HA.out hlk (by rw [← HV.out]; show vn.length ≤ 60; omega))⟩
      case measure => simp [intOf]; omega
     ·have A1 : Hid (∀ x ∈ tys, (fun x : Ty => x.n.length ≤ 60) x) := hide (all_done HA.out (by have := LT.out; omega))
      clear HA
      obtain ⟨w3, rfl⟩ : ∃ w3 : World, w3 = wr := ⟨_, rfl⟩
      have HB3 : Hid (Below w.heap.size w w3) := HBW
      have HK3 : Hid (Blk w3 w.heap.size 52 _) := hide (HK2.out.below HBR.out HK2.out.lt)
      clear p7 p8 p9 HBR HBW HK2 HB2
      have p7 := HK3.out.cell 7
      have p8 := HK3.out.cell 8
      have p9 := HK3.out.cell 9
      simp at p7 p8 p9
      go_wp2_with fail
      clear p7
      go_loopw [87] (fun i wr => ∃ k : Nat, k ≤ dl ∧ i = .int .i64 k ∧ Hid (Below w3.heap.size w3 wr) ∧ Hid (∀ i (hi : i < fds.length), i < k → (fun _ : FdP => True) fds[i])) (fun i _ => dl - (intOf i).toNat)
      case atStart => exact ⟨0, Nat.zero_le _, rfl, hide (Below.refl _ _), hide (by omega)⟩
      case round =>
       obtain ⟨k, hk, rfl, HBR, HA⟩ := hrel
       have HBW : Hid (Below w.heap.size w wr) := hide (HB3.out.trans (HBR.out.mono HB3.out.size))
       have hbd : dl ≤ 20 := by obtain ⟨z1, z2, z3, z4, z5, z6⟩ := HN.out; omega
       by_cases hlt : k < dl
       ·obtain ⟨x, o, rfl, hx1, _, hcell⟩ := Rd.rec_ (size := 4) (fun _ => rfl) ((HD.out).below HBW.out) LD.out k hlt
        have hlk : k < fds.length := by have := LD.out; omega
        obtain ⟨v, hv⟩ : ∃ v, v = fds[k] := ⟨_, rfl⟩
        rw [← hv] at hcell
        have HV := hide hv
        clear hv
        obtain ⟨⟨vn, vt, va⟩, vc⟩ := v
        have q0 : wr.cell? ⟨x, o + k * 4, none⟩ = some (S vn) := hcell 0 _ rfl
        have q1 : wr.cell? ⟨x, o + k * 4 + 1, none⟩ = some (S vt) := hcell 1 _ rfl
        have q2 : wr.cell? ⟨x, o + k * 4 + 2, none⟩ = some (.bool va) := hcell 2 _ rfl
        have q3 : wr.cell? ⟨x, o + k * 4 + 3, none⟩ = some (S vc) := hcell 3 _ rfl
        clear hcell hx1
        go_wp2_with fail
        case roundEnd =>
         go_roundw
         case rel => exact ⟨k + 1, by omega, by go_num, hide (HBR.out.alloc HBR.out.size _), hide (all_step (p := fun _ : FdP => True) HA.out hlk trivial)⟩
         case measure => simp [intOf]; omega
        go_ret
        exact ⟨_, rfl, HBW.out.alloc HBW.out.size _, by simp⟩
       ·have A2 : Hid (∀ x ∈ fds, (fun _ : FdP => True) x) := hide (all_done HA.out (by have := LD.out; omega))
        clear HA
        obtain ⟨w4, rfl⟩ : ∃ w4 : World, w4 = wr := ⟨_, rfl⟩
        have HB4 : Hid (Below w.heap.size w w4) := HBW
        have HK4 : Hid (Blk w4 w.heap.size 52 _) := hide (HK3.out.below HBR.out HK3.out.lt)
        clear p8 p9 HBR HBW HK3 HB3
        have p8 := HK4.out.cell 8
        have p9 := HK4.out.cell 9
        simp at p8 p9
        go_wp2_with fail
        clear p8
        go_loopw [111] (fun i wr => ∃ k : Nat, k ≤ ml ∧ i = .int .i64 k ∧ Hid (Below w4.heap.size w4 wr) ∧ Hid (∀ i (hi : i < mts.length), i < k → (fun x : Mt => x.few) mts[i])) (fun i _ => ml - (intOf i).toNat)
        case atStart => exact ⟨0, Nat.zero_le _, rfl, hide (Below.refl _ _), hide (by omega)⟩
        case round =>
         obtain ⟨k, hk, rfl, HBR, HA⟩ := hrel
         have HBW : Hid (Below w.heap.size w wr) := hide (HB4.out.trans (HBR.out.mono HB4.out.size))
         have hbd : ml ≤ 20 := by obtain ⟨z1, z2, z3, z4, z5, z6⟩ := HN.out; omega
         by_cases hlt : k < ml
         ·obtain ⟨x, o, rfl, hx1, _, hcell⟩ := Rd.rec_ (size := 6) (fun _ => rfl) ((HM.out).below HBW.out) LM.out k hlt
          have hlk : k < mts.length := by have := LM.out; omega
          obtain ⟨v, hv⟩ : ∃ v, v = mts[k] := ⟨_, rfl⟩
          have hmr := (WM.out _ (List.getElem_mem hlk)).1.below HBW.out
          rw [← hv] at hmr
          rw [← hv] at hcell
          have HV := hide hv
          clear hv
          obtain ⟨⟨sn, sst, sA, sk, sc, sps, srn, sra⟩, vc⟩ := v
          have q0 : wr.cell? ⟨x, o + k * 6, none⟩ = some (S sn) := hcell 0 _ rfl
          have q1 : wr.cell? ⟨x, o + k * 6 + 1, none⟩ = some (.bool sst) := hcell 1 _ rfl
          have q2 : wr.cell? ⟨x, o + k * 6 + 2, none⟩ = some (.slice sA sk sc) := hcell 2 _ rfl
          have q3 : wr.cell? ⟨x, o + k * 6 + 3, none⟩ = some (S srn) := hcell 3 _ rfl
          have q4 : wr.cell? ⟨x, o + k * 6 + 4, none⟩ = some (.bool sra) := hcell 4 _ rfl
          have q5 : wr.cell? ⟨x, o + k * 6 + 5, none⟩ = some (S vc) := hcell 5 _ rfl
          clear hcell hx1
          have HMR := hide hmr
          clear hmr
          by_cases e1 : 60 < (vc.length : Int)
          ·have d1 : decide (60 < (vc.length : Int)) = true := by simpa using e1
           go_wp2_with fail
           go_ret
           exact ⟨_, rfl, HBW.out.alloc HBW.out.size _, by simp⟩
          have d1 : decide (60 < (vc.length : Int)) = false := by simpa using e1
          have HFW : Hid (∀ _ : Unit, Calls Tryd.prog 30 #[.agg #[S [], S [], .slice none 0 0, .slice (some ⟨wr.heap.size + 1, 0, none⟩) 1 1]] ((wr.alloc (.cells #[S sn, .bool sst, .slice sA sk sc, S srn, .bool sra, S vc] 95)).alloc (.cells #[S sn, .bool sst, .slice sA sk sc, S srn, .bool sra] 55)) (Asks ((wr.alloc (.cells #[S sn, .bool sst, .slice sA sk sc, S srn, .bool sra, S vc] 95)).alloc (.cells #[S sn, .bool sst, .slice sA sk sc, S srn, .bool sra] 55)) (Sg.few ⟨sn, sst, sA, sk, sc, sps, ⟨srn, sra⟩⟩))) := hide (fun _ => by
           have hb2 : Below wr.heap.size wr ((wr.alloc (.cells #[S sn, .bool sst, .slice sA sk sc, S srn, .bool sra, S vc] 95)).alloc (.cells #[S sn, .bool sst, .slice sA sk sc, S srn, .bool sra] 55)) := ((Below.refl _ _).alloc (Nat.le_refl _) _).alloc (by simp) _
           have hb3 := Blk.new (wr.alloc (.cells #[S sn, .bool sst, .slice sA sk sc, S srn, .bool sra, S vc] 95)) 55 #[S sn, .bool sst, .slice sA sk sc, S srn, .bool sra]
           simp only [World.size_alloc] at hb3
           have hm4 := ((HMR.out.weak (fun k hk => Nat.le_trans HBW.out.size hk) : Sg.at_ wr (fun k => wr.heap.size ≤ k) _)).below hb2
           exact (few_any _ _ (one_at (by show 0 ≤ 9223372036854775807; omega) hb3 (by simp) (hm4.weak (fun k hk => Nat.le_trans hb2.size hk)))).mono (fun e w' ⟨R, h1, h2, h3⟩ => ⟨R, h1, h2, fun hr => (h3 hr).2.2.2.2.2 _ (List.mem_singleton.2 rfl)⟩))
          go_wp2_with fail
          refine (HFW.out ()).mono ?_
          rintro e w5 ⟨R5, rfl, hb5, hR5⟩
          have HR5 := hide hR5
          have HB5 : Hid (Below w.heap.size w w5) := hide (((HBW.out.alloc HBW.out.size _).alloc (by have := HBW.out.size; simp; omega) _).trans (hb5.mono (by have := HBW.out.size; simp; omega)))
          have HB6 : Hid (Below w4.heap.size w4 w5) := hide (((HBR.out.alloc HBR.out.size _).alloc (by have := HBR.out.size; simp; omega) _).trans (hb5.mono (by have := HBR.out.size; simp; omega)))
          clear hb5 hR5 HFW
          cases R5 with
          | false =>
           go_wp2_with fail
           go_ret
           exact ⟨_, rfl, HB5.out, by simp⟩
          | true =>
           go_wp2_with fail
           go_roundw
           case rel => exact ⟨k + 1, by omega, by go_num, HB6, hide (all_step (p := fun x : Mt => x.few) HA.out hlk (by rw [← HV.out]; exact ⟨by show vc.length ≤ 60; omega, HR5.out (by trivial)⟩))⟩
           case measure => simp [intOf]; omega
         ·have A3 : Hid (∀ x ∈ mts, (fun x : Mt => x.few) x) := hide (all_done HA.out (by have := LM.out; omega))
          clear HA
          obtain ⟨w5, rfl⟩ : ∃ w5 : World, w5 = wr := ⟨_, rfl⟩
          have HB5 : Hid (Below w.heap.size w w5) := HBW
          have HK5 : Hid (Blk w5 w.heap.size 52 _) := hide (HK4.out.below HBR.out HK4.out.lt)
          clear p9 HBR HBW HK4 HB4
          have p9 := HK5.out.cell 9
          simp at p9
          go_wp2_with fail
          clear p9
          go_loopw [131] (fun i wr => ∃ k : Nat, k ≤ bl ∧ i = .int .i64 k ∧ Hid (Below w5.heap.size w5 wr) ∧ Hid (∀ i (hi : i < bs.length), i < k → (fun x : Bd => x.k ≤ 60) bs[i])) (fun i _ => bl - (intOf i).toNat)
          case atStart => exact ⟨0, Nat.zero_le _, rfl, hide (Below.refl _ _), hide (by omega)⟩
          case round =>
           obtain ⟨k, hk, rfl, HBR, HA⟩ := hrel
           have HBW : Hid (Below w.heap.size w wr) := hide (HB5.out.trans (HBR.out.mono HB5.out.size))
           have hbd : bl ≤ 20 := by obtain ⟨z1, z2, z3, z4, z5, z6⟩ := HN.out; omega
           by_cases hlt : k < bl
           ·obtain ⟨x, o, rfl, hx1, _, hcell⟩ := Rd.rec_ (size := 3) (fun _ => rfl) ((HB.out).below HBW.out) LB.out k hlt
            have hlk : k < bs.length := by have := LB.out; omega
            obtain ⟨v, hv⟩ : ∃ v, v = bs[k] := ⟨_, rfl⟩
            rw [← hv] at hcell
            have HV := hide hv
            clear hv
            obtain ⟨vlo, vsk, bA2, bk, bc2, vcode⟩ := v
            have q0 : wr.cell? ⟨x, o + k * 3, none⟩ = some (.int .i64 vlo) := hcell 0 _ rfl
            have q1 : wr.cell? ⟨x, o + k * 3 + 1, none⟩ = some (.int .i64 vsk) := hcell 1 _ rfl
            have q2 : wr.cell? ⟨x, o + k * 3 + 2, none⟩ = some (.slice bA2 bk bc2) := hcell 2 _ rfl
            clear hcell hx1
            by_cases e1 : 60 < (bk : Int)
            ·have d1 : decide (60 < (bk : Int)) = true := by simpa using e1
             go_wp2_with fail
             go_ret
             exact ⟨_, rfl, HBW.out.alloc HBW.out.size _, by simp⟩
            have d1 : decide (60 < (bk : Int)) = false := by simpa using e1
            go_wp2_with fail
            go_roundw
            case rel => exact ⟨k + 1, by omega, by go_num, hide (HBR.out.alloc HBR.out.size _), hide (all_step (p := fun x : Bd => x.k ≤ 60) HA.out hlk (by rw [← HV.out]; show bk ≤ 60; omega))⟩
            case measure => simp [intOf]; omega
           ·have A4 : Hid (∀ x ∈ bs, (fun x : Bd => x.k ≤ 60) x) := hide (all_done HA.out (by have := LB.out; omega))
            clear HA
            go_wp2_with fail
            go_ret
            obtain ⟨z1, z2, z3, z4, z5, z6⟩ := HN.out
            exact ⟨_, rfl, HBW.out, fun _ => ⟨H0.out (by trivial), z1, z2, z3, z4, z5, z6, A0.out, A1.out, A3.out, A4.out⟩⟩
end Go.Proofs.YtmbegaobnpoefaaDoor
namespace Go.Proofs.YtmbegaobnpoefaaDoor
open Go.RowKit Go.Maps
set_option linter.unusedVariables false
theorem take_few {p : Fl → Prop} {Fs : List Fl} {k : Nat} (hk : k < Fs.length) (h : ∀ f ∈ Fs.take k, p f) (h1 : p Fs[k]) : ∀ f ∈ Fs.take (k + 1), p f := by
 intro f hf
 rw [List.take_succ_eq_append_getElem hk] at hf
 rcases List.mem_append.1 hf with h9 | h9
 ·exact h f h9
 ·rw [List.mem_singleton] at h9; exact h9 ▸ h1
set_option maxRecDepth 100000 in
set_option maxHeartbeats 8000000 in
theorem few14_any (A : Option Addr) (n c : Nat) (Fs : List Fl) (w : World) (hr : Rd w (fun k => w.heap.size ≤ k) 10 A n (Fs.flatMap Fl.cells)) (hl : Fs.length = n) (hn : n ≤ 9223372036854775807) (hat : ∀ f ∈ Fs, f.at_ w (fun k => w.heap.size ≤ k)) :
  Calls Tryd.prog 5 #[.slice A n c] w (Asks w (n ≤ 8 ∧ ∀ f ∈ Fs, f.few)) := by
 have HRD := hide hr
 have HAT := hide hat
 have HL := hide hl
 clear hr hat hl
 go_enter Tryd.func5, Tryd.ntmps5
 go_wp2_with fail
 go_loopw [7] (fun i wr => ∃ k : Nat, k ≤ n ∧ i = .int .i64 k ∧ Hid (Below w.heap.size w wr) ∧ Hid (∀ f ∈ Fs.take k, f.few)) (fun i _ => n - (intOf i).toNat)
 case atStart => exact ⟨0, Nat.zero_le _, rfl, hide (Below.refl _ _), hide (by simp)⟩
 case round =>
  obtain ⟨k, hk, rfl, HB, HA⟩ := hrel
  by_cases hlt : k < n
  case pos =>
   have hj2 : k < Fs.length := by have := HL.out; omega
   have hwrb := HB.out
   obtain ⟨bb, o, rfl, hbs, hbl2, hcx⟩ := Rd.rec_ (f := Fl.cells) (fun _ => rfl) (HRD.out.below hwrb) HL.out k hlt
   obtain ⟨f, hf⟩ : ∃ f, f = Fs[k] := ⟨_, rfl⟩
   rw [← hf] at hcx
   have hfm : f ∈ Fs := hf ▸ List.getElem_mem hj2
   have HFJ := hide hf
   have HFM := hide hfm
   have m0 : wr.cell? ⟨bb, o + k * 10, none⟩ = some (S f.f.n) := hcx 0 _ rfl
   have m1 : wr.cell? ⟨bb, o + k * 10 + 1, none⟩ = some (S f.f.su) := hcx 1 _ rfl
   have m2 : wr.cell? ⟨bb, o + k * 10 + 2, none⟩ = some (.slice f.f.fA f.f.fl f.f.fc) := hcx 2 _ rfl
   have m3 : wr.cell? ⟨bb, o + k * 10 + 3, none⟩ = some (.slice f.f.mA f.f.ml f.f.mc) := hcx 3 _ rfl
   have m4 : wr.cell? ⟨bb, o + k * 10 + 4, none⟩ = some (.slice f.nA f.nl f.nc) := hcx 4 _ rfl
   have m5 : wr.cell? ⟨bb, o + k * 10 + 5, none⟩ = some (.slice f.cA f.cl f.cc) := hcx 5 _ rfl
   have m6 : wr.cell? ⟨bb, o + k * 10 + 6, none⟩ = some (.slice f.tA f.tl f.tc) := hcx 6 _ rfl
   have m7 : wr.cell? ⟨bb, o + k * 10 + 7, none⟩ = some (.slice f.dA f.dl f.dc) := hcx 7 _ rfl
   have m8 : wr.cell? ⟨bb, o + k * 10 + 8, none⟩ = some (.slice f.mA f.ml f.mc) := hcx 8 _ rfl
   have m9 : wr.cell? ⟨bb, o + k * 10 + 9, none⟩ = some (.slice f.bA f.bl f.bc) := hcx 9 _ rfl
   clear hf hfm hcx hwrb
   go_upto_region 4 with fail
   refine name_world ?_
   intro w4 hw4
   obtain ⟨b7, hb7⟩ : ∃ y, y = wr.heap.size := ⟨_, rfl⟩
   have hbe : Below wr.heap.size wr w4 := by rw [hw4]; exact (Below.refl _ _).alloc (Nat.le_refl _) _
   have HB7 : Hid (Blk w4 b7 52 #[S f.f.n, S f.f.su, .slice f.f.fA f.f.fl f.f.fc, .slice f.f.mA f.f.ml f.f.mc, .slice f.nA f.nl f.nc, .slice f.cA f.cl f.cc, .slice f.tA f.tl f.tc, .slice f.dA f.dl f.dc, .slice f.mA f.ml f.mc, .slice f.bA f.bl f.bc]) := hide (by rw [hw4, hb7]; exact Blk.new _ _ _)
   have HB4 : Hid (Below w.heap.size w w4) := hide (HB.out.trans (hbe.mono HB.out.size))
   rw [← hb7]
   clear hw4 hb7 hbe m0 m1 m2 m3 m4 m5 m6 m7 m8 m9
   have n0 : w4.cell? ⟨b7, 0, none⟩ = some (S f.f.n) := HB7.out.cell 0
   have n1 : w4.cell? ⟨b7, 1, none⟩ = some (S f.f.su) := HB7.out.cell 1
   have n2 : w4.cell? ⟨b7, 2, none⟩ = some (.slice f.f.fA f.f.fl f.f.fc) := HB7.out.cell 2
   have n3 : w4.cell? ⟨b7, 3, none⟩ = some (.slice f.f.mA f.f.ml f.f.mc) := HB7.out.cell 3
   have n4 : w4.cell? ⟨b7, 4, none⟩ = some (.slice f.nA f.nl f.nc) := HB7.out.cell 4
   have n5 : w4.cell? ⟨b7, 5, none⟩ = some (.slice f.cA f.cl f.cc) := HB7.out.cell 5
   have n6 : w4.cell? ⟨b7, 6, none⟩ = some (.slice f.tA f.tl f.tc) := HB7.out.cell 6
   have n7 : w4.cell? ⟨b7, 7, none⟩ = some (.slice f.dA f.dl f.dc) := HB7.out.cell 7
   have n8 : w4.cell? ⟨b7, 8, none⟩ = some (.slice f.mA f.ml f.mc) := HB7.out.cell 8
   have n9 : w4.cell? ⟨b7, 9, none⟩ = some (.slice f.bA f.bl f.bc) := HB7.out.cell 9
   have HFEW : Hid (Calls Tryd.prog 13 #[f.val] w4 (Asks w4 f.few)) := hide (cfew_any f w4 (((HAT.out f HFM.out).below HB4.out).weak (fun k hk => by have := HB4.out.size; omega)))
   go_wp2_with fail
   refine HFEW.out.mono ?_
   rintro e w5 ⟨R0, rfl, hb5, hR⟩
   have HB5 : Hid (Below w.heap.size w w5) := hide (HB4.out.trans (hb5.mono HB4.out.size))
   have HR := hide hR
   clear hb5 hR
   cases R0
   case false =>
    go_wp2_with fail
    go_ret
    exact ⟨false, rfl, HB5.out, fun e => by cases e⟩
   case true =>
    go_wp2_with fail
    go_round
    case rel => exact ⟨k + 1, by omega, by go_num, HB5, hide (take_few hj2 HA.out (by rw [← HFJ.out]; exact (show f.few by simpa using HR.out)))⟩
    case measure => simp [intOf]; omega
  case neg =>
   have hq : k = n := by omega
   subst hq
   have HA2 : Hid (∀ f ∈ Fs, f.few) := hide (fun f hf => HA.out f (by rw [List.take_of_length_le (by have := HL.out; omega)]; exact hf))
   clear HA
   by_cases h8 : k ≤ 8
   case pos =>
    have h9 : (k : Int) ≤ 8 := by omega
    go_wp2_with fail
    go_ret
    exact ⟨true, rfl, HB.out, fun _ => ⟨h8, HA2.out⟩⟩
   case neg =>
    have h9 : ¬ (k : Int) ≤ 8 := by omega
    go_wp2_with fail
    go_ret
    exact ⟨false, rfl, HB.out, fun e => by cases e⟩
end Go.Proofs.YtmbegaobnpoefaaDoor
