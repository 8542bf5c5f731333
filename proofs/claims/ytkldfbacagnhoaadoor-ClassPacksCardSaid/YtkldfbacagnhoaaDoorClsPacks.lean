/- ClassPacks returns true for whatever files: the walk. The condition: the listed package-level variable holds what the program's text lays. -/
import Derived.Test.YtkldfbacagnhoaaDoorClsLawR
import Derived.Test.YtkldfbacagnhoaaDoorClsLawL
import Derived.Test.YtkldfbacagnhoaaDoorClsSame
import Derived.Test.YtkldfbacagnhoaaDoorClsOpenW
import Derived.Test.YtkldfbacagnhoaaDoorClsHead
namespace Go.Proofs.YtkldfbacagnhoaaDoor
open Go.RowKit

theorem i64_lowP (p : Nat) (m : Nat) (hp : p < 63) (hm : m = 2 ^ p - 1) (n : Int) : ∃ N : Nat, N ≤ m ∧ bits .and .i64 n (m : Int) = (N : Int) := by
  have hpp : 2 ^ p < 2 ^ 64 := Nat.pow_lt_pow_right (by decide) (by omega)
  have h1 : (BitVec.ofInt 64 (m : Int)).toNat = m := by
    rw [BitVec.toNat_ofInt]
    have : ((m : Int) % ((2 ^ 64 : Nat) : Int)).toNat = m % 2 ^ 64 := by omega
    rw [this, Nat.mod_eq_of_lt (by omega)]
  have h2 : (BitVec.ofInt 64 n &&& BitVec.ofInt 64 (m : Int)).toNat ≤ m := by
    rw [BitVec.toNat_and, h1]
    exact Nat.and_le_right
  have hp2 : 2 ^ p ≤ 2 ^ 62 := Nat.pow_le_pow_right (by decide) (by omega)
  refine ⟨(BitVec.ofInt 64 n &&& BitVec.ofInt 64 (m : Int)).toNat, h2, ?_⟩
  show IntKind.i64.wrap ((BitVec.ofInt 64 n &&& BitVec.ofInt 64 (m : Int)).toNat : Int) = _
  rw [IntWalk.i64_in _ (by omega)]
theorem few_mostP {f : Fl} (h : f.few) : [f.nl, f.cl, f.tl, f.dl, f.ml].all most = true := by
  have := h.n; have := h.c; have := h.t; have := h.d; have := h.m
  simp [most]; omega
theorem Wk.ext {g : Nat} {v : Value} {wo w' w'' : World} {bs : List UInt8} (h : Wk g v wo bs w') (hb : Below w'.heap.size w' w'') : Wk g v wo bs w'' := let ⟨v', h'⟩ := h; ⟨v', h'.ext hb⟩
theorem txl {s : List UInt8} {B : Nat} (h : s.length ≤ B) (hB : B ≤ 1000) : (tx s).length ≤ B + 10 := by
  have := vi_len_10 s.length (by omega)
  rw [tx, List.length_append]; omega
theorem tyl {t : Ty} {B : Nat} (h : t.n.length ≤ B) (hB : B ≤ 1000) : (tyL t).length ≤ B + 11 := by
  have := txl h hB
  rw [tyL, List.length_append, fl_len]; omega
theorem vrl {v : Vr} (h : v.few) : (vrL v).length ≤ 141 := by
  have := txl h.1 (by omega)
  have := tyl h.2 (by omega)
  rw [vrL, List.length_append]; omega
theorem sgl {w : World} {F : Nat → Prop} {m : Sg} (hat : m.at_ w F) (h : m.few) : (sgL m.pl).length ≤ 900 := by
  have h1 := txl h.1 (by omega)
  have h2 := tyl h.2.1 (by omega)
  have h3 := secL_bd (g := tyL) (l := m.ps) (B := 71) (n := 10) (fun x hx => tyl (h.2.2.2 x hx) (by omega)) (by rw [hat.2.1]; exact h.2.2.1) (by omega)
  rw [sgL_eq]
  simp only [List.length_append, fl_len, Sg.pl]; omega
theorem fcl {w : World} {F : Nat → Prop} {f : Fc} (hat : f.at_ w F) (h : f.few) : (fcL f.pl).length ≤ 13000 := by
  have h1 := txl h.2.2.1 (by omega)
  have h2 := txl h.2.2.2.1 (by omega)
  have h3 := secL_bd (g := vrL) (l := f.fs) (B := 141) (n := 12) (fun x hx => vrl (h.2.2.2.2.1 x hx)) (by rw [hat.1.2.1]; exact h.1) (by omega)
  have h4 := secL_bd (g := sgL) (l := f.ms.map Sg.pl) (B := 900) (n := 12) (fun x hx => by obtain ⟨m, hm, rfl⟩ := List.mem_map.1 hx; exact sgl (hat.2.1.2.2.2 m hm) (h.2.2.2.2.2 m hm)) (by rw [List.length_map, hat.2.1.2.1]; exact h.2.1) (by omega)
  rw [fcL_eq]
  simp only [List.length_append, Fc.pl]; omega
theorem mtl {w : World} {F : Nat → Prop} {x : Mt} (hat : x.at_ w F) (h : x.few) : (fcL (mtF x.pl)).length ≤ 1100 := by
  have h1 := txl h.1 (by omega)
  have h2 := sgl hat.1 h.2
  have e1 : tx [] = [0] := by rw [tx]; show vi 0 ++ [] = [0]; rw [vi_small (by omega)]; rfl
  have e2 : secL vrL (mtF x.pl).fs = [0] := by show vi 0 ++ [] = [0]; rw [vi_small (by omega)]; rfl
  have e3 : secL sgL (mtF x.pl).ms = [1] ++ sgL x.m.pl := by
    show vi 1 ++ catAll sgL [x.m.pl] = _
    rw [vi_small (by omega)]; simp [catAll]
  have e4 : (mtF x.pl).n = x.c := rfl
  have e5 : (mtF x.pl).su = [] := rfl
  rw [fcL_eq, e2, e3, e4, e5, e1]
  simp only [List.length_append, List.length_cons, List.length_nil]; omega
theorem fdl {x : FdP} (h : x.few) : (fdL x).length ≤ 400 := by
  unfold FdP.few at h
  have h1 := txl (s := x.c) (B := 120) (by omega) (by omega)
  have h2 := txl (s := x.v.n) (B := 120) (by omega) (by omega)
  have h3 := tyl (t := x.v.t) (B := 120) (by omega) (by omega)
  rw [fdL]
  simp only [List.length_append]; omega
theorem col {x : Int × Int} (h : i64In x.1 ∧ i64In x.2) : (coL x).length ≤ 20 := by
  have h1 := vi_len_10 x.1.toNat (by have := h.1.2; omega)
  have h2 := vi_len_10 x.2.toNat (by have := h.2.2; omega)
  rw [coL, List.length_append]
  split
  · simp; omega
  · omega
theorem bdl {w : World} {F : Nat → Prop} {b : Bd} (hat : b.at_ w F) (h : b.k ≤ 60) : (bdL b.pl).length ≤ 1300 := by
  have h1 := vi_len_10 b.lo.toNat (by have := hat.2.2.2.1.2; omega)
  have h2 := vi_len_10 b.sk.toNat (by have := hat.2.2.2.2.1.2; omega)
  have h3 := secL_bd (g := coL) (l := b.code) (B := 20) (n := 60) (fun x hx => col (hat.2.2.2.2.2 x hx)) (by rw [hat.2.1]; exact h) (by omega)
  rw [bdL_eq]
  simp only [List.length_append, Bd.pl]; omega
theorem filel {w : World} {F : Nat → Prop} {f : Fl} (hat : f.at_ w F) (h : f.few) (hd : ∀ x ∈ f.fds, x.few) : (fileL f.pl).length ≤ 100000 := by
  have h0 := fcl hat.fa h.fa
  have h1 := secL_bd (g := zi) (l := f.nums) (B := 20) (n := 20) (fun x hx => zi_bd (hat.po.nW x hx)) (by rw [hat.po.nL]; exact h.n) (by omega)
  have h2 := secL_bd (g := tx) (l := f.cls) (B := 70) (n := 20) (fun x hx => txl (h.cs x hx) (by omega)) (by rw [hat.po.cL]; exact h.c) (by omega)
  have h3 := secL_bd (g := tyL) (l := f.tys) (B := 71) (n := 20) (fun x hx => tyl (h.ts x hx) (by omega)) (by rw [hat.po.tL]; exact h.t) (by omega)
  have h4 := secL_bd (g := fdL) (l := f.fds) (B := 400) (n := 20) (fun x hx => fdl (hd x hx)) (by rw [hat.po.dL]; exact h.d) (by omega)
  have h5 := secL_bd (g := fcL) (l := (f.mts.map Mt.pl).map mtF) (B := 1100) (n := 20) (fun x hx => by
    obtain ⟨m, hm, rfl⟩ := List.mem_map.1 hx
    obtain ⟨m', hm', rfl⟩ := List.mem_map.1 hm
    exact mtl (hat.po.mW m' hm') (h.ms m' hm')) (by rw [List.length_map, List.length_map, hat.po.mL]; exact h.m) (by omega)
  have h6 := catAll_bd (f := bdL) (l := f.bs.map Bd.pl) (B := 1300) (n := 12) (fun x hx => by obtain ⟨b, hb, rfl⟩ := List.mem_map.1 hx; exact bdl (hat.bW b hb) (h.bs b hb)) (by rw [List.length_map, hat.bL]; exact h.b)
  unfold fileL poolL poL poL1 poL2
  simp only [List.length_append, Fl.pl, Fl.ppl]; omega
theorem FlsAt.below {w w' : World} {A : Option Addr} {n : Nat} {Fs : List Fl} (h : FlsAt w (fun k => w.heap.size ≤ k) A n Fs) (hb : Below w.heap.size w w') : FlsAt w' (fun k => w'.heap.size ≤ k) A n Fs :=
  ⟨(h.1.below hb).weak (fun _ _ hk => Nat.le_trans hb.size hk), h.2.1, h.2.2.1, fun f hf => ((h.2.2.2 f hf).below hb).weak (fun _ hk => Nat.le_trans hb.size hk)⟩

set_option maxRecDepth 100000 in
set_option maxHeartbeats 16000000 in
theorem packs_walk (A : Option Addr) (n c : Nat) (Fs : List Fl) (cut : Int) (w : World) (hm : Laid w) (h : FlsAt w (fun k => w.heap.size ≤ k) A n Fs) (hli : ∀ f ∈ Fs, ∀ x ∈ f.fds, x.lite) : Calls Tryd.prog 7 #[.slice A n c, .int .i64 cut] w (Gives w (.bool true)) := by
  obtain ⟨N, hN, hNe⟩ := i64_lowP 16 65535 (by decide) (by decide) cut
  have hNe' : bits .and .i64 cut 65535 = (N : Int) := hNe
  have HNE := hide hNe'
  have HN := hide hN
  have hl63 := h.2.2.1
  have hFL := h.2.1
  obtain ⟨Ps, hPs⟩ : ∃ Ps, Ps = Fs.map Fl.pl := ⟨_, rfl⟩
  have HPS := hide (fun _ : Unit => hPs)
  have hPL : Ps.length = n := by rw [hPs, List.length_map]; exact hFL
  have HPL := hide hPL
  have HFL := hide hFL
  have HLI := hide hli
  have HFA := hide h
  have HM := hide hm
  have HOK : Hid (∀ F ∈ Ps, F.nok) := hide (fun F hF => by rw [hPs] at hF; obtain ⟨f, hf, rfl⟩ := List.mem_map.1 hF; exact (h.2.2.2 f hf).nok)
  have HH := hide (head_any w)
  clear hm h hli hPs hPL hFL hN hNe hNe'
  go_enter Tryd.func7, Tryd.ntmps7
  go_upto_region 3 with (go_at_call 9; refine HH.out.mono ?_; rintro e w1 ⟨rfl, hb1⟩)
  have HB1 := hide hb1
  clear hb1 HH
  by_cases h8 : 8 < (n : Int)
  · have d8 : decide (8 < (n : Int)) = true := by simpa using h8
    go_wp2_with fail
    go_ret
    exact ⟨rfl, HB1.out⟩
  have d8 : decide (8 < (n : Int)) = false := by simpa using h8
  have hn8 : n ≤ 8 := by omega
  go_upto_region 7 with fail
  clear d8 h8
  refine name_world ?_
  intro wo hwo
  have HBo : Hid (Below w.heap.size w wo) := hide (by rw [hwo]; exact HB1.out.alloc HB1.out.size _)
  have HW : Hid (Wr wo w1.heap.size (.slice none 0 0) []) := hide (by rw [hwo]; exact wr_new w1)
  have HG : Hid (w.heap.size ≤ w1.heap.size) := hide HB1.out.size
  clear hwo HB1
  obtain ⟨g, hg⟩ : ∃ g, g = w1.heap.size := ⟨_, rfl⟩
  rw [← hg] at HW HG ⊢
  clear hg
  obtain ⟨v, hv⟩ : ∃ v : Value, v = .slice none 0 0 := ⟨_, rfl⟩
  have HVN : Hid (∀ k, v.ownBlock = some k → w.heap.size ≤ k) := hide (by rw [hv]; intro k hk; cases hk)
  rw [← hv] at HW
  clear hv
  have HBW : Hid (∀ bs w', Wk g v wo bs w' → Below w.heap.size w w') := hide (fun bs w' hk => HBo.out.trans (hk.below HBo.out.size HG.out HVN.out))
  have HAT : Hid (∀ w', Below w.heap.size w w' → FlsAt w' (fun k => w'.heap.size ≤ k) A n Fs) := hide (fun w' hb => HFA.out.below hb)
  have HML : Hid (∀ w', Below w.heap.size w w' → Laid w') := hide (fun w' hb => HM.out.below hb (Nat.le_refl _))
  go_upto_region 8 with (go_at_call 22; refine (cnum1 (n : Int) ((Wk.start HW.out).alloc _) (Blk.new _ _ _) (by simp) (by omega)).mono ?_; rintro e w3 ⟨rfl, h1, h2⟩; have HK0 := hide h1; clear h1 h2)
  go_upto_region 9 with fail
  go_wp2_with fail
  obtain ⟨D0, hD0⟩ : ∃ D, D = vi (n : Int).toNat := ⟨_, rfl⟩
  rw [List.nil_append, ← hD0] at HK0
  have HD0 := hide (fun _ : Unit => hD0)
  have HDL0 : Hid (D0.length ≤ 10) := hide (by rw [hD0]; exact vi_len_10 _ (by omega))
  clear hD0
  go_loopw [5, 30] (fun gd i wr => ∃ k : Nat, k ≤ n ∧ i = .int .i64 k ∧ (∃ G : Bool, gd = .bool G ∧ Hid (G = (Ps.take k).all FileP.right)) ∧ Hid (Wk g v wo (D0 ++ catTo arL Ps k) wr) ∧ Hid ((catTo arL Ps k).length ≤ k * 100010)) (fun _ i _ => n - (intOf i).toNat)
  case atStart => exact ⟨0, Nat.zero_le _, rfl, ⟨true, rfl, hide rfl⟩, hide (by rw [catTo_zero, List.append_nil]; exact HK0.out), hide (by rw [catTo_zero]; simp)⟩
  case round =>
    clear HK0
    obtain ⟨k, hk, rfl, ⟨G, rfl, HGD⟩, HK, HCL⟩ := hrel
    have HBR : Hid (Below w.heap.size w wr) := hide (HBW.out _ _ HK.out)
    by_cases hlt : k < n
    · obtain ⟨b, o, hA, _, _, hcs⟩ := Rd.rec_ (f := Fl.cells) (fun _ => rfl) (HAT.out wr HBR.out).1 HFL.out k hlt
      have hlk : k < Fs.length := by rw [HFL.out]; exact hlt
      have hlP : k < Ps.length := by rw [HPL.out]; exact hlt
      have HT := hide (catTo_succ arL Ps k hlP)
      have HTK : Hid ((Ps.take (k + 1)).all FileP.right = ((Ps.take k).all FileP.right && Ps[k].right)) := hide (by rw [List.take_succ_eq_append_getElem hlP, List.all_append]; simp)
      have hPk : Ps[k] = Fs[k].pl := by simp [HPS.out ()]
      rw [hPk] at HT HTK
      have HF : Hid (∀ w', Below w.heap.size w w' → Fs[k].at_ w' (fun k => w'.heap.size ≤ k)) := hide (fun w' hb => (HAT.out w' hb).2.2.2 _ (List.getElem_mem hlk))
      have HLF := hide (HLI.out _ (List.getElem_mem hlk))
      clear hPk
      have c0 := hcs 0 _ rfl
      have c1 := hcs 1 _ rfl
      have c2 := hcs 2 _ rfl
      have c3 := hcs 3 _ rfl
      have c4 := hcs 4 _ rfl
      have c5 := hcs 5 _ rfl
      have c6 := hcs 6 _ rfl
      have c7 := hcs 7 _ rfl
      have c8 := hcs 8 _ rfl
      have c9 := hcs 9 _ rfl
      clear hcs
      generalize Fs[k] = f at HT HTK HF HLF c0 c1 c2 c3 c4 c5 c6 c7 c8 c9
      simp only [Nat.add_zero] at c0 c1 c2 c3 c4 c5 c6 c7 c8 c9
      rw [hA]
      go_upto_region 11 with fail
      refine name_world ?_
      intro wC hwC
      have HKC : Hid (Wk g v wo (D0 ++ catTo arL Ps k) wC) := hide (by rw [hwC]; exact HK.out.alloc _)
      have HBV : Hid (Blk wC wr.heap.size 36 f.cells.toArray) := hide (by rw [hwC]; exact Blk.new _ _ _)
      clear hwC HK HBR c0 c1 c2 c3 c4 c5 c6 c7 c8 c9
      generalize wr.heap.size = q1 at HBV ⊢
      have HBC : Hid (Below w.heap.size w wC) := hide (HBW.out _ _ HKC.out)
      have HFW := hide (cfewD_any f wC (HF.out wC HBC.out) HLF.out)
      have k0 := HBV.out.cell 0
      have k1 := HBV.out.cell 1
      have k2 := HBV.out.cell 2
      have k3 := HBV.out.cell 3
      have k4 := HBV.out.cell 4
      have k5 := HBV.out.cell 5
      have k6 := HBV.out.cell 6
      have k7 := HBV.out.cell 7
      have k8 := HBV.out.cell 8
      have k9 := HBV.out.cell 9
      simp at k0 k1 k2 k3 k4 k5 k6 k7 k8 k9
      go_wp2_with fail
      refine HFW.out.mono ?_
      rintro e w4 ⟨RF, rfl, hb4, hf⟩
      clear k0 k1 k2 k3 k4 k5 k6 k7 k8 k9 HFW
      have HB4 := hide hb4
      have HF4 := hide hf
      have HK4 := hide (HKC.out.ext HB4.out)
      have HV4 := hide (HBV.out.below HB4.out HBV.out.lt)
      have HBW4 : Hid (Below w.heap.size w w4) := hide (HBW.out _ _ HK4.out)
      clear hb4 hf HKC HBV HB4 HBC
      cases RF with
      | false =>
        go_wp2_with fail
        go_ret
        exact ⟨rfl, HBW4.out⟩
      | true =>
      have hFF := HF4.out rfl
      have HFE := hide hFF.1
      have HLN : Hid ((fileL f.pl).length ≤ 100000) := hide (filel (HF.out w4 HBW4.out) hFF.1 hFF.2)
      have HRT : Hid (∀ w', Below w.heap.size w w' → Calls Tryd.prog 19 #[f.val] w' (Gives w' (.bool f.pl.right))) := hide (fun w' hb => rightL_any f w' (HML.out w' hb) (HF.out w' hb) (few_mostP HFE.out))
      have HLY : Hid (∀ w', Below w.heap.size w w' → Calls Tryd.prog 20 #[f.val] w' (Gives w' (S (fileL f.pl)))) := hide (fun w' hb => clay_any f w' (HML.out w' hb) (HF.out w' hb) (by have := HLN.out; omega))
      have HNX : Hid ((catTo arL Ps (k + 1)).length ≤ (k + 1) * 100010) := hide (by
        rw [HT.out, List.length_append, arL]
        have h1 := vi_len_10 (fileL f.pl).length (by have := HLN.out; omega)
        have h2 := HLN.out
        have h3 := HCL.out
        rw [tx, List.length_append]
        omega)
      have HNK : Hid (∀ w', Wk g v wo (D0 ++ catTo arL Ps k ++ tx (fileL f.pl)) w' → Wk g v wo (D0 ++ catTo arL Ps (k + 1)) w') := hide (fun w' h => by rw [HT.out, ← List.append_assoc]; exact h)
      have HBD : Hid ((D0 ++ catTo arL Ps k).length + (fileL f.pl).length + 40 ≤ 140737488355328) := hide (by
        have h1 := HDL0.out; have h2 := HCL.out; have h3 := HLN.out
        have h4 : k * 100010 ≤ 8 * 100010 := Nat.mul_le_mul_right _ (by omega)
        rw [List.length_append]; omega)
      obtain ⟨RR, hRR⟩ : ∃ R, R = f.pl.right := ⟨_, rfl⟩
      obtain ⟨X, hX⟩ : ∃ X, X = fileL f.pl := ⟨_, rfl⟩
      rw [← hRR] at HRT HTK
      rw [← hX] at HLY HNK HBD
      clear hFF HF4 HLN hRR hX HFE HT
      go_upto_region 13 with fail
      cases G with
      | false =>
        have k0 := HV4.out.cell 0
        have k1 := HV4.out.cell 1
        have k2 := HV4.out.cell 2
        have k3 := HV4.out.cell 3
        have k4 := HV4.out.cell 4
        have k5 := HV4.out.cell 5
        have k6 := HV4.out.cell 6
        have k7 := HV4.out.cell 7
        have k8 := HV4.out.cell 8
        have k9 := HV4.out.cell 9
        simp at k0 k1 k2 k3 k4 k5 k6 k7 k8 k9
        go_upto_region 14 with fail
        go_wp2_with fail
        refine (HLY.out w4 HBW4.out).mono ?_
        rintro e w6 ⟨rfl, hb6⟩
        clear k0 k1 k2 k3 k4 k5 k6 k7 k8 k9
        have HK6 := hide (HK4.out.ext hb6)
        clear hb6
        go_wp2_with (go_at_call 23; refine (ctext1 X (HK6.out.alloc _) (Blk.new _ _ _) (by have := HBD.out; omega)).mono ?_; rintro e w7 ⟨rfl, h1, h2⟩; have HK7 := hide (HNK.out _ h1); clear h1 h2)
        go_roundw
        case rel => first | exact ⟨k + 1, by omega, by go_num, ⟨_, rfl, hide (by rw [HTK.out, ← HGD.out]; simp)⟩, HK7, HNX⟩ | ((repeat apply Exists.intro); exact ⟨⟨k + 1, by omega, by go_num, ⟨_, rfl, hide (by rw [HTK.out, ← HGD.out]; simp)⟩, HK7, HNX⟩, rfl⟩)
        case measure => simp [intOf]; omega
      | true =>
        have k0 := HV4.out.cell 0
        have k1 := HV4.out.cell 1
        have k2 := HV4.out.cell 2
        have k3 := HV4.out.cell 3
        have k4 := HV4.out.cell 4
        have k5 := HV4.out.cell 5
        have k6 := HV4.out.cell 6
        have k7 := HV4.out.cell 7
        have k8 := HV4.out.cell 8
        have k9 := HV4.out.cell 9
        simp at k0 k1 k2 k3 k4 k5 k6 k7 k8 k9
        go_wp2_with fail
        refine (HRT.out w4 HBW4.out).mono ?_
        rintro e w5 ⟨rfl, hb5⟩
        clear k0 k1 k2 k3 k4 k5 k6 k7 k8 k9
        have HK5 := hide (HK4.out.ext hb5)
        have HV5 := hide (HV4.out.below hb5 HV4.out.lt)
        have HBW5 : Hid (Below w.heap.size w w5) := hide (HBW.out _ _ HK5.out)
        clear hb5 HK4 HV4 HBW4
        have k0 := HV5.out.cell 0
        have k1 := HV5.out.cell 1
        have k2 := HV5.out.cell 2
        have k3 := HV5.out.cell 3
        have k4 := HV5.out.cell 4
        have k5 := HV5.out.cell 5
        have k6 := HV5.out.cell 6
        have k7 := HV5.out.cell 7
        have k8 := HV5.out.cell 8
        have k9 := HV5.out.cell 9
        simp at k0 k1 k2 k3 k4 k5 k6 k7 k8 k9
        go_upto_region 14 with fail
        go_wp2_with fail
        refine (HLY.out w5 HBW5.out).mono ?_
        rintro e w6 ⟨rfl, hb6⟩
        clear k0 k1 k2 k3 k4 k5 k6 k7 k8 k9
        have HK6 := hide (HK5.out.ext hb6)
        clear hb6
        go_wp2_with (go_at_call 23; refine (ctext1 X (HK6.out.alloc _) (Blk.new _ _ _) (by have := HBD.out; omega)).mono ?_; rintro e w7 ⟨rfl, h1, h2⟩; have HK7 := hide (HNK.out _ h1); clear h1 h2)
        go_roundw
        case rel => first | exact ⟨k + 1, by omega, by go_num, ⟨_, rfl, hide (by rw [HTK.out, ← HGD.out]; simp)⟩, HK7, HNX⟩ | ((repeat apply Exists.intro); exact ⟨⟨k + 1, by omega, by go_num, ⟨_, rfl, hide (by rw [HTK.out, ← HGD.out]; simp)⟩, HK7, HNX⟩, rfl⟩)
        case measure => simp [intOf]; omega
    · obtain rfl : k = n := by omega
      have HGA : Hid (G = Ps.all FileP.right) := hide (by rw [HGD.out, List.take_of_length_le (by have := HPL.out; omega)])
      obtain ⟨X, hX⟩ : ∃ X, X = arcL Ps := ⟨_, rfl⟩
      have HKX : Hid (Wk g v wo X wr) := hide (by
        rw [hX, arcL, HPL.out, ← catTo_all arL Ps k (by have := HPL.out; omega)]
        have := HK.out
        rwa [HD0.out (), Int.toNat_natCast] at this)
      have HXL : Hid (X.length ≤ 1000000) := hide (by
        have e : X.length = D0.length + (catTo arL Ps k).length := by
          rw [hX, arcL, HPL.out, ← catTo_all arL Ps k (by have := HPL.out; omega), List.length_append, HD0.out (), Int.toNat_natCast]
        have h1 := HDL0.out; have h2 := HCL.out
        have h4 : k * 100010 ≤ 8 * 100010 := Nat.mul_le_mul_right _ (by omega)
        omega)
      have HXP : Hid (1 ≤ X.length) := hide (by
        rw [hX, arcL, List.length_append]
        have : 1 ≤ (vi Ps.length).length := by unfold vi; split <;> simp
        omega)
      have HXX := hide (fun _ : Unit => hX)
      have HBR2 : Hid (Below w.heap.size w wr) := hide (HBW.out _ _ HKX.out)
      have HARC := hide (arc_any Fs A k c wr (HML.out wr HBR2.out) (HAT.out wr HBR2.out))
      have HAV : Hid (arcV (Fs.map Fl.pl) = if G then .tuple #[S X, .int .i64 0] else .tuple #[S [], .int .i64 1]) := hide (by
        rw [← HPS.out (), arcV, if_pos (by have := HPL.out; omega), HGA.out, hX])
      rw [HAV.out] at HARC
      clear HAV hX HGD HK HCL HBR
      cases G with
      | false =>
        simp only [Bool.false_eq_true, if_false] at HARC
        go_wp2_with (go_at_call 14; refine HARC.out.mono ?_; rintro e w8 ⟨rfl, hb8⟩)
        go_ret
        exact ⟨rfl, HBR2.out.trans (hb8.mono HBR2.out.size)⟩
      | true =>
      simp only [if_true] at HARC
      go_upto_region 19 with (go_at_call 14; refine HARC.out.mono ?_; rintro e w8 ⟨rfl, hb8⟩)
      have HK8 := hide (HKX.out.ext hb8)
      have HBW8 : Hid (Below w.heap.size w w8) := hide (HBW.out _ _ HK8.out)
      clear hb8 HARC HKX HBR2
      have hxl : X.length ≤ 1000000 := HXL.out
      have HALL : Hid (∀ F ∈ Ps, F.right = true ∧ F.nok) := hide (fun F hF => ⟨List.all_eq_true.1 HGA.out.symm F hF, HOK.out F hF⟩)
      have HUO := hide (unp_ok (Fs := Ps) (by have := HPL.out; omega) HALL.out (by rw [← HXX.out ()]; omega))
      rw [← HXX.out ()] at HUO
      have HUP := hide (unp_any X w8 (by omega) (HML.out w8 HBW8.out))
      go_wp2_with fail
      refine HUP.out.mono ?_
      clear HUP
      rintro e w9 ⟨hb9, ⟨hu, A', n', c', Fs', rfl, hFp, hFa⟩ | ⟨hu, rfl⟩⟩
      case inr => exact absurd hu (by rw [HUO.out.1]; decide)
      have HFP : Hid (Fs'.map Fl.pl = Ps) := hide (hFp.trans HUO.out.2)
      obtain rfl : k = n' := by
        have h1 := congrArg List.length HFP.out
        rw [List.length_map, hFa.2.1, HPL.out] at h1
        omega
      have HK9 := hide (HK8.out.ext hb9)
      have HBW9 : Hid (Below w.heap.size w w9) := hide (HBW.out _ _ HK9.out)
      have HFA9 : Hid (FlsAt w9 (fun k => w9.heap.size ≤ k) A' k Fs') := hide ⟨hFa.1.weak (fun k hk h => by omega), hFa.2.1, hFa.2.2.1, fun f hf => (hFa.2.2.2 f hf).tight'.weak (fun k h => .inr h)⟩
      clear hu hFp hFa hb9 HK8 HBW8 HUO
      obtain ⟨v9, h9⟩ := HK9.out
      have HST := hide (string_any g v9 X w9 h9.1)
      clear h9
      have d1 : (X != X) = false := by simp
      have d2 : (X == X) = true := by simp
      go_upto_region 22 with (go_at_call 24; refine HST.out.mono ?_; rintro e wx ⟨rfl, h5⟩; subst h5)
      clear d1 d2 HST
      go_upto_region 23 with fail
      go_wp2_with fail
      obtain ⟨wq, hwq⟩ : ∃ wq : World, wq = w9 := ⟨_, rfl⟩
      subst hwq
      go_loopw [87] (fun i wr => ∃ j : Nat, j ≤ k ∧ i = .int .i64 j ∧ Hid (Below wq.heap.size wq wr)) (fun i _ => k - (intOf i).toNat)
      case atStart => exact ⟨0, Nat.zero_le _, rfl, hide (Below.refl _ _)⟩
      case round =>
        obtain ⟨j, hj, rfl, HBR⟩ := hrel
        have HBRW : Hid (Below w.heap.size w wr) := hide (HBW9.out.trans (HBR.out.mono HBW9.out.size))
        by_cases hlt : j < k
        · obtain ⟨b, o, hA, _, hbl, hcs⟩ := Rd.rec_ (f := Fl.cells) (fun _ => rfl) (HAT.out wr HBRW.out).1 HFL.out j hlt
          obtain ⟨b', o', hA', _, hbl', hcs'⟩ := Rd.rec_ (f := Fl.cells) (fun _ => rfl) (HFA9.out.below HBR.out).1 HFA9.out.2.1 j hlt
          have hlk : j < Fs.length := by rw [HFL.out]; exact hlt
          have hlk' : j < Fs'.length := by rw [HFA9.out.2.1]; exact hlt
          have HEQ : Hid (Fs'[j].pl = Fs[j].pl) := hide (by
            have e1 : (Fs'.map Fl.pl)[j]'(by rw [List.length_map]; exact hlk') = Fs'[j].pl := by simp
            have e2 : (Fs.map Fl.pl)[j]'(by rw [List.length_map]; exact hlk) = Fs[j].pl := by simp
            rw [← e1, ← e2]
            exact at_eq (HFP.out.trans (HPS.out ())) j _ _)
          have HFt : Hid (∀ w', Below wr.heap.size wr w' → Calls Tryd.prog 21 #[Fs'[j].val, Fs[j].val] w' (Gives w' (.bool true))) := hide (fun w' hb =>
            csame_any true Fs'[j] Fs[j] w' ((HFA9.out.below (HBR.out.trans (hb.mono HBR.out.size))).2.2.2 _ (List.getElem_mem hlk')) ((HAT.out w' (HBRW.out.trans (hb.mono HBRW.out.size))).2.2.2 _ (List.getElem_mem hlk)) (by simp [HEQ.out]))
          clear HEQ
          generalize Fs[j] = f at hcs HFt
          generalize Fs'[j] = f' at hcs' HFt
          have k0 : ∀ t : After wr, t.val.cell? ⟨b, o + j * 10 + 0, none⟩ = f.cells[0]? := fun t => (World.cell?_of_block (w := wr) (t.prop.block b hbl)).trans (hcs 0 _ rfl)
          have j0 : ∀ t : After wr, t.val.cell? ⟨b', o' + j * 10 + 0, none⟩ = f'.cells[0]? := fun t => (World.cell?_of_block (w := wr) (t.prop.block b' hbl')).trans (hcs' 0 _ rfl)
          have k1 : ∀ t : After wr, t.val.cell? ⟨b, o + j * 10 + 1, none⟩ = f.cells[1]? := fun t => (World.cell?_of_block (w := wr) (t.prop.block b hbl)).trans (hcs 1 _ rfl)
          have j1 : ∀ t : After wr, t.val.cell? ⟨b', o' + j * 10 + 1, none⟩ = f'.cells[1]? := fun t => (World.cell?_of_block (w := wr) (t.prop.block b' hbl')).trans (hcs' 1 _ rfl)
          have k2 : ∀ t : After wr, t.val.cell? ⟨b, o + j * 10 + 2, none⟩ = f.cells[2]? := fun t => (World.cell?_of_block (w := wr) (t.prop.block b hbl)).trans (hcs 2 _ rfl)
          have j2 : ∀ t : After wr, t.val.cell? ⟨b', o' + j * 10 + 2, none⟩ = f'.cells[2]? := fun t => (World.cell?_of_block (w := wr) (t.prop.block b' hbl')).trans (hcs' 2 _ rfl)
          have k3 : ∀ t : After wr, t.val.cell? ⟨b, o + j * 10 + 3, none⟩ = f.cells[3]? := fun t => (World.cell?_of_block (w := wr) (t.prop.block b hbl)).trans (hcs 3 _ rfl)
          have j3 : ∀ t : After wr, t.val.cell? ⟨b', o' + j * 10 + 3, none⟩ = f'.cells[3]? := fun t => (World.cell?_of_block (w := wr) (t.prop.block b' hbl')).trans (hcs' 3 _ rfl)
          have k4 : ∀ t : After wr, t.val.cell? ⟨b, o + j * 10 + 4, none⟩ = f.cells[4]? := fun t => (World.cell?_of_block (w := wr) (t.prop.block b hbl)).trans (hcs 4 _ rfl)
          have j4 : ∀ t : After wr, t.val.cell? ⟨b', o' + j * 10 + 4, none⟩ = f'.cells[4]? := fun t => (World.cell?_of_block (w := wr) (t.prop.block b' hbl')).trans (hcs' 4 _ rfl)
          have k5 : ∀ t : After wr, t.val.cell? ⟨b, o + j * 10 + 5, none⟩ = f.cells[5]? := fun t => (World.cell?_of_block (w := wr) (t.prop.block b hbl)).trans (hcs 5 _ rfl)
          have j5 : ∀ t : After wr, t.val.cell? ⟨b', o' + j * 10 + 5, none⟩ = f'.cells[5]? := fun t => (World.cell?_of_block (w := wr) (t.prop.block b' hbl')).trans (hcs' 5 _ rfl)
          have k6 : ∀ t : After wr, t.val.cell? ⟨b, o + j * 10 + 6, none⟩ = f.cells[6]? := fun t => (World.cell?_of_block (w := wr) (t.prop.block b hbl)).trans (hcs 6 _ rfl)
          have j6 : ∀ t : After wr, t.val.cell? ⟨b', o' + j * 10 + 6, none⟩ = f'.cells[6]? := fun t => (World.cell?_of_block (w := wr) (t.prop.block b' hbl')).trans (hcs' 6 _ rfl)
          have k7 : ∀ t : After wr, t.val.cell? ⟨b, o + j * 10 + 7, none⟩ = f.cells[7]? := fun t => (World.cell?_of_block (w := wr) (t.prop.block b hbl)).trans (hcs 7 _ rfl)
          have j7 : ∀ t : After wr, t.val.cell? ⟨b', o' + j * 10 + 7, none⟩ = f'.cells[7]? := fun t => (World.cell?_of_block (w := wr) (t.prop.block b' hbl')).trans (hcs' 7 _ rfl)
          have k8 : ∀ t : After wr, t.val.cell? ⟨b, o + j * 10 + 8, none⟩ = f.cells[8]? := fun t => (World.cell?_of_block (w := wr) (t.prop.block b hbl)).trans (hcs 8 _ rfl)
          have j8 : ∀ t : After wr, t.val.cell? ⟨b', o' + j * 10 + 8, none⟩ = f'.cells[8]? := fun t => (World.cell?_of_block (w := wr) (t.prop.block b' hbl')).trans (hcs' 8 _ rfl)
          have k9 : ∀ t : After wr, t.val.cell? ⟨b, o + j * 10 + 9, none⟩ = f.cells[9]? := fun t => (World.cell?_of_block (w := wr) (t.prop.block b hbl)).trans (hcs 9 _ rfl)
          have j9 : ∀ t : After wr, t.val.cell? ⟨b', o' + j * 10 + 9, none⟩ = f'.cells[9]? := fun t => (World.cell?_of_block (w := wr) (t.prop.block b' hbl')).trans (hcs' 9 _ rfl)
          simp at k0 k1 k2 k3 k4 k5 k6 k7 k8 k9 j0 j1 j2 j3 j4 j5 j6 j7 j8 j9
          clear hcs hcs'
          rw [hA, hA']
          have hjk : (j : Int) < (k : Int) := by omega
          go_upto_region 25 with fail
          refine region_after (by kernel_rfl) (by kernel_rfl) ?_
          repeat (go_big_quiet_step ((go_at_call 21; refine call_after (HFt.out _ (After.prop _)))))
          refine wpQuiet_nil ?_
          rintro _ ⟨t, rfl⟩
          have HB2 : Hid (Below wq.heap.size wq t.val) := hide (HBR.out.trans (t.prop.mono HBR.out.size))
          clear k0 k1 k2 k3 k4 k5 k6 k7 k8 k9 j0 j1 j2 j3 j4 j5 j6 j7 j8 j9
          go_wp2_with fail
          go_roundw
          case rel => first | exact ⟨j + 1, by omega, by go_num, HB2⟩ | ((repeat apply Exists.intro); exact ⟨⟨j + 1, by omega, by go_num, HB2⟩, rfl⟩)
          case measure => simp [intOf]; omega
        · have hpos : 1 ≤ X.length := HXP.out
          obtain ⟨m, hm⟩ : ∃ m, m = N % X.length := ⟨_, rfl⟩
          have hml : m < X.length := by rw [hm]; exact Nat.mod_lt _ (by omega)
          have e1 : Int.tmod (N : Int) (X.length : Int) = (m : Int) := by rw [hm]; exact Int.ofNat_tmod _ _
          have e2 : (N : Int) % (X.length : Int) = (m : Int) := by rw [hm]; rfl
          have hz : ¬ (X.length : Int) = 0 := by omega
          have hz2 : ¬ X.length = 0 := by omega
          have hz3 : ¬ X = [] := fun e => by rw [e] at hpos; simp at hpos
          have hN : N ≤ 65535 := HN.out
          have hNe' := HNE.out
          have HUC : Hid (unpOk (X.take m) = false) := hide (unp_cut (Fs := Ps) (u := X.drop m) (by have := HPL.out; omega) (by rw [← HXX.out ()]; omega) (fun h => by have := congrArg List.length h; simp at this; omega) (by rw [← HXX.out (), List.take_append_drop]))
          have HUP := hide (unp_any (X.take m) wr (by rw [List.length_take]; omega) (HML.out wr HBRW.out))
          clear hm
          go_wp2_with fail
          refine HUP.out.mono ?_
          clear HUP e1 e2 hz hz2 hz3 hN hNe' hml
          rintro e w10 ⟨hb10, ⟨hu, A2, n2, c2, Fs2, rfl, _, _⟩ | ⟨hu, rfl⟩⟩
          case inl => exact absurd hu (by rw [HUC.out]; decide)
          go_wp2_with fail
          go_ret
          exact ⟨rfl, HBRW.out.trans (hb10.mono HBRW.out.size)⟩
end Go.Proofs.YtkldfbacagnhoaaDoor
