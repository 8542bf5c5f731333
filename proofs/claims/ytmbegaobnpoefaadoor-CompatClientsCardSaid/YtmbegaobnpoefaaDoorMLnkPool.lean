/- Whether all that a pool names is there: the linker's walk; no statement of the seat is proved here. (Written by gen/vlink.py.) -/
import Derived.Test.YtmbegaobnpoefaaDoorMTk
import Derived.Test.YtmbegaobnpoefaaDoorMLnkFind
import Derived.Test.YtmbegaobnpoefaaDoorMHierKnownH
import Derived.Test.YtmbegaobnpoefaaDoorMHierTwiceH
import Derived.Test.YtmbegaobnpoefaaDoorMCliV
import Derived.Test.YtmbegaobnpoefaaDoorMCliClone
import Derived.Deep.DeepCutAuto
import Derived.Deep.LoopGhost
namespace Go.Proofs.YtmbegaobnpoefaaDoor
open Go.RowKit Go.Maps
set_option linter.unusedVariables false
set_option linter.unusedSimpArgs false
def fitP (T : List Fc) (m : SgP) (c : List UInt8) : Bool := (methOf (faceF T c) m.n).isSome && decide (((methOf (faceF T c) m.n).getD zeroSg).pl = m)
theorem p_pl {a b : Sg} : a.p = b.p ↔ a.pl = b.pl := by
 obtain ⟨n, st, A, k, c, ps, r⟩ := a
 obtain ⟨n', st', A', k', c', ps', r'⟩ := b
 simp only [Sg.p, Sg.pl, Prod.mk.injEq, SgP.mk.injEq]
 constructor
 ·rintro ⟨h1, h2, h3, h4⟩; exact ⟨h1, h2, h4, h3⟩
 ·rintro ⟨h1, h2, h3, h4⟩; exact ⟨h1, h2, h4, h3⟩
theorem fit_fitP (T : List Fc) (m : Sg) : fitM T m = fitP T m.pl := by
 funext c
 unfold fitM fitP
 have e : m.pl.n = m.n := rfl
 rw [e]
 congr 1
 exact decide_eq_decide.2 p_pl
def fdIn (T : List Fc) (x : FdP) : Bool := match memF T x.v.n (up T 20 [] x.c).1 with
 | some p => decide (p.2 = x.v.t)
 | none => false
def mtIn (T : List Fc) (x : MtP) : Bool := ((up T 20 [] x.c).1.find? (fitP T x.m)).isSome
def poolP (T : List Fc) (p : PoolP) : Bool := p.cls.all (fun c => knownT T (kO c)) && (p.tys.all (knownT T) && (p.fds.all (fdIn T) && p.mts.all (mtIn T)))
theorem retF_form3 (C : Option (List UInt8 × Ty)) : ∃ (c tn : List UInt8) (ta : Bool), retF C = .tuple #[S c, .agg #[S tn, .bool ta], .bool C.isSome] ∧ ∀ p, C = some p → p.2 = ⟨tn, ta⟩ := by
 cases C with
 | none => exact ⟨_, _, _, rfl, fun p h => by cases h⟩
 | some p => obtain ⟨c, t⟩ := p; exact ⟨_, _, _, rfl, fun p h => by injection h with h; rw [← h]⟩
theorem all_no {α : Type} {p : α → Bool} {l : List α} {x : α} (hx : x ∈ l) (h : p x = false) : l.all p = false := by
 rw [List.all_eq_false]
 exact ⟨x, hx, by simp [h]⟩
theorem all_yes {α : Type} {p : α → Bool} {l : List α} (h : ∀ i (hi : i < l.length), p l[i] = true) : l.all p = true := by
 rw [List.all_eq_true]
 intro x hx
 obtain ⟨i, hi, rfl⟩ := List.getElem_of_mem hx
 exact h i hi
set_option maxRecDepth 100000 in
set_option maxHeartbeats 8000000 in
theorem lpool_any (gi g m s n B : Nat) (T : List Fc) (f : Fl) (Fm Nm : Value) (w : World) (hi : Blk w gi 39 #[.pointer (some ⟨g, 0, none⟩), Fm, Nm]) (h : Tab w g m s T n) (hn : n ≤ 7000000000000000) (hT : T.length ≤ 8) (hs : ∀ f ∈ T, short f.su) (hp : f.pat w (fun k => B ≤ k)) (hat : ∀ f ∈ T, f.at_ w (fun k => B ≤ k)) (hBs : B ≤ s) (hBw : B ≤ w.heap.size)
  (hk : f.cl ≤ 20 ∧ f.tl ≤ 20 ∧ f.dl ≤ 20 ∧ f.ml ≤ 20) :
  Calls Tryd.prog 17 #[.pointer (some ⟨gi, 0, none⟩), f.pval] w
   (fun e w' => e = .returned (.bool (poolP T f.ppl)) ∧ Tab w' g m s T (n + 2000) ∧ Keep (fun b => b = s) w w') := by
 obtain ⟨w1, hw1⟩ : ∃ y, y = w.alloc (.cells #[.slice f.nA f.nl f.nc, .slice f.cA f.cl f.cc, .slice f.tA f.tl f.tc, .slice f.dA f.dl f.dc, .slice f.mA f.ml f.mc] 49) := ⟨_, rfl⟩
 obtain ⟨b3, hb3⟩ : ∃ y, y = w.heap.size := ⟨_, rfl⟩
 have HPB : Hid (Blk w1 b3 49 #[.slice f.nA f.nl f.nc, .slice f.cA f.cl f.cc, .slice f.tA f.tl f.tc, .slice f.dA f.dl f.dc, .slice f.mA f.ml f.mc]) := hide (by rw [hw1, hb3]; exact Blk.new _ _ _)
 have hbl : Below w.heap.size w w1 := by rw [hw1]; exact (Below.refl _ _).alloc (Nat.le_refl _) _
 have HB1 := hide hbl
 have HT := hide (h.below hbl)
 have HIM := hide (hi.below hbl hi.lt)
 have hslt := h.slt
 have hgs : gi ≠ s := by obtain ⟨D, hD⟩ := h.seen; exact blk_map_ne hi hD
 have hw1s := hbl.size
 have HP := hide (hp.below (hbl.mono hBw))
 have HAT : Hid (∀ f ∈ T, f.at_ w1 (fun k => B ≤ k)) := hide (fun f hf => (hat f hf).below (hbl.mono hBw))
 have hb3e : w.heap.size ≤ b3 ∧ b3 < w1.heap.size := ⟨by omega, HPB.out.lt⟩
 have hb3s : ¬ b3 = s := by omega
 have HPS : Hid (f.pat w1 (fun b => b = s)) := hide (HP.out.weak (fun k e => by omega))
 have HLW : Hid (∀ ww, Keep (fun b => b = s) w1 ww → Below B w1 ww) := hide (fun ww hk => hk.below (B := B) (by omega) (fun k hk => by omega))
 obtain ⟨R, hR⟩ : ∃ R, R = poolP T f.ppl := ⟨_, rfl⟩
 rw [← hR]
 have HRR := hide (fun _ : Unit => hR)
 have HSS := hide hs
 have hgm : g < w1.heap.size ∧ m < w1.heap.size ∧ s < w1.heap.size := ⟨by have := h.blk.lt; omega, by have := h.faces.lt; omega, by omega⟩
 obtain ⟨hk1, hk2, hk3, hk4⟩ := hk
 clear hR h hi hbl hp hat hs
 obtain ⟨cA, hcA⟩ : ∃ y, y = f.cA := ⟨_, rfl⟩
 obtain ⟨dA, hdA⟩ : ∃ y, y = f.dA := ⟨_, rfl⟩
 obtain ⟨mA, hmA⟩ : ∃ y, y = f.mA := ⟨_, rfl⟩
 have c1 : w1.cell? ⟨b3, 1, none⟩ = some (.slice cA f.cl f.cc) := by rw [hcA]; exact HPB.out.cell 1
 have HCR : Hid (Rd w1 (fun b => b = s) 1 cA f.cl (f.cls.map S)) := hide (by rw [hcA]; exact HPS.out.cr)
 have hcL := HPS.out.cL
 have HD3 : Hid (∀ ww, Keep (fun b => b = s) w1 ww → ww.cell? ⟨b3, 3, none⟩ = some (.slice dA f.dl f.dc) ∧ Rd ww (fun b => b = s) 4 dA f.dl (f.fds.flatMap FdP.cells)) := hide (fun ww hk => by rw [hdA]; exact ⟨(HPB.out.keep hk hb3s).cell 3, (HPS.out.keep hk).dr⟩)
 have hdL := HPS.out.dL
 have HM4 : Hid (∀ ww, Keep (fun b => b = s) w1 ww → ww.cell? ⟨b3, 4, none⟩ = some (.slice mA f.ml f.mc) ∧ Rd ww (fun b => b = s) 6 mA f.ml (f.mts.flatMap Mt.cells)) := hide (fun ww hk => by rw [hmA]; exact ⟨(HPB.out.keep hk hb3s).cell 4, (HPS.out.keep hk).mr⟩)
 have hmL := HPS.out.mL
 clear hcA hdA hmA
 go_enter Tryd.func17, Tryd.ntmps17
 go_upto_region 1 with fail
 rw [← hw1, ← hb3]
 clear hw1 hb3
 go_wp2_with fail
 go_loopw [19] (fun i wr => ∃ j : Nat, j ≤ f.cl ∧ i = .int .i64 j ∧ Hid (Tab wr g m s T (n + j)) ∧ Hid (Keep (fun b => b = s) w1 wr) ∧ Hid (∀ k (hk : k < f.cls.length), k < j → knownT T (kO f.cls[k]) = true)) (fun i _ => f.cl - (intOf i).toNat)
 case atStart => exact ⟨0, Nat.zero_le _, rfl, HT, hide (Keep.refl _ _), hide (fun k _ h => absurd h (Nat.not_lt_zero _))⟩
 case round =>
  obtain ⟨j, hj, rfl, HTR, HKR, HA⟩ := hrel
  clear HT
  have hwrs := HKR.out.size
  by_cases hlt : j < f.cl
  case pos =>
   obtain ⟨bb, o, rfl, hbs, hbl2, hcx⟩ := Rd.at1 (HCR.out.keep HKR.out) hcL j hlt
   have hj2 : j < f.cls.length := by omega
   have hcs : short f.cls[j] := HPS.out.cW _ (List.getElem_mem hj2)
   have HNo : Hid (knownT T (kO f.cls[j]) = false → R = false) := hide (fun e => by rw [HRR.out ()]; unfold poolP; rw [show f.ppl.cls.all (fun c => knownT T (kO c)) = false from all_no (List.getElem_mem hj2) e]; rfl)
   have HYes : Hid (knownT T (kO f.cls[j]) = true → ∀ k (hk : k < f.cls.length), k < j + 1 → knownT T (kO f.cls[k]) = true) := hide (fun e k hk h9 => by by_cases ek : k = j; subst ek; exact e; exact HA.out k hk (by omega))
   generalize f.cls[j] = cn at hcx hcs HNo HYes
   obtain ⟨Q, hQ⟩ : ∃ y, y = knownT T (kO cn) := ⟨_, rfl⟩
   rw [← hQ] at HNo HYes
   have HKN : Hid (∀ ww nn rr, Tab ww g m s T nn → nn ≤ 8000000000000000 → Blk ww rr 24 #[S cn, .bool false] → rr ≠ s → Calls Tryd.prog 8 #[.pointer (some ⟨g, 0, none⟩), .slice (some ⟨rr, 0, none⟩) 1 1] ww (fun e w' => e = .returned (.bool Q) ∧ Tab w' g m s T (nn + 1) ∧ Keep (fun b => b = s) ww w')) := hide (fun ww nn rr ht hn hb hr => by
    have h9 := knownt_any g m s nn T (some ⟨rr, 0, none⟩) 1 1 [kO cn] ww ht hn (Rd.of_blk hb hr rfl) rfl (by omega) (fun t ht => by rw [List.mem_singleton] at ht; subst ht; exact hcs)
    rw [hQ]
    simpa using h9)
   clear hQ
   have HIMr := hide (HIM.out.keep HKR.out hgs)
   have HT := HTR
   go_upto_region 4 with fail
   have HS : Hid (∀ w', Keep (fun b => b = s) wr w' → w'.cell? ⟨gi, 0, none⟩ = some (.pointer (some ⟨g, 0, none⟩))) := hide (fun w' hk => by
    exact (HIMr.out.keep hk hgs).cell 0
    )
   have HR : Hid (Keep (fun b => b = s) wr wr.drew) := hide (Keep.refl _ _).drew
   replace HT := hide HT.out.drew
   refine wp_region_noPanic ?_
   refine tkB HS HR.out (fun hHeld => ?_)
   obtain ⟨w2, hw2⟩ : ∃ x, x = wr.drew := ⟨_, rfl⟩
   rw [← hw2] at hHeld HR HT ⊢
   clear hw2
   refine tkL 0 ?_ ?_ ?_
   rotate_left
   ·(intro wS hSw; have e0 := hSw; go_simp; try with_reducible rfl)
   try simp only [sP]
   refine tkL 1 ?_ ?_ ?_
   rotate_left
   ·(intro wS hSw; have e0 := hSw; go_simp; try with_reducible rfl)
   try simp only [sP]
   refine tkL 2 ?_ ?_ ?_
   rotate_left
   ·(intro wS hSw; have e0 := hSw; go_simp; try with_reducible rfl)
   try simp only [sP]
   refine tkL 3 ?_ ?_ ?_
   rotate_left
   ·(intro wS hSw; have e0 := hSw; go_simp; try with_reducible rfl)
   try simp only [sP]
   refine tkL 4 ?_ ?_ ?_
   rotate_left
   ·(intro wS hSw; have e0 := hSw; go_simp; try with_reducible rfl)
   try simp only [sP]
   refine tkC 5 (fun K hK => ?_)
   try rw [if_pos (by rfl)]
   go_simp
   go_at_call 22
   refine (of_any _ _).mono ?_
   rintro e w3 ⟨rfl, hb3⟩
   replace HT := hide (HT.out.below hb3)
   replace HR := hide (HR.out.tr (keep_s' (s := s) hb3))
   clear hb3
   try go_wp2_with fail
   refine hK.out _ _ (HS.out _ HR.out) (fun hHeld => ?_)
   clear hK K
   try simp only [sP]
   refine tkC 6 (fun K hK => ?_)
   try rw [if_pos (by rfl)]
   go_simp
   try go_wp2_with fail
   refine hK.out _ _ (HS.out _ (HR.out.tr (keep_s' (s := s) ((Below.refl _ _).alloc (Nat.le_refl _) _)))) (fun hHeld => ?_)
   clear hK K
   try simp only [sP]
   obtain ⟨w4, hw4⟩ : ∃ y, y = w3.alloc (.cells #[S cn, .bool false] 24) := ⟨_, rfl⟩
   obtain ⟨rB, hrB⟩ : ∃ y, y = w3.heap.size := ⟨_, rfl⟩
   have HBK : Hid (Blk w4 rB 24 #[S cn, .bool false]) := hide (by rw [hw4, hrB]; exact Blk.new _ _ _)
   have hl_rB : w3.heap.size ≤ rB := by omega
   have hsz_rB := HR.out.size
   have hbel : Below w3.heap.size w3 w4 := by rw [hw4]; exact (Below.refl _ _).alloc (Nat.le_refl _) _
   replace HT := hide (HT.out.below hbel)
   replace HR := hide (HR.out.tr (keep_s' (s := s) hbel))
   rw [← hw4] at hHeld ⊢
   rw [← hrB]
   clear hw4 hrB hbel
   refine tkC 7 (fun K hK => ?_)
   try rw [if_pos (by rfl)]
   go_simp
   go_at_call 8
   refine (HKN.out _ _ _ HT.out (by omega) HBK.out (by omega)).mono ?_
   rintro e w5 ⟨rfl, ht5, hk5⟩
   replace HT := hide ht5
   replace HR := hide (HR.out.tr hk5)
   clear ht5 hk5
   try go_wp2_with fail
   refine hK.out _ _ (HS.out _ HR.out) (fun hHeld => ?_)
   clear hK K
   try simp only [sP]
   refine tkL 8 ?_ ?_ ?_
   rotate_left
   ·(intro wS hSw; have e0 := hSw; go_simp; try with_reducible rfl)
   try simp only [sP]
   refine wpAnyH_done (by kernel_rfl) ?_ _
   refine NoPanic.normal ?_
   have HK5 : Hid (Keep (fun b => b = s) w1 w5) := hide (HKR.out.tr HR.out)
   clear HS HR HBK HKN
   cases Q
   case false =>
    have hRf := HNo.out rfl
    subst hRf
    go_wp2_with fail
    go_ret
    exact ⟨rfl, HT.out.mono (by omega), (Keep.of_below (F := fun b => b = s) HB1.out (fun k h1 h2 => by omega)).tr HK5.out⟩
   case true =>
    go_wp2_with fail
    go_roundw
    case rel => exact ⟨j + 1, by omega, by go_num, hide (HT.out.mono (by omega)), HK5, hide (HYes.out rfl)⟩
    case measure => simp [intOf]; omega
  case neg =>
   have hja : j = f.cl := by omega
   have HCL : Hid (f.ppl.cls.all (fun c => knownT T (kO c)) = true) := hide (all_yes (fun k hk => HA.out k hk (by have : k < f.cls.length := hk; omega)))
   obtain ⟨wo, rfl⟩ : ∃ wo : World, wo = wr := ⟨_, rfl⟩
   clear HA HCR c1 hlt
   have HIMo := hide (HIM.out.keep HKR.out hgs)
   have HPBo := hide (HPB.out.keep HKR.out hb3s)
   have HT := HTR
   have HKo := HKR
   obtain ⟨Q, hQ⟩ : ∃ y, y = f.tys.all (knownT T) := ⟨_, rfl⟩
   have HQ := hide (fun _ : Unit => hQ)
   have HKN : Hid (∀ ww nn, Tab ww g m s T nn → nn ≤ 8000000000000000 → Keep (fun b => b = s) w1 ww → Calls Tryd.prog 8 #[.pointer (some ⟨g, 0, none⟩), .slice f.tA f.tl f.tc] ww (fun e w' => e = .returned (.bool Q) ∧ Tab w' g m s T (nn + f.tl) ∧ Keep (fun b => b = s) ww w')) := hide (fun ww nn ht hn hk => by rw [hQ]; exact knownt_any g m s nn T f.tA f.tl f.tc f.tys ww ht hn (HPS.out.keep hk).tr HPS.out.tL (by omega) (fun t ht => HPS.out.tW t ht))
   clear hQ
   go_upto_region 7 with fail
   have HS : Hid (∀ w', Keep (fun b => b = s) wo w' → w'.cell? ⟨gi, 0, none⟩ = some (.pointer (some ⟨g, 0, none⟩)) ∧ w'.cell? ⟨b3, 2, none⟩ = some (.slice f.tA f.tl f.tc)) := hide (fun w' hk => by
    exact ⟨(HIMo.out.keep hk hgs).cell 0, (HPBo.out.keep hk hb3s).cell 2⟩
    )
   have HR : Hid (Keep (fun b => b = s) wo wo.drew) := hide (Keep.refl _ _).drew
   replace HT := hide HT.out.drew
   refine wp_region_noPanic ?_
   refine tkB HS HR.out (fun hHeld => ?_)
   obtain ⟨w6, hw6⟩ : ∃ x, x = wo.drew := ⟨_, rfl⟩
   rw [← hw6] at hHeld HR HT ⊢
   clear hw6
   refine tkL 0 ?_ ?_ ?_
   rotate_left
   ·(rintro wS ⟨e0, e1⟩; go_simp; try with_reducible rfl)
   try simp only [sP]
   refine tkL 1 ?_ ?_ ?_
   rotate_left
   ·(rintro wS ⟨e0, e1⟩; go_simp; try with_reducible rfl)
   try simp only [sP]
   refine tkL 2 ?_ ?_ ?_
   rotate_left
   ·(rintro wS ⟨e0, e1⟩; go_simp; try with_reducible rfl)
   try simp only [sP]
   refine tkL 3 ?_ ?_ ?_
   rotate_left
   ·(rintro wS ⟨e0, e1⟩; go_simp; try with_reducible rfl)
   try simp only [sP]
   refine tkL 4 ?_ ?_ ?_
   rotate_left
   ·(rintro wS ⟨e0, e1⟩; go_simp; try with_reducible rfl)
   try simp only [sP]
   refine tkL 5 ?_ ?_ ?_
   rotate_left
   ·(rintro wS ⟨e0, e1⟩; go_simp; try with_reducible rfl)
   try simp only [sP]
   refine tkC 6 (fun K hK => ?_)
   try rw [if_pos (by rfl)]
   go_simp
   go_at_call 8
   refine (HKN.out _ _ HT.out (by omega) (HKo.out.tr HR.out)).mono ?_
   rintro e w7 ⟨rfl, ht7, hk7⟩
   replace HT := hide ht7
   replace HR := hide (HR.out.tr hk7)
   clear ht7 hk7
   try go_wp2_with fail
   refine hK.out _ _ (HS.out _ HR.out) (fun hHeld => ?_)
   clear hK K
   try simp only [sP]
   refine tkL 7 ?_ ?_ ?_
   rotate_left
   ·(rintro wS ⟨e0, e1⟩; go_simp; try with_reducible rfl)
   try simp only [sP]
   refine wpAnyH_done (by kernel_rfl) ?_ _
   refine NoPanic.normal ?_
   have HK7 : Hid (Keep (fun b => b = s) w1 w7) := hide (HKo.out.tr HR.out)
   clear HS HR HKN HIMo HPBo
   cases Q
   case false =>
    have hRf : R = false := by rw [HRR.out ()]; unfold poolP; rw [show f.ppl.tys.all (knownT T) = false from (HQ.out ()).symm]; simp
    subst hRf
    go_wp2_with fail
    go_ret
    exact ⟨rfl, HT.out.mono (by omega), (Keep.of_below (F := fun b => b = s) HB1.out (fun k h1 h2 => by omega)).tr HK7.out⟩
   case true =>
    have HTL : Hid (f.ppl.tys.all (knownT T) = true) := hide (HQ.out ()).symm
    have hja2 : j ≤ 20 := by omega
    clear HQ HKR HTR hwrs
    obtain ⟨d3, HDR⟩ := HD3.out w7 HK7.out
    have HDRR := hide HDR
    clear HDR HD3
    go_wp2_with fail
    obtain ⟨n7, hn7⟩ : ∃ y, y = n + j + f.tl := ⟨_, rfl⟩
    have hn7b : n7 ≤ n + 40 := by omega
    rw [← hn7] at HT
    clear hn7
    go_loopw [44] (fun i wr => ∃ j nn : Nat, j ≤ f.dl ∧ i = .int .i64 j ∧ nn ≤ n7 + 40 * j ∧ Hid (Tab wr g m s T nn) ∧ Hid (Keep (fun b => b = s) w7 wr) ∧ Hid (∀ k (hk : k < f.fds.length), k < j → fdIn T f.fds[k] = true)) (fun i _ => f.dl - (intOf i).toNat)
    case atStart => exact ⟨0, n7, Nat.zero_le _, rfl, by omega, HT, hide (Keep.refl _ _), hide (fun k _ h => absurd h (Nat.not_lt_zero _))⟩
    case round =>
     obtain ⟨i, nn, hi, rfl, hnn, HTR, HKR, HA⟩ := hrel
     clear HT
     have hwrs := HKR.out.size
     by_cases hlt : i < f.dl
     case pos =>
      obtain ⟨bb, o, rfl, hbs, hbl2, hcx⟩ := Rd.rec_ (f := FdP.cells) (fun _ => rfl) (HDRR.out.keep HKR.out) hdL i hlt
      have hi2 : i < f.fds.length := by omega
      have hok := HPS.out.dW _ (List.getElem_mem hi2)
      have HNo : Hid (fdIn T f.fds[i] = false → R = false) := hide (fun e => by rw [HRR.out ()]; unfold poolP; rw [show f.ppl.fds.all (fdIn T) = false from all_no (List.getElem_mem hi2) e]; simp)
      have HYes : Hid (fdIn T f.fds[i] = true → ∀ k (hk : k < f.fds.length), k < i + 1 → fdIn T f.fds[k] = true) := hide (fun e k hk h9 => by by_cases ek : k = i; subst ek; exact e; exact HA.out k hk (by omega))
      generalize f.fds[i] = x at hcx hok HNo HYes
      obtain ⟨⟨dn, ⟨dt, da⟩⟩, dc⟩ := x
      obtain ⟨hk91, hk92, hk93⟩ := hok
      have m0 : wr.cell? ⟨bb, o + i * 4, none⟩ = some (S dn) := hcx 0 _ rfl
      have m1 : wr.cell? ⟨bb, o + i * 4 + 1, none⟩ = some (S dt) := hcx 1 _ rfl
      have m2 : wr.cell? ⟨bb, o + i * 4 + 2, none⟩ = some (.bool da) := hcx 2 _ rfl
      have m3 : wr.cell? ⟨bb, o + i * 4 + 3, none⟩ = some (S dc) := hcx 3 _ rfl
      obtain ⟨M, hM⟩ : ∃ y, y = memF T dn (up T 20 [] dc).1 := ⟨_, rfl⟩
      obtain ⟨cc, tn, ta, hret, hpt⟩ := retF_form3 M
      have hfin : fdIn T ⟨⟨dn, ⟨dt, da⟩⟩, dc⟩ = (M.isSome && decide ((⟨tn, ta⟩ : Ty) = ⟨dt, da⟩)) := by
       unfold fdIn
       simp only [← hM]
       cases M with
       | none => rfl
       | some p => simp only [hpt p rfl]; rfl
      obtain ⟨Q, hQ⟩ : ∃ y, y = M.isSome := ⟨_, rfl⟩
      rw [hfin, ← hQ] at HNo HYes
      rw [← hQ] at hret
      have HFC : Hid (∀ ww n9, Tab ww g m s T n9 → n9 ≤ 8000000000000000 → Keep (fun b => b = s) w1 ww → Calls Tryd.prog 37 #[.pointer (some ⟨g, 0, none⟩), S dc, S dn] ww (fun e w' => e = .returned (.tuple #[S cc, .agg #[S tn, .bool ta], .bool Q]) ∧ Tab w' g m s T (n9 + 40) ∧ Keep (fun b => b = s) ww w')) := hide (fun ww n9 ht hn hk => by have h9 := tfield_any g m s n9 B T dc dn ww ht hn hT HSS.out hk93 (fun f hf => (HAT.out f hf).below (HLW.out ww hk)) hBs; rw [← hM, hret] at h9; exact h9)
      clear hM hret hpt hfin hQ hcx
      have HIMr := hide ((HIM.out.keep HK7.out hgs).keep HKR.out hgs)
      go_upto_region 12 with fail
      obtain ⟨w8, hw8⟩ : ∃ y, y = wr.alloc (.cells #[S dn, S dt, .bool da, S dc] 93) := ⟨_, rfl⟩
      obtain ⟨b8, hb8⟩ : ∃ y, y = wr.heap.size := ⟨_, rfl⟩
      have hbe : Below wr.heap.size wr w8 := by rw [hw8]; exact (Below.refl _ _).alloc (Nat.le_refl _) _
      have HFB : Hid (Blk w8 b8 93 #[S dn, S dt, .bool da, S dc]) := hide (by rw [hw8, hb8]; exact Blk.new _ _ _)
      have hw7s := HK7.out.size
      have hb8s : ¬ b8 = s := by omega
      have HT := hide (HTR.out.below hbe)
      have HIM8 := hide (HIMr.out.below hbe HIMr.out.lt)
      have HK78 : Hid (Keep (fun b => b = s) w7 w8) := hide (HKR.out.tr (keep_s' (s := s) hbe))
      have HK18 : Hid (Keep (fun b => b = s) w1 w8) := hide (HK7.out.tr HK78.out)
      have hw8s := HK18.out.size
      rw [show (wr.alloc (.cells #[.string { data := dn.toArray }, .string { data := dt.toArray }, .bool da, .string { data := dc.toArray }] 93)) = w8 from hw8.symm]
      rw [← hb8]
      clear hw8 hb8 hbe m0 m1 m2 m3 HIMr
      go_cut [9, 10, 11] (fun v9 v10 v11 wx => ∃ (r n2 : Nat), v10 = .pointer (some ⟨r, 0, none⟩) ∧ v11 = .bool Q ∧ w8.heap.size ≤ r ∧ n2 ≤ nn + 40 ∧ Hid (Blk wx r 24 #[S tn, .bool ta]) ∧ Hid (Tab wx g m s T n2) ∧ Hid (Keep (fun b => b = s) w8 wx))
      case first =>
       have HS : Hid (∀ w', Keep (fun b => b = s) w8 w' → w'.cell? ⟨gi, 0, none⟩ = some (.pointer (some ⟨g, 0, none⟩)) ∧ w'.cell? ⟨b8, 0, none⟩ = some (S dn) ∧ w'.cell? ⟨b8, 3, none⟩ = some (S dc)) := hide (fun w' hk => by
        have t0 := HFB.out.keep hk hb8s
        exact ⟨(HIM8.out.keep hk hgs).cell 0, t0.cell 0, t0.cell 3⟩
        )
       have HR : Hid (Keep (fun b => b = s) w8 w8.drew) := hide (Keep.refl _ _).drew
       replace HT := hide HT.out.drew
       refine wp_region_noPanic ?_
       refine tkB HS HR.out (fun hHeld => ?_)
       obtain ⟨w9, hw9⟩ : ∃ x, x = w8.drew := ⟨_, rfl⟩
       rw [← hw9] at hHeld HR HT ⊢
       clear hw9
       have hw9 := HR.out.size
       refine tkL 0 ?_ ?_ ?_
       rotate_left
       ·(rintro wS ⟨e0, e1, e2⟩; go_simp; try with_reducible rfl)
       try simp only [sP]
       refine tkL 1 ?_ ?_ ?_
       rotate_left
       ·(rintro wS ⟨e0, e1, e2⟩; go_simp; try with_reducible rfl)
       try simp only [sP]
       refine tkL 2 ?_ ?_ ?_
       rotate_left
       ·(rintro wS ⟨e0, e1, e2⟩; go_simp; try with_reducible rfl)
       try simp only [sP]
       refine tkL 3 ?_ ?_ ?_
       rotate_left
       ·(rintro wS ⟨e0, e1, e2⟩; go_simp; try with_reducible rfl)
       try simp only [sP]
       refine tkL 4 ?_ ?_ ?_
       rotate_left
       ·(rintro wS ⟨e0, e1, e2⟩; go_simp; try with_reducible rfl)
       try simp only [sP]
       refine tkL 5 ?_ ?_ ?_
       rotate_left
       ·(rintro wS ⟨e0, e1, e2⟩; go_simp; try with_reducible rfl)
       try simp only [sP]
       refine tkL 6 ?_ ?_ ?_
       rotate_left
       ·(rintro wS ⟨e0, e1, e2⟩; go_simp; try with_reducible rfl)
       try simp only [sP]
       refine tkL 7 ?_ ?_ ?_
       rotate_left
       ·(rintro wS ⟨e0, e1, e2⟩; go_simp; try with_reducible rfl)
       try simp only [sP]
       refine tkL 8 ?_ ?_ ?_
       rotate_left
       ·(rintro wS ⟨e0, e1, e2⟩; go_simp; try with_reducible rfl)
       try simp only [sP]
       refine wpAnyH_ready (rs := [9, 14]) (by kernel_rfl) (by simp) ?_
       refine tkA _ (fun K hK => ?_) ?_
       ·try rw [if_pos (by rfl)]
        go_simp
        go_at_call 37
        refine (HFC.out _ _ HT.out (by omega) (HK18.out.tr HR.out)).mono ?_
        rintro e wA1 ⟨rfl, htA, hkA⟩
        replace HT := hide htA
        replace HR := hide (HR.out.tr hkA)
        clear htA hkA
        try go_wp2_with fail
        refine hK.out _ _ (HS.out _ HR.out) (fun hHeld => ?_)
        clear hK K
        try simp only [sP]
        refine tkL 10 ?_ ?_ ?_
        rotate_left
        ·(rintro wS ⟨e0, e1, e2⟩; go_simp; try with_reducible rfl)
        try simp only [sP]
        refine tkL 11 ?_ ?_ ?_
        rotate_left
        ·(rintro wS ⟨e0, e1, e2⟩; go_simp; try with_reducible rfl)
        try simp only [sP]
        refine tkL 12 ?_ ?_ ?_
        rotate_left
        ·(rintro wS ⟨e0, e1, e2⟩; go_simp; try with_reducible rfl)
        try simp only [sP]
        refine tkL 13 ?_ ?_ ?_
        rotate_left
        ·(rintro wS ⟨e0, e1, e2⟩; go_simp; try with_reducible rfl)
        try simp only [sP]
        refine tkC 14 (fun K hK => ?_)
        try rw [if_pos (by rfl)]
        go_simp
        try go_wp2_with fail
        refine hK.out _ _ (HS.out _ (HR.out.tr (keep_s' (s := s) ((Below.refl _ _).alloc (Nat.le_refl _) _)))) (fun hHeld => ?_)
        clear hK K
        try simp only [sP]
        obtain ⟨wB2, hwB2⟩ : ∃ y, y = wA1.alloc (.cells #[.string { data := #[] }, .bool false] 24) := ⟨_, rfl⟩
        obtain ⟨rZ, hrZ⟩ : ∃ y, y = wA1.heap.size := ⟨_, rfl⟩
        have HZ : Hid (Blk wB2 rZ 24 #[.string { data := #[] }, .bool false]) := hide (by rw [hwB2, hrZ]; exact Blk.new _ _ _)
        have hl_rZ : wA1.heap.size ≤ rZ := by omega
        have hsz_rZ := HR.out.size
        have hbel : Below wA1.heap.size wA1 wB2 := by rw [hwB2]; exact (Below.refl _ _).alloc (Nat.le_refl _) _
        replace HT := hide (HT.out.below hbel)
        replace HR := hide (HR.out.tr (keep_s' (s := s) hbel))
        rw [← hwB2] at hHeld ⊢
        rw [← hrZ]
        clear hwB2 hrZ hbel
        refine tkL 15 ?_ ?_ ?_
        rotate_left
        ·(rintro wS ⟨e0, e1, e2⟩; go_simp; try with_reducible rfl)
        try simp only [sP]
        refine tkC 16 (fun K hK => ?_)
        try rw [if_pos (by rfl)]
        have f9 := HZ.out.frozen
        have c90 := HZ.out.cell 0
        have c91 := HZ.out.cell 1
        go_simp
        try go_wp2_with fail
        have hU2 := (HZ.out.set_ 0 (S tn)).set_ 1 (.bool ta)
        have hks : Keep (fun k => k = rZ) wB2 ((wB2.setCell ⟨rZ, 0, none⟩ (S tn)).setCell ⟨rZ, 1, none⟩ (.bool ta)) := ((Keep.refl (fun k => k = rZ) wB2).setCell (p := ⟨rZ, 0, none⟩) (fun _ => rfl) _).setCell (p := ⟨rZ, 1, none⟩) (fun _ => rfl) _
        obtain ⟨wC, hwC⟩ : ∃ y, y = (wB2.setCell ⟨rZ, 0, none⟩ (S tn)).setCell ⟨rZ, 1, none⟩ (.bool ta) := ⟨_, rfl⟩
        rw [← hwC] at hU2 hks
        rw [show ((wB2.setCell ⟨rZ, 0, none⟩ (.string { data := tn.toArray })).setCell ⟨rZ, 1, none⟩ (.bool ta)) = wC from hwC.symm]
        clear hwC f9 c90 c91
        have HU9 := hide (show Blk wC rZ 24 #[S tn, .bool ta] by simpa using hU2)
        replace HT := hide (HT.out.keep hks (by omega) (by omega) (by omega))
        replace HR := hide (HR.out.trans' hks (fun k hk e => by omega))
        clear hks hU2 HZ
        refine hK.out _ _ (HS.out _ HR.out) (fun hHeld => ?_)
        clear hK K
        try simp only [sP]
        refine tkL 17 ?_ ?_ ?_
        rotate_left
        ·(rintro wS ⟨e0, e1, e2⟩; go_simp; try with_reducible rfl)
        try simp only [sP]
        refine wpAnyH_done (by kernel_rfl) ?_ _
        refine NoPanic.normal ?_
        go_wp2_with fail
        go_meet
        exact ⟨rZ, _, rfl, rfl, by omega, Nat.le_refl _, HU9, HT, HR⟩
       refine tkA _ (fun K hK => ?_) ?_
       ·try rw [if_pos (by rfl)]
        go_simp
        try go_wp2_with fail
        refine hK.out _ _ (HS.out _ (HR.out.tr (keep_s' (s := s) ((Below.refl _ _).alloc (Nat.le_refl _) _)))) (fun hHeld => ?_)
        clear hK K
        try simp only [sP]
        obtain ⟨wB1, hwB1⟩ : ∃ y, y = w9.alloc (.cells #[.string { data := #[] }, .bool false] 24) := ⟨_, rfl⟩
        obtain ⟨rZ, hrZ⟩ : ∃ y, y = w9.heap.size := ⟨_, rfl⟩
        have HZ : Hid (Blk wB1 rZ 24 #[.string { data := #[] }, .bool false]) := hide (by rw [hwB1, hrZ]; exact Blk.new _ _ _)
        have hl_rZ : w9.heap.size ≤ rZ := by omega
        have hsz_rZ := HR.out.size
        have hbel : Below w9.heap.size w9 wB1 := by rw [hwB1]; exact (Below.refl _ _).alloc (Nat.le_refl _) _
        replace HT := hide (HT.out.below hbel)
        replace HR := hide (HR.out.tr (keep_s' (s := s) hbel))
        rw [← hwB1] at hHeld ⊢
        rw [← hrZ]
        clear hwB1 hrZ hbel
        refine tkC 9 (fun K hK => ?_)
        try rw [if_pos (by rfl)]
        go_simp
        go_at_call 37
        refine (HFC.out _ _ HT.out (by omega) (HK18.out.tr HR.out)).mono ?_
        rintro e wA2 ⟨rfl, htA, hkA⟩
        replace HT := hide htA
        replace HZ := hide (HZ.out.keep hkA (by omega))
        replace HR := hide (HR.out.tr hkA)
        clear htA hkA
        try go_wp2_with fail
        refine hK.out _ _ (HS.out _ HR.out) (fun hHeld => ?_)
        clear hK K
        try simp only [sP]
        refine tkL 10 ?_ ?_ ?_
        rotate_left
        ·(rintro wS ⟨e0, e1, e2⟩; go_simp; try with_reducible rfl)
        try simp only [sP]
        refine tkL 11 ?_ ?_ ?_
        rotate_left
        ·(rintro wS ⟨e0, e1, e2⟩; go_simp; try with_reducible rfl)
        try simp only [sP]
        refine tkL 12 ?_ ?_ ?_
        rotate_left
        ·(rintro wS ⟨e0, e1, e2⟩; go_simp; try with_reducible rfl)
        try simp only [sP]
        refine tkL 13 ?_ ?_ ?_
        rotate_left
        ·(rintro wS ⟨e0, e1, e2⟩; go_simp; try with_reducible rfl)
        try simp only [sP]
        refine tkL 15 ?_ ?_ ?_
        rotate_left
        ·(rintro wS ⟨e0, e1, e2⟩; go_simp; try with_reducible rfl)
        try simp only [sP]
        refine tkC 16 (fun K hK => ?_)
        try rw [if_pos (by rfl)]
        have f9 := HZ.out.frozen
        have c90 := HZ.out.cell 0
        have c91 := HZ.out.cell 1
        go_simp
        try go_wp2_with fail
        have hU2 := (HZ.out.set_ 0 (S tn)).set_ 1 (.bool ta)
        have hks : Keep (fun k => k = rZ) wA2 ((wA2.setCell ⟨rZ, 0, none⟩ (S tn)).setCell ⟨rZ, 1, none⟩ (.bool ta)) := ((Keep.refl (fun k => k = rZ) wA2).setCell (p := ⟨rZ, 0, none⟩) (fun _ => rfl) _).setCell (p := ⟨rZ, 1, none⟩) (fun _ => rfl) _
        obtain ⟨wC, hwC⟩ : ∃ y, y = (wA2.setCell ⟨rZ, 0, none⟩ (S tn)).setCell ⟨rZ, 1, none⟩ (.bool ta) := ⟨_, rfl⟩
        rw [← hwC] at hU2 hks
        rw [show ((wA2.setCell ⟨rZ, 0, none⟩ (.string { data := tn.toArray })).setCell ⟨rZ, 1, none⟩ (.bool ta)) = wC from hwC.symm]
        clear hwC f9 c90 c91
        have HU9 := hide (show Blk wC rZ 24 #[S tn, .bool ta] by simpa using hU2)
        replace HT := hide (HT.out.keep hks (by omega) (by omega) (by omega))
        replace HR := hide (HR.out.trans' hks (fun k hk e => by omega))
        clear hks hU2 HZ
        refine hK.out _ _ (HS.out _ HR.out) (fun hHeld => ?_)
        clear hK K
        try simp only [sP]
        refine tkL 17 ?_ ?_ ?_
        rotate_left
        ·(rintro wS ⟨e0, e1, e2⟩; go_simp; try with_reducible rfl)
        try simp only [sP]
        refine wpAnyH_done (by kernel_rfl) ?_ _
        refine NoPanic.normal ?_
        go_wp2_with fail
        go_meet
        exact ⟨rZ, _, rfl, rfl, by omega, Nat.le_refl _, HU9, HT, HR⟩
       exact AllReadyH.nil
      case rest =>
       obtain ⟨r, n2, rfl, rfl, hr, hn2, HTY, HT2, HK2⟩ := hcut
       obtain ⟨wD, rfl⟩ : ∃ y : World, y = wc := ⟨_, rfl⟩
       have HFB2 := hide (HFB.out.keep HK2.out hb8s)
       have t0 : wD.cell? ⟨r, 0, none⟩ = some (S tn) := HTY.out.cell 0
       have t1 : wD.cell? ⟨r, 1, none⟩ = some (.bool ta) := HTY.out.cell 1
       have u1 : wD.cell? ⟨b8, 1, none⟩ = some (S dt) := HFB2.out.cell 1
       have u2 : wD.cell? ⟨b8, 2, none⟩ = some (.bool da) := HFB2.out.cell 2
       have HKD : Hid (Keep (fun b => b = s) w7 wD) := hide (HK78.out.tr HK2.out)
       clear HT HIM8 HFC
       cases Q
       case false =>
        have hRf := HNo.out rfl
        subst hRf
        go_wp2_with fail
        go_ret
        exact ⟨rfl, (HT2.out).mono (by omega), (Keep.of_below (F := fun b => b = s) HB1.out (fun k h1 h2 => by omega)).tr (HK7.out.tr HKD.out)⟩
       case true =>
        by_cases e : (⟨tn, ta⟩ : Ty) = ⟨dt, da⟩
        case pos =>
         have HY := hide (HYes.out (by simp [e]))
         injection e with e1 e2
         subst e1 e2
         clear HNo HYes
         go_wp2_with fail
         go_roundw
         case rel => exact ⟨i + 1, n2, by omega, by go_num, by omega, HT2, HKD, hide (HY.out)⟩
         case measure => simp [intOf]; omega
        case neg =>
         have hRf := HNo.out (by simp [e])
         subst hRf
         clear HNo HYes
         by_cases en : tn = dt
         case pos =>
          subst en
          cases ta <;> cases da
          ·exact absurd rfl e
          ·go_wp2_with fail
           go_ret
           exact ⟨rfl, (HT2.out).mono (by omega), (Keep.of_below (F := fun b => b = s) HB1.out (fun k h1 h2 => by omega)).tr (HK7.out.tr HKD.out)⟩
          ·go_wp2_with fail
           go_ret
           exact ⟨rfl, (HT2.out).mono (by omega), (Keep.of_below (F := fun b => b = s) HB1.out (fun k h1 h2 => by omega)).tr (HK7.out.tr HKD.out)⟩
          ·exact absurd rfl e
         case neg =>
          clear e
          cases ta <;> cases da
          ·go_wp2_with fail
           go_ret
           exact ⟨rfl, (HT2.out).mono (by omega), (Keep.of_below (F := fun b => b = s) HB1.out (fun k h1 h2 => by omega)).tr (HK7.out.tr HKD.out)⟩
          ·go_wp2_with fail
           go_ret
           exact ⟨rfl, (HT2.out).mono (by omega), (Keep.of_below (F := fun b => b = s) HB1.out (fun k h1 h2 => by omega)).tr (HK7.out.tr HKD.out)⟩
          ·go_wp2_with fail
           go_ret
           exact ⟨rfl, (HT2.out).mono (by omega), (Keep.of_below (F := fun b => b = s) HB1.out (fun k h1 h2 => by omega)).tr (HK7.out.tr HKD.out)⟩
          ·go_wp2_with fail
           go_ret
           exact ⟨rfl, (HT2.out).mono (by omega), (Keep.of_below (F := fun b => b = s) HB1.out (fun k h1 h2 => by omega)).tr (HK7.out.tr HKD.out)⟩
     case neg =>
      have hjb : i = f.dl := by omega
      have HFL : Hid (f.ppl.fds.all (fdIn T) = true) := hide (all_yes (fun k hk => HA.out k hk (by have : k < f.fds.length := hk; omega)))
      clear hjb
      obtain ⟨wo2, rfl⟩ : ∃ y : World, y = wr := ⟨_, rfl⟩
      have HKo2 : Hid (Keep (fun b => b = s) w1 wo2) := hide (HK7.out.tr HKR.out)
      obtain ⟨d4, HMR⟩ := HM4.out wo2 HKo2.out
      have HMRR := hide HMR
      clear HMR HM4 HA d3
      go_wp2_with fail
      have hn8b : nn ≤ n + 840 := by omega
      obtain ⟨n8, rfl⟩ : ∃ y, y = nn := ⟨_, rfl⟩
      have HT := HTR
      go_loopg [75] (f.ml) (fun gk i wr => ∃ j nn : Nat, j + gk = f.ml ∧ i = .int .i64 j ∧ nn ≤ n8 + 40 * j ∧ Hid (Tab wr g m s T nn) ∧ Hid (Keep (fun b => b = s) wo2 wr) ∧ Hid (∀ k (hk : k < f.mts.length), k < j → mtIn T f.mts[k].pl = true))
      case atStart => exact ⟨0, n8, by omega, rfl, by omega, HT, hide (Keep.refl _ _), hide (fun k _ h => absurd h (Nat.not_lt_zero _))⟩
      case round =>
       obtain ⟨i2, nn2, hi2, rfl, hnn2, HTR2, HKR2, HA2⟩ := hrel
       clear HT
       have hwrs2 := HKR2.out.size
       by_cases hlt2 : i2 < f.ml
       case pos =>
        obtain ⟨bb, o, rfl, hbs, hbl2, hcx⟩ := Rd.rec_ (f := Mt.cells) (fun _ => rfl) (HMRR.out.keep HKR2.out) hmL i2 hlt2
        have hi3 : i2 < f.mts.length := by omega
        have hxa := HP.out.mW _ (List.getElem_mem hi3)
        have HNo : Hid (mtIn T f.mts[i2].pl = false → R = false) := hide (fun e => by rw [HRR.out ()]; unfold poolP; rw [show f.ppl.mts.all (mtIn T) = false from all_no (List.mem_map_of_mem (List.getElem_mem hi3)) e]; simp)
        have HYes : Hid (mtIn T f.mts[i2].pl = true → ∀ k (hk : k < f.mts.length), k < i2 + 1 → mtIn T f.mts[k].pl = true) := hide (fun e k hk h9 => by by_cases ek : k = i2; subst ek; exact e; exact HA2.out k hk (by omega))
        generalize f.mts[i2] = x at hcx hxa HNo HYes
        have HXA := hide hxa
        have m0 : wr.cell? ⟨bb, o + i2 * 6, none⟩ = some (S x.m.n) := hcx 0 _ rfl
        have m1 : wr.cell? ⟨bb, o + i2 * 6 + 1, none⟩ = some (.bool x.m.st) := hcx 1 _ rfl
        have m2 : wr.cell? ⟨bb, o + i2 * 6 + 2, none⟩ = some (.slice x.m.A x.m.k x.m.c) := hcx 2 _ rfl
        have m3 : wr.cell? ⟨bb, o + i2 * 6 + 3, none⟩ = some (S x.m.r.n) := hcx 3 _ rfl
        have m4 : wr.cell? ⟨bb, o + i2 * 6 + 4, none⟩ = some (.bool x.m.r.a) := hcx 4 _ rfl
        have m5 : wr.cell? ⟨bb, o + i2 * 6 + 5, none⟩ = some (S x.c) := hcx 5 _ rfl
        have hfin : mtIn T x.pl = (findM T x.m (up T 20 [] x.c).1).isSome := by unfold mtIn findM; rw [fit_fitP]; rfl
        obtain ⟨M, hM⟩ : ∃ y, y = findM T x.m (up T 20 [] x.c).1 := ⟨_, rfl⟩
        obtain ⟨Q, hQ⟩ : ∃ y, y = M.isSome := ⟨_, rfl⟩
        rw [hfin, ← hM, ← hQ] at HNo HYes
        have HFD : Hid (∀ ww n9, Tab ww g m s T n9 → n9 ≤ 8000000000000000 → Keep (fun b => b = s) w1 ww → Calls Tryd.prog 39 #[.pointer (some ⟨gi, 0, none⟩), x.val] ww (fun e w' => e = .returned (.tuple #[S (M.getD []), .bool Q]) ∧ Tab w' g m s T (n9 + 40) ∧ Keep (fun b => b = s) ww w')) := hide (fun ww n9 ht hn hk => by rw [hQ, hM]; exact find_any gi g m s n9 B T x Fm Nm ww (HIM.out.keep hk hgs) ht hn hT HSS.out (HXA.out.below (HLW.out ww hk)) (fun f hf => (HAT.out f hf).below (HLW.out ww hk)) hBs (by have := hk.size; omega))
        clear hM hfin hQ hcx hxa
        go_upto_region 19 with fail
        obtain ⟨w8, hw8⟩ : ∃ y, y = wr.alloc (.cells #[S x.m.n, .bool x.m.st, .slice x.m.A x.m.k x.m.c, S x.m.r.n, .bool x.m.r.a, S x.c] 95) := ⟨_, rfl⟩
        obtain ⟨b8, hb8⟩ : ∃ y, y = wr.heap.size := ⟨_, rfl⟩
        have hbe : Below wr.heap.size wr w8 := by rw [hw8]; exact (Below.refl _ _).alloc (Nat.le_refl _) _
        have hxb : Blk w8 b8 95 #[S x.m.n, .bool x.m.st, .slice x.m.A x.m.k x.m.c, S x.m.r.n, .bool x.m.r.a, S x.c] := by rw [hw8, hb8]; exact Blk.new _ _ _
        have HT := hide (HTR2.out.below hbe)
        have HK8 : Hid (Keep (fun b => b = s) wo2 w8) := hide (HKR2.out.tr (keep_s' (s := s) hbe))
        have HK18 : Hid (Keep (fun b => b = s) w1 w8) := hide (HKo2.out.tr HK8.out)
        have t0 : w8.cell? ⟨b8, 0, none⟩ = some (S x.m.n) := hxb.cell 0
        have t1 : w8.cell? ⟨b8, 1, none⟩ = some (.bool x.m.st) := hxb.cell 1
        have t2 : w8.cell? ⟨b8, 2, none⟩ = some (.slice x.m.A x.m.k x.m.c) := hxb.cell 2
        have t3 : w8.cell? ⟨b8, 3, none⟩ = some (S x.m.r.n) := hxb.cell 3
        have t4 : w8.cell? ⟨b8, 4, none⟩ = some (.bool x.m.r.a) := hxb.cell 4
        have t5 : w8.cell? ⟨b8, 5, none⟩ = some (S x.c) := hxb.cell 5
        rw [show (wr.alloc (.cells #[.string { data := x.m.n.toArray }, .bool x.m.st, .slice x.m.A x.m.k x.m.c, .string { data := x.m.r.n.toArray }, .bool x.m.r.a, .string { data := x.c.toArray }] 95)) = w8 from hw8.symm]
        rw [← hb8]
        clear hw8 hb8 hbe m0 m1 m2 m3 m4 m5 hxb
        go_upto_region 20 with (go_at_call 39; refine (HFD.out _ _ HT.out (by omega) HK18.out).mono ?_; rintro e w9 ⟨rfl, ht9, hk9⟩; have HT9 := hide ht9; have HK9 := hide hk9; clear ht9 hk9)
        have HKE : Hid (Keep (fun b => b = s) wo2 w9) := hide (HK8.out.tr HK9.out)
        clear HFD HT
        cases Q
        case false =>
         have hRf := HNo.out rfl
         subst hRf
         go_wp2_with fail
         go_ret
         exact ⟨rfl, (HT9.out).mono (by omega), (Keep.of_below (F := fun b => b = s) HB1.out (fun k h1 h2 => by omega)).tr (HKo2.out.tr HKE.out)⟩
        case true =>
         have HY := hide (HYes.out rfl)
         go_wp2_with fail
         go_roundg (gk - 1)
         case measure => omega
         case rel => exact ⟨i2 + 1, _, by omega, by go_num, by omega, HT9, HKE, HY⟩
       case neg =>
        have hjc : i2 = f.ml := by omega
        have HML : Hid (f.ppl.mts.all (mtIn T) = true) := hide (by show (f.mts.map Mt.pl).all (mtIn T) = true; rw [List.all_map]; exact all_yes (fun k hk => HA2.out k hk (by omega)))
        have hRt : R = true := by rw [HRR.out ()]; unfold poolP; rw [HCL.out, HTL.out, HFL.out, HML.out]; rfl
        subst hRt
        go_wp2_with fail
        go_ret
        exact ⟨rfl, (HTR2.out).mono (by omega), (Keep.of_below (F := fun b => b = s) HB1.out (fun k h1 h2 => by omega)).tr (HKo2.out.tr HKR2.out)⟩
end Go.Proofs.YtmbegaobnpoefaaDoor
