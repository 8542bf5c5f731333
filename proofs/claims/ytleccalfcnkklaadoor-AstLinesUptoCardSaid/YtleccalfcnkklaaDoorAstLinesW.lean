/- AstLines returns true for whatever class of bounded bulk: the walk. -/
import Derived.Test.YtleccalfcnkklaaDoorBreaks
import Derived.Test.YtleccalfcnkklaaDoorAstAhead
namespace Go.Proofs.YtleccalfcnkklaaDoor
open Go.RowKit
set_option linter.unusedVariables false

theorem take_sum_le : ∀ (l : List Nat) (j : Nat), (l.take j).sum ≤ l.sum
  | [], j => by simp
  | a :: l, 0 => by simp
  | a :: l, j + 1 => by
    have := take_sum_le l j
    simp only [List.take_succ_cons, List.sum_cons]
    omega
theorem take_sum_step {l : List Nat} {j : Nat} (h : j < l.length) : (l.take (j + 1)).sum = (l.take j).sum + l[j] := by
  rw [List.take_succ_eq_append_getElem h, List.sum_append]
  simp
theorem take_flat_step {l : List (List UInt8)} {j : Nat} (h : j < l.length) : (l.take (j + 1)).flatten = (l.take j).flatten ++ l[j] := by
  rw [List.take_succ_eq_append_getElem h, List.flatten_append]
  simp only [List.flatten_cons, List.flatten_nil, List.append_nil]
theorem vnT_len (v : Vr) : (vnT v).length ≤ v.len := by simp only [vnT, Vr.len, List.length_append]; omega
theorem mnT_len (m : Me) : (mnT m).length ≤ m.len := by
  have := flat_bd (f := vnT) (g := Vr.len) (K := 1) (l := m.ps) (fun v _ => by have := vnT_len v; omega)
  simp only [mnT, Me.len, List.length_append]
  omega
theorem Kl.names_len (c : Kl) : (c.n ++ c.su ++ (c.fs.map vnT).flatten ++ (c.ms.map mnT).flatten).length ≤ c.len := by
  have h1 := flat_bd (f := vnT) (g := Vr.len) (K := 1) (l := c.fs) (fun v _ => by have := vnT_len v; omega)
  have h2 := flat_bd (f := mnT) (g := Me.len) (K := 1) (l := c.ms) (fun m _ => by have := mnT_len m; omega)
  simp only [Kl.len, List.length_append]
  omega

set_option maxRecDepth 100000 in
set_option maxHeartbeats 40000000 in
theorem lines_walk (c : Kl) (w : World) (hL : Laid w) (h0 : c.At w (fun _ => False)) (hb : c.len ≤ 104857600) : Calls Tryd.prog 8 #[c.val] w (Gives w (.bool true)) := by
  have h := h0.old
  have HFC : Hid (∀ w', Below w.heap.size w w' → Calls Tryd.prog 23 #[c.val] w' (Gives w' (.bool c.few))) := hide (fun w' hw => fewclass_any c w' (h.on hw))
  have HCT : Hid (c.few = true → ∀ w', Below w.heap.size w w' → Calls Tryd.prog 30 #[c.val] w' (Gives w' (S c.text))) := hide (fun hf w' hw => ctext_any c w' (hL.on hw) (h.on hw) hf hb)
  have HBD : Hid (c.few = true → c.text.length ≤ 4000000002) := hide (fun hf => by
    have := Kl.text_bd h hf hb
    rw [Kl.text_eq, List.length_append]
    simp only [List.length_cons, List.length_nil]
    omega)
  have HNL := hide (Kl.nl_text c)
  have HNB : Hid ((c.n ++ c.su ++ (c.fs.map vnT).flatten ++ (c.ms.map mnT).flatten).length ≤ 104857600) := hide (Nat.le_trans (Kl.names_len c) hb)
  have hnb : c.n.length ≤ 104857600 := by unfold Kl.len at hb; omega
  have hsb : c.su.length ≤ 104857600 := by unfold Kl.len at hb; omega
  have HAT := hide h
  have HMF : Hid (c.few = true → ∀ m ∈ c.ms, m.few = true) := hide (fun hf m hm => by
    simp only [Kl.few, Bool.and_eq_true, List.all_eq_true] at hf
    exact hf.2 m hm)
  have HST : Hid (∀ m ∈ c.ms, m.few = true → ∀ x ∈ m.bs, ∀ w', Below w.heap.size w w' → Calls Tryd.prog 27 #[x.val, .int .i64 3] w' (Gives w' (S (x.text 3)))) := hide (fun m hm hf x hx w' hw => by
    have h1 := (h.ma m hm).on hw
    have h5 : fewL 0 m.bs = true := by simp only [Me.few, Bool.and_eq_true] at hf; exact hf.2
    have h6 := fewL_fits h1.ba h5 (d := 3) (by omega)
    exact stext_any x 3 3 w' (by decide) (hL.on hw) (h1.ba x hx) (h6.1 x hx).1)
  have HSB : Hid (∀ m ∈ c.ms, m.few = true → ∀ x ∈ m.bs, (x.text 3).length ≤ 2000000000) := hide (fun m hm hf x hx => by
    have h5 : fewL 0 m.bs = true := by simp only [Me.few, Bool.and_eq_true] at hf; exact hf.2
    simp only [fewL, Bool.and_eq_true, decide_eq_true_eq, List.all_eq_true] at h5
    have h1 := St.text16 x 0 3 ((h.ma m hm).ba x hx) (h5.2 x hx) (by omega)
    have h2 := sum_mem (f := St.len) hx
    have h3 := sum_mem (f := Me.len) hm
    have h4 : (m.bs.map St.len).sum ≤ m.len := by unfold Me.len; omega
    unfold Kl.len at hb
    omega)
  have HH := hide (fun w => ahead_any w)
  clear h h0 hb hL
  obtain ⟨cln, cco, cn, csu, cfA, cfk, cfc, cfs, cmA, cmq, cmc, cms⟩ := c
  replace hnb : cn.length ≤ 104857600 := hnb
  replace hsb : csu.length ≤ 104857600 := hsb
  have HFL : Hid (cfs.length = cfk) := hide HAT.out.fl
  have HMQ : Hid (cms.length = cmq) := hide HAT.out.ml
  have hfk63 : cfk ≤ 9223372036854775807 := Nat.le_trans HAT.out.fm.1 HAT.out.fm.2
  have hmk63 : cmq ≤ 9223372036854775807 := Nat.le_trans HAT.out.mm.1 HAT.out.mm.2
  obtain ⟨VN, hVN⟩ : ∃ VN, VN = cfs.map vnT := ⟨_, rfl⟩
  obtain ⟨MN, hMN⟩ : ∃ MN, MN = cms.map mnT := ⟨_, rfl⟩
  obtain ⟨MW, hMW⟩ : ∃ MW, MW = cms.map mWant := ⟨_, rfl⟩
  obtain ⟨N0, hN0⟩ : ∃ N0, N0 = cn ++ csu := ⟨_, rfl⟩
  have HVN := hide (fun _ : Unit => hVN)
  have HMN := hide (fun _ : Unit => hMN)
  have HMW := hide (fun _ : Unit => hMW)
  have HN0 := hide hN0
  have HVNL : Hid (VN.length = cfk) := hide (by rw [hVN, List.length_map]; exact HFL.out)
  have HMNL : Hid (MN.length = cmq) := hide (by rw [hMN, List.length_map]; exact HMQ.out)
  have HMWL : Hid (MW.length = cmq) := hide (by rw [hMW, List.length_map]; exact HMQ.out)
  obtain ⟨FW, hFW⟩ : ∃ FW, FW = Kl.few ⟨cln, cco, cn, csu, cfA, cfk, cfc, cfs, cmA, cmq, cmc, cms⟩ := ⟨_, rfl⟩
  rw [← hFW] at HFC HCT HBD HMF
  obtain ⟨TX, hTX⟩ : ∃ TX, TX = Kl.text ⟨cln, cco, cn, csu, cfA, cfk, cfc, cfs, cmA, cmq, cmc, cms⟩ := ⟨_, rfl⟩
  rw [← hTX] at HCT HBD HNL
  replace HNB : Hid ((N0 ++ VN.flatten ++ MN.flatten).length ≤ 104857600) := hide (by rw [hVN, hMN, hN0]; exact HNB.out)
  replace HNL : Hid (nl TX = nl (N0 ++ VN.flatten ++ MN.flatten) + (2 + cfk + MW.sum)) := hide (by rw [hVN, hMN, hN0, hMW, ← HFL.out]; exact HNL.out)
  clear hVN hMN hMW hN0 hFW hTX
  replace HFC : Hid (∀ w', Below w.heap.size w w' → Calls Tryd.prog 23 #[.agg #[.int .i64 cln, .int .i64 cco, S cn, S csu, .slice cfA cfk cfc, .slice cmA cmq cmc]] w' (Gives w' (.bool FW))) := HFC
  replace HCT : Hid (FW = true → ∀ w', Below w.heap.size w w' → Calls Tryd.prog 30 #[.agg #[.int .i64 cln, .int .i64 cco, S cn, S csu, .slice cfA cfk cfc, .slice cmA cmq cmc]] w' (Gives w' (S TX))) := HCT
  show Calls Tryd.prog 8 #[.agg #[.int .i64 cln, .int .i64 cco, S cn, S csu, .slice cfA cfk cfc, .slice cmA cmq cmc]] w _
  go_enter Tryd.func8, Tryd.ntmps8
  go_upto_region 1 with fail
  refine name_world ?_
  intro wA hwA
  have HBA : Hid (Below w.heap.size w wA) := hide (by rw [hwA]; exact (Below.refl _ _).alloc (Nat.le_refl _) _)
  have HE : Hid (Blk wA w.heap.size 43 #[.int .i64 cln, .int .i64 cco, S cn, S csu, .slice cfA cfk cfc, .slice cmA cmq cmc]) := hide (by rw [hwA]; exact Blk.new _ _ _)
  clear hwA
  obtain ⟨g2, hg2⟩ : ∃ g, g = w.heap.size := ⟨_, rfl⟩
  rw [← hg2] at HE ⊢
  clear hg2
  go_upto_region 3 with (go_at_call 10; refine (HH.out _).mono ?_; rintro e w1 ⟨rfl, hb1⟩)
  have HB1 : Hid (Below w.heap.size w w1) := hide (HBA.out.trans (hb1.mono HBA.out.size))
  have HE1 := hide (HE.out.below hb1 HE.out.lt)
  clear hb1 HBA HE HH
  have q0 := HE1.out.cell 0
  have q1 := HE1.out.cell 1
  have q2 := HE1.out.cell 2
  have q3 := HE1.out.cell 3
  have q4 := HE1.out.cell 4
  have q5 := HE1.out.cell 5
  simp at q0 q1 q2 q3 q4 q5
  cases FW
  case false =>
    go_wp2_with (go_at_call 23; refine (HFC.out _ HB1.out).mono ?_; rintro e w2 ⟨rfl, hb2⟩)
    go_ret
    exact ⟨rfl, HB1.out.trans (hb2.mono HB1.out.size)⟩
  replace HCT := hide (HCT.out (by trivial))
  replace HMF := hide (HMF.out (by trivial))
  replace HBD := hide (HBD.out (by trivial))
  have HMS : Hid (2 + cfk + MW.sum ≤ 4000000002) := hide (by have h1 := HBD.out; have h2 := HNL.out; have h3 := nl_le TX; omega)
  have hmsb := HMS.out
  have hcf : cfk ≤ 4000000002 := by omega
  clear hmsb
  have HNF : Hid ((N0 ++ VN.flatten).length ≤ 104857600) := hide (by have := HNB.out; rw [List.length_append] at this; omega)
  go_upto_region 5 with (go_at_call 23; refine (HFC.out _ HB1.out).mono ?_; rintro e w2 ⟨rfl, hb2⟩)
  have HB2 : Hid (Below w.heap.size w w2) := hide (HB1.out.trans (hb2.mono HB1.out.size))
  have HE2 := hide (HE1.out.below hb2 HE1.out.lt)
  clear hb2 q0 q1 q2 q3 q4 q5 HB1 HE1 HFC
  have q0 := HE2.out.cell 0
  have q1 := HE2.out.cell 1
  have q2 := HE2.out.cell 2
  have q3 := HE2.out.cell 3
  have q4 := HE2.out.cell 4
  have q5 := HE2.out.cell 5
  simp at q0 q1 q2 q3 q4 q5
  go_wp2_with fail
  clear q0 q1 q2 q3 q4 q5
  go_loopw [4, 27] (fun v i wr => ∃ j : Nat, j ≤ cfk ∧ i = .int .i64 j ∧ v = S (N0 ++ (VN.take j).flatten) ∧ Hid (Below w2.heap.size w2 wr)) (fun _ i _ => cfk - (intOf i).toNat)
  case atStart => exact ⟨0, Nat.zero_le _, rfl, (by rw [HN0.out]; simp), hide (Below.refl _ _)⟩
  case round =>
  obtain ⟨j, hj, rfl, rfl, HBX⟩ := hrel
  have HBR := hide (HB2.out.trans (HBX.out.mono HB2.out.size))
  by_cases hlt : j < cfk
  case pos =>
    obtain ⟨b, o, hA, _, hbl, hcs⟩ := Rd.rec_ (f := Vr.cells) (size := 3) (fun _ => rfl) ((HAT.out.on HBR.out).fr) HFL.out j hlt
    have hlk : j < cfs.length := by have := HFL.out; omega
    have hlT : j < VN.length := by rw [HVNL.out]; exact hlt
    have HXE : Hid (VN[j] = vnT cfs[j]) := hide (by have := HVN.out (); subst this; simp)
    have hLX : (N0 ++ (VN.take j).flatten).length + (vnT cfs[j]).length ≤ 104857600 := by rw [← HXE.out]; exact part_bd HNF.out hlT
    have HNX : Hid (N0 ++ (VN.take (j + 1)).flatten = N0 ++ (VN.take j).flatten ++ vnT cfs[j]) := hide (by rw [← HXE.out, take_flat_step hlT, List.append_assoc])
    clear HXE hlT
    generalize cfs[j] = x at hcs hLX HNX
    obtain ⟨vn, ⟨vt, va⟩⟩ := x
    have q0 := hcs 0 (S vn) rfl
    have q1 := hcs 1 (S vt) rfl
    have q2 := hcs 2 (.bool va) rfl
    simp only [Nat.add_zero] at q0 q1 q2
    clear hcs
    replace HNX : Hid (N0 ++ (VN.take (j + 1)).flatten = N0 ++ (VN.take j).flatten ++ (vn ++ vt)) := HNX
    replace hLX : (N0 ++ (VN.take j).flatten).length + (vn ++ vt).length ≤ 104857600 := hLX
    rw [show (vn ++ vt).length = vn.length + vt.length from List.length_append] at hLX
    obtain ⟨L, hLe⟩ : ∃ L, L = N0 ++ (VN.take j).flatten := ⟨_, rfl⟩
    rw [← hLe] at HNX hLX ⊢
    clear hLe
    have hlL : L.length ≤ 104857600 := by omega
    have hlv : vn.length ≤ 104857600 := by omega
    have hlu : vt.length ≤ 104857600 := by omega
    replace hA : cfA = some ⟨b, o, none⟩ := hA
    rw [hA]
    have hjk : (j : Int) < (cfk : Int) := by omega
    go_upto_region 10 with fail
    refine name_world ?_
    intro wC hwC
    have hbc : Below wr.heap.size wr wC := by rw [hwC]; exact (Below.refl _ _).alloc (Nat.le_refl _) _
    have HV : Hid (Blk wC wr.heap.size 50 #[S vn, S vt, .bool va]) := hide (by rw [hwC]; exact Blk.new _ _ _)
    have HBC : Hid (Below w2.heap.size w2 wC) := hide (HBX.out.trans (hbc.mono HBX.out.size))
    clear hwC hbc HBR HBX q0 q1 q2
    generalize wr.heap.size = g1 at HV ⊢
    have q0 := HV.out.cell 0
    have q1 := HV.out.cell 1
    simp at q0 q1
    go_wp2_with fail
    clear q0 q1
    go_roundw
    case rel => first | exact ⟨j + 1, by omega, by go_num, (by rw [HNX.out] <;> simp), HBC⟩ | ((repeat apply Exists.intro); exact ⟨⟨j + 1, by omega, by go_num, (by rw [HNX.out] <;> simp), HBC⟩, rfl⟩)
    case measure => simp [intOf]; omega
  obtain rfl : j = cfk := by omega
  have hjk : ¬ (j : Int) < (j : Int) := by omega
  have HE5 : Hid (Blk wr g2 43 #[.int .i64 cln, .int .i64 cco, S cn, S csu, .slice cfA j cfc, .slice cmA cmq cmc]) := hide (HE2.out.below HBX.out HE2.out.lt)
  have c4 := HE5.out.cell 4
  have c5 := HE5.out.cell 5
  simp at c4 c5
  obtain ⟨PF, hPF⟩ : ∃ PF, PF = N0 ++ VN.flatten := ⟨_, rfl⟩
  have HPF := hide hPF
  have hpf : N0 ++ (VN.take j).flatten = PF := by rw [hPF, List.take_of_length_le (by rw [HVNL.out]; exact Nat.le_refl _)]
  rw [hpf]
  clear hPF hpf
  go_wp2_with fail
  clear c4 c5
  go_loopw [4, 7, 47] (fun v u i wr => ∃ j2 : Nat, j2 ≤ cmq ∧ i = .int .i64 j2 ∧ v = S (PF ++ (MN.take j2).flatten) ∧ u = .int .i64 ((2 + j + (MW.take j2).sum : Nat) : Int) ∧ Hid (Below w2.heap.size w2 wr)) (fun _ _ i _ => cmq - (intOf i).toNat)
  case atStart => exact ⟨0, Nat.zero_le _, rfl, (by simp), (by simp <;> go_num), HBX⟩
  case round =>
  clear HBR HE5 HBX
  obtain ⟨j2, hj2, rfl, rfl, rfl, HBX⟩ := hrel
  have HBR := hide (HB2.out.trans (HBX.out.mono HB2.out.size))
  by_cases hlt : j2 < cmq
  case pos =>
    obtain ⟨b, o, hA, _, hbl, hcs⟩ := Rd.rec_ (f := Me.cells) Me.cells_len ((HAT.out.on HBR.out).mr) HMQ.out j2 hlt
    have hlk : j2 < cms.length := by have := HMQ.out; omega
    have hlT : j2 < MN.length := by rw [HMNL.out]; exact hlt
    have hlW : j2 < MW.length := by rw [HMWL.out]; exact hlt
    have hmem := List.getElem_mem hlk
    have hmf := HMF.out _ hmem
    have hma := HAT.out.ma _ hmem
    have HTS : Hid (∀ x ∈ cms[j2].bs, ∀ w', Below w.heap.size w w' → Calls Tryd.prog 27 #[x.val, .int .i64 3] w' (Gives w' (S (x.text 3)))) := hide (HST.out _ hmem hmf)
    have HTB : Hid (∀ x ∈ cms[j2].bs, (x.text 3).length ≤ 2000000000) := hide (HSB.out _ hmem hmf)
    have HXE : Hid (MN[j2] = mnT cms[j2]) := hide (by have := HMN.out (); subst this; simp)
    have HWE : Hid (MW[j2] = mWant cms[j2]) := hide (by have := HMW.out (); subst this; simp)
    have HLX : Hid ((PF ++ (MN.take j2).flatten).length + (mnT cms[j2]).length ≤ 104857600) := hide (by rw [← HXE.out]; exact part_bd (by rw [HPF.out]; exact HNB.out) hlT)
    have HNX : Hid (PF ++ (MN.take (j2 + 1)).flatten = PF ++ (MN.take j2).flatten ++ mnT cms[j2]) := hide (by rw [← HXE.out, take_flat_step hlT, List.append_assoc])
    have HWX : Hid (2 + j + (MW.take (j2 + 1)).sum = 2 + j + (MW.take j2).sum + mWant cms[j2]) := hide (by rw [← HWE.out, take_sum_step hlW]; omega)
    have HWB : Hid (2 + j + (MW.take (j2 + 1)).sum ≤ 4000000002) := hide (by have h1 := take_sum_le MW (j2 + 1); have h2 := HMS.out; omega)
    clear HXE HWE hlT hlW hmem hmf
    generalize cms[j2] = x at hcs hma HTS HTB HLX HNX HWX
    obtain ⟨mln, mco, mn, mst, mpA, mpk, mpc, mps, mrn, mra, mbA, mbk, mbc, mbs⟩ := x
    replace HTS : Hid (∀ x ∈ mbs, ∀ w', Below w.heap.size w w' → Calls Tryd.prog 27 #[x.val, .int .i64 3] w' (Gives w' (S (x.text 3)))) := HTS
    replace HTB : Hid (∀ x ∈ mbs, (x.text 3).length ≤ 2000000000) := HTB
    obtain ⟨PN, hPN⟩ : ∃ PN, PN = mps.map vnT := ⟨_, rfl⟩
    obtain ⟨BN, hBN⟩ : ∃ BN, BN = mbs.map fun x => nl (x.text 3) := ⟨_, rfl⟩
    have HPN := hide (fun _ : Unit => hPN)
    have HBN := hide (fun _ : Unit => hBN)
    obtain ⟨L, hLe⟩ : ∃ L, L = PF ++ (MN.take j2).flatten := ⟨_, rfl⟩
    obtain ⟨U, hUe⟩ : ∃ U, U = 2 + j + (MW.take j2).sum := ⟨_, rfl⟩
    rw [← hLe] at HLX HNX ⊢
    rw [← hUe] at HWX ⊢
    replace HNX : Hid (PF ++ (MN.take (j2 + 1)).flatten = L ++ (mn ++ mrn ++ PN.flatten)) := hide (by rw [hPN]; exact HNX.out)
    replace HLX : Hid (L.length + (mn ++ mrn ++ PN.flatten).length ≤ 104857600) := hide (by rw [hPN]; exact HLX.out)
    replace HWX : Hid (2 + j + (MW.take (j2 + 1)).sum = U + (2 + BN.sum)) := hide (by rw [hBN]; exact HWX.out)
    have hLB : L.length ≤ 104857600 ∧ mn.length ≤ 104857600 ∧ mrn.length ≤ 104857600 := by have := HLX.out; simp only [List.length_append] at this; omega
    obtain ⟨hlL, hlm, hlr⟩ := hLB
    have HUB : Hid (U + (2 + BN.sum) ≤ 4000000002) := hide (by rw [← HWX.out]; exact HWB.out)
    have hub : U ≤ 4000000000 := by have := HUB.out; omega
    have HMA := hide hma
    have HPL : Hid (mps.length = mpk) := hide hma.pl
    have HBL : Hid (mbs.length = mbk) := hide hma.bl
    have HPNL : Hid (PN.length = mpk) := hide (by rw [hPN, List.length_map]; exact HPL.out)
    have HBNL : Hid (BN.length = mbk) := hide (by rw [hBN, List.length_map]; exact HBL.out)
    have hpk63 : mpk ≤ 9223372036854775807 := hma.pm
    have hbk63 : mbk ≤ 9223372036854775807 := hma.bm
    clear hma hPN hBN hLe hUe HWB
    have q0 := hcs 0 (.int .i64 mln) rfl
    have q1 := hcs 1 (.int .i64 mco) rfl
    have q2 := hcs 2 (S mn) rfl
    have q3 := hcs 3 (.bool mst) rfl
    have q4 := hcs 4 (.slice mpA mpk mpc) rfl
    have q5 := hcs 5 (S mrn) rfl
    have q6 := hcs 6 (.bool mra) rfl
    have q7 := hcs 7 (.slice mbA mbk mbc) rfl
    simp only [Nat.add_zero] at q0 q1 q2 q3 q4 q5 q6 q7
    clear hcs
    replace hA : cmA = some ⟨b, o, none⟩ := hA
    rw [hA]
    have hjk2 : (j2 : Int) < (cmq : Int) := by omega
    go_upto_region 16 with fail
    refine name_world ?_
    intro wC hwC
    have hbc : Below wr.heap.size wr wC := by rw [hwC]; exact (Below.refl _ _).alloc (Nat.le_refl _) _
    have HV : Hid (Blk wC wr.heap.size 48 #[.int .i64 mln, .int .i64 mco, S mn, .bool mst, .slice mpA mpk mpc, S mrn, .bool mra, .slice mbA mbk mbc]) := hide (by rw [hwC]; exact Blk.new _ _ _)
    have HBCW : Hid (Below w.heap.size w wC) := hide (HBR.out.trans (hbc.mono HBR.out.size))
    have HBC : Hid (Below w2.heap.size w2 wC) := hide (HBX.out.trans (hbc.mono HBX.out.size))
    clear hwC hbc HBR HBX q0 q1 q2 q3 q4 q5 q6 q7
    generalize wr.heap.size = g1 at HV ⊢
    have q2 := HV.out.cell 2
    have q4 := HV.out.cell 4
    have q5 := HV.out.cell 5
    simp at q2 q4 q5
    obtain ⟨W0, hW0⟩ : ∃ W0, W0 = L ++ mn ++ mrn := ⟨_, rfl⟩
    have HW0 := hide hW0
    have HWP : Hid ((W0 ++ PN.flatten).length ≤ 104857600) := hide (by rw [hW0]; have := HLX.out; simp only [List.length_append] at this ⊢; omega)
    clear hW0
    go_wp2_with fail
    clear q2 q4 q5
    go_loopw [4, 62] (fun v i wr => ∃ m : Nat, m ≤ mpk ∧ i = .int .i64 m ∧ v = S (W0 ++ (PN.take m).flatten) ∧ Hid (Below wC.heap.size wC wr)) (fun _ i _ => mpk - (intOf i).toNat)
    case atStart => exact ⟨0, Nat.zero_le _, rfl, (by rw [HW0.out]; simp), hide (Below.refl _ _)⟩
    case round =>
    obtain ⟨m, hm, rfl, rfl, HBI⟩ := hrel
    have HBIW : Hid (Below w.heap.size w wr) := hide (HBCW.out.trans (HBI.out.mono HBCW.out.size))
    by_cases hlm : m < mpk
    case pos =>
      obtain ⟨b', o', hA', _, hbl', hcs'⟩ := Rd.rec_ (f := Vr.cells) (size := 3) (fun _ => rfl) ((HMA.out.on HBIW.out).pr) HPL.out m hlm
      have hlk' : m < mps.length := by have := HPL.out; omega
      have hlT' : m < PN.length := by rw [HPNL.out]; exact hlm
      have HXE : Hid (PN[m] = vnT mps[m]) := hide (by have := HPN.out (); subst this; simp)
      have hLX : (W0 ++ (PN.take m).flatten).length + (vnT mps[m]).length ≤ 104857600 := by rw [← HXE.out]; exact part_bd HWP.out hlT'
      have HN2 : Hid (W0 ++ (PN.take (m + 1)).flatten = W0 ++ (PN.take m).flatten ++ vnT mps[m]) := hide (by rw [← HXE.out, take_flat_step hlT', List.append_assoc])
      clear HXE hlT'
      generalize mps[m] = x at hcs' hLX HN2
      obtain ⟨vn, ⟨vt, va⟩⟩ := x
      have q0 := hcs' 0 (S vn) rfl
      have q1 := hcs' 1 (S vt) rfl
      have q2 := hcs' 2 (.bool va) rfl
      simp only [Nat.add_zero] at q0 q1 q2
      clear hcs'
      replace HN2 : Hid (W0 ++ (PN.take (m + 1)).flatten = W0 ++ (PN.take m).flatten ++ (vn ++ vt)) := HN2
      replace hLX : (W0 ++ (PN.take m).flatten).length + (vn ++ vt).length ≤ 104857600 := hLX
      rw [show (vn ++ vt).length = vn.length + vt.length from List.length_append] at hLX
      obtain ⟨L2, hL2e⟩ : ∃ L2, L2 = W0 ++ (PN.take m).flatten := ⟨_, rfl⟩
      rw [← hL2e] at HN2 hLX ⊢
      clear hL2e
      have hlL2 : L2.length ≤ 104857600 := by omega
      have hlv : vn.length ≤ 104857600 := by omega
      have hlu : vt.length ≤ 104857600 := by omega
      replace hA' : mpA = some ⟨b', o', none⟩ := hA'
      rw [hA']
      have hmk : (m : Int) < (mpk : Int) := by omega
      go_upto_region 20 with fail
      refine name_world ?_
      intro wD hwD
      have hbd : Below wr.heap.size wr wD := by rw [hwD]; exact (Below.refl _ _).alloc (Nat.le_refl _) _
      have HVD : Hid (Blk wD wr.heap.size 50 #[S vn, S vt, .bool va]) := hide (by rw [hwD]; exact Blk.new _ _ _)
      have HBD2 : Hid (Below wC.heap.size wC wD) := hide (HBI.out.trans (hbd.mono HBI.out.size))
      clear hwD hbd HBI q0 q1 q2 HBIW
      generalize wr.heap.size = g5 at HVD ⊢
      have q0 := HVD.out.cell 0
      have q1 := HVD.out.cell 1
      simp at q0 q1
      go_wp2_with fail
      clear q0 q1
      go_roundw
      case rel => first | exact ⟨m + 1, by omega, by go_num, (by rw [HN2.out] <;> simp), HBD2⟩ | ((repeat apply Exists.intro); exact ⟨⟨m + 1, by omega, by go_num, (by rw [HN2.out] <;> simp), HBD2⟩, rfl⟩)
      case measure => simp [intOf]; omega
    obtain rfl : m = mpk := by omega
    have hmk : ¬ (m : Int) < (m : Int) := by omega
    have hpe : W0 ++ (PN.take m).flatten = W0 ++ PN.flatten := by rw [List.take_of_length_le (by rw [HPNL.out]; exact Nat.le_refl _)]
    rw [hpe]
    obtain ⟨W1, hW1⟩ : ∃ W1, W1 = W0 ++ PN.flatten := ⟨_, rfl⟩
    rw [← hW1]
    replace HNX : Hid (PF ++ (MN.take (j2 + 1)).flatten = W1) := hide (by rw [HNX.out, hW1, HW0.out]; simp)
    clear hW1 hpe
    have HVE := hide (HV.out.below HBI.out HV.out.lt)
    have q7 := HVE.out.cell 7
    simp at q7
    go_wp2_with fail
    clear q7
    go_loopw [7, 80] (fun u i wr => ∃ n : Nat, n ≤ mbk ∧ i = .int .i64 n ∧ u = .int .i64 ((U + 2 + (BN.take n).sum : Nat) : Int) ∧ Hid (Below wC.heap.size wC wr)) (fun _ i _ => mbk - (intOf i).toNat)
    case atStart => exact ⟨0, Nat.zero_le _, rfl, (by simp <;> go_num), HBI⟩
    case round =>
    clear HBIW HVE HBI
    obtain ⟨n, hn, rfl, rfl, HBI⟩ := hrel
    have HBIW : Hid (Below w.heap.size w wr) := hide (HBCW.out.trans (HBI.out.mono HBCW.out.size))
    by_cases hln : n < mbk
    case pos =>
      obtain ⟨b', o', hA', _, hbl', hcs'⟩ := Rd.rec_ (f := St.cells) St.cells_len ((HMA.out.on HBIW.out).br) HBL.out n hln
      have hlk' : n < mbs.length := by have := HBL.out; omega
      have hlT' : n < BN.length := by rw [HBNL.out]; exact hln
      have hmem := List.getElem_mem hlk'
      have HTX := hide (HTS.out _ hmem)
      have hTXB := HTB.out _ hmem
      have HXE : Hid (BN[n] = nl (mbs[n].text 3)) := hide (by have := HBN.out (); subst this; simp)
      have HWN : Hid (U + 2 + (BN.take (n + 1)).sum = U + 2 + (BN.take n).sum + nl (mbs[n].text 3)) := hide (by rw [← HXE.out, take_sum_step hlT']; omega)
      have hvb : U + 2 + (BN.take (n + 1)).sum ≤ 4000000002 := by have h1 := take_sum_le BN (n + 1); have h2 := HUB.out; omega
      rw [HWN.out] at hvb
      clear HXE hlT' hmem
      generalize mbs[n] = x at hcs' HTX hTXB HWN hvb
      have HK := hide (fun w' => breaks_any (x.text 3) (by omega) w')
      generalize x.text 3 = XT at HTX hTXB HWN hvb HK
      generalize nl XT = NB at HWN hvb HK
      obtain ⟨V, hVe⟩ : ∃ V, V = U + 2 + (BN.take n).sum := ⟨_, rfl⟩
      rw [← hVe] at HWN hvb ⊢
      clear hVe
      obtain ⟨yd, yln, yco, yn, yt, ya, yE, yek, yec, yes, yT, ytk, ytc, yts, yL, ylk, ylc, yls⟩ := x
      replace HTX : Hid (∀ w', Below w.heap.size w w' → Calls Tryd.prog 27 #[.agg #[.int .i64 yd, .int .i64 yln, .int .i64 yco, S yn, S yt, .bool ya, .slice yE yek yec, .slice yT ytk ytc, .slice yL ylk ylc], .int .i64 3] w' (Gives w' (S XT))) := HTX
      have hnk : (n : Int) < (mbk : Int) := by omega
      have q0 := hcs' 0 (.int .i64 yd) rfl
      have q1 := hcs' 1 (.int .i64 yln) rfl
      have q2 := hcs' 2 (.int .i64 yco) rfl
      have q3 := hcs' 3 (S yn) rfl
      have q4 := hcs' 4 (S yt) rfl
      have q5 := hcs' 5 (.bool ya) rfl
      have q6 := hcs' 6 (.slice yE yek yec) rfl
      have q7 := hcs' 7 (.slice yT ytk ytc) rfl
      have q8 := hcs' 8 (.slice yL ylk ylc) rfl
      simp only [Nat.add_zero] at q0 q1 q2 q3 q4 q5 q6 q7 q8
      clear hcs'
      replace hA' : mbA = some ⟨b', o', none⟩ := hA'
      rw [hA']
      go_upto_region 26 with fail
      refine name_world ?_
      intro wD hwD
      have hbd : Below wr.heap.size wr wD := by rw [hwD]; exact (Below.refl _ _).alloc (Nat.le_refl _) _
      have HVD : Hid (Blk wD wr.heap.size 53 #[.int .i64 yd, .int .i64 yln, .int .i64 yco, S yn, S yt, .bool ya, .slice yE yek yec, .slice yT ytk ytc, .slice yL ylk ylc]) := hide (by rw [hwD]; exact Blk.new _ _ _)
      have HBD2 : Hid (Below wC.heap.size wC wD) := hide (HBI.out.trans (hbd.mono HBI.out.size))
      have HBDW : Hid (Below w.heap.size w wD) := hide (HBIW.out.trans (hbd.mono HBIW.out.size))
      clear hwD hbd HBI q0 q1 q2 q3 q4 q5 q6 q7 q8 HBIW
      generalize wr.heap.size = g5 at HVD ⊢
      have q0 := HVD.out.cell 0
      have q1 := HVD.out.cell 1
      have q2 := HVD.out.cell 2
      have q3 := HVD.out.cell 3
      have q4 := HVD.out.cell 4
      have q5 := HVD.out.cell 5
      have q6 := HVD.out.cell 6
      have q7 := HVD.out.cell 7
      have q8 := HVD.out.cell 8
      simp at q0 q1 q2 q3 q4 q5 q6 q7 q8
      go_wp2_with fail
      refine (HTX.out wD HBDW.out).mono ?_
      rintro e w5 ⟨rfl, hb5⟩
      clear q0 q1 q2 q3 q4 q5 q6 q7 q8
      go_wp2_with fail
      refine (HK.out w5).mono ?_
      rintro e w6 ⟨rfl, hb6⟩
      have HBN2 : Hid (Below wC.heap.size wC w6) := hide (HBD2.out.trans ((hb5.trans (hb6.mono hb5.size)).mono HBD2.out.size))
      clear hb5 hb6
      go_wp2_with fail
      go_roundw
      case rel => first | exact ⟨n + 1, by omega, by go_num, (by rw [HWN.out] <;> go_num), HBN2⟩ | ((repeat apply Exists.intro); exact ⟨⟨n + 1, by omega, by go_num, (by rw [HWN.out] <;> go_num), HBN2⟩, rfl⟩)
      case measure => simp [intOf]; omega
    obtain rfl : n = mbk := by omega
    have hnk : ¬ (n : Int) < (n : Int) := by omega
    have hbe : (BN.take n).sum = BN.sum := by rw [List.take_of_length_le (by rw [HBNL.out]; exact Nat.le_refl _)]
    rw [hbe]
    replace HWX : Hid (2 + j + (MW.take (j2 + 1)).sum = U + 2 + BN.sum) := hide (by rw [HWX.out]; omega)
    have HBN2 : Hid (Below w2.heap.size w2 wr) := hide (HBC.out.trans (HBI.out.mono HBC.out.size))
    obtain ⟨V, hVe⟩ : ∃ V, V = U + 2 + BN.sum := ⟨_, rfl⟩
    rw [← hVe] at HWX ⊢
    clear hVe hbe
    go_wp2_with fail
    go_roundw
    case rel => first | exact ⟨j2 + 1, by omega, by go_num, (by rw [HNX.out]), (by rw [HWX.out]), HBN2⟩ | ((repeat apply Exists.intro); exact ⟨⟨j2 + 1, by omega, by go_num, (by rw [HNX.out]), (by rw [HWX.out]), HBN2⟩, rfl⟩)
    case measure => simp [intOf]; omega
  obtain rfl : j2 = cmq := by omega
  have hjk2 : ¬ (j2 : Int) < (j2 : Int) := by omega
  have HE7 : Hid (Blk wr g2 43 #[.int .i64 cln, .int .i64 cco, S cn, S csu, .slice cfA j cfc, .slice cmA j2 cmc]) := hide (HE2.out.below HBX.out HE2.out.lt)
  have hpf : PF ++ (MN.take j2).flatten = N0 ++ VN.flatten ++ MN.flatten := by rw [HPF.out, List.take_of_length_le (by rw [HMNL.out]; exact Nat.le_refl _)]
  have hws : (MW.take j2).sum = MW.sum := by rw [List.take_of_length_le (by rw [HMWL.out]; exact Nat.le_refl _)]
  rw [hpf, hws]
  have hnn := nl_le (N0 ++ VN.flatten ++ MN.flatten)
  have hnt := nl_le TX
  have HB7 := HNB.out
  obtain ⟨NT, hNT⟩ : ∃ NT, NT = N0 ++ VN.flatten ++ MN.flatten := ⟨_, rfl⟩
  obtain ⟨V, hVe⟩ : ∃ V, V = 2 + j + MW.sum := ⟨_, rfl⟩
  rw [← hNT] at HNL hnn HB7 ⊢
  rw [← hVe] at HNL ⊢
  clear hNT hVe hpf hws
  have HK1 := hide (breaks_any NT (by omega) wr)
  have HK2 := hide (fun w' => breaks_any TX (by have := HBD.out; omega) w')
  have hq := HNL.out
  have hqb := HBD.out
  generalize nl NT = A1 at HK1 hq hnn
  generalize nl TX = A2 at HK2 hq hnt
  have hA1 : A1 ≤ 104857600 := by omega
  have hA2 : A2 ≤ 4000000002 := by omega
  clear HNL hnn hnt HB7 hqb
  have HC2 := hide (fun w' (hw : Below wr.heap.size wr w') => HCT.out w' (HBR.out.trans (hw.mono HBR.out.size)))
  by_cases hpos : 0 < A1
  case pos =>
    have hpi : (0 : Int) < (A1 : Int) := by omega
    go_wp2_with fail
    refine HK1.out.mono ?_
    rintro e w7 ⟨rfl, hb7⟩
    go_wp2_with fail
    go_ret
    exact ⟨rfl, HBR.out.trans (hb7.mono HBR.out.size)⟩
  have hpi : ¬ (0 : Int) < (A1 : Int) := by omega
  have hAV : A2 = V := by omega
  clear hq
  subst hAV
  go_wp2_with fail
  refine HK1.out.mono ?_
  rintro e w7 ⟨rfl, hb7⟩
  have HE8 := hide (HE7.out.below hb7 HE7.out.lt)
  have HC3 := hide (HC2.out w7 hb7)
  have q0 := HE8.out.cell 0
  have q1 := HE8.out.cell 1
  have q2 := HE8.out.cell 2
  have q3 := HE8.out.cell 3
  have q4 := HE8.out.cell 4
  have q5 := HE8.out.cell 5
  simp at q0 q1 q2 q3 q4 q5
  go_wp2_with fail
  refine HC3.out.mono ?_
  rintro e w8 ⟨rfl, hb8⟩
  have HK3 := hide (HK2.out w8)
  go_wp2_with fail
  refine HK3.out.mono ?_
  rintro e w9 ⟨rfl, hb9⟩
  go_wp2_with fail
  go_ret
  have h8 := hb7.trans (hb8.mono hb7.size)
  have h9 := h8.trans (hb9.mono h8.size)
  exact ⟨rfl, HBR.out.trans (h9.mono HBR.out.size)⟩
end Go.Proofs.YtleccalfcnkklaaDoor
