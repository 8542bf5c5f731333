/- AstClasses returns true for whatever class of bounded bulk: the walk. -/
import Derived.Test.YtleccalfcnkklaaDoorKlText
import Derived.Test.YtleccalfcnkklaaDoorKlSame
import Derived.Test.YtleccalfcnkklaaDoorLines
import Derived.Test.YtleccalfcnkklaaDoorAstAhead
namespace Go.Proofs.YtleccalfcnkklaaDoor
open Go.RowKit
set_option linter.unusedVariables false

set_option maxRecDepth 100000 in
theorem tcl_any (tn : List UInt8) (ta : Bool) (hn : tn.length ≤ 140737488351232) (w : World) : Calls Tryd.prog 31 #[.agg #[S tn, .bool ta]] w (Gives w (S (tyT tn ta))) := by
  have hb : ∀ o, Below w.heap.size w (w.alloc o) := fun o => (Below.refl _ _).alloc (Nat.le_refl _) o
  cases ta
  all_goals
    go_enter Tryd.func31, Tryd.ntmps31
    go_wp2_with fail
    go_ret
    exact ⟨by simp [go_sem, tyT], hb _⟩
theorem join_first0 {ts : List (List UInt8)} (hj : 0 < ts.length) : joinC (ts.take 1) = ts[0] := by
  cases ts with
  | nil => simp at hj
  | cons a l => simp [joinC, Lib.join, List.intercalate]

set_option maxRecDepth 100000 in
set_option maxHeartbeats 40000000 in
theorem classes_walk (c : Kl) (w : World) (hL : Laid w) (h0 : c.At w (fun _ => False)) (hb : c.len ≤ 104857600) : Calls Tryd.prog 9 #[c.val] w (Gives w (.bool true)) := by
  have h := h0.old
  have HFC : Hid (∀ w', Below w.heap.size w w' → Calls Tryd.prog 23 #[c.val] w' (Gives w' (.bool c.few))) := hide (fun w' hw => fewclass_any c w' (h.on hw))
  have HCT : Hid (c.few = true → ∀ w', Below w.heap.size w w' → Calls Tryd.prog 30 #[c.val] w' (Gives w' (S c.text))) := hide (fun hf w' hw => ctext_any c w' (hL.on hw) (h.on hw) hf hb)
  have HCS : Hid (∀ w', Below w.heap.size w w' → Calls Tryd.prog 24 #[c.val, c.val] w' (Gives w' (.bool true))) := hide (fun w' hw => cself_any c w' (h.on hw))
  have HBD : Hid (c.few = true → (c.pre ++ (c.fs.map fieldT).flatten ++ (c.ms.map Me.textT).flatten).length ≤ 4000000000) := hide (fun hf => Kl.text_bd h hf hb)
  have HTX := hide (Kl.text_eq c)
  have hnb : c.n.length ≤ 104857600 := by unfold Kl.len at hb; omega
  have hsb : c.su.length ≤ 104857600 := by unfold Kl.len at hb; omega
  have HFV : Hid (∀ v ∈ c.fs, v.len ≤ 104857600) := hide (fun v hv => by
    have := sum_mem (f := Vr.len) hv
    unfold Kl.len at hb
    omega)
  have HFK : Hid (c.few = true → c.fk ≤ 10 ∧ c.mq ≤ 10) := hide (fun hf => by
    simp only [Kl.few, Bool.and_eq_true, decide_eq_true_eq] at hf
    exact ⟨hf.1.1.1, hf.1.1.2⟩)
  have HAT := hide h
  have HML : Hid (∀ m ∈ c.ms, m.len ≤ 104857600) := hide (fun m hm => by
    have h1 := sum_mem (f := Me.len) hm
    unfold Kl.len at hb
    omega)
  have HMF : Hid (c.few = true → ∀ m ∈ c.ms, m.few = true) := hide (fun hf m hm => by
    simp only [Kl.few, Bool.and_eq_true, List.all_eq_true] at hf
    exact hf.2 m hm)
  have HLN : Hid (∀ m ∈ c.ms, m.few = true → ∀ w', Below w.heap.size w w' → Calls Tryd.prog 28 #[.slice m.bA m.bk m.bc, S [9, 9]] w' (Gives w' (S (linesT 2 m.bs)))) := hide (fun m hm hf w' hw => by
    have h1 := (h.ma m hm).on hw
    have h5 : fewL 0 m.bs = true := by simp only [Me.few, Bool.and_eq_true] at hf; exact hf.2
    have h6 := fewL_fits h1.ba h5 (d := 2) (by omega)
    have h7 := bodyT_len (d := 2) h1.ba h5 (by omega)
    have h8 : (m.bs.map St.len).sum ≤ 104857600 := by have := HML.out m hm; unfold Me.len at this; omega
    exact lines_all m.bA m.bk m.bc m.bs 2 w' (hL.on hw) h1.br h1.bl h1.bm (by omega) h1.ba (fun x hx => (h6.1 x hx).1) (by unfold linesL at h7; unfold linesT; omega))
  have HLB : Hid (∀ m ∈ c.ms, m.few = true → (linesT 2 m.bs).length ≤ 2000000000) := hide (fun m hm hf => by
    have h5 : fewL 0 m.bs = true := by simp only [Me.few, Bool.and_eq_true] at hf; exact hf.2
    have h7 := bodyT_len (d := 2) (h.ma m hm).ba h5 (by omega)
    have h8 : (m.bs.map St.len).sum ≤ 104857600 := by have := HML.out m hm; unfold Me.len at this; omega
    unfold linesL at h7; unfold linesT; omega)
  have HH := hide (fun w => ahead_any w)
  clear h h0 hb hL
  obtain ⟨cln, cco, cn, csu, cfA, cfk, cfc, cfs, cmA, cmq, cmc, cms⟩ := c
  replace hnb : cn.length ≤ 104857600 := hnb
  replace hsb : csu.length ≤ 104857600 := hsb
  have HFL : Hid (cfs.length = cfk) := hide HAT.out.fl
  have HMQ : Hid (cms.length = cmq) := hide HAT.out.ml
  have hfk63 : cfk ≤ 9223372036854775807 := Nat.le_trans HAT.out.fm.1 HAT.out.fm.2
  have hmk63 : cmq ≤ 9223372036854775807 := Nat.le_trans HAT.out.mm.1 HAT.out.mm.2
  obtain ⟨TF, hTF⟩ : ∃ TF, TF = cfs.map fieldT := ⟨_, rfl⟩
  obtain ⟨TM, hTM⟩ : ∃ TM, TM = cms.map Me.textT := ⟨_, rfl⟩
  obtain ⟨PR, hPR⟩ : ∃ PR, PR = Kl.pre ⟨cln, cco, cn, csu, cfA, cfk, cfc, cfs, cmA, cmq, cmc, cms⟩ := ⟨_, rfl⟩
  have HTF := hide (fun _ : Unit => hTF)
  have HTM := hide (fun _ : Unit => hTM)
  have HPR : Hid (PR = [99, 108, 97, 115, 115, 32] ++ cn ++ (if csu = [] then [] else [32, 101, 120, 116, 101, 110, 100, 115, 32] ++ csu) ++ [32, 123, 10]) := hide hPR
  obtain ⟨FW, hFW⟩ : ∃ FW, FW = Kl.few ⟨cln, cco, cn, csu, cfA, cfk, cfc, cfs, cmA, cmq, cmc, cms⟩ := ⟨_, rfl⟩
  rw [← hFW] at HFC HCT HBD HFK HMF
  replace HBD : Hid (FW = true → (PR ++ TF.flatten ++ TM.flatten).length ≤ 4000000000) := hide (by rw [hTF, hTM, hPR]; exact HBD.out)
  obtain ⟨TX, hTX⟩ : ∃ TX, TX = Kl.text ⟨cln, cco, cn, csu, cfA, cfk, cfc, cfs, cmA, cmq, cmc, cms⟩ := ⟨_, rfl⟩
  rw [← hTX] at HCT HTX
  replace HTX : Hid (TX = PR ++ TF.flatten ++ TM.flatten ++ [125, 10]) := hide (by rw [hTF, hTM, hPR]; exact HTX.out)
  have HTFL : Hid (TF.length = cfk) := hide (by rw [hTF, List.length_map]; exact HFL.out)
  have HTML : Hid (TM.length = cmq) := hide (by rw [hTM, List.length_map]; exact HMQ.out)
  clear hTF hTM hPR hFW hTX
  replace HFC : Hid (∀ w', Below w.heap.size w w' → Calls Tryd.prog 23 #[.agg #[.int .i64 cln, .int .i64 cco, S cn, S csu, .slice cfA cfk cfc, .slice cmA cmq cmc]] w' (Gives w' (.bool FW))) := HFC
  replace HCT : Hid (FW = true → ∀ w', Below w.heap.size w w' → Calls Tryd.prog 30 #[.agg #[.int .i64 cln, .int .i64 cco, S cn, S csu, .slice cfA cfk cfc, .slice cmA cmq cmc]] w' (Gives w' (S TX))) := HCT
  replace HCS : Hid (∀ w', Below w.heap.size w w' → Calls Tryd.prog 24 #[.agg #[.int .i64 cln, .int .i64 cco, S cn, S csu, .slice cfA cfk cfc, .slice cmA cmq cmc], .agg #[.int .i64 cln, .int .i64 cco, S cn, S csu, .slice cfA cfk cfc, .slice cmA cmq cmc]] w' (Gives w' (.bool true))) := HCS
  show Calls Tryd.prog 9 #[.agg #[.int .i64 cln, .int .i64 cco, S cn, S csu, .slice cfA cfk cfc, .slice cmA cmq cmc]] w _
  go_enter Tryd.func9, Tryd.ntmps9
  go_upto_region 1 with fail
  refine name_world ?_
  intro wA hwA
  have HBA : Hid (Below w.heap.size w wA) := hide (by rw [hwA]; exact (Below.refl _ _).alloc (Nat.le_refl _) _)
  have HE : Hid (Blk wA w.heap.size 43 #[.int .i64 cln, .int .i64 cco, S cn, S csu, .slice cfA cfk cfc, .slice cmA cmq cmc]) := hide (by rw [hwA]; exact Blk.new _ _ _)
  clear hwA
  obtain ⟨g2, hg2⟩ : ∃ g, g = w.heap.size := ⟨_, rfl⟩
  rw [← hg2] at HE ⊢
  clear hg2
  go_upto_region 3 with (go_at_call 10; refine (HH.out _).mono ?_; rintro e w1 ⟨rfl, hb1⟩)
  have HB1 : Hid (Below w.heap.size w w1) := hide (HBA.out.trans (hb1.mono HBA.out.size))
  have HE1 := hide (HE.out.below hb1 HE.out.lt)
  clear hb1 HBA HE HH
  have q0 := HE1.out.cell 0
  have q1 := HE1.out.cell 1
  have q2 := HE1.out.cell 2
  have q3 := HE1.out.cell 3
  have q4 := HE1.out.cell 4
  have q5 := HE1.out.cell 5
  simp at q0 q1 q2 q3 q4 q5
  cases FW
  case false =>
    go_wp2_with (go_at_call 23; refine (HFC.out _ HB1.out).mono ?_; rintro e w2 ⟨rfl, hb2⟩)
    go_ret
    exact ⟨rfl, HB1.out.trans (hb2.mono HB1.out.size)⟩
  replace HCT := hide (HCT.out (by trivial))
  replace HMF := hide (HMF.out (by trivial))
  replace HBD : Hid ((PR ++ TF.flatten ++ TM.flatten).length ≤ 4000000000) := hide (HBD.out (by trivial))
  have HBF : Hid ((PR ++ TF.flatten).length ≤ 4000000000) := hide (by have := HBD.out; rw [List.length_append] at this; omega)
  go_upto_region 5 with (go_at_call 23; refine (HFC.out _ HB1.out).mono ?_; rintro e w2 ⟨rfl, hb2⟩)
  have HB2 : Hid (Below w.heap.size w w2) := hide (HB1.out.trans (hb2.mono HB1.out.size))
  have HE2 := hide (HE1.out.below hb2 HE1.out.lt)
  clear hb2 q0 q1 q2 q3 q4 q5 HB1 HE1 HFC
  have q0 := HE2.out.cell 0
  have q1 := HE2.out.cell 1
  have q2 := HE2.out.cell 2
  have q3 := HE2.out.cell 3
  have q4 := HE2.out.cell 4
  have q5 := HE2.out.cell 5
  simp at q0 q1 q2 q3 q4 q5
  by_cases hsu : csu = []
  case pos =>
    subst hsu
    go_wp2_with fail
    clear q0 q1 q2 q3 q4 q5
    go_loopw [4, 32] (fun v i wr => ∃ j : Nat, j ≤ cfk ∧ i = .int .i64 j ∧ v = S (PR ++ (TF.take j).flatten) ∧ Hid (Below w2.heap.size w2 wr)) (fun _ i _ => cfk - (intOf i).toNat)
    case atStart => exact ⟨0, Nat.zero_le _, rfl, (by rw [HPR.out]; simp), hide (Below.refl _ _)⟩
    case round =>
    obtain ⟨j, hj, rfl, rfl, HBX⟩ := hrel
    have HBR := hide (HB2.out.trans (HBX.out.mono HB2.out.size))
    by_cases hlt : j < cfk
    case pos =>
      obtain ⟨b, o, hA, _, hbl, hcs⟩ := Rd.rec_ (f := Vr.cells) (size := 3) (fun _ => rfl) ((HAT.out.on HBR.out).fr) HFL.out j hlt
      have hlk : j < cfs.length := by have := HFL.out; omega
      have hlT : j < TF.length := by rw [HTFL.out]; exact hlt
      have hvb := HFV.out cfs[j] (List.getElem_mem hlk)
      have HXE : Hid (TF[j] = fieldT cfs[j]) := hide (by have := HTF.out (); subst this; simp)
      have hLX : (PR ++ (TF.take j).flatten).length + (fieldT cfs[j]).length ≤ 4000000000 := by rw [← HXE.out]; exact part_bd HBF.out hlT
      have HNX : Hid (PR ++ (TF.take (j + 1)).flatten = PR ++ (TF.take j).flatten ++ fieldT cfs[j]) := hide (by rw [← HXE.out, List.take_succ_eq_append_getElem hlT]; simp only [List.flatten_append, List.flatten_cons, List.flatten_nil, List.append_nil, List.append_assoc])
      clear HXE hlT
      generalize cfs[j] = x at hcs hvb hLX HNX
      obtain ⟨vn, ⟨vt, va⟩⟩ := x
      have q0 := hcs 0 (S vn) rfl
      have q1 := hcs 1 (S vt) rfl
      have q2 := hcs 2 (.bool va) rfl
      simp only [Nat.add_zero] at q0 q1 q2
      clear hcs
      have hvn : vn.length ≤ 104857600 := by simp only [Vr.len] at hvb; omega
      have hvt : vt.length ≤ 104857600 := by simp only [Vr.len] at hvb; omega
      clear hvb
      have hvty := tyT_len vt va
      have HVT := hide (fun w' => tcl_any vt va (by omega) w')
      have HPT : Hid (fieldT ⟨vn, ⟨vt, va⟩⟩ = [9, 102, 105, 101, 108, 100, 32] ++ tyT vt va ++ [32] ++ vn ++ [59, 10]) := hide rfl
      rw [HPT.out] at HNX
      have hLb : (PR ++ (TF.take j).flatten).length ≤ 4000000000 := by omega
      clear HPT hLX
      generalize tyT vt va = TV at HVT HNX hvty
      obtain ⟨L, hLe⟩ : ∃ L, L = PR ++ (TF.take j).flatten := ⟨_, rfl⟩
      rw [← hLe] at HNX hLb ⊢
      clear hLe
      replace hA : cfA = some ⟨b, o, none⟩ := hA
      rw [hA]
      have hjk : (j : Int) < (cfk : Int) := by omega
      go_upto_region 13 with fail
      refine name_world ?_
      intro wC hwC
      have hbc : Below wr.heap.size wr wC := by rw [hwC]; exact (Below.refl _ _).alloc (Nat.le_refl _) _
      have HV : Hid (Blk wC wr.heap.size 50 #[S vn, S vt, .bool va]) := hide (by rw [hwC]; exact Blk.new _ _ _)
      have HBC : Hid (Below w2.heap.size w2 wC) := hide (HBX.out.trans (hbc.mono HBX.out.size))
      clear hwC hbc HBR HBX q0 q1 q2
      generalize wr.heap.size = g1 at HV ⊢
      have p0 : ∀ t : After wC, t.val.cell? ⟨g1, 0, none⟩ = some (S vn) := fun t => (HV.out.below t.prop HV.out.lt).cell 0
      have p1 : ∀ t : After wC, t.val.cell? ⟨g1, 1, none⟩ = some (S vt) := fun t => (HV.out.below t.prop HV.out.lt).cell 1
      have p2 : ∀ t : After wC, t.val.cell? ⟨g1, 2, none⟩ = some (.bool va) := fun t => (HV.out.below t.prop HV.out.lt).cell 2
      have HVTT : Hid (∀ t : After wC, Calls Tryd.prog 31 #[.agg #[S vt, .bool va]] t.val (Gives t.val (S TV))) := hide (fun t => HVT.out t.val)
      refine region_after (by kernel_rfl) (by kernel_rfl) ?_
      repeat (go_big_quiet_step (first | (go_at_call 31; with_reducible refine call_after (HVTT.out _))))
      refine wpQuiet_nil ?_
      rintro _ ⟨t, rfl⟩
      have HBN : Hid (Below w2.heap.size w2 t.val) := hide (HBC.out.trans (t.prop.mono HBC.out.size))
      clear p0 p1 p2
      go_wp2_with fail
      go_roundw
      case rel => first | exact ⟨j + 1, by omega, by go_num, (by rw [HNX.out] <;> simp), HBN⟩ | ((repeat apply Exists.intro); exact ⟨⟨j + 1, by omega, by go_num, (by rw [HNX.out] <;> simp), HBN⟩, rfl⟩)
      case measure => simp [intOf]; omega
    obtain rfl : j = cfk := by omega
    have hjk : ¬ (j : Int) < (j : Int) := by omega
    have HE5 : Hid (Blk wr g2 43 #[.int .i64 cln, .int .i64 cco, S cn, S [], .slice cfA j cfc, .slice cmA cmq cmc]) := hide (HE2.out.below HBX.out HE2.out.lt)
    have c5 := HE5.out.cell 5
    simp at c5
    obtain ⟨PF, hPF⟩ : ∃ PF, PF = PR ++ TF.flatten := ⟨_, rfl⟩
    have HPF := hide hPF
    have hpf : PR ++ (TF.take j).flatten = PF := by rw [hPF, List.take_of_length_le (by rw [HTFL.out]; exact Nat.le_refl _)]
    rw [hpf]
    clear hPF hpf
    go_wp2_with fail
    clear c5
    go_loopw [4, 52] (fun v i wr => ∃ j2 : Nat, j2 ≤ cmq ∧ i = .int .i64 j2 ∧ v = S (PF ++ (TM.take j2).flatten) ∧ Hid (Below w2.heap.size w2 wr)) (fun _ i _ => cmq - (intOf i).toNat)
    case atStart => exact ⟨0, Nat.zero_le _, rfl, (by simp), HBX⟩
    case round =>
    clear HBR HE5 HBX
    obtain ⟨j2, hj2, rfl, rfl, HBX⟩ := hrel
    have HBR := hide (HB2.out.trans (HBX.out.mono HB2.out.size))
    by_cases hlt : j2 < cmq
    case pos =>
      obtain ⟨b, o, hA, _, hbl, hcs⟩ := Rd.rec_ (f := Me.cells) Me.cells_len ((HAT.out.on HBR.out).mr) HMQ.out j2 hlt
      have hlk : j2 < cms.length := by have := HMQ.out; omega
      have hlT : j2 < TM.length := by rw [HTML.out]; exact hlt
      have hmem := List.getElem_mem hlk
      have hmf := HMF.out _ hmem
      have hml := HML.out _ hmem
      have hma := HAT.out.ma _ hmem
      have HLI : Hid (∀ w', Below w.heap.size w w' → Calls Tryd.prog 28 #[.slice cms[j2].bA cms[j2].bk cms[j2].bc, S [9, 9]] w' (Gives w' (S (linesT 2 cms[j2].bs)))) := hide (HLN.out _ hmem hmf)
      have hlib := HLB.out _ hmem hmf
      have HXE : Hid (TM[j2] = cms[j2].headT ++ blockT 1 (cms[j2].bs.map fun x : St => x.text (1 + 1)) ++ [10]) := hide (by have := HTM.out (); subst this; simp [Me.textT])
      have hLX : (PF ++ (TM.take j2).flatten).length ≤ 4000000000 := by have : (PF ++ (TM.take j2).flatten).length + TM[j2].length ≤ 4000000000 := part_bd (by rw [HPF.out]; exact HBD.out) hlT; omega
      have HNX : Hid (PF ++ (TM.take (j2 + 1)).flatten = PF ++ (TM.take j2).flatten ++ (cms[j2].headT ++ ([123, 10] ++ linesT 2 cms[j2].bs ++ [9] ++ [125]) ++ [10])) := hide (by
        have e : blockT 1 (cms[j2].bs.map fun x : St => x.text (1 + 1)) = [123, 10] ++ linesT 2 cms[j2].bs ++ [9] ++ [125] := rfl
        rw [← e, ← HXE.out, List.take_succ_eq_append_getElem hlT]; simp only [List.flatten_append, List.flatten_cons, List.flatten_nil, List.append_nil, List.append_assoc])
      clear HXE hlT hmem hmf
      generalize cms[j2] = x at hcs hml hma HLI hlib HNX
      obtain ⟨mln, mco, mn, mst, mpA, mpk, mpc, mps, mrn, mra, mbA, mbk, mbc, mbs⟩ := x
      replace HLI : Hid (∀ w', Below w.heap.size w w' → Calls Tryd.prog 28 #[.slice mbA mbk mbc, S [9, 9]] w' (Gives w' (S (linesT 2 mbs)))) := HLI
      replace hlib : (linesT 2 mbs).length ≤ 2000000000 := hlib
      replace HNX : Hid (PF ++ (TM.take (j2 + 1)).flatten = PF ++ (TM.take j2).flatten ++ (Me.headT ⟨mln, mco, mn, mst, mpA, mpk, mpc, mps, mrn, mra, mbA, mbk, mbc, mbs⟩ ++ ([123, 10] ++ linesT 2 mbs ++ [9] ++ [125]) ++ [10])) := HNX
      generalize linesT 2 mbs = LNT at HLI hlib HNX
      have hpd : ((mps.map parT).map List.length).sum + 4 * (mps.map parT).length ≤ 104857600 := by
        have := parts_bd mps
        unfold Me.len at hml
        simp only at hml
        omega
      have HPV : Hid (∀ v ∈ mps, v.len ≤ 104857600) := hide (fun v hv => by
        have := sum_mem (f := Vr.len) hv
        unfold Me.len at hml
        simp only at hml
        omega)
      have hmn : mn.length ≤ 104857600 := by unfold Me.len at hml; simp only at hml; omega
      have hmr : mrn.length ≤ 104857600 := by unfold Me.len at hml; simp only at hml; omega
      have HMA := hide hma
      have HPL : Hid (mps.length = mpk) := hide hma.pl
      have hpk63 : mpk ≤ 9223372036854775807 := hma.pm
      clear hml hma
      obtain ⟨TP, hTP⟩ : ∃ TP, TP = mps.map parT := ⟨_, rfl⟩
      have HTP := hide (fun _ : Unit => hTP)
      have HTPL : Hid (TP.length = mpk) := hide (by rw [hTP, List.length_map]; exact HPL.out)
      rw [← hTP] at hpd
      have HPD := hide hpd
      have htyr := tyT_len mrn mra
      have HVR := hide (fun w' => tcl_any mrn mra (by omega) w')
      have HHT : Hid (Me.headT ⟨mln, mco, mn, mst, mpA, mpk, mpc, mps, mrn, mra, mbA, mbk, mbc, mbs⟩ = (if mst then [9, 115, 116, 97, 116, 105, 99, 32, 109, 101, 116, 104, 111, 100, 32] else [9, 109, 101, 116, 104, 111, 100, 32]) ++ tyT mrn mra ++ [32] ++ mn ++ [40] ++ joinC TP ++ [41, 32]) := hide (by rw [hTP]; rfl)
      rw [HHT.out] at HNX
      clear hTP hpd HHT
      generalize tyT mrn mra = TR at HVR HNX htyr
      obtain ⟨L, hLe⟩ : ∃ L, L = PF ++ (TM.take j2).flatten := ⟨_, rfl⟩
      rw [← hLe] at HNX hLX ⊢
      clear hLe
      have q0 := hcs 0 (.int .i64 mln) rfl
      have q1 := hcs 1 (.int .i64 mco) rfl
      have q2 := hcs 2 (S mn) rfl
      have q3 := hcs 3 (.bool mst) rfl
      have q4 := hcs 4 (.slice mpA mpk mpc) rfl
      have q5 := hcs 5 (S mrn) rfl
      have q6 := hcs 6 (.bool mra) rfl
      have q7 := hcs 7 (.slice mbA mbk mbc) rfl
      simp only [Nat.add_zero] at q0 q1 q2 q3 q4 q5 q6 q7
      clear hcs
      replace hA : cmA = some ⟨b, o, none⟩ := hA
      rw [hA]
      have hjk2 : (j2 : Int) < (cmq : Int) := by omega
      go_upto_region 18 with fail
      refine name_world ?_
      intro wC hwC
      have hbc : Below wr.heap.size wr wC := by rw [hwC]; exact (Below.refl _ _).alloc (Nat.le_refl _) _
      have HV : Hid (Blk wC wr.heap.size 48 #[.int .i64 mln, .int .i64 mco, S mn, .bool mst, .slice mpA mpk mpc, S mrn, .bool mra, .slice mbA mbk mbc]) := hide (by rw [hwC]; exact Blk.new _ _ _)
      have HBCW : Hid (Below w.heap.size w wC) := hide (HBR.out.trans (hbc.mono HBR.out.size))
      have HBC : Hid (Below w2.heap.size w2 wC) := hide (HBX.out.trans (hbc.mono HBX.out.size))
      clear hwC hbc HBR HBX q0 q1 q2 q3 q4 q5 q6 q7
      generalize wr.heap.size = g1 at HV ⊢
      have HVRT : Hid (∀ t : After wC, Calls Tryd.prog 31 #[.agg #[S mrn, .bool mra]] t.val (Gives t.val (S TR))) := hide (fun t => HVR.out t.val)
      have q3 := HV.out.cell 3
      simp at q3
      cases mst
      case false =>
        go_upto_region 21 with fail
        clear q3
        have p2 : ∀ t : After wC, t.val.cell? ⟨g1, 2, none⟩ = some (S mn) := fun t => (HV.out.below t.prop HV.out.lt).cell 2
        have p5 : ∀ t : After wC, t.val.cell? ⟨g1, 5, none⟩ = some (S mrn) := fun t => (HV.out.below t.prop HV.out.lt).cell 5
        have p6 : ∀ t : After wC, t.val.cell? ⟨g1, 6, none⟩ = some (.bool mra) := fun t => (HV.out.below t.prop HV.out.lt).cell 6
        refine region_after (by kernel_rfl) (by kernel_rfl) ?_
        repeat (go_big_quiet_step (first | (go_at_call 31; with_reducible refine call_after (HVRT.out _))))
        refine wpQuiet_nil ?_
        rintro _ ⟨t, rfl⟩
        clear p2 p5 p6
        have HVT := hide (HV.out.below t.prop HV.out.lt)
        have q4 := HVT.out.cell 4
        simp at q4
        obtain ⟨W0, hW0⟩ : ∃ W0, W0 = L ++ ([9, 109, 101, 116, 104, 111, 100, 32] ++ TR ++ [32] ++ mn ++ [40]) := ⟨_, rfl⟩
        have hW0b : W0.length ≤ 4400000000 := by rw [hW0]; simp only [List.length_append, List.length_cons, List.length_nil]; omega
        have HW0 := hide hW0
        clear hW0
        go_wp2_with fail
        clear q4
        go_loopw [4, 77] (fun v i wr => ∃ m : Nat, m ≤ mpk ∧ i = .int .i64 m ∧ v = S (W0 ++ joinC (TP.take m)) ∧ Hid (Below wC.heap.size wC wr)) (fun _ i _ => mpk - (intOf i).toNat)
        case atStart => exact ⟨0, Nat.zero_le _, rfl, by rw [HW0.out]; simp [joinC, Lib.join, List.intercalate], hide t.prop⟩
        case round =>
          obtain ⟨m, hm, rfl, rfl, HBI⟩ := hrel
          have HBIW : Hid (Below w.heap.size w wr) := hide (HBCW.out.trans (HBI.out.mono HBCW.out.size))
          by_cases hlm : m < mpk
          case pos =>
            obtain ⟨b', o', hA', _, hbl', hcs'⟩ := Rd.rec_ (f := Vr.cells) (size := 3) (fun _ => rfl) ((HMA.out.on HBIW.out).pr) HPL.out m hlm
            have hlk' : m < mps.length := by have := HPL.out; omega
            have hlT' : m < TP.length := by rw [HTPL.out]; exact hlm
            have hvb := HPV.out mps[m] (List.getElem_mem hlk')
            have HXE : Hid (TP[m] = parT mps[m]) := hide (by have := HTP.out (); subst this; simp)
            have HJN : Hid (joinC (TP.take (m + 1)) = if 0 < m then joinC (TP.take m) ++ ([44, 32] ++ parT mps[m]) else parT mps[m]) := hide (by
              rw [← HXE.out]
              by_cases h0 : 0 < m
              · rw [if_pos h0]
                have := join_step (fr := 0) h0 hlT'
                simpa using this
              · obtain rfl : m = 0 := by omega
                rw [if_neg h0]
                exact join_first0 hlT')
            have hJb : (joinC (TP.take m)).length ≤ 104857600 := joinC_bd (by
              have h1 := sub_sum (List.take_sublist m TP)
              have h2 := HPD.out
              omega)
            have HJ0 : Hid (¬ 0 < m → joinC (TP.take m) = []) := hide (fun h0 => by
              obtain rfl : m = 0 := by omega
              rfl)
            clear HXE hlT'
            generalize mps[m] = x at hcs' hvb HJN
            obtain ⟨vn, ⟨vt, va⟩⟩ := x
            have q0 := hcs' 0 (S vn) rfl
            have q1 := hcs' 1 (S vt) rfl
            have q2 := hcs' 2 (.bool va) rfl
            simp only [Nat.add_zero] at q0 q1 q2
            clear hcs'
            have hvn : vn.length ≤ 104857600 := by simp only [Vr.len] at hvb; omega
            have hvt : vt.length ≤ 104857600 := by simp only [Vr.len] at hvb; omega
            clear hvb
            have hvty := tyT_len vt va
            have HVT2 := hide (fun w' => tcl_any vt va (by omega) w')
            have HPT : Hid (parT ⟨vn, ⟨vt, va⟩⟩ = tyT vt va ++ [32] ++ vn) := hide rfl
            rw [HPT.out] at HJN
            clear HPT
            generalize tyT vt va = TV at HVT2 HJN hvty
            obtain ⟨JT, hJT⟩ : ∃ JT, JT = joinC (TP.take m) := ⟨_, rfl⟩
            rw [← hJT] at HJN hJb HJ0 ⊢
            clear hJT
            replace hA' : mpA = some ⟨b', o', none⟩ := hA'
            rw [hA']
            have hmk : (m : Int) < (mpk : Int) := by omega
            go_upto_region 25 with fail
            refine name_world ?_
            intro wD hwD
            have hbd : Below wr.heap.size wr wD := by rw [hwD]; exact (Below.refl _ _).alloc (Nat.le_refl _) _
            have HVD : Hid (Blk wD wr.heap.size 50 #[S vn, S vt, .bool va]) := hide (by rw [hwD]; exact Blk.new _ _ _)
            have HBD2 : Hid (Below wC.heap.size wC wD) := hide (HBI.out.trans (hbd.mono HBI.out.size))
            clear hwD hbd HBI q0 q1 q2 HBIW
            generalize wr.heap.size = g5 at HVD ⊢
            have HV2T : Hid (∀ t : After wD, Calls Tryd.prog 31 #[.agg #[S vt, .bool va]] t.val (Gives t.val (S TV))) := hide (fun t => HVT2.out t.val)
            have p0 : ∀ t : After wD, t.val.cell? ⟨g5, 0, none⟩ = some (S vn) := fun t => (HVD.out.below t.prop HVD.out.lt).cell 0
            have p1 : ∀ t : After wD, t.val.cell? ⟨g5, 1, none⟩ = some (S vt) := fun t => (HVD.out.below t.prop HVD.out.lt).cell 1
            have p2 : ∀ t : After wD, t.val.cell? ⟨g5, 2, none⟩ = some (.bool va) := fun t => (HVD.out.below t.prop HVD.out.lt).cell 2
            by_cases hm0 : 0 < m
            case pos =>
              have hmi : (0 : Int) < (m : Int) := by omega
              have HJ2 : Hid (joinC (TP.take (m + 1)) = JT ++ ([44, 32] ++ (TV ++ [32] ++ vn))) := hide (by rw [HJN.out, if_pos hm0])
              clear HJN HJ0
              go_upto_region 27 with fail
              refine region_after (by kernel_rfl) (by kernel_rfl) ?_
              repeat (go_big_quiet_step (first | (go_at_call 31; with_reducible refine call_after (HV2T.out _))))
              refine wpQuiet_nil ?_
              rintro _ ⟨t2, rfl⟩
              have HBN : Hid (Below wC.heap.size wC t2.val) := hide (HBD2.out.trans (t2.prop.mono HBD2.out.size))
              clear p0 p1 p2
              go_wp2_with fail
              go_roundw
              case rel => first | exact ⟨m + 1, by omega, by go_num, (by rw [HJ2.out] <;> simp), HBN⟩ | ((repeat apply Exists.intro); exact ⟨⟨m + 1, by omega, by go_num, (by rw [HJ2.out] <;> simp), HBN⟩, rfl⟩)
              case measure => simp [intOf]; omega
            case neg =>
              have hmi : ¬ (0 : Int) < (m : Int) := by omega
              have HJ2 : Hid (joinC (TP.take (m + 1)) = TV ++ [32] ++ vn) := hide (by rw [HJN.out, if_neg hm0])
              obtain rfl : JT = [] := HJ0.out hm0
              clear HJN HJ0
              go_upto_region 27 with fail
              refine region_after (by kernel_rfl) (by kernel_rfl) ?_
              repeat (go_big_quiet_step (first | (go_at_call 31; with_reducible refine call_after (HV2T.out _))))
              refine wpQuiet_nil ?_
              rintro _ ⟨t2, rfl⟩
              have HBN : Hid (Below wC.heap.size wC t2.val) := hide (HBD2.out.trans (t2.prop.mono HBD2.out.size))
              clear p0 p1 p2
              go_wp2_with fail
              go_roundw
              case rel => first | exact ⟨m + 1, by omega, by go_num, (by rw [HJ2.out] <;> simp), HBN⟩ | ((repeat apply Exists.intro); exact ⟨⟨m + 1, by omega, by go_num, (by rw [HJ2.out] <;> simp), HBN⟩, rfl⟩)
              case measure => simp [intOf]; omega
          case neg =>
            obtain rfl : m = mpk := by omega
            have hmk : ¬ (m : Int) < (m : Int) := by omega
            have HJE : Hid (joinC (TP.take m) = joinC TP) := hide (by rw [List.take_of_length_le (by rw [HTPL.out]; exact Nat.le_refl _)])
            have hJb : (joinC TP).length ≤ 104857600 := joinC_bd HPD.out
            rw [HJE.out]
            obtain ⟨JT, hJT⟩ : ∃ JT, JT = joinC TP := ⟨_, rfl⟩
            rw [← hJT] at HNX hJb ⊢
            clear hJT HJE
            have HVE := hide (HV.out.below HBI.out HV.out.lt)
            have q7 := HVE.out.cell 7
            simp at q7
            have HL2 := hide (HLI.out wr HBIW.out)
            go_wp2_with fail
            refine HL2.out.mono ?_
            rintro e w6 ⟨rfl, hb6⟩
            have HBI2 := hide (HBC.out.trans (HBI.out.mono HBC.out.size))
            have HBN : Hid (Below w2.heap.size w2 w6) := hide (HBI2.out.trans (hb6.mono HBI2.out.size))
            clear q7 hb6
            go_wp2_with fail
            go_roundw
            case rel => first | exact ⟨j2 + 1, by omega, by go_num, (by rw [HNX.out, HW0.out] <;> simp), HBN⟩ | ((repeat apply Exists.intro); exact ⟨⟨j2 + 1, by omega, by go_num, (by rw [HNX.out, HW0.out] <;> simp), HBN⟩, rfl⟩)
            case measure => simp [intOf]; omega
      case true =>
        go_upto_region 21 with fail
        clear q3
        have p2 : ∀ t : After wC, t.val.cell? ⟨g1, 2, none⟩ = some (S mn) := fun t => (HV.out.below t.prop HV.out.lt).cell 2
        have p5 : ∀ t : After wC, t.val.cell? ⟨g1, 5, none⟩ = some (S mrn) := fun t => (HV.out.below t.prop HV.out.lt).cell 5
        have p6 : ∀ t : After wC, t.val.cell? ⟨g1, 6, none⟩ = some (.bool mra) := fun t => (HV.out.below t.prop HV.out.lt).cell 6
        refine region_after (by kernel_rfl) (by kernel_rfl) ?_
        repeat (go_big_quiet_step (first | (go_at_call 31; with_reducible refine call_after (HVRT.out _))))
        refine wpQuiet_nil ?_
        rintro _ ⟨t, rfl⟩
        clear p2 p5 p6
        have HVT := hide (HV.out.below t.prop HV.out.lt)
        have q4 := HVT.out.cell 4
        simp at q4
        obtain ⟨W0, hW0⟩ : ∃ W0, W0 = L ++ ([9, 115, 116, 97, 116, 105, 99, 32, 109, 101, 116, 104, 111, 100, 32] ++ TR ++ [32] ++ mn ++ [40]) := ⟨_, rfl⟩
        have hW0b : W0.length ≤ 4400000000 := by rw [hW0]; simp only [List.length_append, List.length_cons, List.length_nil]; omega
        have HW0 := hide hW0
        clear hW0
        go_wp2_with fail
        clear q4
        go_loopw [4, 77] (fun v i wr => ∃ m : Nat, m ≤ mpk ∧ i = .int .i64 m ∧ v = S (W0 ++ joinC (TP.take m)) ∧ Hid (Below wC.heap.size wC wr)) (fun _ i _ => mpk - (intOf i).toNat)
        case atStart => exact ⟨0, Nat.zero_le _, rfl, by rw [HW0.out]; simp [joinC, Lib.join, List.intercalate], hide t.prop⟩
        case round =>
          obtain ⟨m, hm, rfl, rfl, HBI⟩ := hrel
          have HBIW : Hid (Below w.heap.size w wr) := hide (HBCW.out.trans (HBI.out.mono HBCW.out.size))
          by_cases hlm : m < mpk
          case pos =>
            obtain ⟨b', o', hA', _, hbl', hcs'⟩ := Rd.rec_ (f := Vr.cells) (size := 3) (fun _ => rfl) ((HMA.out.on HBIW.out).pr) HPL.out m hlm
            have hlk' : m < mps.length := by have := HPL.out; omega
            have hlT' : m < TP.length := by rw [HTPL.out]; exact hlm
            have hvb := HPV.out mps[m] (List.getElem_mem hlk')
            have HXE : Hid (TP[m] = parT mps[m]) := hide (by have := HTP.out (); subst this; simp)
            have HJN : Hid (joinC (TP.take (m + 1)) = if 0 < m then joinC (TP.take m) ++ ([44, 32] ++ parT mps[m]) else parT mps[m]) := hide (by
              rw [← HXE.out]
              by_cases h0 : 0 < m
              · rw [if_pos h0]
                have := join_step (fr := 0) h0 hlT'
                simpa using this
              · obtain rfl : m = 0 := by omega
                rw [if_neg h0]
                exact join_first0 hlT')
            have hJb : (joinC (TP.take m)).length ≤ 104857600 := joinC_bd (by
              have h1 := sub_sum (List.take_sublist m TP)
              have h2 := HPD.out
              omega)
            have HJ0 : Hid (¬ 0 < m → joinC (TP.take m) = []) := hide (fun h0 => by
              obtain rfl : m = 0 := by omega
              rfl)
            clear HXE hlT'
            generalize mps[m] = x at hcs' hvb HJN
            obtain ⟨vn, ⟨vt, va⟩⟩ := x
            have q0 := hcs' 0 (S vn) rfl
            have q1 := hcs' 1 (S vt) rfl
            have q2 := hcs' 2 (.bool va) rfl
            simp only [Nat.add_zero] at q0 q1 q2
            clear hcs'
            have hvn : vn.length ≤ 104857600 := by simp only [Vr.len] at hvb; omega
            have hvt : vt.length ≤ 104857600 := by simp only [Vr.len] at hvb; omega
            clear hvb
            have hvty := tyT_len vt va
            have HVT2 := hide (fun w' => tcl_any vt va (by omega) w')
            have HPT : Hid (parT ⟨vn, ⟨vt, va⟩⟩ = tyT vt va ++ [32] ++ vn) := hide rfl
            rw [HPT.out] at HJN
            clear HPT
            generalize tyT vt va = TV at HVT2 HJN hvty
            obtain ⟨JT, hJT⟩ : ∃ JT, JT = joinC (TP.take m) := ⟨_, rfl⟩
            rw [← hJT] at HJN hJb HJ0 ⊢
            clear hJT
            replace hA' : mpA = some ⟨b', o', none⟩ := hA'
            rw [hA']
            have hmk : (m : Int) < (mpk : Int) := by omega
            go_upto_region 25 with fail
            refine name_world ?_
            intro wD hwD
            have hbd : Below wr.heap.size wr wD := by rw [hwD]; exact (Below.refl _ _).alloc (Nat.le_refl _) _
            have HVD : Hid (Blk wD wr.heap.size 50 #[S vn, S vt, .bool va]) := hide (by rw [hwD]; exact Blk.new _ _ _)
            have HBD2 : Hid (Below wC.heap.size wC wD) := hide (HBI.out.trans (hbd.mono HBI.out.size))
            clear hwD hbd HBI q0 q1 q2 HBIW
            generalize wr.heap.size = g5 at HVD ⊢
            have HV2T : Hid (∀ t : After wD, Calls Tryd.prog 31 #[.agg #[S vt, .bool va]] t.val (Gives t.val (S TV))) := hide (fun t => HVT2.out t.val)
            have p0 : ∀ t : After wD, t.val.cell? ⟨g5, 0, none⟩ = some (S vn) := fun t => (HVD.out.below t.prop HVD.out.lt).cell 0
            have p1 : ∀ t : After wD, t.val.cell? ⟨g5, 1, none⟩ = some (S vt) := fun t => (HVD.out.below t.prop HVD.out.lt).cell 1
            have p2 : ∀ t : After wD, t.val.cell? ⟨g5, 2, none⟩ = some (.bool va) := fun t => (HVD.out.below t.prop HVD.out.lt).cell 2
            by_cases hm0 : 0 < m
            case pos =>
              have hmi : (0 : Int) < (m : Int) := by omega
              have HJ2 : Hid (joinC (TP.take (m + 1)) = JT ++ ([44, 32] ++ (TV ++ [32] ++ vn))) := hide (by rw [HJN.out, if_pos hm0])
              clear HJN HJ0
              go_upto_region 27 with fail
              refine region_after (by kernel_rfl) (by kernel_rfl) ?_
              repeat (go_big_quiet_step (first | (go_at_call 31; with_reducible refine call_after (HV2T.out _))))
              refine wpQuiet_nil ?_
              rintro _ ⟨t2, rfl⟩
              have HBN : Hid (Below wC.heap.size wC t2.val) := hide (HBD2.out.trans (t2.prop.mono HBD2.out.size))
              clear p0 p1 p2
              go_wp2_with fail
              go_roundw
              case rel => first | exact ⟨m + 1, by omega, by go_num, (by rw [HJ2.out] <;> simp), HBN⟩ | ((repeat apply Exists.intro); exact ⟨⟨m + 1, by omega, by go_num, (by rw [HJ2.out] <;> simp), HBN⟩, rfl⟩)
              case measure => simp [intOf]; omega
            case neg =>
              have hmi : ¬ (0 : Int) < (m : Int) := by omega
              have HJ2 : Hid (joinC (TP.take (m + 1)) = TV ++ [32] ++ vn) := hide (by rw [HJN.out, if_neg hm0])
              obtain rfl : JT = [] := HJ0.out hm0
              clear HJN HJ0
              go_upto_region 27 with fail
              refine region_after (by kernel_rfl) (by kernel_rfl) ?_
              repeat (go_big_quiet_step (first | (go_at_call 31; with_reducible refine call_after (HV2T.out _))))
              refine wpQuiet_nil ?_
              rintro _ ⟨t2, rfl⟩
              have HBN : Hid (Below wC.heap.size wC t2.val) := hide (HBD2.out.trans (t2.prop.mono HBD2.out.size))
              clear p0 p1 p2
              go_wp2_with fail
              go_roundw
              case rel => first | exact ⟨m + 1, by omega, by go_num, (by rw [HJ2.out] <;> simp), HBN⟩ | ((repeat apply Exists.intro); exact ⟨⟨m + 1, by omega, by go_num, (by rw [HJ2.out] <;> simp), HBN⟩, rfl⟩)
              case measure => simp [intOf]; omega
          case neg =>
            obtain rfl : m = mpk := by omega
            have hmk : ¬ (m : Int) < (m : Int) := by omega
            have HJE : Hid (joinC (TP.take m) = joinC TP) := hide (by rw [List.take_of_length_le (by rw [HTPL.out]; exact Nat.le_refl _)])
            have hJb : (joinC TP).length ≤ 104857600 := joinC_bd HPD.out
            rw [HJE.out]
            obtain ⟨JT, hJT⟩ : ∃ JT, JT = joinC TP := ⟨_, rfl⟩
            rw [← hJT] at HNX hJb ⊢
            clear hJT HJE
            have HVE := hide (HV.out.below HBI.out HV.out.lt)
            have q7 := HVE.out.cell 7
            simp at q7
            have HL2 := hide (HLI.out wr HBIW.out)
            go_wp2_with fail
            refine HL2.out.mono ?_
            rintro e w6 ⟨rfl, hb6⟩
            have HBI2 := hide (HBC.out.trans (HBI.out.mono HBC.out.size))
            have HBN : Hid (Below w2.heap.size w2 w6) := hide (HBI2.out.trans (hb6.mono HBI2.out.size))
            clear q7 hb6
            go_wp2_with fail
            go_roundw
            case rel => first | exact ⟨j2 + 1, by omega, by go_num, (by rw [HNX.out, HW0.out] <;> simp), HBN⟩ | ((repeat apply Exists.intro); exact ⟨⟨j2 + 1, by omega, by go_num, (by rw [HNX.out, HW0.out] <;> simp), HBN⟩, rfl⟩)
            case measure => simp [intOf]; omega
    obtain rfl : j2 = cmq := by omega
    have hjk2 : ¬ (j2 : Int) < (j2 : Int) := by omega
    have HE7 : Hid (Blk wr g2 43 #[.int .i64 cln, .int .i64 cco, S cn, S [], .slice cfA j cfc, .slice cmA j2 cmc]) := hide (HE2.out.below HBX.out HE2.out.lt)
    have hpf : PF ++ (TM.take j2).flatten = PR ++ TF.flatten ++ TM.flatten := by rw [HPF.out, List.take_of_length_le (by rw [HTML.out]; exact Nat.le_refl _)]
    rw [hpf]
    obtain ⟨WT, hWT⟩ : ∃ WT, WT = PR ++ TF.flatten ++ TM.flatten := ⟨_, rfl⟩
    have hWb : WT.length ≤ 4000000000 := by rw [hWT]; exact HBD.out
    rw [← hWT] at HTX ⊢
    clear hpf hWT
    have hTT : (TX == WT ++ [125, 10]) = true := by rw [HTX.out]; simp
    have HC2 := hide (HCT.out wr HBR.out)
    obtain rfl := HTX.out
    have q0 := HE7.out.cell 0
    have q1 := HE7.out.cell 1
    have q2 := HE7.out.cell 2
    have q3 := HE7.out.cell 3
    have q4 := HE7.out.cell 4
    have q5 := HE7.out.cell 5
    simp at q0 q1 q2 q3 q4 q5
    go_wp2_with fail
    refine HC2.out.mono ?_
    rintro e w7 ⟨rfl, hb7⟩
    have HB7 : Hid (Below w.heap.size w w7) := hide (HBR.out.trans (hb7.mono HBR.out.size))
    have HE8 := hide (HE7.out.below hb7 HE7.out.lt)
    have HC3 := hide (HCS.out w7 HB7.out)
    clear q0 q1 q2 q3 q4 q5 hb7
    have q0 := HE8.out.cell 0
    have q1 := HE8.out.cell 1
    have q2 := HE8.out.cell 2
    have q3 := HE8.out.cell 3
    have q4 := HE8.out.cell 4
    have q5 := HE8.out.cell 5
    simp at q0 q1 q2 q3 q4 q5
    go_wp2_with fail
    refine HC3.out.mono ?_
    rintro e w8 ⟨rfl, hb8⟩
    go_wp2_with fail
    go_ret
    exact ⟨rfl, HB7.out.trans (hb8.mono HB7.out.size)⟩
  have hsn : (csu == []) = false := by simpa using hsu
  go_wp2_with fail
  clear q0 q1 q2 q3 q4 q5
  go_loopw [4, 32] (fun v i wr => ∃ j : Nat, j ≤ cfk ∧ i = .int .i64 j ∧ v = S (PR ++ (TF.take j).flatten) ∧ Hid (Below w2.heap.size w2 wr)) (fun _ i _ => cfk - (intOf i).toNat)
  case atStart => exact ⟨0, Nat.zero_le _, rfl, (by rw [HPR.out]; simp [hsu]), hide (Below.refl _ _)⟩
  case round =>
  obtain ⟨j, hj, rfl, rfl, HBX⟩ := hrel
  have HBR := hide (HB2.out.trans (HBX.out.mono HB2.out.size))
  by_cases hlt : j < cfk
  case pos =>
    obtain ⟨b, o, hA, _, hbl, hcs⟩ := Rd.rec_ (f := Vr.cells) (size := 3) (fun _ => rfl) ((HAT.out.on HBR.out).fr) HFL.out j hlt
    have hlk : j < cfs.length := by have := HFL.out; omega
    have hlT : j < TF.length := by rw [HTFL.out]; exact hlt
    have hvb := HFV.out cfs[j] (List.getElem_mem hlk)
    have HXE : Hid (TF[j] = fieldT cfs[j]) := hide (by have := HTF.out (); subst this; simp)
    have hLX : (PR ++ (TF.take j).flatten).length + (fieldT cfs[j]).length ≤ 4000000000 := by rw [← HXE.out]; exact part_bd HBF.out hlT
    have HNX : Hid (PR ++ (TF.take (j + 1)).flatten = PR ++ (TF.take j).flatten ++ fieldT cfs[j]) := hide (by rw [← HXE.out, List.take_succ_eq_append_getElem hlT]; simp only [List.flatten_append, List.flatten_cons, List.flatten_nil, List.append_nil, List.append_assoc])
    clear HXE hlT
    generalize cfs[j] = x at hcs hvb hLX HNX
    obtain ⟨vn, ⟨vt, va⟩⟩ := x
    have q0 := hcs 0 (S vn) rfl
    have q1 := hcs 1 (S vt) rfl
    have q2 := hcs 2 (.bool va) rfl
    simp only [Nat.add_zero] at q0 q1 q2
    clear hcs
    have hvn : vn.length ≤ 104857600 := by simp only [Vr.len] at hvb; omega
    have hvt : vt.length ≤ 104857600 := by simp only [Vr.len] at hvb; omega
    clear hvb
    have hvty := tyT_len vt va
    have HVT := hide (fun w' => tcl_any vt va (by omega) w')
    have HPT : Hid (fieldT ⟨vn, ⟨vt, va⟩⟩ = [9, 102, 105, 101, 108, 100, 32] ++ tyT vt va ++ [32] ++ vn ++ [59, 10]) := hide rfl
    rw [HPT.out] at HNX
    have hLb : (PR ++ (TF.take j).flatten).length ≤ 4000000000 := by omega
    clear HPT hLX
    generalize tyT vt va = TV at HVT HNX hvty
    obtain ⟨L, hLe⟩ : ∃ L, L = PR ++ (TF.take j).flatten := ⟨_, rfl⟩
    rw [← hLe] at HNX hLb ⊢
    clear hLe
    replace hA : cfA = some ⟨b, o, none⟩ := hA
    rw [hA]
    have hjk : (j : Int) < (cfk : Int) := by omega
    go_upto_region 13 with fail
    refine name_world ?_
    intro wC hwC
    have hbc : Below wr.heap.size wr wC := by rw [hwC]; exact (Below.refl _ _).alloc (Nat.le_refl _) _
    have HV : Hid (Blk wC wr.heap.size 50 #[S vn, S vt, .bool va]) := hide (by rw [hwC]; exact Blk.new _ _ _)
    have HBC : Hid (Below w2.heap.size w2 wC) := hide (HBX.out.trans (hbc.mono HBX.out.size))
    clear hwC hbc HBR HBX q0 q1 q2
    generalize wr.heap.size = g1 at HV ⊢
    have p0 : ∀ t : After wC, t.val.cell? ⟨g1, 0, none⟩ = some (S vn) := fun t => (HV.out.below t.prop HV.out.lt).cell 0
    have p1 : ∀ t : After wC, t.val.cell? ⟨g1, 1, none⟩ = some (S vt) := fun t => (HV.out.below t.prop HV.out.lt).cell 1
    have p2 : ∀ t : After wC, t.val.cell? ⟨g1, 2, none⟩ = some (.bool va) := fun t => (HV.out.below t.prop HV.out.lt).cell 2
    have HVTT : Hid (∀ t : After wC, Calls Tryd.prog 31 #[.agg #[S vt, .bool va]] t.val (Gives t.val (S TV))) := hide (fun t => HVT.out t.val)
    refine region_after (by kernel_rfl) (by kernel_rfl) ?_
    repeat (go_big_quiet_step (first | (go_at_call 31; with_reducible refine call_after (HVTT.out _))))
    refine wpQuiet_nil ?_
    rintro _ ⟨t, rfl⟩
    have HBN : Hid (Below w2.heap.size w2 t.val) := hide (HBC.out.trans (t.prop.mono HBC.out.size))
    clear p0 p1 p2
    go_wp2_with fail
    go_roundw
    case rel => first | exact ⟨j + 1, by omega, by go_num, (by rw [HNX.out] <;> simp), HBN⟩ | ((repeat apply Exists.intro); exact ⟨⟨j + 1, by omega, by go_num, (by rw [HNX.out] <;> simp), HBN⟩, rfl⟩)
    case measure => simp [intOf]; omega
  obtain rfl : j = cfk := by omega
  have hjk : ¬ (j : Int) < (j : Int) := by omega
  have HE5 : Hid (Blk wr g2 43 #[.int .i64 cln, .int .i64 cco, S cn, S csu, .slice cfA j cfc, .slice cmA cmq cmc]) := hide (HE2.out.below HBX.out HE2.out.lt)
  have c5 := HE5.out.cell 5
  simp at c5
  obtain ⟨PF, hPF⟩ : ∃ PF, PF = PR ++ TF.flatten := ⟨_, rfl⟩
  have HPF := hide hPF
  have hpf : PR ++ (TF.take j).flatten = PF := by rw [hPF, List.take_of_length_le (by rw [HTFL.out]; exact Nat.le_refl _)]
  rw [hpf]
  clear hPF hpf
  go_wp2_with fail
  clear c5
  go_loopw [4, 52] (fun v i wr => ∃ j2 : Nat, j2 ≤ cmq ∧ i = .int .i64 j2 ∧ v = S (PF ++ (TM.take j2).flatten) ∧ Hid (Below w2.heap.size w2 wr)) (fun _ i _ => cmq - (intOf i).toNat)
  case atStart => exact ⟨0, Nat.zero_le _, rfl, (by simp), HBX⟩
  case round =>
  clear HBR HE5 HBX
  obtain ⟨j2, hj2, rfl, rfl, HBX⟩ := hrel
  have HBR := hide (HB2.out.trans (HBX.out.mono HB2.out.size))
  by_cases hlt : j2 < cmq
  case pos =>
    obtain ⟨b, o, hA, _, hbl, hcs⟩ := Rd.rec_ (f := Me.cells) Me.cells_len ((HAT.out.on HBR.out).mr) HMQ.out j2 hlt
    have hlk : j2 < cms.length := by have := HMQ.out; omega
    have hlT : j2 < TM.length := by rw [HTML.out]; exact hlt
    have hmem := List.getElem_mem hlk
    have hmf := HMF.out _ hmem
    have hml := HML.out _ hmem
    have hma := HAT.out.ma _ hmem
    have HLI : Hid (∀ w', Below w.heap.size w w' → Calls Tryd.prog 28 #[.slice cms[j2].bA cms[j2].bk cms[j2].bc, S [9, 9]] w' (Gives w' (S (linesT 2 cms[j2].bs)))) := hide (HLN.out _ hmem hmf)
    have hlib := HLB.out _ hmem hmf
    have HXE : Hid (TM[j2] = cms[j2].headT ++ blockT 1 (cms[j2].bs.map fun x : St => x.text (1 + 1)) ++ [10]) := hide (by have := HTM.out (); subst this; simp [Me.textT])
    have hLX : (PF ++ (TM.take j2).flatten).length ≤ 4000000000 := by have : (PF ++ (TM.take j2).flatten).length + TM[j2].length ≤ 4000000000 := part_bd (by rw [HPF.out]; exact HBD.out) hlT; omega
    have HNX : Hid (PF ++ (TM.take (j2 + 1)).flatten = PF ++ (TM.take j2).flatten ++ (cms[j2].headT ++ ([123, 10] ++ linesT 2 cms[j2].bs ++ [9] ++ [125]) ++ [10])) := hide (by
      have e : blockT 1 (cms[j2].bs.map fun x : St => x.text (1 + 1)) = [123, 10] ++ linesT 2 cms[j2].bs ++ [9] ++ [125] := rfl
      rw [← e, ← HXE.out, List.take_succ_eq_append_getElem hlT]; simp only [List.flatten_append, List.flatten_cons, List.flatten_nil, List.append_nil, List.append_assoc])
    clear HXE hlT hmem hmf
    generalize cms[j2] = x at hcs hml hma HLI hlib HNX
    obtain ⟨mln, mco, mn, mst, mpA, mpk, mpc, mps, mrn, mra, mbA, mbk, mbc, mbs⟩ := x
    replace HLI : Hid (∀ w', Below w.heap.size w w' → Calls Tryd.prog 28 #[.slice mbA mbk mbc, S [9, 9]] w' (Gives w' (S (linesT 2 mbs)))) := HLI
    replace hlib : (linesT 2 mbs).length ≤ 2000000000 := hlib
    replace HNX : Hid (PF ++ (TM.take (j2 + 1)).flatten = PF ++ (TM.take j2).flatten ++ (Me.headT ⟨mln, mco, mn, mst, mpA, mpk, mpc, mps, mrn, mra, mbA, mbk, mbc, mbs⟩ ++ ([123, 10] ++ linesT 2 mbs ++ [9] ++ [125]) ++ [10])) := HNX
    generalize linesT 2 mbs = LNT at HLI hlib HNX
    have hpd : ((mps.map parT).map List.length).sum + 4 * (mps.map parT).length ≤ 104857600 := by
      have := parts_bd mps
      unfold Me.len at hml
      simp only at hml
      omega
    have HPV : Hid (∀ v ∈ mps, v.len ≤ 104857600) := hide (fun v hv => by
      have := sum_mem (f := Vr.len) hv
      unfold Me.len at hml
      simp only at hml
      omega)
    have hmn : mn.length ≤ 104857600 := by unfold Me.len at hml; simp only at hml; omega
    have hmr : mrn.length ≤ 104857600 := by unfold Me.len at hml; simp only at hml; omega
    have HMA := hide hma
    have HPL : Hid (mps.length = mpk) := hide hma.pl
    have hpk63 : mpk ≤ 9223372036854775807 := hma.pm
    clear hml hma
    obtain ⟨TP, hTP⟩ : ∃ TP, TP = mps.map parT := ⟨_, rfl⟩
    have HTP := hide (fun _ : Unit => hTP)
    have HTPL : Hid (TP.length = mpk) := hide (by rw [hTP, List.length_map]; exact HPL.out)
    rw [← hTP] at hpd
    have HPD := hide hpd
    have htyr := tyT_len mrn mra
    have HVR := hide (fun w' => tcl_any mrn mra (by omega) w')
    have HHT : Hid (Me.headT ⟨mln, mco, mn, mst, mpA, mpk, mpc, mps, mrn, mra, mbA, mbk, mbc, mbs⟩ = (if mst then [9, 115, 116, 97, 116, 105, 99, 32, 109, 101, 116, 104, 111, 100, 32] else [9, 109, 101, 116, 104, 111, 100, 32]) ++ tyT mrn mra ++ [32] ++ mn ++ [40] ++ joinC TP ++ [41, 32]) := hide (by rw [hTP]; rfl)
    rw [HHT.out] at HNX
    clear hTP hpd HHT
    generalize tyT mrn mra = TR at HVR HNX htyr
    obtain ⟨L, hLe⟩ : ∃ L, L = PF ++ (TM.take j2).flatten := ⟨_, rfl⟩
    rw [← hLe] at HNX hLX ⊢
    clear hLe
    have q0 := hcs 0 (.int .i64 mln) rfl
    have q1 := hcs 1 (.int .i64 mco) rfl
    have q2 := hcs 2 (S mn) rfl
    have q3 := hcs 3 (.bool mst) rfl
    have q4 := hcs 4 (.slice mpA mpk mpc) rfl
    have q5 := hcs 5 (S mrn) rfl
    have q6 := hcs 6 (.bool mra) rfl
    have q7 := hcs 7 (.slice mbA mbk mbc) rfl
    simp only [Nat.add_zero] at q0 q1 q2 q3 q4 q5 q6 q7
    clear hcs
    replace hA : cmA = some ⟨b, o, none⟩ := hA
    rw [hA]
    have hjk2 : (j2 : Int) < (cmq : Int) := by omega
    go_upto_region 18 with fail
    refine name_world ?_
    intro wC hwC
    have hbc : Below wr.heap.size wr wC := by rw [hwC]; exact (Below.refl _ _).alloc (Nat.le_refl _) _
    have HV : Hid (Blk wC wr.heap.size 48 #[.int .i64 mln, .int .i64 mco, S mn, .bool mst, .slice mpA mpk mpc, S mrn, .bool mra, .slice mbA mbk mbc]) := hide (by rw [hwC]; exact Blk.new _ _ _)
    have HBCW : Hid (Below w.heap.size w wC) := hide (HBR.out.trans (hbc.mono HBR.out.size))
    have HBC : Hid (Below w2.heap.size w2 wC) := hide (HBX.out.trans (hbc.mono HBX.out.size))
    clear hwC hbc HBR HBX q0 q1 q2 q3 q4 q5 q6 q7
    generalize wr.heap.size = g1 at HV ⊢
    have HVRT : Hid (∀ t : After wC, Calls Tryd.prog 31 #[.agg #[S mrn, .bool mra]] t.val (Gives t.val (S TR))) := hide (fun t => HVR.out t.val)
    have q3 := HV.out.cell 3
    simp at q3
    cases mst
    case false =>
      go_upto_region 21 with fail
      clear q3
      have p2 : ∀ t : After wC, t.val.cell? ⟨g1, 2, none⟩ = some (S mn) := fun t => (HV.out.below t.prop HV.out.lt).cell 2
      have p5 : ∀ t : After wC, t.val.cell? ⟨g1, 5, none⟩ = some (S mrn) := fun t => (HV.out.below t.prop HV.out.lt).cell 5
      have p6 : ∀ t : After wC, t.val.cell? ⟨g1, 6, none⟩ = some (.bool mra) := fun t => (HV.out.below t.prop HV.out.lt).cell 6
      refine region_after (by kernel_rfl) (by kernel_rfl) ?_
      repeat (go_big_quiet_step (first | (go_at_call 31; with_reducible refine call_after (HVRT.out _))))
      refine wpQuiet_nil ?_
      rintro _ ⟨t, rfl⟩
      clear p2 p5 p6
      have HVT := hide (HV.out.below t.prop HV.out.lt)
      have q4 := HVT.out.cell 4
      simp at q4
      obtain ⟨W0, hW0⟩ : ∃ W0, W0 = L ++ ([9, 109, 101, 116, 104, 111, 100, 32] ++ TR ++ [32] ++ mn ++ [40]) := ⟨_, rfl⟩
      have hW0b : W0.length ≤ 4400000000 := by rw [hW0]; simp only [List.length_append, List.length_cons, List.length_nil]; omega
      have HW0 := hide hW0
      clear hW0
      go_wp2_with fail
      clear q4
      go_loopw [4, 77] (fun v i wr => ∃ m : Nat, m ≤ mpk ∧ i = .int .i64 m ∧ v = S (W0 ++ joinC (TP.take m)) ∧ Hid (Below wC.heap.size wC wr)) (fun _ i _ => mpk - (intOf i).toNat)
      case atStart => exact ⟨0, Nat.zero_le _, rfl, by rw [HW0.out]; simp [joinC, Lib.join, List.intercalate], hide t.prop⟩
      case round =>
        obtain ⟨m, hm, rfl, rfl, HBI⟩ := hrel
        have HBIW : Hid (Below w.heap.size w wr) := hide (HBCW.out.trans (HBI.out.mono HBCW.out.size))
        by_cases hlm : m < mpk
        case pos =>
          obtain ⟨b', o', hA', _, hbl', hcs'⟩ := Rd.rec_ (f := Vr.cells) (size := 3) (fun _ => rfl) ((HMA.out.on HBIW.out).pr) HPL.out m hlm
          have hlk' : m < mps.length := by have := HPL.out; omega
          have hlT' : m < TP.length := by rw [HTPL.out]; exact hlm
          have hvb := HPV.out mps[m] (List.getElem_mem hlk')
          have HXE : Hid (TP[m] = parT mps[m]) := hide (by have := HTP.out (); subst this; simp)
          have HJN : Hid (joinC (TP.take (m + 1)) = if 0 < m then joinC (TP.take m) ++ ([44, 32] ++ parT mps[m]) else parT mps[m]) := hide (by
            rw [← HXE.out]
            by_cases h0 : 0 < m
            · rw [if_pos h0]
              have := join_step (fr := 0) h0 hlT'
              simpa using this
            · obtain rfl : m = 0 := by omega
              rw [if_neg h0]
              exact join_first0 hlT')
          have hJb : (joinC (TP.take m)).length ≤ 104857600 := joinC_bd (by
            have h1 := sub_sum (List.take_sublist m TP)
            have h2 := HPD.out
            omega)
          have HJ0 : Hid (¬ 0 < m → joinC (TP.take m) = []) := hide (fun h0 => by
            obtain rfl : m = 0 := by omega
            rfl)
          clear HXE hlT'
          generalize mps[m] = x at hcs' hvb HJN
          obtain ⟨vn, ⟨vt, va⟩⟩ := x
          have q0 := hcs' 0 (S vn) rfl
          have q1 := hcs' 1 (S vt) rfl
          have q2 := hcs' 2 (.bool va) rfl
          simp only [Nat.add_zero] at q0 q1 q2
          clear hcs'
          have hvn : vn.length ≤ 104857600 := by simp only [Vr.len] at hvb; omega
          have hvt : vt.length ≤ 104857600 := by simp only [Vr.len] at hvb; omega
          clear hvb
          have hvty := tyT_len vt va
          have HVT2 := hide (fun w' => tcl_any vt va (by omega) w')
          have HPT : Hid (parT ⟨vn, ⟨vt, va⟩⟩ = tyT vt va ++ [32] ++ vn) := hide rfl
          rw [HPT.out] at HJN
          clear HPT
          generalize tyT vt va = TV at HVT2 HJN hvty
          obtain ⟨JT, hJT⟩ : ∃ JT, JT = joinC (TP.take m) := ⟨_, rfl⟩
          rw [← hJT] at HJN hJb HJ0 ⊢
          clear hJT
          replace hA' : mpA = some ⟨b', o', none⟩ := hA'
          rw [hA']
          have hmk : (m : Int) < (mpk : Int) := by omega
          go_upto_region 25 with fail
          refine name_world ?_
          intro wD hwD
          have hbd : Below wr.heap.size wr wD := by rw [hwD]; exact (Below.refl _ _).alloc (Nat.le_refl _) _
          have HVD : Hid (Blk wD wr.heap.size 50 #[S vn, S vt, .bool va]) := hide (by rw [hwD]; exact Blk.new _ _ _)
          have HBD2 : Hid (Below wC.heap.size wC wD) := hide (HBI.out.trans (hbd.mono HBI.out.size))
          clear hwD hbd HBI q0 q1 q2 HBIW
          generalize wr.heap.size = g5 at HVD ⊢
          have HV2T : Hid (∀ t : After wD, Calls Tryd.prog 31 #[.agg #[S vt, .bool va]] t.val (Gives t.val (S TV))) := hide (fun t => HVT2.out t.val)
          have p0 : ∀ t : After wD, t.val.cell? ⟨g5, 0, none⟩ = some (S vn) := fun t => (HVD.out.below t.prop HVD.out.lt).cell 0
          have p1 : ∀ t : After wD, t.val.cell? ⟨g5, 1, none⟩ = some (S vt) := fun t => (HVD.out.below t.prop HVD.out.lt).cell 1
          have p2 : ∀ t : After wD, t.val.cell? ⟨g5, 2, none⟩ = some (.bool va) := fun t => (HVD.out.below t.prop HVD.out.lt).cell 2
          by_cases hm0 : 0 < m
          case pos =>
            have hmi : (0 : Int) < (m : Int) := by omega
            have HJ2 : Hid (joinC (TP.take (m + 1)) = JT ++ ([44, 32] ++ (TV ++ [32] ++ vn))) := hide (by rw [HJN.out, if_pos hm0])
            clear HJN HJ0
            go_upto_region 27 with fail
            refine region_after (by kernel_rfl) (by kernel_rfl) ?_
            repeat (go_big_quiet_step (first | (go_at_call 31; with_reducible refine call_after (HV2T.out _))))
            refine wpQuiet_nil ?_
            rintro _ ⟨t2, rfl⟩
            have HBN : Hid (Below wC.heap.size wC t2.val) := hide (HBD2.out.trans (t2.prop.mono HBD2.out.size))
            clear p0 p1 p2
            go_wp2_with fail
            go_roundw
            case rel => first | exact ⟨m + 1, by omega, by go_num, (by rw [HJ2.out] <;> simp), HBN⟩ | ((repeat apply Exists.intro); exact ⟨⟨m + 1, by omega, by go_num, (by rw [HJ2.out] <;> simp), HBN⟩, rfl⟩)
            case measure => simp [intOf]; omega
          case neg =>
            have hmi : ¬ (0 : Int) < (m : Int) := by omega
            have HJ2 : Hid (joinC (TP.take (m + 1)) = TV ++ [32] ++ vn) := hide (by rw [HJN.out, if_neg hm0])
            obtain rfl : JT = [] := HJ0.out hm0
            clear HJN HJ0
            go_upto_region 27 with fail
            refine region_after (by kernel_rfl) (by kernel_rfl) ?_
            repeat (go_big_quiet_step (first | (go_at_call 31; with_reducible refine call_after (HV2T.out _))))
            refine wpQuiet_nil ?_
            rintro _ ⟨t2, rfl⟩
            have HBN : Hid (Below wC.heap.size wC t2.val) := hide (HBD2.out.trans (t2.prop.mono HBD2.out.size))
            clear p0 p1 p2
            go_wp2_with fail
            go_roundw
            case rel => first | exact ⟨m + 1, by omega, by go_num, (by rw [HJ2.out] <;> simp), HBN⟩ | ((repeat apply Exists.intro); exact ⟨⟨m + 1, by omega, by go_num, (by rw [HJ2.out] <;> simp), HBN⟩, rfl⟩)
            case measure => simp [intOf]; omega
        case neg =>
          obtain rfl : m = mpk := by omega
          have hmk : ¬ (m : Int) < (m : Int) := by omega
          have HJE : Hid (joinC (TP.take m) = joinC TP) := hide (by rw [List.take_of_length_le (by rw [HTPL.out]; exact Nat.le_refl _)])
          have hJb : (joinC TP).length ≤ 104857600 := joinC_bd HPD.out
          rw [HJE.out]
          obtain ⟨JT, hJT⟩ : ∃ JT, JT = joinC TP := ⟨_, rfl⟩
          rw [← hJT] at HNX hJb ⊢
          clear hJT HJE
          have HVE := hide (HV.out.below HBI.out HV.out.lt)
          have q7 := HVE.out.cell 7
          simp at q7
          have HL2 := hide (HLI.out wr HBIW.out)
          go_wp2_with fail
          refine HL2.out.mono ?_
          rintro e w6 ⟨rfl, hb6⟩
          have HBI2 := hide (HBC.out.trans (HBI.out.mono HBC.out.size))
          have HBN : Hid (Below w2.heap.size w2 w6) := hide (HBI2.out.trans (hb6.mono HBI2.out.size))
          clear q7 hb6
          go_wp2_with fail
          go_roundw
          case rel => first | exact ⟨j2 + 1, by omega, by go_num, (by rw [HNX.out, HW0.out] <;> simp), HBN⟩ | ((repeat apply Exists.intro); exact ⟨⟨j2 + 1, by omega, by go_num, (by rw [HNX.out, HW0.out] <;> simp), HBN⟩, rfl⟩)
          case measure => simp [intOf]; omega
    case true =>
      go_upto_region 21 with fail
      clear q3
      have p2 : ∀ t : After wC, t.val.cell? ⟨g1, 2, none⟩ = some (S mn) := fun t => (HV.out.below t.prop HV.out.lt).cell 2
      have p5 : ∀ t : After wC, t.val.cell? ⟨g1, 5, none⟩ = some (S mrn) := fun t => (HV.out.below t.prop HV.out.lt).cell 5
      have p6 : ∀ t : After wC, t.val.cell? ⟨g1, 6, none⟩ = some (.bool mra) := fun t => (HV.out.below t.prop HV.out.lt).cell 6
      refine region_after (by kernel_rfl) (by kernel_rfl) ?_
      repeat (go_big_quiet_step (first | (go_at_call 31; with_reducible refine call_after (HVRT.out _))))
      refine wpQuiet_nil ?_
      rintro _ ⟨t, rfl⟩
      clear p2 p5 p6
      have HVT := hide (HV.out.below t.prop HV.out.lt)
      have q4 := HVT.out.cell 4
      simp at q4
      obtain ⟨W0, hW0⟩ : ∃ W0, W0 = L ++ ([9, 115, 116, 97, 116, 105, 99, 32, 109, 101, 116, 104, 111, 100, 32] ++ TR ++ [32] ++ mn ++ [40]) := ⟨_, rfl⟩
      have hW0b : W0.length ≤ 4400000000 := by rw [hW0]; simp only [List.length_append, List.length_cons, List.length_nil]; omega
      have HW0 := hide hW0
      clear hW0
      go_wp2_with fail
      clear q4
      go_loopw [4, 77] (fun v i wr => ∃ m : Nat, m ≤ mpk ∧ i = .int .i64 m ∧ v = S (W0 ++ joinC (TP.take m)) ∧ Hid (Below wC.heap.size wC wr)) (fun _ i _ => mpk - (intOf i).toNat)
      case atStart => exact ⟨0, Nat.zero_le _, rfl, by rw [HW0.out]; simp [joinC, Lib.join, List.intercalate], hide t.prop⟩
      case round =>
        obtain ⟨m, hm, rfl, rfl, HBI⟩ := hrel
        have HBIW : Hid (Below w.heap.size w wr) := hide (HBCW.out.trans (HBI.out.mono HBCW.out.size))
        by_cases hlm : m < mpk
        case pos =>
          obtain ⟨b', o', hA', _, hbl', hcs'⟩ := Rd.rec_ (f := Vr.cells) (size := 3) (fun _ => rfl) ((HMA.out.on HBIW.out).pr) HPL.out m hlm
          have hlk' : m < mps.length := by have := HPL.out; omega
          have hlT' : m < TP.length := by rw [HTPL.out]; exact hlm
          have hvb := HPV.out mps[m] (List.getElem_mem hlk')
          have HXE : Hid (TP[m] = parT mps[m]) := hide (by have := HTP.out (); subst this; simp)
          have HJN : Hid (joinC (TP.take (m + 1)) = if 0 < m then joinC (TP.take m) ++ ([44, 32] ++ parT mps[m]) else parT mps[m]) := hide (by
            rw [← HXE.out]
            by_cases h0 : 0 < m
            · rw [if_pos h0]
              have := join_step (fr := 0) h0 hlT'
              simpa using this
            · obtain rfl : m = 0 := by omega
              rw [if_neg h0]
              exact join_first0 hlT')
          have hJb : (joinC (TP.take m)).length ≤ 104857600 := joinC_bd (by
            have h1 := sub_sum (List.take_sublist m TP)
            have h2 := HPD.out
            omega)
          have HJ0 : Hid (¬ 0 < m → joinC (TP.take m) = []) := hide (fun h0 => by
            obtain rfl : m = 0 := by omega
            rfl)
          clear HXE hlT'
          generalize mps[m] = x at hcs' hvb HJN
          obtain ⟨vn, ⟨vt, va⟩⟩ := x
          have q0 := hcs' 0 (S vn) rfl
          have q1 := hcs' 1 (S vt) rfl
          have q2 := hcs' 2 (.bool va) rfl
          simp only [Nat.add_zero] at q0 q1 q2
          clear hcs'
          have hvn : vn.length ≤ 104857600 := by simp only [Vr.len] at hvb; omega
          have hvt : vt.length ≤ 104857600 := by simp only [Vr.len] at hvb; omega
          clear hvb
          have hvty := tyT_len vt va
          have HVT2 := hide (fun w' => tcl_any vt va (by omega) w')
          have HPT : Hid (parT ⟨vn, ⟨vt, va⟩⟩ = tyT vt va ++ [32] ++ vn) := hide rfl
          rw [HPT.out] at HJN
          clear HPT
          generalize tyT vt va = TV at HVT2 HJN hvty
          obtain ⟨JT, hJT⟩ : ∃ JT, JT = joinC (TP.take m) := ⟨_, rfl⟩
          rw [← hJT] at HJN hJb HJ0 ⊢
          clear hJT
          replace hA' : mpA = some ⟨b', o', none⟩ := hA'
          rw [hA']
          have hmk : (m : Int) < (mpk : Int) := by omega
          go_upto_region 25 with fail
          refine name_world ?_
          intro wD hwD
          have hbd : Below wr.heap.size wr wD := by rw [hwD]; exact (Below.refl _ _).alloc (Nat.le_refl _) _
          have HVD : Hid (Blk wD wr.heap.size 50 #[S vn, S vt, .bool va]) := hide (by rw [hwD]; exact Blk.new _ _ _)
          have HBD2 : Hid (Below wC.heap.size wC wD) := hide (HBI.out.trans (hbd.mono HBI.out.size))
          clear hwD hbd HBI q0 q1 q2 HBIW
          generalize wr.heap.size = g5 at HVD ⊢
          have HV2T : Hid (∀ t : After wD, Calls Tryd.prog 31 #[.agg #[S vt, .bool va]] t.val (Gives t.val (S TV))) := hide (fun t => HVT2.out t.val)
          have p0 : ∀ t : After wD, t.val.cell? ⟨g5, 0, none⟩ = some (S vn) := fun t => (HVD.out.below t.prop HVD.out.lt).cell 0
          have p1 : ∀ t : After wD, t.val.cell? ⟨g5, 1, none⟩ = some (S vt) := fun t => (HVD.out.below t.prop HVD.out.lt).cell 1
          have p2 : ∀ t : After wD, t.val.cell? ⟨g5, 2, none⟩ = some (.bool va) := fun t => (HVD.out.below t.prop HVD.out.lt).cell 2
          by_cases hm0 : 0 < m
          case pos =>
            have hmi : (0 : Int) < (m : Int) := by omega
            have HJ2 : Hid (joinC (TP.take (m + 1)) = JT ++ ([44, 32] ++ (TV ++ [32] ++ vn))) := hide (by rw [HJN.out, if_pos hm0])
            clear HJN HJ0
            go_upto_region 27 with fail
            refine region_after (by kernel_rfl) (by kernel_rfl) ?_
            repeat (go_big_quiet_step (first | (go_at_call 31; with_reducible refine call_after (HV2T.out _))))
            refine wpQuiet_nil ?_
            rintro _ ⟨t2, rfl⟩
            have HBN : Hid (Below wC.heap.size wC t2.val) := hide (HBD2.out.trans (t2.prop.mono HBD2.out.size))
            clear p0 p1 p2
            go_wp2_with fail
            go_roundw
            case rel => first | exact ⟨m + 1, by omega, by go_num, (by rw [HJ2.out] <;> simp), HBN⟩ | ((repeat apply Exists.intro); exact ⟨⟨m + 1, by omega, by go_num, (by rw [HJ2.out] <;> simp), HBN⟩, rfl⟩)
            case measure => simp [intOf]; omega
          case neg =>
            have hmi : ¬ (0 : Int) < (m : Int) := by omega
            have HJ2 : Hid (joinC (TP.take (m + 1)) = TV ++ [32] ++ vn) := hide (by rw [HJN.out, if_neg hm0])
            obtain rfl : JT = [] := HJ0.out hm0
            clear HJN HJ0
            go_upto_region 27 with fail
            refine region_after (by kernel_rfl) (by kernel_rfl) ?_
            repeat (go_big_quiet_step (first | (go_at_call 31; with_reducible refine call_after (HV2T.out _))))
            refine wpQuiet_nil ?_
            rintro _ ⟨t2, rfl⟩
            have HBN : Hid (Below wC.heap.size wC t2.val) := hide (HBD2.out.trans (t2.prop.mono HBD2.out.size))
            clear p0 p1 p2
            go_wp2_with fail
            go_roundw
            case rel => first | exact ⟨m + 1, by omega, by go_num, (by rw [HJ2.out] <;> simp), HBN⟩ | ((repeat apply Exists.intro); exact ⟨⟨m + 1, by omega, by go_num, (by rw [HJ2.out] <;> simp), HBN⟩, rfl⟩)
            case measure => simp [intOf]; omega
        case neg =>
          obtain rfl : m = mpk := by omega
          have hmk : ¬ (m : Int) < (m : Int) := by omega
          have HJE : Hid (joinC (TP.take m) = joinC TP) := hide (by rw [List.take_of_length_le (by rw [HTPL.out]; exact Nat.le_refl _)])
          have hJb : (joinC TP).length ≤ 104857600 := joinC_bd HPD.out
          rw [HJE.out]
          obtain ⟨JT, hJT⟩ : ∃ JT, JT = joinC TP := ⟨_, rfl⟩
          rw [← hJT] at HNX hJb ⊢
          clear hJT HJE
          have HVE := hide (HV.out.below HBI.out HV.out.lt)
          have q7 := HVE.out.cell 7
          simp at q7
          have HL2 := hide (HLI.out wr HBIW.out)
          go_wp2_with fail
          refine HL2.out.mono ?_
          rintro e w6 ⟨rfl, hb6⟩
          have HBI2 := hide (HBC.out.trans (HBI.out.mono HBC.out.size))
          have HBN : Hid (Below w2.heap.size w2 w6) := hide (HBI2.out.trans (hb6.mono HBI2.out.size))
          clear q7 hb6
          go_wp2_with fail
          go_roundw
          case rel => first | exact ⟨j2 + 1, by omega, by go_num, (by rw [HNX.out, HW0.out] <;> simp), HBN⟩ | ((repeat apply Exists.intro); exact ⟨⟨j2 + 1, by omega, by go_num, (by rw [HNX.out, HW0.out] <;> simp), HBN⟩, rfl⟩)
          case measure => simp [intOf]; omega
  obtain rfl : j2 = cmq := by omega
  have hjk2 : ¬ (j2 : Int) < (j2 : Int) := by omega
  have HE7 : Hid (Blk wr g2 43 #[.int .i64 cln, .int .i64 cco, S cn, S csu, .slice cfA j cfc, .slice cmA j2 cmc]) := hide (HE2.out.below HBX.out HE2.out.lt)
  have hpf : PF ++ (TM.take j2).flatten = PR ++ TF.flatten ++ TM.flatten := by rw [HPF.out, List.take_of_length_le (by rw [HTML.out]; exact Nat.le_refl _)]
  rw [hpf]
  obtain ⟨WT, hWT⟩ : ∃ WT, WT = PR ++ TF.flatten ++ TM.flatten := ⟨_, rfl⟩
  have hWb : WT.length ≤ 4000000000 := by rw [hWT]; exact HBD.out
  rw [← hWT] at HTX ⊢
  clear hpf hWT
  have hTT : (TX == WT ++ [125, 10]) = true := by rw [HTX.out]; simp
  have HC2 := hide (HCT.out wr HBR.out)
  obtain rfl := HTX.out
  have q0 := HE7.out.cell 0
  have q1 := HE7.out.cell 1
  have q2 := HE7.out.cell 2
  have q3 := HE7.out.cell 3
  have q4 := HE7.out.cell 4
  have q5 := HE7.out.cell 5
  simp at q0 q1 q2 q3 q4 q5
  go_wp2_with fail
  refine HC2.out.mono ?_
  rintro e w7 ⟨rfl, hb7⟩
  have HB7 : Hid (Below w.heap.size w w7) := hide (HBR.out.trans (hb7.mono HBR.out.size))
  have HE8 := hide (HE7.out.below hb7 HE7.out.lt)
  have HC3 := hide (HCS.out w7 HB7.out)
  clear q0 q1 q2 q3 q4 q5 hb7
  have q0 := HE8.out.cell 0
  have q1 := HE8.out.cell 1
  have q2 := HE8.out.cell 2
  have q3 := HE8.out.cell 3
  have q4 := HE8.out.cell 4
  have q5 := HE8.out.cell 5
  simp at q0 q1 q2 q3 q4 q5
  go_wp2_with fail
  refine HC3.out.mono ?_
  rintro e w8 ⟨rfl, hb8⟩
  go_wp2_with fail
  go_ret
  exact ⟨rfl, HB7.out.trans (hb8.mono HB7.out.size)⟩
end Go.Proofs.YtleccalfcnkklaaDoor
