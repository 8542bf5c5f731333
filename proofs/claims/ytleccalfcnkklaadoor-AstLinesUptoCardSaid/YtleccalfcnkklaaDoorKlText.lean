/- A class as text, walked; no statement of the seat is proved here. -/
import Derived.Test.YtleccalfcnkklaaDoorKlHead
namespace Go.Proofs.YtleccalfcnkklaaDoor
open Go.RowKit
set_option linter.unusedVariables false

theorem flat_bd {α : Type} {f : α → List UInt8} {g : α → Nat} {K : Nat} : ∀ {l : List α}, (∀ x ∈ l, (f x).length ≤ K * g x) → (l.map f).flatten.length ≤ K * (l.map g).sum
  | [], _ => by simp
  | a :: l, h => by
    have h1 := h a List.mem_cons_self
    have h2 := flat_bd fun x hx => h x (List.mem_cons_of_mem _ hx)
    simp only [List.map_cons, List.flatten_cons, List.length_append, List.sum_cons, Nat.mul_add]
    omega
theorem body_len {w : World} {F : Nat → Prop} {m : Me} (h : m.At w F) (hf : m.few = true) : (blockT 1 (m.bs.map fun x => x.text (1 + 1))).length ≤ 4 + 16 * (m.bs.map St.len).sum := by
  simp only [Me.few, Bool.and_eq_true] at hf
  have h1 := bodyT_len (d := 1 + 1) h.ba hf.2 (by omega)
  unfold linesL at h1
  have h3 : (tabs 1).length = 1 := rfl
  simp only [blockT, List.length_append, List.length_cons, List.length_nil, h3]
  omega
theorem textT_len {w : World} {F : Nat → Prop} {m : Me} (h : m.At w F) (hf : m.few = true) : m.textT.length ≤ 20 * m.len := by
  have h1 := headT_len m
  have h2 := body_len h hf
  simp only [Me.textT, List.length_append, List.length_cons, List.length_nil]
  unfold Me.len at h1 ⊢
  omega
def Kl.pre (c : Kl) : List UInt8 := [99, 108, 97, 115, 115, 32] ++ c.n ++ (if c.su = [] then [] else [32, 101, 120, 116, 101, 110, 100, 115, 32] ++ c.su) ++ [32, 123, 10]
theorem Kl.text_eq (c : Kl) : c.text = c.pre ++ (c.fs.map fieldT).flatten ++ (c.ms.map Me.textT).flatten ++ [125, 10] := by simp [Kl.text, Kl.pre]
theorem Kl.text_bd {w : World} {F : Nat → Prop} {c : Kl} (h : c.At w F) (hf : c.few = true) (hb : c.len ≤ 104857600) : (c.pre ++ (c.fs.map fieldT).flatten ++ (c.ms.map Me.textT).flatten).length ≤ 4000000000 := by
  simp only [Kl.few, Bool.and_eq_true, List.all_eq_true] at hf
  have h1 := flat_bd (f := fieldT) (g := Vr.len) (K := 1) (l := c.fs) (fun v _ => by have := fieldT_len v; omega)
  have h2 := flat_bd (f := Me.textT) (g := Me.len) (K := 20) (l := c.ms) (fun m hm => textT_len (h.ma m hm) (hf.2 m hm))
  have h3 : (if c.su = [] then [] else [32, 101, 120, 116, 101, 110, 100, 115, 32] ++ c.su : List UInt8).length ≤ 9 + c.su.length := by split <;> simp <;> omega
  unfold Kl.len at hb
  simp only [Kl.pre, List.length_append, List.length_cons, List.length_nil]
  omega

set_option maxRecDepth 100000 in
set_option maxHeartbeats 16000000 in
theorem ctext_any (c : Kl) (w : World) (hL : Laid w) (h : c.At w (fun b => w.heap.size ≤ b)) (hf : c.few = true) (hb : c.len ≤ 104857600) : Calls Tryd.prog 30 #[c.val] w (Gives w (S c.text)) := by
  have HBD := hide (Kl.text_bd h hf hb)
  have HTX := hide (Kl.text_eq c)
  have hnb : c.n.length ≤ 104857600 := by unfold Kl.len at hb; omega
  have hsb : c.su.length ≤ 104857600 := by unfold Kl.len at hb; omega
  have HFV : Hid (∀ v ∈ c.fs, v.len ≤ 104857600) := hide (fun v hv => by
    have := sum_mem (f := Vr.len) hv
    unfold Kl.len at hb
    omega)
  have hfk : c.fk ≤ 10 ∧ c.mq ≤ 10 := by
    simp only [Kl.few, Bool.and_eq_true, decide_eq_true_eq] at hf
    exact ⟨hf.1.1.1, hf.1.1.2⟩
  have HAT := hide h
  have HML : Hid (∀ m ∈ c.ms, m.len ≤ 104857600 ∧ m.few = true) := hide (fun m hm => by
    have h1 := sum_mem (f := Me.len) hm
    simp only [Kl.few, Bool.and_eq_true, List.all_eq_true] at hf
    unfold Kl.len at hb
    exact ⟨by omega, hf.2 m hm⟩)
  have HBO : Hid (∀ m ∈ c.ms, ∀ w', Below w.heap.size w w' → Calls Tryd.prog 48 #[.slice m.bA m.bk m.bc, .int .i64 1] w' (Gives w' (S (blockT 1 (m.bs.map fun x => x.text (1 + 1)))))) := hide (fun m hm w' hw => by
    have h1 := (h.ma m hm).on hw
    have h2 := HML.out m hm
    have h3 := body_len h1 h2.2
    have h4 : (m.bs.map St.len).sum ≤ 104857600 := by have := h2.1; unfold Me.len at this; omega
    have h5 : fewL 0 m.bs = true := by have := h2.2; simp only [Me.few, Bool.and_eq_true] at this; exact this.2
    have h6 := fewL_fits h1.ba h5 (d := 2) (by omega)
    exact block_any m.bA m.bk m.bc m.bs 1 w' ⟨h1.br, h1.bl, h1.bm, fun x hx w2 hw2 => stext_any x _ (1 + 1) w2 (by omega) (hL.on (hw.trans (hw2.mono hw.size))) ((h1.ba x hx).on hw2) (h6.1 x hx).1, by omega⟩ (by omega))
  have HHD : Hid (∀ m ∈ c.ms, ∀ w', Below w.heap.size w w' → Calls Tryd.prog 51 #[m.val] w' (Gives w' (S m.headT))) := hide (fun m hm w' hw => mhead_any m w' ((h.ma m hm).on hw) (HML.out m hm).1)
  have HBL : Hid (∀ m ∈ c.ms, m.headT.length ≤ 1000000000 ∧ (blockT 1 (m.bs.map fun x => x.text (1 + 1))).length ≤ 10000000000) := hide (fun m hm => by
    have h2 := HML.out m hm
    have h3 := body_len (h.ma m hm) h2.2
    have h4 : (m.bs.map St.len).sum ≤ 104857600 := by have := h2.1; unfold Me.len at this; omega
    have h5 := headT_len m
    have h6 : (m.ps.map Vr.len).sum ≤ 104857600 := by have := h2.1; unfold Me.len at this; omega
    exact ⟨by omega, by omega⟩)
  clear h hf hb hL
  obtain ⟨cln, cco, cn, csu, cfA, cfk, cfc, cfs, cmA, cmq, cmc, cms⟩ := c
  replace hnb : cn.length ≤ 104857600 := hnb
  replace hsb : csu.length ≤ 104857600 := hsb
  replace hfk : cfk ≤ 10 ∧ cmq ≤ 10 := hfk
  obtain ⟨hfk, hmk⟩ := hfk
  have HFL : Hid (cfs.length = cfk) := hide HAT.out.fl
  have HMQ : Hid (cms.length = cmq) := hide HAT.out.ml
  obtain ⟨TF, hTF⟩ : ∃ TF, TF = cfs.map fieldT := ⟨_, rfl⟩
  obtain ⟨TM, hTM⟩ : ∃ TM, TM = cms.map Me.textT := ⟨_, rfl⟩
  obtain ⟨PR, hPR⟩ : ∃ PR, PR = Kl.pre ⟨cln, cco, cn, csu, cfA, cfk, cfc, cfs, cmA, cmq, cmc, cms⟩ := ⟨_, rfl⟩
  have HTF := hide (fun _ : Unit => hTF)
  have HTM := hide (fun _ : Unit => hTM)
  have HPR : Hid (PR = [99, 108, 97, 115, 115, 32] ++ cn ++ (if csu = [] then [] else [32, 101, 120, 116, 101, 110, 100, 115, 32] ++ csu) ++ [32, 123, 10]) := hide hPR
  replace HBD : Hid ((PR ++ TF.flatten ++ TM.flatten).length ≤ 4000000000) := hide (by rw [hTF, hTM, hPR]; exact HBD.out)
  replace HTX : Hid (Kl.text ⟨cln, cco, cn, csu, cfA, cfk, cfc, cfs, cmA, cmq, cmc, cms⟩ = PR ++ TF.flatten ++ TM.flatten ++ [125, 10]) := hide (by rw [hTF, hTM, hPR]; exact HTX.out)
  rw [HTX.out]
  have HTFL : Hid (TF.length = cfk) := hide (by rw [hTF, List.length_map]; exact HFL.out)
  have HTML : Hid (TM.length = cmq) := hide (by rw [hTM, List.length_map]; exact HMQ.out)
  have hBF : (PR ++ TF.flatten).length ≤ 4000000000 := by have := HBD.out; rw [List.length_append] at this; omega
  have HBF := hide hBF
  clear hTF hTM hPR hBF HTX
  show Calls Tryd.prog 30 #[.agg #[.int .i64 cln, .int .i64 cco, S cn, S csu, .slice cfA cfk cfc, .slice cmA cmq cmc]] w _
  go_enter Tryd.func30, Tryd.ntmps30
  go_upto_region 2 with fail
  refine name_world ?_
  intro wA hwA
  have hsz : (w.alloc (.cells #[.int .i64 cln, .int .i64 cco, S cn, S csu, .slice cfA cfk cfc, .slice cmA cmq cmc] 43)).heap.size = w.heap.size + 1 := by simp
  obtain ⟨g3, hg3⟩ : ∃ g, g = w.heap.size + 1 := ⟨_, rfl⟩
  have HBA : Hid (Below w.heap.size w wA) := hide (by rw [hwA]; exact ((Below.refl _ _).alloc (Nat.le_refl _) _).alloc (by simp) _)
  have HE : Hid (Blk wA w.heap.size 43 #[.int .i64 cln, .int .i64 cco, S cn, S csu, .slice cfA cfk cfc, .slice cmA cmq cmc]) := hide (by rw [hwA]; exact (Blk.new _ _ _).alloc _)
  have HN : Hid (Bdr g3 g3 [] wA) := hide (by
    have := Bdr.new (w.alloc (.cells #[.int .i64 cln, .int .i64 cco, S cn, S csu, .slice cfA cfk cfc, .slice cmA cmq cmc] 43))
    rw [hsz, ← hg3] at this
    rw [hwA]
    exact this)
  have hgA : g3 ≤ wA.heap.size := by rw [hwA, hg3]; simp
  rw [← hg3]
  have hg2 : w.heap.size < g3 := by omega
  clear hwA hsz hg3
  have c2 := HE.out.cell 2
  simp at c2
  go_upto_region 3 with (go_at_call 50; refine (wstr_any (99 :: 108 :: 97 :: 115 :: 115 :: 32 :: cn) HN.out (by simp only [List.length_cons, List.length_nil]; omega) hgA).mono ?_; rintro e w1 ⟨⟨z1, rfl⟩, hn1, hb1⟩)
  have HN1 := hide hn1
  have HB1 : Hid (Below g3 wA w1) := hide hb1
  have HE1 := hide (HE.out.below hb1 hg2)
  clear hn1 hb1 HN c2
  have c3 := HE1.out.cell 3
  simp at c3
  by_cases hsu : csu = []
  case pos =>
    subst hsu
    go_upto_region 6 with (go_at_call 50; refine (wstr_any [32, 123, 10] HN1.out (by simp only [List.length_append, List.length_cons, List.length_nil]; omega) (Nat.le_trans hgA HB1.out.size)).mono ?_; rintro e w3 ⟨⟨z3, rfl⟩, hn3, hb3⟩)
    have HN3 : Hid (Bdr g3 g3 (PR ++ (TF.take 0).flatten) w3) := hide (by
      have e : PR ++ (TF.take 0).flatten = [99, 108, 97, 115, 115, 32] ++ cn ++ [32, 123, 10] := by rw [HPR.out]; simp
      rw [e]
      simpa using hn3)
    have HB3 : Hid (Below g3 wA w3) := hide (HB1.out.trans hb3)
    have HE3 := hide (HE1.out.below hb3 hg2)
    clear hn3 hb3 HN1 HB1 HE1 c3
    have c4 := HE3.out.cell 4
    simp at c4
    go_wp2_with fail
    clear c4
    go_loopw [23] (fun i wr => ∃ j : Nat, j ≤ cfk ∧ i = .int .i64 j ∧ Hid (Bdr g3 g3 (PR ++ (TF.take j).flatten) wr) ∧ Hid (Below g3 wA wr)) (fun i _ => cfk - (intOf i).toNat)
    case atStart => exact ⟨0, Nat.zero_le _, rfl, HN3, HB3⟩
    case round =>
    obtain ⟨j, hj, rfl, HNj, HBR⟩ := hrel
    have HBW : Hid (Below w.heap.size w wr) := hide (HBA.out.trans (HBR.out.mono (Nat.le_of_lt hg2)))
    by_cases hlt : j < cfk
    case pos =>
      obtain ⟨b, o, hA, _, hbl, hcs⟩ := Rd.rec_ (f := Vr.cells) (size := 3) (fun _ => rfl) ((HAT.out.on HBW.out).fr) HFL.out j hlt
      have hlk : j < cfs.length := by have := HFL.out; omega
      have hlT : j < TF.length := by rw [HTFL.out]; exact hlt
      have hvb := HFV.out cfs[j] (List.getElem_mem hlk)
      have HXE : Hid (TF[j] = fieldT cfs[j]) := hide (by have := HTF.out (); subst this; simp)
      have HLX : Hid ((PR ++ (TF.take j).flatten).length + (fieldT cfs[j]).length ≤ 4000000000) := hide (by rw [← HXE.out]; exact part_bd HBF.out hlT)
      have HNX : Hid (PR ++ (TF.take (j + 1)).flatten = PR ++ (TF.take j).flatten ++ fieldT cfs[j]) := hide (by rw [← HXE.out, List.take_succ_eq_append_getElem hlT]; simp only [List.flatten_append, List.flatten_cons, List.flatten_nil, List.append_nil, List.append_assoc])
      clear HXE hlT
      generalize cfs[j] = x at hcs hvb HLX HNX
      obtain ⟨vn, ⟨vt, va⟩⟩ := x
      have q0 := hcs 0 (S vn) rfl
      have q1 := hcs 1 (S vt) rfl
      have q2 := hcs 2 (.bool va) rfl
      simp only [Nat.add_zero] at q0 q1 q2
      clear hcs
      have hvn : vn.length ≤ 104857600 := by simp only [Vr.len] at hvb; omega
      have hvt : vt.length ≤ 104857600 := by simp only [Vr.len] at hvb; omega
      clear hvb
      have hvty := tyT_len vt va
      have HVT := hide (fun w' => tytext_any vt va (by omega) w')
      have HPT : Hid (fieldT ⟨vn, ⟨vt, va⟩⟩ = 9 :: 102 :: 105 :: 101 :: 108 :: 100 :: 32 :: (tyT vt va ++ 32 :: (vn ++ [59, 10]))) := hide (by simp [fieldT])
      rw [HPT.out] at HLX HNX
      clear HPT
      generalize tyT vt va = TV at HVT HLX HNX hvty
      obtain ⟨L, hLe⟩ : ∃ L, L = PR ++ (TF.take j).flatten := ⟨_, rfl⟩
      rw [← hLe] at HNX HLX HNj
      clear hLe
      replace hA : cfA = some ⟨b, o, none⟩ := hA
      rw [hA]
      have hjk : (j : Int) < (cfk : Int) := by omega
      go_upto_region 9 with fail
      refine name_world ?_
      intro wC hwC
      have hbc : Below wr.heap.size wr wC := by rw [hwC]; exact (Below.refl _ _).alloc (Nat.le_refl _) _
      have HV : Hid (Blk wC wr.heap.size 50 #[S vn, S vt, .bool va]) := hide (by rw [hwC]; exact Blk.new _ _ _)
      have HBC : Hid (Below g3 wA wC) := hide (HBR.out.trans (hbc.mono (Nat.le_trans hgA HBR.out.size)))
      have HNC := hide (HNj.out.below hbc)
      have hgC : g3 ≤ wC.heap.size := Nat.le_trans hgA HBC.out.size
      clear hwC hbc HBR HNj q0 q1 q2 HBW
      generalize wr.heap.size = g1 at HV ⊢
      obtain ⟨K, hK⟩ : ∃ K : Nat → Qk, K = (fun d => match d with | 27 => .is (.pointer (some ⟨g1, 1, none⟩)) | 28 => .is (.agg #[S vt, .bool va]) | 29 => .is (S TV) | 30 => .is (S (9 :: 102 :: 105 :: 101 :: 108 :: 100 :: 32 :: TV)) | 31 => .is (S (9 :: 102 :: 105 :: 101 :: 108 :: 100 :: 32 :: (TV ++ [32]))) | 32 => .is (.pointer (some ⟨g1, 0, none⟩)) | 33 => .is (S vn) | 34 => .is (S (9 :: 102 :: 105 :: 101 :: 108 :: 100 :: 32 :: (TV ++ 32 :: vn))) | 35 => .is (S (9 :: 102 :: 105 :: 101 :: 108 :: 100 :: 32 :: (TV ++ 32 :: (vn ++ [59, 10])))) | _ => .any) := ⟨_, rfl⟩
      refine region_qxa (by kernel_rfl) [⟨0, some 27, false, [0], []⟩, ⟨1, some 28, false, [0], [27]⟩, ⟨2, some 29, false, [0], [28]⟩, ⟨3, some 30, false, [0], [29]⟩, ⟨4, some 31, false, [0], [30]⟩, ⟨5, some 32, false, [0], []⟩, ⟨6, some 33, false, [0], [32]⟩, ⟨7, some 34, false, [0], [31, 33]⟩, ⟨8, some 35, false, [0], [34]⟩, ⟨9, some 36, true, [0], [35]⟩] 9 (KA K 36 36) (TA (fun _ _ => True) 36 36) (fun w' => Bdr g3 g3 (L ++ (9 :: 102 :: 105 :: 101 :: 108 :: 100 :: 32 :: (TV ++ 32 :: (vn ++ [59, 10])))) w' ∧ Below g3 wA w') (by kernel_rfl) ?obs ?hend
      case obs =>
        refine List.forall_mem_cons.2 ⟨?_, ?_⟩
        · refine ObA.mk (KA.mono K 36 36) (by rfl) ?_
          intro z w' hb hz G hG
          simp only [putsAt, List.foldl]
          unfold Runs
          go_simp
          exact hG _ _ (Below.refl _ _) (fun d' e => by cases e; exact ⟨⟨by decide, by decide⟩, by rw [hK]; first | rfl | (show _ = _; simp)⟩)
        refine List.forall_mem_cons.2 ⟨?_, ?_⟩
        · refine ObA.mk (KA.mono K 36 36) (by rfl) ?_
          intro z w' hb hz G hG
          have e27 : z 27 = .pointer (some ⟨g1, 1, none⟩) := by have h := (hz 27 (by simp)).2; rw [hK] at h; exact h
          have qHV1 := (HV.out.below hb HV.out.lt).cell 1
          have qHV2 := (HV.out.below hb HV.out.lt).cell 2
          simp at qHV1 qHV2
          simp only [putsAt, List.foldl, e27]
          unfold Runs
          go_simp
          exact hG _ _ (Below.refl _ _) (fun d' e => by cases e; exact ⟨⟨by decide, by decide⟩, by rw [hK]; first | rfl | (show _ = _; simp)⟩)
        refine List.forall_mem_cons.2 ⟨?_, ?_⟩
        · refine ObA.mk (KA.mono K 36 36) (by rfl) ?_
          intro z w' hb hz G hG
          have e28 : z 28 = .agg #[S vt, .bool va] := by have h := (hz 28 (by simp)).2; rw [hK] at h; exact h
          simp only [putsAt, List.foldl, e28]
          unfold Runs
          go_simp
          refine (HVT.out w').mono ?_
          rintro e w2 ⟨rfl, hb2⟩
          exact ⟨_, rfl, hG _ _ hb2 (fun d' e => by cases e; exact ⟨⟨by decide, by decide⟩, by rw [hK]; rfl⟩)⟩
        refine List.forall_mem_cons.2 ⟨?_, ?_⟩
        · refine ObA.mk (KA.mono K 36 36) (by rfl) ?_
          intro z w' hb hz G hG
          have e29 : z 29 = S TV := by have h := (hz 29 (by simp)).2; rw [hK] at h; exact h
          simp only [putsAt, List.foldl, e29]
          unfold Runs
          go_simp
          try rw [if_neg (by first | omega | (simp; omega))]
          exact hG _ _ (Below.refl _ _) (fun d' e => by cases e; exact ⟨⟨by decide, by decide⟩, by rw [hK]; first | rfl | (show _ = _; simp)⟩)
        refine List.forall_mem_cons.2 ⟨?_, ?_⟩
        · refine ObA.mk (KA.mono K 36 36) (by rfl) ?_
          intro z w' hb hz G hG
          have e30 : z 30 = S (9 :: 102 :: 105 :: 101 :: 108 :: 100 :: 32 :: TV) := by have h := (hz 30 (by simp)).2; rw [hK] at h; exact h
          simp only [putsAt, List.foldl, e30]
          unfold Runs
          go_simp
          try rw [if_neg (by first | omega | (simp; omega))]
          exact hG _ _ (Below.refl _ _) (fun d' e => by cases e; exact ⟨⟨by decide, by decide⟩, by rw [hK]; first | rfl | (show _ = _; simp)⟩)
        refine List.forall_mem_cons.2 ⟨?_, ?_⟩
        · refine ObA.mk (KA.mono K 36 36) (by rfl) ?_
          intro z w' hb hz G hG
          simp only [putsAt, List.foldl]
          unfold Runs
          go_simp
          exact hG _ _ (Below.refl _ _) (fun d' e => by cases e; exact ⟨⟨by decide, by decide⟩, by rw [hK]; first | rfl | (show _ = _; simp)⟩)
        refine List.forall_mem_cons.2 ⟨?_, ?_⟩
        · refine ObA.mk (KA.mono K 36 36) (by rfl) ?_
          intro z w' hb hz G hG
          have e32 : z 32 = .pointer (some ⟨g1, 0, none⟩) := by have h := (hz 32 (by simp)).2; rw [hK] at h; exact h
          have qHV0 := (HV.out.below hb HV.out.lt).cell 0
          simp at qHV0
          simp only [putsAt, List.foldl, e32]
          unfold Runs
          go_simp
          exact hG _ _ (Below.refl _ _) (fun d' e => by cases e; exact ⟨⟨by decide, by decide⟩, by rw [hK]; first | rfl | (show _ = _; simp)⟩)
        refine List.forall_mem_cons.2 ⟨?_, ?_⟩
        · refine ObA.mk (KA.mono K 36 36) (by rfl) ?_
          intro z w' hb hz G hG
          have e31 : z 31 = S (9 :: 102 :: 105 :: 101 :: 108 :: 100 :: 32 :: (TV ++ [32])) := by have h := (hz 31 (by simp)).2; rw [hK] at h; exact h
          have e33 : z 33 = S vn := by have h := (hz 33 (by simp)).2; rw [hK] at h; exact h
          simp only [putsAt, List.foldl, e31, e33]
          unfold Runs
          go_simp
          try rw [if_neg (by first | omega | (simp; omega))]
          exact hG _ _ (Below.refl _ _) (fun d' e => by cases e; exact ⟨⟨by decide, by decide⟩, by rw [hK]; first | rfl | (show _ = _; simp)⟩)
        refine List.forall_mem_cons.2 ⟨?_, ?_⟩
        · refine ObA.mk (KA.mono K 36 36) (by rfl) ?_
          intro z w' hb hz G hG
          have e34 : z 34 = S (9 :: 102 :: 105 :: 101 :: 108 :: 100 :: 32 :: (TV ++ 32 :: vn)) := by have h := (hz 34 (by simp)).2; rw [hK] at h; exact h
          simp only [putsAt, List.foldl, e34]
          unfold Runs
          go_simp
          try rw [if_neg (by first | omega | (simp; omega))]
          exact hG _ _ (Below.refl _ _) (fun d' e => by cases e; exact ⟨⟨by decide, by decide⟩, by rw [hK]; first | rfl | (show _ = _; simp)⟩)
        refine List.forall_mem_cons.2 ⟨?_, ?_⟩
        · refine ObA.app (by rfl) TA.of ?_
          intro z w' hb hz G hG0
          have e35 : z 35 = S (9 :: 102 :: 105 :: 101 :: 108 :: 100 :: 32 :: (TV ++ 32 :: (vn ++ [59, 10]))) := by have h := (hz 35 (by simp)).2; rw [hK] at h; exact h
          replace hG0 := fun u w'' h1 h2 => hG0 u w'' (fun _ => h1) h2
          simp only [putsAt, List.foldl, e35]
          unfold Runs
          go_simp
          refine (wstr_any (9 :: 102 :: 105 :: 101 :: 108 :: 100 :: 32 :: (TV ++ 32 :: (vn ++ [59, 10]))) (HNC.out.below hb) (by have := HLX.out; omega) (Nat.le_trans hgC hb.size)).mono ?_
          rintro e w2 ⟨⟨z2, rfl⟩, h1, h2⟩
          exact ⟨_, rfl, hG0 _ w2 trivial ⟨h1, (HBC.out.trans (hb.mono hgC)).trans h2⟩⟩
        exact List.forall_mem_nil _
      case hend =>
        intro z wZ hz hT
        have hR := hz 36 (by decide) (.inr rfl)
        clear hz hK
        simp only [putsAt, List.foldl, dstsOf, List.filterMap, Act.put, List.setIfInBounds_toArray, List.set_cons_zero, List.set_cons_succ]
        generalize z 27 = y27
        generalize z 28 = y28
        generalize z 29 = y29
        generalize z 30 = y30
        generalize z 31 = y31
        generalize z 32 = y32
        generalize z 33 = y33
        generalize z 34 = y34
        generalize z 35 = y35
        generalize z 36 = y36 at hR ⊢
        obtain ⟨hT1, hT2⟩ := hT
        have HNZ : Hid (Bdr g3 g3 (PR ++ (TF.take (j + 1)).flatten) wZ) := hide (by rw [HNX.out]; exact hT1)
        have HBZ := hide hT2
        clear hT1 hT2 hR
        go_wp2_with fail
        go_roundw
        case rel => first | exact ⟨j + 1, by omega, by go_num, HNZ, HBZ⟩ | ((repeat apply Exists.intro); exact ⟨⟨j + 1, by omega, by go_num, HNZ, HBZ⟩, rfl⟩)
        case measure => simp [intOf]; omega
    obtain rfl : j = cfk := by omega
    have hjk : ¬ (j : Int) < (j : Int) := by omega
    have HN5 : Hid (Bdr g3 g3 (PR ++ TF.flatten ++ (TM.take 0).flatten) wr) := hide (by have := HNj.out; rw [List.take_of_length_le (by rw [HTFL.out]; exact Nat.le_refl _)] at this; simpa using this)
    have HB5 := HBR
    have HE5 := hide (HE.out.below HBR.out hg2)
    have c5 := HE5.out.cell 5
    simp at c5
    clear HNj HE3 HB3 HN3
    go_wp2_with fail
    clear c5
    obtain ⟨PF, hPF⟩ : ∃ PF, PF = PR ++ TF.flatten := ⟨_, rfl⟩
    rw [← hPF] at HN5
    have HPF := hide hPF
    clear hPF HBW
    go_loopw [41] (fun i wr => ∃ j : Nat, j ≤ cmq ∧ i = .int .i64 j ∧ Hid (Bdr g3 g3 (PF ++ (TM.take j).flatten) wr) ∧ Hid (Below g3 wA wr)) (fun i _ => cmq - (intOf i).toNat)
    case atStart => exact ⟨0, Nat.zero_le _, rfl, HN5, HB5⟩
    case round =>
    obtain ⟨j2, hj2, rfl, HNj, HBR⟩ := hrel
    have HBW : Hid (Below w.heap.size w wr) := hide (HBA.out.trans (HBR.out.mono (Nat.le_of_lt hg2)))
    by_cases hlt : j2 < cmq
    case pos =>
      obtain ⟨b, o, hA, _, hbl, hcs⟩ := Rd.rec_ (f := Me.cells) Me.cells_len ((HAT.out.on HBW.out).mr) HMQ.out j2 hlt
      have hlk : j2 < cms.length := by have := HMQ.out; omega
      have hlT : j2 < TM.length := by rw [HTML.out]; exact hlt
      have HH2 : Hid (∀ w', Below w.heap.size w w' → Calls Tryd.prog 51 #[cms[j2].val] w' (Gives w' (S cms[j2].headT))) := hide (HHD.out cms[j2] (List.getElem_mem hlk))
      have HO2 : Hid (∀ w', Below w.heap.size w w' → Calls Tryd.prog 48 #[.slice cms[j2].bA cms[j2].bk cms[j2].bc, .int .i64 1] w' (Gives w' (S (blockT 1 (cms[j2].bs.map fun x : St => x.text (1 + 1)))))) := hide (HBO.out cms[j2] (List.getElem_mem hlk))
      have hbl2 := HBL.out cms[j2] (List.getElem_mem hlk)
      have HXE : Hid (TM[j2] = cms[j2].headT ++ blockT 1 (cms[j2].bs.map fun x : St => x.text (1 + 1)) ++ [10]) := hide (by have := HTM.out (); subst this; simp [Me.textT])
      have HLX : Hid ((PF ++ (TM.take j2).flatten).length + (cms[j2].headT ++ blockT 1 (cms[j2].bs.map fun x : St => x.text (1 + 1)) ++ [10]).length ≤ 4000000000) := hide (by rw [← HXE.out, HPF.out]; exact part_bd HBD.out hlT)
      have HNX : Hid (PF ++ (TM.take (j2 + 1)).flatten = PF ++ (TM.take j2).flatten ++ (cms[j2].headT ++ blockT 1 (cms[j2].bs.map fun x : St => x.text (1 + 1)) ++ [10])) := hide (by rw [← HXE.out, List.take_succ_eq_append_getElem hlT]; simp only [List.flatten_append, List.flatten_cons, List.flatten_nil, List.append_nil, List.append_assoc])
      clear HXE hlT
      generalize cms[j2] = x at hcs HH2 HO2 hbl2 HLX HNX
      obtain ⟨TH, hTH⟩ : ∃ TH, TH = x.headT := ⟨_, rfl⟩
      obtain ⟨TO, hTO⟩ : ∃ TO, TO = blockT 1 (x.bs.map fun x : St => x.text (1 + 1)) := ⟨_, rfl⟩
      rw [← hTH] at HH2 hbl2 HLX HNX
      rw [← hTO] at HO2 hbl2 HLX HNX
      clear hTH hTO
      obtain ⟨mln, mco, mn, mst, mpA, mpk, mpc, mps, mrn, mra, mbA, mbk, mbc, mbs⟩ := x
      replace HO2 : Hid (∀ w', Below w.heap.size w w' → Calls Tryd.prog 48 #[.slice mbA mbk mbc, .int .i64 1] w' (Gives w' (S TO))) := HO2
      obtain ⟨hth, hto⟩ := hbl2
      have q0 := hcs 0 (.int .i64 mln) rfl
      have q1 := hcs 1 (.int .i64 mco) rfl
      have q2 := hcs 2 (S mn) rfl
      have q3 := hcs 3 (.bool mst) rfl
      have q4 := hcs 4 (.slice mpA mpk mpc) rfl
      have q5 := hcs 5 (S mrn) rfl
      have q6 := hcs 6 (.bool mra) rfl
      have q7 := hcs 7 (.slice mbA mbk mbc) rfl
      simp only [Nat.add_zero] at q0 q1 q2 q3 q4 q5 q6 q7
      clear hcs
      obtain ⟨L, hLe⟩ : ∃ L, L = PF ++ (TM.take j2).flatten := ⟨_, rfl⟩
      rw [← hLe] at HNX HLX HNj
      clear hLe
      replace hA : cmA = some ⟨b, o, none⟩ := hA
      rw [hA]
      have hjk2 : (j2 : Int) < (cmq : Int) := by omega
      go_upto_region 14 with fail
      refine name_world ?_
      intro wC hwC
      have hbc : Below wr.heap.size wr wC := by rw [hwC]; exact (Below.refl _ _).alloc (Nat.le_refl _) _
      have HV : Hid (Blk wC wr.heap.size 48 #[.int .i64 mln, .int .i64 mco, S mn, .bool mst, .slice mpA mpk mpc, S mrn, .bool mra, .slice mbA mbk mbc]) := hide (by rw [hwC]; exact Blk.new _ _ _)
      have HBC : Hid (Below g3 wA wC) := hide (HBR.out.trans (hbc.mono (Nat.le_trans hgA HBR.out.size)))
      have HBWC : Hid (Below w.heap.size w wC) := hide (HBW.out.trans (hbc.mono HBW.out.size))
      have HNC := hide (HNj.out.below hbc)
      have hgC : g3 ≤ wC.heap.size := Nat.le_trans hgA HBC.out.size
      clear hwC hbc HBR HNj q0 q1 q2 q3 q4 q5 q6 q7 HBW
      generalize wr.heap.size = g1 at HV ⊢
      obtain ⟨K, hK⟩ : ∃ K : Nat → Qk, K = (fun d => match d with | 45 => .is (.agg #[.int .i64 mln, .int .i64 mco, S mn, .bool mst, .slice mpA mpk mpc, S mrn, .bool mra, .slice mbA mbk mbc]) | 46 => .is (S TH) | 47 => .is (.pointer (some ⟨g1, 7, none⟩)) | 48 => .is (.slice mbA mbk mbc) | 49 => .is (S TO) | 50 => .is (S (TH ++ TO)) | 51 => .is (S (TH ++ (TO ++ [10]))) | _ => .any) := ⟨_, rfl⟩
      refine region_qxa (by kernel_rfl) [⟨0, some 45, false, [0], []⟩, ⟨1, some 46, false, [0], [45]⟩, ⟨2, some 47, false, [0], []⟩, ⟨3, some 48, false, [0], [47]⟩, ⟨4, some 49, false, [0], [48]⟩, ⟨5, some 50, false, [0], [46, 49]⟩, ⟨6, some 51, false, [0], [50]⟩, ⟨7, some 52, true, [0], [51]⟩] 7 (KA K 52 52) (TA (fun _ _ => True) 52 52) (fun w' => Bdr g3 g3 (L ++ (TH ++ (TO ++ [10]))) w' ∧ Below g3 wA w') (by kernel_rfl) ?obs ?hend
      case obs =>
        refine List.forall_mem_cons.2 ⟨?_, ?_⟩
        · refine ObA.mk (KA.mono K 52 52) (by rfl) ?_
          intro z w' hb hz G hG
          have qHV0 := (HV.out.below hb HV.out.lt).cell 0
          have qHV1 := (HV.out.below hb HV.out.lt).cell 1
          have qHV2 := (HV.out.below hb HV.out.lt).cell 2
          have qHV3 := (HV.out.below hb HV.out.lt).cell 3
          have qHV4 := (HV.out.below hb HV.out.lt).cell 4
          have qHV5 := (HV.out.below hb HV.out.lt).cell 5
          have qHV6 := (HV.out.below hb HV.out.lt).cell 6
          have qHV7 := (HV.out.below hb HV.out.lt).cell 7
          simp at qHV0 qHV1 qHV2 qHV3 qHV4 qHV5 qHV6 qHV7
          simp only [putsAt, List.foldl]
          unfold Runs
          go_simp
          exact hG _ _ (Below.refl _ _) (fun d' e => by cases e; exact ⟨⟨by decide, by decide⟩, by rw [hK]; first | rfl | (show _ = _; simp)⟩)
        refine List.forall_mem_cons.2 ⟨?_, ?_⟩
        · refine ObA.mk (KA.mono K 52 52) (by rfl) ?_
          intro z w' hb hz G hG
          have e45 : z 45 = .agg #[.int .i64 mln, .int .i64 mco, S mn, .bool mst, .slice mpA mpk mpc, S mrn, .bool mra, .slice mbA mbk mbc] := by have h := (hz 45 (by simp)).2; rw [hK] at h; exact h
          simp only [putsAt, List.foldl, e45]
          unfold Runs
          go_simp
          refine (HH2.out w' (HBWC.out.trans (hb.mono HBWC.out.size))).mono ?_
          rintro e w2 ⟨rfl, hb2⟩
          exact ⟨_, rfl, hG _ _ hb2 (fun d' e => by cases e; exact ⟨⟨by decide, by decide⟩, by rw [hK]; rfl⟩)⟩
        refine List.forall_mem_cons.2 ⟨?_, ?_⟩
        · refine ObA.mk (KA.mono K 52 52) (by rfl) ?_
          intro z w' hb hz G hG
          simp only [putsAt, List.foldl]
          unfold Runs
          go_simp
          exact hG _ _ (Below.refl _ _) (fun d' e => by cases e; exact ⟨⟨by decide, by decide⟩, by rw [hK]; first | rfl | (show _ = _; simp)⟩)
        refine List.forall_mem_cons.2 ⟨?_, ?_⟩
        · refine ObA.mk (KA.mono K 52 52) (by rfl) ?_
          intro z w' hb hz G hG
          have e47 : z 47 = .pointer (some ⟨g1, 7, none⟩) := by have h := (hz 47 (by simp)).2; rw [hK] at h; exact h
          have qHV7 := (HV.out.below hb HV.out.lt).cell 7
          simp at qHV7
          simp only [putsAt, List.foldl, e47]
          unfold Runs
          go_simp
          exact hG _ _ (Below.refl _ _) (fun d' e => by cases e; exact ⟨⟨by decide, by decide⟩, by rw [hK]; first | rfl | (show _ = _; simp)⟩)
        refine List.forall_mem_cons.2 ⟨?_, ?_⟩
        · refine ObA.mk (KA.mono K 52 52) (by rfl) ?_
          intro z w' hb hz G hG
          have e48 : z 48 = .slice mbA mbk mbc := by have h := (hz 48 (by simp)).2; rw [hK] at h; exact h
          simp only [putsAt, List.foldl, e48]
          unfold Runs
          go_simp
          refine (HO2.out w' (HBWC.out.trans (hb.mono HBWC.out.size))).mono ?_
          rintro e w2 ⟨rfl, hb2⟩
          exact ⟨_, rfl, hG _ _ hb2 (fun d' e => by cases e; exact ⟨⟨by decide, by decide⟩, by rw [hK]; rfl⟩)⟩
        refine List.forall_mem_cons.2 ⟨?_, ?_⟩
        · refine ObA.mk (KA.mono K 52 52) (by rfl) ?_
          intro z w' hb hz G hG
          have e46 : z 46 = S TH := by have h := (hz 46 (by simp)).2; rw [hK] at h; exact h
          have e49 : z 49 = S TO := by have h := (hz 49 (by simp)).2; rw [hK] at h; exact h
          simp only [putsAt, List.foldl, e46, e49]
          unfold Runs
          go_simp
          try rw [if_neg (by first | omega | (simp; omega))]
          exact hG _ _ (Below.refl _ _) (fun d' e => by cases e; exact ⟨⟨by decide, by decide⟩, by rw [hK]; first | rfl | (show _ = _; simp)⟩)
        refine List.forall_mem_cons.2 ⟨?_, ?_⟩
        · refine ObA.mk (KA.mono K 52 52) (by rfl) ?_
          intro z w' hb hz G hG
          have e50 : z 50 = S (TH ++ TO) := by have h := (hz 50 (by simp)).2; rw [hK] at h; exact h
          simp only [putsAt, List.foldl, e50]
          unfold Runs
          go_simp
          try rw [if_neg (by first | omega | (simp; omega))]
          exact hG _ _ (Below.refl _ _) (fun d' e => by cases e; exact ⟨⟨by decide, by decide⟩, by rw [hK]; first | rfl | (show _ = _; simp)⟩)
        refine List.forall_mem_cons.2 ⟨?_, ?_⟩
        · refine ObA.app (by rfl) TA.of ?_
          intro z w' hb hz G hG0
          have e51 : z 51 = S (TH ++ (TO ++ [10])) := by have h := (hz 51 (by simp)).2; rw [hK] at h; exact h
          replace hG0 := fun u w'' h1 h2 => hG0 u w'' (fun _ => h1) h2
          simp only [putsAt, List.foldl, e51]
          unfold Runs
          go_simp
          refine (wstr_any (TH ++ (TO ++ [10])) (HNC.out.below hb) (by have := HLX.out; simp at this ⊢; omega) (Nat.le_trans hgC hb.size)).mono ?_
          rintro e w2 ⟨⟨z2, rfl⟩, h1, h2⟩
          exact ⟨_, rfl, hG0 _ w2 trivial ⟨h1, (HBC.out.trans (hb.mono hgC)).trans h2⟩⟩
        exact List.forall_mem_nil _
      case hend =>
        intro z wZ hz hT
        have hR := hz 52 (by decide) (.inr rfl)
        clear hz hK
        simp only [putsAt, List.foldl, dstsOf, List.filterMap, Act.put, List.setIfInBounds_toArray, List.set_cons_zero, List.set_cons_succ]
        generalize z 45 = y45
        generalize z 46 = y46
        generalize z 47 = y47
        generalize z 48 = y48
        generalize z 49 = y49
        generalize z 50 = y50
        generalize z 51 = y51
        generalize z 52 = y52 at hR ⊢
        obtain ⟨hT1, hT2⟩ := hT
        have HNZ : Hid (Bdr g3 g3 (PF ++ (TM.take (j2 + 1)).flatten) wZ) := hide (by rw [HNX.out]; simpa using hT1)
        have HBZ := hide hT2
        clear hT1 hT2 hR
        go_wp2_with fail
        go_roundw
        case rel => first | exact ⟨j2 + 1, by omega, by go_num, HNZ, HBZ⟩ | ((repeat apply Exists.intro); exact ⟨⟨j2 + 1, by omega, by go_num, HNZ, HBZ⟩, rfl⟩)
        case measure => simp [intOf]; omega
    obtain rfl : j2 = cmq := by omega
    have hjk2 : ¬ (j2 : Int) < (j2 : Int) := by omega
    have HN7 : Hid (Bdr g3 g3 (PR ++ TF.flatten ++ TM.flatten) wr) := hide (by have := HNj.out; rw [List.take_of_length_le (by rw [HTML.out]; exact Nat.le_refl _), HPF.out] at this; exact this)
    clear HNj
    go_upto_region 17 with (go_at_call 50; refine (wstr_any [125, 10] HN7.out (by have := HBD.out; simp at this ⊢; omega) (Nat.le_trans hgA HBR.out.size)).mono ?_; rintro e w8 ⟨⟨z8, rfl⟩, hn8, hb8⟩)
    have HN8 := hide hn8
    have HB8 : Hid (Below g3 wA w8) := hide (HBR.out.trans hb8)
    clear hn8 hb8 HN7
    go_wp2_with (go_at_call 52; refine (bstr_any HN8.out (Nat.le_trans hgA HB8.out.size)).mono ?_; rintro e w9 ⟨rfl, hb9⟩; have HB9 : Hid (Below g3 wA w9) := hide (HB8.out.trans hb9); clear hb9)
    go_ret
    exact ⟨by simp [go_sem], HBA.out.trans (HB9.out.mono (Nat.le_of_lt hg2))⟩
  have hsn : (csu == []) = false := by simpa using hsu
  go_upto_region 5 with (go_at_call 50; refine (wstr_any (32 :: 101 :: 120 :: 116 :: 101 :: 110 :: 100 :: 115 :: 32 :: csu) HN1.out (by simp only [List.length_append, List.length_cons, List.length_nil]; omega) (Nat.le_trans hgA HB1.out.size)).mono ?_; rintro e w2 ⟨⟨z2, rfl⟩, hn2, hb2⟩)
  replace HN1 := hide hn2
  replace HB1 : Hid (Below g3 wA w2) := hide (HB1.out.trans hb2)
  replace HE1 := hide (HE1.out.below hb2 hg2)
  clear hn2 hb2 c3
  have c3 := HE1.out.cell 3
  simp at c3
  go_upto_region 6 with (go_at_call 50; refine (wstr_any [32, 123, 10] HN1.out (by simp only [List.length_append, List.length_cons, List.length_nil]; omega) (Nat.le_trans hgA HB1.out.size)).mono ?_; rintro e w3 ⟨⟨z3, rfl⟩, hn3, hb3⟩)
  have HN3 : Hid (Bdr g3 g3 (PR ++ (TF.take 0).flatten) w3) := hide (by
    have e : PR ++ (TF.take 0).flatten = [99, 108, 97, 115, 115, 32] ++ cn ++ ([32, 101, 120, 116, 101, 110, 100, 115, 32] ++ csu) ++ [32, 123, 10] := by rw [HPR.out]; simp [hsu]
    rw [e]
    simpa using hn3)
  have HB3 : Hid (Below g3 wA w3) := hide (HB1.out.trans hb3)
  have HE3 := hide (HE1.out.below hb3 hg2)
  clear hn3 hb3 HN1 HB1 HE1 c3
  have c4 := HE3.out.cell 4
  simp at c4
  go_wp2_with fail
  clear c4
  go_loopw [23] (fun i wr => ∃ j : Nat, j ≤ cfk ∧ i = .int .i64 j ∧ Hid (Bdr g3 g3 (PR ++ (TF.take j).flatten) wr) ∧ Hid (Below g3 wA wr)) (fun i _ => cfk - (intOf i).toNat)
  case atStart => exact ⟨0, Nat.zero_le _, rfl, HN3, HB3⟩
  case round =>
  obtain ⟨j, hj, rfl, HNj, HBR⟩ := hrel
  have HBW : Hid (Below w.heap.size w wr) := hide (HBA.out.trans (HBR.out.mono (Nat.le_of_lt hg2)))
  by_cases hlt : j < cfk
  case pos =>
    obtain ⟨b, o, hA, _, hbl, hcs⟩ := Rd.rec_ (f := Vr.cells) (size := 3) (fun _ => rfl) ((HAT.out.on HBW.out).fr) HFL.out j hlt
    have hlk : j < cfs.length := by have := HFL.out; omega
    have hlT : j < TF.length := by rw [HTFL.out]; exact hlt
    have hvb := HFV.out cfs[j] (List.getElem_mem hlk)
    have HXE : Hid (TF[j] = fieldT cfs[j]) := hide (by have := HTF.out (); subst this; simp)
    have HLX : Hid ((PR ++ (TF.take j).flatten).length + (fieldT cfs[j]).length ≤ 4000000000) := hide (by rw [← HXE.out]; exact part_bd HBF.out hlT)
    have HNX : Hid (PR ++ (TF.take (j + 1)).flatten = PR ++ (TF.take j).flatten ++ fieldT cfs[j]) := hide (by rw [← HXE.out, List.take_succ_eq_append_getElem hlT]; simp only [List.flatten_append, List.flatten_cons, List.flatten_nil, List.append_nil, List.append_assoc])
    clear HXE hlT
    generalize cfs[j] = x at hcs hvb HLX HNX
    obtain ⟨vn, ⟨vt, va⟩⟩ := x
    have q0 := hcs 0 (S vn) rfl
    have q1 := hcs 1 (S vt) rfl
    have q2 := hcs 2 (.bool va) rfl
    simp only [Nat.add_zero] at q0 q1 q2
    clear hcs
    have hvn : vn.length ≤ 104857600 := by simp only [Vr.len] at hvb; omega
    have hvt : vt.length ≤ 104857600 := by simp only [Vr.len] at hvb; omega
    clear hvb
    have hvty := tyT_len vt va
    have HVT := hide (fun w' => tytext_any vt va (by omega) w')
    have HPT : Hid (fieldT ⟨vn, ⟨vt, va⟩⟩ = 9 :: 102 :: 105 :: 101 :: 108 :: 100 :: 32 :: (tyT vt va ++ 32 :: (vn ++ [59, 10]))) := hide (by simp [fieldT])
    rw [HPT.out] at HLX HNX
    clear HPT
    generalize tyT vt va = TV at HVT HLX HNX hvty
    obtain ⟨L, hLe⟩ : ∃ L, L = PR ++ (TF.take j).flatten := ⟨_, rfl⟩
    rw [← hLe] at HNX HLX HNj
    clear hLe
    replace hA : cfA = some ⟨b, o, none⟩ := hA
    rw [hA]
    have hjk : (j : Int) < (cfk : Int) := by omega
    go_upto_region 9 with fail
    refine name_world ?_
    intro wC hwC
    have hbc : Below wr.heap.size wr wC := by rw [hwC]; exact (Below.refl _ _).alloc (Nat.le_refl _) _
    have HV : Hid (Blk wC wr.heap.size 50 #[S vn, S vt, .bool va]) := hide (by rw [hwC]; exact Blk.new _ _ _)
    have HBC : Hid (Below g3 wA wC) := hide (HBR.out.trans (hbc.mono (Nat.le_trans hgA HBR.out.size)))
    have HNC := hide (HNj.out.below hbc)
    have hgC : g3 ≤ wC.heap.size := Nat.le_trans hgA HBC.out.size
    clear hwC hbc HBR HNj q0 q1 q2 HBW
    generalize wr.heap.size = g1 at HV ⊢
    obtain ⟨K, hK⟩ : ∃ K : Nat → Qk, K = (fun d => match d with | 27 => .is (.pointer (some ⟨g1, 1, none⟩)) | 28 => .is (.agg #[S vt, .bool va]) | 29 => .is (S TV) | 30 => .is (S (9 :: 102 :: 105 :: 101 :: 108 :: 100 :: 32 :: TV)) | 31 => .is (S (9 :: 102 :: 105 :: 101 :: 108 :: 100 :: 32 :: (TV ++ [32]))) | 32 => .is (.pointer (some ⟨g1, 0, none⟩)) | 33 => .is (S vn) | 34 => .is (S (9 :: 102 :: 105 :: 101 :: 108 :: 100 :: 32 :: (TV ++ 32 :: vn))) | 35 => .is (S (9 :: 102 :: 105 :: 101 :: 108 :: 100 :: 32 :: (TV ++ 32 :: (vn ++ [59, 10])))) | _ => .any) := ⟨_, rfl⟩
    refine region_qxa (by kernel_rfl) [⟨0, some 27, false, [0], []⟩, ⟨1, some 28, false, [0], [27]⟩, ⟨2, some 29, false, [0], [28]⟩, ⟨3, some 30, false, [0], [29]⟩, ⟨4, some 31, false, [0], [30]⟩, ⟨5, some 32, false, [0], []⟩, ⟨6, some 33, false, [0], [32]⟩, ⟨7, some 34, false, [0], [31, 33]⟩, ⟨8, some 35, false, [0], [34]⟩, ⟨9, some 36, true, [0], [35]⟩] 9 (KA K 36 36) (TA (fun _ _ => True) 36 36) (fun w' => Bdr g3 g3 (L ++ (9 :: 102 :: 105 :: 101 :: 108 :: 100 :: 32 :: (TV ++ 32 :: (vn ++ [59, 10])))) w' ∧ Below g3 wA w') (by kernel_rfl) ?obs ?hend
    case obs =>
      refine List.forall_mem_cons.2 ⟨?_, ?_⟩
      · refine ObA.mk (KA.mono K 36 36) (by rfl) ?_
        intro z w' hb hz G hG
        simp only [putsAt, List.foldl]
        unfold Runs
        go_simp
        exact hG _ _ (Below.refl _ _) (fun d' e => by cases e; exact ⟨⟨by decide, by decide⟩, by rw [hK]; first | rfl | (show _ = _; simp)⟩)
      refine List.forall_mem_cons.2 ⟨?_, ?_⟩
      · refine ObA.mk (KA.mono K 36 36) (by rfl) ?_
        intro z w' hb hz G hG
        have e27 : z 27 = .pointer (some ⟨g1, 1, none⟩) := by have h := (hz 27 (by simp)).2; rw [hK] at h; exact h
        have qHV1 := (HV.out.below hb HV.out.lt).cell 1
        have qHV2 := (HV.out.below hb HV.out.lt).cell 2
        simp at qHV1 qHV2
        simp only [putsAt, List.foldl, e27]
        unfold Runs
        go_simp
        exact hG _ _ (Below.refl _ _) (fun d' e => by cases e; exact ⟨⟨by decide, by decide⟩, by rw [hK]; first | rfl | (show _ = _; simp)⟩)
      refine List.forall_mem_cons.2 ⟨?_, ?_⟩
      · refine ObA.mk (KA.mono K 36 36) (by rfl) ?_
        intro z w' hb hz G hG
        have e28 : z 28 = .agg #[S vt, .bool va] := by have h := (hz 28 (by simp)).2; rw [hK] at h; exact h
        simp only [putsAt, List.foldl, e28]
        unfold Runs
        go_simp
        refine (HVT.out w').mono ?_
        rintro e w2 ⟨rfl, hb2⟩
        exact ⟨_, rfl, hG _ _ hb2 (fun d' e => by cases e; exact ⟨⟨by decide, by decide⟩, by rw [hK]; rfl⟩)⟩
      refine List.forall_mem_cons.2 ⟨?_, ?_⟩
      · refine ObA.mk (KA.mono K 36 36) (by rfl) ?_
        intro z w' hb hz G hG
        have e29 : z 29 = S TV := by have h := (hz 29 (by simp)).2; rw [hK] at h; exact h
        simp only [putsAt, List.foldl, e29]
        unfold Runs
        go_simp
        try rw [if_neg (by first | omega | (simp; omega))]
        exact hG _ _ (Below.refl _ _) (fun d' e => by cases e; exact ⟨⟨by decide, by decide⟩, by rw [hK]; first | rfl | (show _ = _; simp)⟩)
      refine List.forall_mem_cons.2 ⟨?_, ?_⟩
      · refine ObA.mk (KA.mono K 36 36) (by rfl) ?_
        intro z w' hb hz G hG
        have e30 : z 30 = S (9 :: 102 :: 105 :: 101 :: 108 :: 100 :: 32 :: TV) := by have h := (hz 30 (by simp)).2; rw [hK] at h; exact h
        simp only [putsAt, List.foldl, e30]
        unfold Runs
        go_simp
        try rw [if_neg (by first | omega | (simp; omega))]
        exact hG _ _ (Below.refl _ _) (fun d' e => by cases e; exact ⟨⟨by decide, by decide⟩, by rw [hK]; first | rfl | (show _ = _; simp)⟩)
      refine List.forall_mem_cons.2 ⟨?_, ?_⟩
      · refine ObA.mk (KA.mono K 36 36) (by rfl) ?_
        intro z w' hb hz G hG
        simp only [putsAt, List.foldl]
        unfold Runs
        go_simp
        exact hG _ _ (Below.refl _ _) (fun d' e => by cases e; exact ⟨⟨by decide, by decide⟩, by rw [hK]; first | rfl | (show _ = _; simp)⟩)
      refine List.forall_mem_cons.2 ⟨?_, ?_⟩
      · refine ObA.mk (KA.mono K 36 36) (by rfl) ?_
        intro z w' hb hz G hG
        have e32 : z 32 = .pointer (some ⟨g1, 0, none⟩) := by have h := (hz 32 (by simp)).2; rw [hK] at h; exact h
        have qHV0 := (HV.out.below hb HV.out.lt).cell 0
        simp at qHV0
        simp only [putsAt, List.foldl, e32]
        unfold Runs
        go_simp
        exact hG _ _ (Below.refl _ _) (fun d' e => by cases e; exact ⟨⟨by decide, by decide⟩, by rw [hK]; first | rfl | (show _ = _; simp)⟩)
      refine List.forall_mem_cons.2 ⟨?_, ?_⟩
      · refine ObA.mk (KA.mono K 36 36) (by rfl) ?_
        intro z w' hb hz G hG
        have e31 : z 31 = S (9 :: 102 :: 105 :: 101 :: 108 :: 100 :: 32 :: (TV ++ [32])) := by have h := (hz 31 (by simp)).2; rw [hK] at h; exact h
        have e33 : z 33 = S vn := by have h := (hz 33 (by simp)).2; rw [hK] at h; exact h
        simp only [putsAt, List.foldl, e31, e33]
        unfold Runs
        go_simp
        try rw [if_neg (by first | omega | (simp; omega))]
        exact hG _ _ (Below.refl _ _) (fun d' e => by cases e; exact ⟨⟨by decide, by decide⟩, by rw [hK]; first | rfl | (show _ = _; simp)⟩)
      refine List.forall_mem_cons.2 ⟨?_, ?_⟩
      · refine ObA.mk (KA.mono K 36 36) (by rfl) ?_
        intro z w' hb hz G hG
        have e34 : z 34 = S (9 :: 102 :: 105 :: 101 :: 108 :: 100 :: 32 :: (TV ++ 32 :: vn)) := by have h := (hz 34 (by simp)).2; rw [hK] at h; exact h
        simp only [putsAt, List.foldl, e34]
        unfold Runs
        go_simp
        try rw [if_neg (by first | omega | (simp; omega))]
        exact hG _ _ (Below.refl _ _) (fun d' e => by cases e; exact ⟨⟨by decide, by decide⟩, by rw [hK]; first | rfl | (show _ = _; simp)⟩)
      refine List.forall_mem_cons.2 ⟨?_, ?_⟩
      · refine ObA.app (by rfl) TA.of ?_
        intro z w' hb hz G hG0
        have e35 : z 35 = S (9 :: 102 :: 105 :: 101 :: 108 :: 100 :: 32 :: (TV ++ 32 :: (vn ++ [59, 10]))) := by have h := (hz 35 (by simp)).2; rw [hK] at h; exact h
        replace hG0 := fun u w'' h1 h2 => hG0 u w'' (fun _ => h1) h2
        simp only [putsAt, List.foldl, e35]
        unfold Runs
        go_simp
        refine (wstr_any (9 :: 102 :: 105 :: 101 :: 108 :: 100 :: 32 :: (TV ++ 32 :: (vn ++ [59, 10]))) (HNC.out.below hb) (by have := HLX.out; omega) (Nat.le_trans hgC hb.size)).mono ?_
        rintro e w2 ⟨⟨z2, rfl⟩, h1, h2⟩
        exact ⟨_, rfl, hG0 _ w2 trivial ⟨h1, (HBC.out.trans (hb.mono hgC)).trans h2⟩⟩
      exact List.forall_mem_nil _
    case hend =>
      intro z wZ hz hT
      have hR := hz 36 (by decide) (.inr rfl)
      clear hz hK
      simp only [putsAt, List.foldl, dstsOf, List.filterMap, Act.put, List.setIfInBounds_toArray, List.set_cons_zero, List.set_cons_succ]
      generalize z 27 = y27
      generalize z 28 = y28
      generalize z 29 = y29
      generalize z 30 = y30
      generalize z 31 = y31
      generalize z 32 = y32
      generalize z 33 = y33
      generalize z 34 = y34
      generalize z 35 = y35
      generalize z 36 = y36 at hR ⊢
      obtain ⟨hT1, hT2⟩ := hT
      have HNZ : Hid (Bdr g3 g3 (PR ++ (TF.take (j + 1)).flatten) wZ) := hide (by rw [HNX.out]; exact hT1)
      have HBZ := hide hT2
      clear hT1 hT2 hR
      go_wp2_with fail
      go_roundw
      case rel => first | exact ⟨j + 1, by omega, by go_num, HNZ, HBZ⟩ | ((repeat apply Exists.intro); exact ⟨⟨j + 1, by omega, by go_num, HNZ, HBZ⟩, rfl⟩)
      case measure => simp [intOf]; omega
  obtain rfl : j = cfk := by omega
  have hjk : ¬ (j : Int) < (j : Int) := by omega
  have HN5 : Hid (Bdr g3 g3 (PR ++ TF.flatten ++ (TM.take 0).flatten) wr) := hide (by have := HNj.out; rw [List.take_of_length_le (by rw [HTFL.out]; exact Nat.le_refl _)] at this; simpa using this)
  have HB5 := HBR
  have HE5 := hide (HE.out.below HBR.out hg2)
  have c5 := HE5.out.cell 5
  simp at c5
  clear HNj HE3 HB3 HN3
  go_wp2_with fail
  clear c5
  obtain ⟨PF, hPF⟩ : ∃ PF, PF = PR ++ TF.flatten := ⟨_, rfl⟩
  rw [← hPF] at HN5
  have HPF := hide hPF
  clear hPF HBW
  go_loopw [41] (fun i wr => ∃ j : Nat, j ≤ cmq ∧ i = .int .i64 j ∧ Hid (Bdr g3 g3 (PF ++ (TM.take j).flatten) wr) ∧ Hid (Below g3 wA wr)) (fun i _ => cmq - (intOf i).toNat)
  case atStart => exact ⟨0, Nat.zero_le _, rfl, HN5, HB5⟩
  case round =>
  obtain ⟨j2, hj2, rfl, HNj, HBR⟩ := hrel
  have HBW : Hid (Below w.heap.size w wr) := hide (HBA.out.trans (HBR.out.mono (Nat.le_of_lt hg2)))
  by_cases hlt : j2 < cmq
  case pos =>
    obtain ⟨b, o, hA, _, hbl, hcs⟩ := Rd.rec_ (f := Me.cells) Me.cells_len ((HAT.out.on HBW.out).mr) HMQ.out j2 hlt
    have hlk : j2 < cms.length := by have := HMQ.out; omega
    have hlT : j2 < TM.length := by rw [HTML.out]; exact hlt
    have HH2 : Hid (∀ w', Below w.heap.size w w' → Calls Tryd.prog 51 #[cms[j2].val] w' (Gives w' (S cms[j2].headT))) := hide (HHD.out cms[j2] (List.getElem_mem hlk))
    have HO2 : Hid (∀ w', Below w.heap.size w w' → Calls Tryd.prog 48 #[.slice cms[j2].bA cms[j2].bk cms[j2].bc, .int .i64 1] w' (Gives w' (S (blockT 1 (cms[j2].bs.map fun x : St => x.text (1 + 1)))))) := hide (HBO.out cms[j2] (List.getElem_mem hlk))
    have hbl2 := HBL.out cms[j2] (List.getElem_mem hlk)
    have HXE : Hid (TM[j2] = cms[j2].headT ++ blockT 1 (cms[j2].bs.map fun x : St => x.text (1 + 1)) ++ [10]) := hide (by have := HTM.out (); subst this; simp [Me.textT])
    have HLX : Hid ((PF ++ (TM.take j2).flatten).length + (cms[j2].headT ++ blockT 1 (cms[j2].bs.map fun x : St => x.text (1 + 1)) ++ [10]).length ≤ 4000000000) := hide (by rw [← HXE.out, HPF.out]; exact part_bd HBD.out hlT)
    have HNX : Hid (PF ++ (TM.take (j2 + 1)).flatten = PF ++ (TM.take j2).flatten ++ (cms[j2].headT ++ blockT 1 (cms[j2].bs.map fun x : St => x.text (1 + 1)) ++ [10])) := hide (by rw [← HXE.out, List.take_succ_eq_append_getElem hlT]; simp only [List.flatten_append, List.flatten_cons, List.flatten_nil, List.append_nil, List.append_assoc])
    clear HXE hlT
    generalize cms[j2] = x at hcs HH2 HO2 hbl2 HLX HNX
    obtain ⟨TH, hTH⟩ : ∃ TH, TH = x.headT := ⟨_, rfl⟩
    obtain ⟨TO, hTO⟩ : ∃ TO, TO = blockT 1 (x.bs.map fun x : St => x.text (1 + 1)) := ⟨_, rfl⟩
    rw [← hTH] at HH2 hbl2 HLX HNX
    rw [← hTO] at HO2 hbl2 HLX HNX
    clear hTH hTO
    obtain ⟨mln, mco, mn, mst, mpA, mpk, mpc, mps, mrn, mra, mbA, mbk, mbc, mbs⟩ := x
    replace HO2 : Hid (∀ w', Below w.heap.size w w' → Calls Tryd.prog 48 #[.slice mbA mbk mbc, .int .i64 1] w' (Gives w' (S TO))) := HO2
    obtain ⟨hth, hto⟩ := hbl2
    have q0 := hcs 0 (.int .i64 mln) rfl
    have q1 := hcs 1 (.int .i64 mco) rfl
    have q2 := hcs 2 (S mn) rfl
    have q3 := hcs 3 (.bool mst) rfl
    have q4 := hcs 4 (.slice mpA mpk mpc) rfl
    have q5 := hcs 5 (S mrn) rfl
    have q6 := hcs 6 (.bool mra) rfl
    have q7 := hcs 7 (.slice mbA mbk mbc) rfl
    simp only [Nat.add_zero] at q0 q1 q2 q3 q4 q5 q6 q7
    clear hcs
    obtain ⟨L, hLe⟩ : ∃ L, L = PF ++ (TM.take j2).flatten := ⟨_, rfl⟩
    rw [← hLe] at HNX HLX HNj
    clear hLe
    replace hA : cmA = some ⟨b, o, none⟩ := hA
    rw [hA]
    have hjk2 : (j2 : Int) < (cmq : Int) := by omega
    go_upto_region 14 with fail
    refine name_world ?_
    intro wC hwC
    have hbc : Below wr.heap.size wr wC := by rw [hwC]; exact (Below.refl _ _).alloc (Nat.le_refl _) _
    have HV : Hid (Blk wC wr.heap.size 48 #[.int .i64 mln, .int .i64 mco, S mn, .bool mst, .slice mpA mpk mpc, S mrn, .bool mra, .slice mbA mbk mbc]) := hide (by rw [hwC]; exact Blk.new _ _ _)
    have HBC : Hid (Below g3 wA wC) := hide (HBR.out.trans (hbc.mono (Nat.le_trans hgA HBR.out.size)))
    have HBWC : Hid (Below w.heap.size w wC) := hide (HBW.out.trans (hbc.mono HBW.out.size))
    have HNC := hide (HNj.out.below hbc)
    have hgC : g3 ≤ wC.heap.size := Nat.le_trans hgA HBC.out.size
    clear hwC hbc HBR HNj q0 q1 q2 q3 q4 q5 q6 q7 HBW
    generalize wr.heap.size = g1 at HV ⊢
    obtain ⟨K, hK⟩ : ∃ K : Nat → Qk, K = (fun d => match d with | 45 => .is (.agg #[.int .i64 mln, .int .i64 mco, S mn, .bool mst, .slice mpA mpk mpc, S mrn, .bool mra, .slice mbA mbk mbc]) | 46 => .is (S TH) | 47 => .is (.pointer (some ⟨g1, 7, none⟩)) | 48 => .is (.slice mbA mbk mbc) | 49 => .is (S TO) | 50 => .is (S (TH ++ TO)) | 51 => .is (S (TH ++ (TO ++ [10]))) | _ => .any) := ⟨_, rfl⟩
    refine region_qxa (by kernel_rfl) [⟨0, some 45, false, [0], []⟩, ⟨1, some 46, false, [0], [45]⟩, ⟨2, some 47, false, [0], []⟩, ⟨3, some 48, false, [0], [47]⟩, ⟨4, some 49, false, [0], [48]⟩, ⟨5, some 50, false, [0], [46, 49]⟩, ⟨6, some 51, false, [0], [50]⟩, ⟨7, some 52, true, [0], [51]⟩] 7 (KA K 52 52) (TA (fun _ _ => True) 52 52) (fun w' => Bdr g3 g3 (L ++ (TH ++ (TO ++ [10]))) w' ∧ Below g3 wA w') (by kernel_rfl) ?obs ?hend
    case obs =>
      refine List.forall_mem_cons.2 ⟨?_, ?_⟩
      · refine ObA.mk (KA.mono K 52 52) (by rfl) ?_
        intro z w' hb hz G hG
        have qHV0 := (HV.out.below hb HV.out.lt).cell 0
        have qHV1 := (HV.out.below hb HV.out.lt).cell 1
        have qHV2 := (HV.out.below hb HV.out.lt).cell 2
        have qHV3 := (HV.out.below hb HV.out.lt).cell 3
        have qHV4 := (HV.out.below hb HV.out.lt).cell 4
        have qHV5 := (HV.out.below hb HV.out.lt).cell 5
        have qHV6 := (HV.out.below hb HV.out.lt).cell 6
        have qHV7 := (HV.out.below hb HV.out.lt).cell 7
        simp at qHV0 qHV1 qHV2 qHV3 qHV4 qHV5 qHV6 qHV7
        simp only [putsAt, List.foldl]
        unfold Runs
        go_simp
        exact hG _ _ (Below.refl _ _) (fun d' e => by cases e; exact ⟨⟨by decide, by decide⟩, by rw [hK]; first | rfl | (show _ = _; simp)⟩)
      refine List.forall_mem_cons.2 ⟨?_, ?_⟩
      · refine ObA.mk (KA.mono K 52 52) (by rfl) ?_
        intro z w' hb hz G hG
        have e45 : z 45 = .agg #[.int .i64 mln, .int .i64 mco, S mn, .bool mst, .slice mpA mpk mpc, S mrn, .bool mra, .slice mbA mbk mbc] := by have h := (hz 45 (by simp)).2; rw [hK] at h; exact h
        simp only [putsAt, List.foldl, e45]
        unfold Runs
        go_simp
        refine (HH2.out w' (HBWC.out.trans (hb.mono HBWC.out.size))).mono ?_
        rintro e w2 ⟨rfl, hb2⟩
        exact ⟨_, rfl, hG _ _ hb2 (fun d' e => by cases e; exact ⟨⟨by decide, by decide⟩, by rw [hK]; rfl⟩)⟩
      refine List.forall_mem_cons.2 ⟨?_, ?_⟩
      · refine ObA.mk (KA.mono K 52 52) (by rfl) ?_
        intro z w' hb hz G hG
        simp only [putsAt, List.foldl]
        unfold Runs
        go_simp
        exact hG _ _ (Below.refl _ _) (fun d' e => by cases e; exact ⟨⟨by decide, by decide⟩, by rw [hK]; first | rfl | (show _ = _; simp)⟩)
      refine List.forall_mem_cons.2 ⟨?_, ?_⟩
      · refine ObA.mk (KA.mono K 52 52) (by rfl) ?_
        intro z w' hb hz G hG
        have e47 : z 47 = .pointer (some ⟨g1, 7, none⟩) := by have h := (hz 47 (by simp)).2; rw [hK] at h; exact h
        have qHV7 := (HV.out.below hb HV.out.lt).cell 7
        simp at qHV7
        simp only [putsAt, List.foldl, e47]
        unfold Runs
        go_simp
        exact hG _ _ (Below.refl _ _) (fun d' e => by cases e; exact ⟨⟨by decide, by decide⟩, by rw [hK]; first | rfl | (show _ = _; simp)⟩)
      refine List.forall_mem_cons.2 ⟨?_, ?_⟩
      · refine ObA.mk (KA.mono K 52 52) (by rfl) ?_
        intro z w' hb hz G hG
        have e48 : z 48 = .slice mbA mbk mbc := by have h := (hz 48 (by simp)).2; rw [hK] at h; exact h
        simp only [putsAt, List.foldl, e48]
        unfold Runs
        go_simp
        refine (HO2.out w' (HBWC.out.trans (hb.mono HBWC.out.size))).mono ?_
        rintro e w2 ⟨rfl, hb2⟩
        exact ⟨_, rfl, hG _ _ hb2 (fun d' e => by cases e; exact ⟨⟨by decide, by decide⟩, by rw [hK]; rfl⟩)⟩
      refine List.forall_mem_cons.2 ⟨?_, ?_⟩
      · refine ObA.mk (KA.mono K 52 52) (by rfl) ?_
        intro z w' hb hz G hG
        have e46 : z 46 = S TH := by have h := (hz 46 (by simp)).2; rw [hK] at h; exact h
        have e49 : z 49 = S TO := by have h := (hz 49 (by simp)).2; rw [hK] at h; exact h
        simp only [putsAt, List.foldl, e46, e49]
        unfold Runs
        go_simp
        try rw [if_neg (by first | omega | (simp; omega))]
        exact hG _ _ (Below.refl _ _) (fun d' e => by cases e; exact ⟨⟨by decide, by decide⟩, by rw [hK]; first | rfl | (show _ = _; simp)⟩)
      refine List.forall_mem_cons.2 ⟨?_, ?_⟩
      · refine ObA.mk (KA.mono K 52 52) (by rfl) ?_
        intro z w' hb hz G hG
        have e50 : z 50 = S (TH ++ TO) := by have h := (hz 50 (by simp)).2; rw [hK] at h; exact h
        simp only [putsAt, List.foldl, e50]
        unfold Runs
        go_simp
        try rw [if_neg (by first | omega | (simp; omega))]
        exact hG _ _ (Below.refl _ _) (fun d' e => by cases e; exact ⟨⟨by decide, by decide⟩, by rw [hK]; first | rfl | (show _ = _; simp)⟩)
      refine List.forall_mem_cons.2 ⟨?_, ?_⟩
      · refine ObA.app (by rfl) TA.of ?_
        intro z w' hb hz G hG0
        have e51 : z 51 = S (TH ++ (TO ++ [10])) := by have h := (hz 51 (by simp)).2; rw [hK] at h; exact h
        replace hG0 := fun u w'' h1 h2 => hG0 u w'' (fun _ => h1) h2
        simp only [putsAt, List.foldl, e51]
        unfold Runs
        go_simp
        refine (wstr_any (TH ++ (TO ++ [10])) (HNC.out.below hb) (by have := HLX.out; simp at this ⊢; omega) (Nat.le_trans hgC hb.size)).mono ?_
        rintro e w2 ⟨⟨z2, rfl⟩, h1, h2⟩
        exact ⟨_, rfl, hG0 _ w2 trivial ⟨h1, (HBC.out.trans (hb.mono hgC)).trans h2⟩⟩
      exact List.forall_mem_nil _
    case hend =>
      intro z wZ hz hT
      have hR := hz 52 (by decide) (.inr rfl)
      clear hz hK
      simp only [putsAt, List.foldl, dstsOf, List.filterMap, Act.put, List.setIfInBounds_toArray, List.set_cons_zero, List.set_cons_succ]
      generalize z 45 = y45
      generalize z 46 = y46
      generalize z 47 = y47
      generalize z 48 = y48
      generalize z 49 = y49
      generalize z 50 = y50
      generalize z 51 = y51
      generalize z 52 = y52 at hR ⊢
      obtain ⟨hT1, hT2⟩ := hT
      have HNZ : Hid (Bdr g3 g3 (PF ++ (TM.take (j2 + 1)).flatten) wZ) := hide (by rw [HNX.out]; simpa using hT1)
      have HBZ := hide hT2
      clear hT1 hT2 hR
      go_wp2_with fail
      go_roundw
      case rel => first | exact ⟨j2 + 1, by omega, by go_num, HNZ, HBZ⟩ | ((repeat apply Exists.intro); exact ⟨⟨j2 + 1, by omega, by go_num, HNZ, HBZ⟩, rfl⟩)
      case measure => simp [intOf]; omega
  obtain rfl : j2 = cmq := by omega
  have hjk2 : ¬ (j2 : Int) < (j2 : Int) := by omega
  have HN7 : Hid (Bdr g3 g3 (PR ++ TF.flatten ++ TM.flatten) wr) := hide (by have := HNj.out; rw [List.take_of_length_le (by rw [HTML.out]; exact Nat.le_refl _), HPF.out] at this; exact this)
  clear HNj
  go_upto_region 17 with (go_at_call 50; refine (wstr_any [125, 10] HN7.out (by have := HBD.out; simp at this ⊢; omega) (Nat.le_trans hgA HBR.out.size)).mono ?_; rintro e w8 ⟨⟨z8, rfl⟩, hn8, hb8⟩)
  have HN8 := hide hn8
  have HB8 : Hid (Below g3 wA w8) := hide (HBR.out.trans hb8)
  clear hn8 hb8 HN7
  go_wp2_with (go_at_call 52; refine (bstr_any HN8.out (Nat.le_trans hgA HB8.out.size)).mono ?_; rintro e w9 ⟨rfl, hb9⟩; have HB9 : Hid (Below g3 wA w9) := hide (HB8.out.trans hb9); clear hb9)
  go_ret
  exact ⟨by simp [go_sem], HBA.out.trans (HB9.out.mono (Nat.le_of_lt hg2))⟩
end Go.Proofs.YtleccalfcnkklaaDoor
