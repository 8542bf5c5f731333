/- A method's head, a class, as text, walked; no statement of the seat is proved here. -/
import Derived.Test.YtleccalfcnkklaaDoorKlass
import Derived.Test.YtleccalfcnkklaaDoorKlFew
import Derived.Test.YtleccalfcnkklaaDoorStmText
import Derived.Test.YtleccalfcnkklaaDoorQxa
namespace Go.Proofs.YtleccalfcnkklaaDoor
open Go.RowKit
set_option linter.unusedVariables false

def parT (v : Vr) : List UInt8 := tyT v.t.n v.t.a ++ [32] ++ v.n
def fieldT (v : Vr) : List UInt8 := [9, 102, 105, 101, 108, 100, 32] ++ tyT v.t.n v.t.a ++ [32] ++ v.n ++ [59, 10]
def Me.headT (m : Me) : List UInt8 := (if m.st then [9, 115, 116, 97, 116, 105, 99, 32, 109, 101, 116, 104, 111, 100, 32] else [9, 109, 101, 116, 104, 111, 100, 32]) ++ tyT m.rn m.ra ++ [32] ++ m.n ++ [40] ++ joinC (m.ps.map parT) ++ [41, 32]
def Me.textT (m : Me) : List UInt8 := m.headT ++ blockT 1 (m.bs.map fun x => x.text (1 + 1)) ++ [10]
def Kl.text (c : Kl) : List UInt8 := [99, 108, 97, 115, 115, 32] ++ c.n ++ (if c.su = [] then [] else [32, 101, 120, 116, 101, 110, 100, 115, 32] ++ c.su) ++ [32, 123, 10] ++ (c.fs.map fieldT).flatten ++ (c.ms.map Me.textT).flatten ++ [125, 10]

theorem tyT_len (tn : List UInt8) (ta : Bool) : (tyT tn ta).length ≤ tn.length + 2 := by unfold tyT; split <;> (try rw [List.length_append]) <;> (try simp only [List.length_cons, List.length_nil]) <;> omega
theorem parT_len (v : Vr) : (parT v).length + 4 ≤ v.len := by
  have := tyT_len v.t.n v.t.a
  simp only [parT, Vr.len, List.length_append, List.length_cons, List.length_nil]
  omega
theorem fieldT_len (v : Vr) : (fieldT v).length ≤ v.len := by
  have := tyT_len v.t.n v.t.a
  simp only [fieldT, Vr.len, List.length_append, List.length_cons, List.length_nil]
  omega
theorem parts_bd (ps : List Vr) : ((ps.map parT).map List.length).sum + 4 * (ps.map parT).length ≤ (ps.map Vr.len).sum := by
  induction ps with
  | nil => simp
  | cons a l ih =>
    have := parT_len a
    simp only [List.map_cons, List.sum_cons, List.length_cons] at ih ⊢
    omega
theorem headT_len (m : Me) : m.headT.length ≤ m.len + (m.ps.map Vr.len).sum := by
  have h1 := tyT_len m.rn m.ra
  have h2 := joinC_bd (parts_bd m.ps)
  have h3 : (if m.st then [9, 115, 116, 97, 116, 105, 99, 32, 109, 101, 116, 104, 111, 100, 32] else [9, 109, 101, 116, 104, 111, 100, 32] : List UInt8).length ≤ 20 := by split <;> decide
  simp only [Me.headT, Me.len, List.length_append, List.length_cons, List.length_nil]
  omega
/-- A statement's text by how much it holds. -/
theorem St.text16 (s : St) : ∀ {w : World} {F : Nat → Prop} (q d : Nat), s.At w F → s.few q = true → d ≤ 10 + q → (s.text d).length ≤ 16 * s.len := by
  induction s using St.ind with
  | h s iht ihl =>
    intro w F q d hat hf hd
    have hq := (St.few_text s q d hat hf hd).1
    obtain ⟨ds, ln, co, n, tn, ta, eA, ek, ec, es, tA, tk, tc, ts, lA, lk, lc, ls⟩ := s
    cases hat with
    | mk hr hl hkc hk hea tr tl tkc tk' hta lr ll lkc lk' hla hi hs =>
    rw [St.few_mk] at hf
    simp only [Bool.and_eq_true, decide_eq_true_eq, fewL] at hf
    obtain ⟨⟨⟨⟨⟨h1, h2⟩, h3⟩, ⟨⟨h4, h5⟩, h6⟩⟩, ⟨⟨_, h7⟩, h8⟩⟩, h9⟩ := hf
    have fl : ∀ l : List St, (∀ x ∈ l, (x.text (d + 1)).length ≤ 16 * x.len) → (l.map fun x => x.text (d + 1)).flatten.length ≤ 16 * (l.map St.len).sum := by
      intro l
      induction l with
      | nil => intro _; simp
      | cons a l ih =>
        intro h
        have h1 := h a List.mem_cons_self
        have h2 := ih fun x hx => h x (List.mem_cons_of_mem _ hx)
        simp only [List.map_cons, List.flatten_cons, List.length_append, List.sum_cons, Nat.mul_add]
        omega
    have IT := fl ts fun x hx => iht x hx (q + 1) (d + 1) (hta x hx) (List.all_eq_true.1 h6 x hx) (by omega)
    have IL := fl ls fun x hx => ihl x hx (q + 1) (d + 1) (hla x hx) (List.all_eq_true.1 h8 x hx) (by omega)
    have kd : ∀ i, (kidT (es.map Ex.text) i).length ≤ 4 + (es.map Ex.len).sum := fun i => by
      unfold kidT
      rcases Nat.lt_or_ge i es.length with hi | hi
      · have e : (es.map Ex.text).getD i nul = es[i].text := by simp [List.getD, hi]
        rw [e]
        have h1 := Ex.text_len (hea _ (List.getElem_mem hi))
        have h2 := sum_mem (f := Ex.len) (List.getElem_mem hi)
        omega
      · have e : (es.map Ex.text).getD i nul = nul := by simp [List.getD, hi]
        rw [e]
        have : nul.length = 4 := rfl
        omega
    have k0 := kd 0
    have k1 := kd 1
    have htab : (tabs d).length = d := by simp [tabs]
    have hty := tyT_len tn ta
    rw [St.text_mk, St.len_mk]
    have hb : (blockT d (ts.map fun x => x.text (d + 1))).length ≤ 17 + 16 * (ts.map St.len).sum := by simp only [blockT, List.length_append, List.length_cons, List.length_nil, htab]; omega
    have hel : (elseT d ls.length (ls.map fun x => x.text (d + 1))).length ≤ 23 + 16 * (ls.map St.len).sum := by
      unfold elseT
      split
      · simp
      · simp only [blockT, List.length_append, List.length_cons, List.length_nil, htab]; omega
    unfold stK
    repeat' with_reducible refine itb_bd ?_ ?_
    all_goals
      simp only [List.length_append, List.length_cons, List.length_nil]
      omega
def linesL (d : Nat) (ts : List St) : List UInt8 := (ts.map fun x => x.text d).flatten
theorem bodyT_len {w : World} {F : Nat → Prop} {bs : List St} {d : Nat} (ha : ∀ x ∈ bs, x.At w F) (hf : fewL 0 bs = true) (hd : d ≤ 10) : (linesL d bs).length ≤ 16 * (bs.map St.len).sum := by
  simp only [fewL, Bool.and_eq_true, decide_eq_true_eq, List.all_eq_true] at hf
  have hf2 := hf.2
  clear hf
  induction bs with
  | nil => simp [linesL]
  | cons a l ih =>
    have h1 := St.text16 a 0 d (ha a List.mem_cons_self) (hf2 a List.mem_cons_self) (by omega)
    have h2 := ih (fun x hx => ha x (List.mem_cons_of_mem _ hx)) (fun x hx => hf2 x (List.mem_cons_of_mem _ hx))
    unfold linesL at h2 ⊢
    simp only [List.map_cons, List.flatten_cons, List.length_append, List.sum_cons, Nat.mul_add]
    omega
set_option maxRecDepth 100000 in
set_option maxHeartbeats 16000000 in
theorem mhead_any (m : Me) (w : World) (h : m.At w (fun b => w.heap.size ≤ b)) (hb : m.len ≤ 104857600) : Calls Tryd.prog 51 #[m.val] w (Gives w (S m.headT)) := by
  have hpd : ((m.ps.map parT).map List.length).sum + 4 * (m.ps.map parT).length ≤ 104857600 := by
    have := parts_bd m.ps
    unfold Me.len at hb
    omega
  have hpv : ∀ v ∈ m.ps, v.len ≤ 104857600 := fun v hv => by
    have := sum_mem (f := Vr.len) hv
    unfold Me.len at hb
    omega
  have hpk : m.pk ≤ 104857600 := by
    have h1 := sum_count (f := Vr.len) (b := 100) (l := m.ps) (fun v _ => by unfold Vr.len; omega)
    have h2 := h.pl
    unfold Me.len at hb
    omega
  have hnb : m.n.length ≤ 104857600 := by unfold Me.len at hb; omega
  have hrb : m.rn.length ≤ 104857600 := by unfold Me.len at hb; omega
  have HAT := hide h
  have HPV := hide hpv
  have HPD := hide hpd
  clear h hb hpv hpd
  obtain ⟨mln, mco, mn, mst, mpA, mpk, mpc, mps, mrn, mra, mbA, mbk, mbc, mbs⟩ := m
  replace hpk : mpk ≤ 104857600 := hpk
  replace hnb : mn.length ≤ 104857600 := hnb
  replace hrb : mrn.length ≤ 104857600 := hrb
  have htyb := tyT_len mrn mra
  have HTY := hide (fun w' => tytext_any mrn mra (by omega) w')
  have HPL : Hid (mps.length = mpk) := hide HAT.out.pl
  obtain ⟨wA, hwA⟩ : ∃ wA, wA = w.alloc (.cells #[.int .i64 mln, .int .i64 mco, S mn, .bool mst, .slice mpA mpk mpc, S mrn, .bool mra, .slice mbA mbk mbc] 48) := ⟨_, rfl⟩
  have HBA : Hid (Below w.heap.size w wA) := hide (by rw [hwA]; exact (Below.refl _ _).alloc (Nat.le_refl _) _)
  have HBK : Hid (Blk wA w.heap.size 48 #[.int .i64 mln, .int .i64 mco, S mn, .bool mst, .slice mpA mpk mpc, S mrn, .bool mra, .slice mbA mbk mbc]) := hide (by rw [hwA]; exact Blk.new _ _ _)
  have c3 := HBK.out.cell 3
  have c4 := HBK.out.cell 4
  simp at c3 c4
  show Calls Tryd.prog 51 #[.agg #[.int .i64 mln, .int .i64 mco, S mn, .bool mst, .slice mpA mpk mpc, S mrn, .bool mra, .slice mbA mbk mbc]] w _
  cases mst
  case false =>
    go_enter Tryd.func51, Tryd.ntmps51
    go_upto_region 1 with fail
    rw [← hwA]
    clear hwA
    go_wp2_with fail
    clear c3 c4
    go_loopw [4, 12] (fun v i wr => ∃ j : Nat, j ≤ mpk ∧ i = .int .i64 j ∧ Hid (Below wA.heap.size wA wr) ∧ ∃ a' c', v = .slice a' j c' ∧ Hid (wr.ownsRow wA.heap.size 9 1 (.slice a' j c') j (((mps.take j).map parT).map S))) (fun _ i _ => mpk - (intOf i).toNat)
    case atStart => exact ⟨0, Nat.zero_le _, rfl, hide (Below.refl _ _), none, 0, rfl, hide ⟨rfl, .inl ⟨rfl, rfl⟩⟩⟩
    case round =>
      obtain ⟨j, hj, rfl, HBR, a', c', rfl, HO⟩ := hrel
      by_cases hlt : j < mpk
      case pos =>
        obtain ⟨b, o, hA, _, hbl, hcs⟩ := Rd.rec_ (f := Vr.cells) (size := 3) (fun _ => rfl) ((HAT.out.on HBA.out).pr.below (HBR.out)) HPL.out j hlt
        have hlk : j < mps.length := by have := HPL.out; omega
        have hvb := HPV.out mps[j] (List.getElem_mem hlk)
        have HTK : Hid (((mps.take (j + 1)).map parT).map S = ((mps.take j).map parT).map S ++ [S (parT mps[j])]) := hide (by rw [List.take_succ_eq_append_getElem hlk, List.map_append, List.map_append]; rfl)
        generalize mps[j] = x at hcs hvb HTK
        obtain ⟨vn, ⟨vt, va⟩⟩ := x
        obtain ⟨L, hL⟩ : ∃ L, L = ((mps.take j).map parT).map S := ⟨_, rfl⟩
        rw [← hL] at HO HTK
        clear hL
        have q0 := hcs 0 (S vn) rfl
        have q1 := hcs 1 (S vt) rfl
        have q2 := hcs 2 (.bool va) rfl
        simp only [Nat.add_zero] at q0 q1 q2
        clear hcs
        have hvn : vn.length ≤ 104857600 := by simp only [Vr.len] at hvb; omega
        have hvt : vt.length ≤ 104857600 := by simp only [Vr.len] at hvb; omega
        clear hvb
        have hvty := tyT_len vt va
        have HVT := hide (fun w' => tytext_any vt va (by omega) w')
        have HPT : Hid (parT ⟨vn, ⟨vt, va⟩⟩ = tyT vt va ++ 32 :: vn) := hide (by simp [parT])
        generalize tyT vt va = TV at HVT HPT hvty
        replace hA : mpA = some ⟨b, o, none⟩ := hA
        rw [hA]
        have hjk : (j : Int) < (mpk : Int) := by omega
        go_upto_region 8 with fail
        refine name_world ?_
        intro wC hwC
        have hbc : Below wr.heap.size wr wC := by rw [hwC]; exact (Below.refl _ _).alloc (Nat.le_refl _) _
        have HV : Hid (Blk wC wr.heap.size 50 #[S vn, S vt, .bool va]) := hide (by rw [hwC]; exact Blk.new _ _ _)
        have HBC : Hid (Below wA.heap.size wA wC) := hide (HBR.out.trans (hbc.mono HBR.out.size))
        have HOC := hide (own_belowT HO.out hbc)
        clear hwC hbc HBR HO q0 q1 q2
        generalize wr.heap.size = g1 at HV ⊢
        obtain ⟨K, hK⟩ : ∃ K : Nat → Qk, K = (fun d => match d with | 16 => .is (.slice a' j c') | 17 => .is (.pointer (some ⟨g1, 1, none⟩)) | 18 => .is (.agg #[S vt, .bool va]) | 19 => .is (S TV) | 20 => .is (S (TV ++ [32])) | 21 => .is (.pointer (some ⟨g1, 0, none⟩)) | 22 => .is (S vn) | 23 => .is (S (TV ++ 32 :: vn)) | 24 => .ex (fun g => .slice (some ⟨g, 0, none⟩) 1 1) 9 #[S (TV ++ 32 :: vn)] | _ => .any) := ⟨_, rfl⟩
        refine region_qxa (by kernel_rfl) [⟨0, some 16, false, [0], []⟩, ⟨1, some 17, false, [0], []⟩, ⟨2, some 18, false, [0], [17]⟩, ⟨3, some 19, false, [0], [18]⟩, ⟨4, some 20, false, [0], [19]⟩, ⟨5, some 21, false, [0], []⟩, ⟨6, some 22, false, [0], [21]⟩, ⟨7, some 23, false, [0], [20, 22]⟩, ⟨8, some 24, false, [0], [23]⟩, ⟨9, some 25, true, [0], [16, 24]⟩, ⟨10, some 4, false, [1], [25]⟩] 9 (KA K 25 4) (TA (fun x w' => ∃ a2 c2, x = .slice a2 (j + 1) c2 ∧ w'.ownsRow wA.heap.size 9 1 (.slice a2 (j + 1) c2) (j + 1) (L ++ [S (TV ++ 32 :: vn)])) 25 4) (fun w' => Below wA.heap.size wA w') (by kernel_rfl) ?obs ?hend
        case obs =>
          refine List.forall_mem_cons.2 ⟨?_, ?_⟩
          · refine ObA.mk (KA.mono K 25 4) (by rfl) ?_
            intro z w' hb hz G hG
            simp only [putsAt, List.foldl]
            unfold Runs
            go_simp
            exact hG _ _ (Below.refl _ _) (fun d' e => by cases e; exact ⟨⟨by decide, by decide⟩, by rw [hK]; first | rfl | (show _ = _; simp)⟩)
          refine List.forall_mem_cons.2 ⟨?_, ?_⟩
          · refine ObA.mk (KA.mono K 25 4) (by rfl) ?_
            intro z w' hb hz G hG
            simp only [putsAt, List.foldl]
            unfold Runs
            go_simp
            exact hG _ _ (Below.refl _ _) (fun d' e => by cases e; exact ⟨⟨by decide, by decide⟩, by rw [hK]; first | rfl | (show _ = _; simp)⟩)
          refine List.forall_mem_cons.2 ⟨?_, ?_⟩
          · refine ObA.mk (KA.mono K 25 4) (by rfl) ?_
            intro z w' hb hz G hG
            have e17 : z 17 = .pointer (some ⟨g1, 1, none⟩) := by have h := (hz 17 (by simp)).2; rw [hK] at h; exact h
            have qHV1 := (HV.out.below hb HV.out.lt).cell 1
            have qHV2 := (HV.out.below hb HV.out.lt).cell 2
            simp at qHV1 qHV2
            simp only [putsAt, List.foldl, e17]
            unfold Runs
            go_simp
            exact hG _ _ (Below.refl _ _) (fun d' e => by cases e; exact ⟨⟨by decide, by decide⟩, by rw [hK]; first | rfl | (show _ = _; simp)⟩)
          refine List.forall_mem_cons.2 ⟨?_, ?_⟩
          · refine ObA.mk (KA.mono K 25 4) (by rfl) ?_
            intro z w' hb hz G hG
            have e18 : z 18 = .agg #[S vt, .bool va] := by have h := (hz 18 (by simp)).2; rw [hK] at h; exact h
            simp only [putsAt, List.foldl, e18]
            unfold Runs
            go_simp
            refine (HVT.out w').mono ?_
            rintro e w2 ⟨rfl, hb2⟩
            exact ⟨_, rfl, hG _ _ hb2 (fun d' e => by cases e; exact ⟨⟨by decide, by decide⟩, by rw [hK]; rfl⟩)⟩
          refine List.forall_mem_cons.2 ⟨?_, ?_⟩
          · refine ObA.mk (KA.mono K 25 4) (by rfl) ?_
            intro z w' hb hz G hG
            have e19 : z 19 = S TV := by have h := (hz 19 (by simp)).2; rw [hK] at h; exact h
            simp only [putsAt, List.foldl, e19]
            unfold Runs
            go_simp
            try rw [if_neg (by first | omega | (simp; omega))]
            exact hG _ _ (Below.refl _ _) (fun d' e => by cases e; exact ⟨⟨by decide, by decide⟩, by rw [hK]; first | rfl | (show _ = _; simp)⟩)
          refine List.forall_mem_cons.2 ⟨?_, ?_⟩
          · refine ObA.mk (KA.mono K 25 4) (by rfl) ?_
            intro z w' hb hz G hG
            simp only [putsAt, List.foldl]
            unfold Runs
            go_simp
            exact hG _ _ (Below.refl _ _) (fun d' e => by cases e; exact ⟨⟨by decide, by decide⟩, by rw [hK]; first | rfl | (show _ = _; simp)⟩)
          refine List.forall_mem_cons.2 ⟨?_, ?_⟩
          · refine ObA.mk (KA.mono K 25 4) (by rfl) ?_
            intro z w' hb hz G hG
            have e21 : z 21 = .pointer (some ⟨g1, 0, none⟩) := by have h := (hz 21 (by simp)).2; rw [hK] at h; exact h
            have qHV0 := (HV.out.below hb HV.out.lt).cell 0
            simp at qHV0
            simp only [putsAt, List.foldl, e21]
            unfold Runs
            go_simp
            exact hG _ _ (Below.refl _ _) (fun d' e => by cases e; exact ⟨⟨by decide, by decide⟩, by rw [hK]; first | rfl | (show _ = _; simp)⟩)
          refine List.forall_mem_cons.2 ⟨?_, ?_⟩
          · refine ObA.mk (KA.mono K 25 4) (by rfl) ?_
            intro z w' hb hz G hG
            have e20 : z 20 = S (TV ++ [32]) := by have h := (hz 20 (by simp)).2; rw [hK] at h; exact h
            have e22 : z 22 = S vn := by have h := (hz 22 (by simp)).2; rw [hK] at h; exact h
            simp only [putsAt, List.foldl, e20, e22]
            unfold Runs
            go_simp
            try rw [if_neg (by first | omega | (simp; omega))]
            exact hG _ _ (Below.refl _ _) (fun d' e => by cases e; exact ⟨⟨by decide, by decide⟩, by rw [hK]; first | rfl | (show _ = _; simp)⟩)
          refine List.forall_mem_cons.2 ⟨?_, ?_⟩
          · refine ObA.mk (KA.mono K 25 4) (by rfl) ?_
            intro z w' hb hz G hG
            have e23 : z 23 = S (TV ++ 32 :: vn) := by have h := (hz 23 (by simp)).2; rw [hK] at h; exact h
            simp only [putsAt, List.foldl, e23]
            unfold Runs
            go_simp
            exact hG _ _ ((Below.refl _ _).alloc (Nat.le_refl _) _) (fun d' e => by cases e; exact ⟨⟨by decide, by decide⟩, by rw [hK]; exact ⟨_, rfl, Blk.new _ _ _⟩⟩)
          refine List.forall_mem_cons.2 ⟨?_, ?_⟩
          · refine ObA.app (by rfl) TA.of ?_
            intro z w' hb hz G hG0
            have e16 : z 16 = .slice a' j c' := by have h := (hz 16 (by simp)).2; rw [hK] at h; exact h
            obtain ⟨g24, e24, k24⟩ : ∃ g, z 24 = (fun g => .slice (some ⟨g, 0, none⟩) 1 1) g ∧ Blk w' g 9 #[S (TV ++ 32 :: vn)] := by have h := (hz 24 (by simp)).2; rw [hK] at h; exact h
            replace hG0 := fun u w'' h1 h2 => hG0 u w'' (fun _ => h1) h2
            simp only [putsAt, List.foldl, e16, e24]
            have ho := own_belowT HOC.out hb
            have hc := k24.cell 0
            simp at hc
            refine runs_app1 (.tmp 16) (.tmp 24) 66 rfl wA.heap.size 9 (.string { data := #[] }) 16 Tryd.underlying66 str_info5 rfl _ j L rfl ho (S (TV ++ 32 :: vn)) rfl rfl hc (by omega) (by omega) (HBC.out.trans (hb.mono HBC.out.size)).size ?_
            intro a2 c2 w2 h1 h2
            exact hG0 _ w2 ⟨a2, c2, rfl, h1⟩ ((HBC.out.trans (hb.mono HBC.out.size)).grown h2 (HBC.out.trans (hb.mono HBC.out.size)).size (fun k hk => (own_baseT ho hk).1))
          refine List.forall_mem_cons.2 ⟨?_, ?_⟩
          · refine ObA.aft (by rfl) ?_
            intro z w' hz G hG
            have h := hz 25 (by simp) (.inl rfl)
            simp only [putsAt, List.foldl]
            unfold Runs
            go_simp
            exact hG _ (fun _ => h)
          exact List.forall_mem_nil _
        case hend =>
          intro z wZ hz hT
          have hR := hz 4 (by decide) (.inr rfl)
          clear hz hK
          simp only [putsAt, List.foldl, dstsOf, List.filterMap, Act.put, List.setIfInBounds_toArray, List.set_cons_zero, List.set_cons_succ]
          generalize z 16 = y16
          generalize z 17 = y17
          generalize z 18 = y18
          generalize z 19 = y19
          generalize z 20 = y20
          generalize z 21 = y21
          generalize z 22 = y22
          generalize z 23 = y23
          generalize z 24 = y24
          generalize z 25 = y25
          generalize z 4 = y4 at hR ⊢
          obtain ⟨a2, c2, rfl, ho2⟩ := hR
          have HO2 := hide (show wZ.ownsRow wA.heap.size 9 1 (.slice a2 (j + 1) c2) (j + 1) (((mps.take (j + 1)).map parT).map S) from by rw [HTK.out, HPT.out]; exact ho2)
          have HBZ := hide hT
          clear ho2 hT
          go_wp2_with fail
          go_roundw
          case rel => first | exact ⟨j + 1, by omega, by go_num, HBZ, a2, c2, rfl, HO2⟩ | ((repeat apply Exists.intro); exact ⟨⟨j + 1, by omega, by go_num, HBZ, a2, c2, rfl, HO2⟩, rfl⟩)
          case measure => simp [intOf]; omega
      case neg =>
        obtain rfl : j = mpk := by omega
        have HO2 := hide (show wr.ownsRow wA.heap.size 9 1 (.slice a' j c') j ((mps.map parT).map S) from by have := HO.out; rwa [List.take_of_length_le (by rw [HPL.out]; exact Nat.le_refl _)] at this)
        have hjk : ¬ (j : Int) < (j : Int) := by omega
        clear HO
        go_upto_region 10 with fail
        have HJN : Hid (∀ t : After wr, Calls Tryd.prog 54 #[.slice a' j c', S [44, 32]] t.val (Gives t.val (S (joinC (mps.map parT))))) := hide (fun t => join_own (own_belowT HO2.out t.prop) (by have := HPD.out; omega))
        have hjb : (joinC (mps.map parT)).length ≤ 104857600 := joinC_bd HPD.out
        have HTYT : Hid (∀ t : After wr, Calls Tryd.prog 46 #[.agg #[S mrn, .bool mra]] t.val (Gives t.val (S (tyT mrn mra)))) := hide (fun t => HTY.out t.val)
        have HR : Hid (Me.headT ⟨mln, mco, mn, false, mpA, j, mpc, mps, mrn, mra, mbA, mbk, mbc, mbs⟩ = [9, 109, 101, 116, 104, 111, 100, 32] ++ tyT mrn mra ++ [32] ++ mn ++ [40] ++ joinC (mps.map parT) ++ [41, 32]) := hide rfl
        generalize joinC (mps.map parT) = JT at HJN hjb HR
        generalize tyT mrn mra = TR at HTYT HR htyb
        have HBKr := hide (HBK.out.below HBR.out HBK.out.lt)
        have p2 : ∀ t : After wr, t.val.cell? ⟨w.heap.size, 2, none⟩ = some (S mn) := fun t => (HBKr.out.below t.prop HBKr.out.lt).cell 2
        have p5 : ∀ t : After wr, t.val.cell? ⟨w.heap.size, 5, none⟩ = some (S mrn) := fun t => (HBKr.out.below t.prop HBKr.out.lt).cell 5
        have p6 : ∀ t : After wr, t.val.cell? ⟨w.heap.size, 6, none⟩ = some (.bool mra) := fun t => (HBKr.out.below t.prop HBKr.out.lt).cell 6
        clear HTY
        refine region_after (by kernel_rfl) (by kernel_rfl) ?_
        repeat (go_big_quiet_step (first | (go_at_call 46; with_reducible refine call_after (HTYT.out _)) | (go_at_call 54; with_reducible refine call_after (HJN.out _))))
        refine wpQuiet_nil ?_
        rintro _ ⟨t, rfl⟩
        go_wp2_with fail
        go_ret
        exact ⟨by rw [HR.out]; simp [go_sem], HBA.out.trans ((HBR.out.trans (t.prop.mono HBR.out.size)).mono HBA.out.size)⟩
  case true =>
    go_enter Tryd.func51, Tryd.ntmps51
    go_upto_region 1 with fail
    rw [← hwA]
    clear hwA
    go_wp2_with fail
    clear c3 c4
    go_loopw [4, 12] (fun v i wr => ∃ j : Nat, j ≤ mpk ∧ i = .int .i64 j ∧ Hid (Below wA.heap.size wA wr) ∧ ∃ a' c', v = .slice a' j c' ∧ Hid (wr.ownsRow wA.heap.size 9 1 (.slice a' j c') j (((mps.take j).map parT).map S))) (fun _ i _ => mpk - (intOf i).toNat)
    case atStart => exact ⟨0, Nat.zero_le _, rfl, hide (Below.refl _ _), none, 0, rfl, hide ⟨rfl, .inl ⟨rfl, rfl⟩⟩⟩
    case round =>
      obtain ⟨j, hj, rfl, HBR, a', c', rfl, HO⟩ := hrel
      by_cases hlt : j < mpk
      case pos =>
        obtain ⟨b, o, hA, _, hbl, hcs⟩ := Rd.rec_ (f := Vr.cells) (size := 3) (fun _ => rfl) ((HAT.out.on HBA.out).pr.below (HBR.out)) HPL.out j hlt
        have hlk : j < mps.length := by have := HPL.out; omega
        have hvb := HPV.out mps[j] (List.getElem_mem hlk)
        have HTK : Hid (((mps.take (j + 1)).map parT).map S = ((mps.take j).map parT).map S ++ [S (parT mps[j])]) := hide (by rw [List.take_succ_eq_append_getElem hlk, List.map_append, List.map_append]; rfl)
        generalize mps[j] = x at hcs hvb HTK
        obtain ⟨vn, ⟨vt, va⟩⟩ := x
        obtain ⟨L, hL⟩ : ∃ L, L = ((mps.take j).map parT).map S := ⟨_, rfl⟩
        rw [← hL] at HO HTK
        clear hL
        have q0 := hcs 0 (S vn) rfl
        have q1 := hcs 1 (S vt) rfl
        have q2 := hcs 2 (.bool va) rfl
        simp only [Nat.add_zero] at q0 q1 q2
        clear hcs
        have hvn : vn.length ≤ 104857600 := by simp only [Vr.len] at hvb; omega
        have hvt : vt.length ≤ 104857600 := by simp only [Vr.len] at hvb; omega
        clear hvb
        have hvty := tyT_len vt va
        have HVT := hide (fun w' => tytext_any vt va (by omega) w')
        have HPT : Hid (parT ⟨vn, ⟨vt, va⟩⟩ = tyT vt va ++ 32 :: vn) := hide (by simp [parT])
        generalize tyT vt va = TV at HVT HPT hvty
        replace hA : mpA = some ⟨b, o, none⟩ := hA
        rw [hA]
        have hjk : (j : Int) < (mpk : Int) := by omega
        go_upto_region 8 with fail
        refine name_world ?_
        intro wC hwC
        have hbc : Below wr.heap.size wr wC := by rw [hwC]; exact (Below.refl _ _).alloc (Nat.le_refl _) _
        have HV : Hid (Blk wC wr.heap.size 50 #[S vn, S vt, .bool va]) := hide (by rw [hwC]; exact Blk.new _ _ _)
        have HBC : Hid (Below wA.heap.size wA wC) := hide (HBR.out.trans (hbc.mono HBR.out.size))
        have HOC := hide (own_belowT HO.out hbc)
        clear hwC hbc HBR HO q0 q1 q2
        generalize wr.heap.size = g1 at HV ⊢
        obtain ⟨K, hK⟩ : ∃ K : Nat → Qk, K = (fun d => match d with | 16 => .is (.slice a' j c') | 17 => .is (.pointer (some ⟨g1, 1, none⟩)) | 18 => .is (.agg #[S vt, .bool va]) | 19 => .is (S TV) | 20 => .is (S (TV ++ [32])) | 21 => .is (.pointer (some ⟨g1, 0, none⟩)) | 22 => .is (S vn) | 23 => .is (S (TV ++ 32 :: vn)) | 24 => .ex (fun g => .slice (some ⟨g, 0, none⟩) 1 1) 9 #[S (TV ++ 32 :: vn)] | _ => .any) := ⟨_, rfl⟩
        refine region_qxa (by kernel_rfl) [⟨0, some 16, false, [0], []⟩, ⟨1, some 17, false, [0], []⟩, ⟨2, some 18, false, [0], [17]⟩, ⟨3, some 19, false, [0], [18]⟩, ⟨4, some 20, false, [0], [19]⟩, ⟨5, some 21, false, [0], []⟩, ⟨6, some 22, false, [0], [21]⟩, ⟨7, some 23, false, [0], [20, 22]⟩, ⟨8, some 24, false, [0], [23]⟩, ⟨9, some 25, true, [0], [16, 24]⟩, ⟨10, some 4, false, [1], [25]⟩] 9 (KA K 25 4) (TA (fun x w' => ∃ a2 c2, x = .slice a2 (j + 1) c2 ∧ w'.ownsRow wA.heap.size 9 1 (.slice a2 (j + 1) c2) (j + 1) (L ++ [S (TV ++ 32 :: vn)])) 25 4) (fun w' => Below wA.heap.size wA w') (by kernel_rfl) ?obs ?hend
        case obs =>
          refine List.forall_mem_cons.2 ⟨?_, ?_⟩
          · refine ObA.mk (KA.mono K 25 4) (by rfl) ?_
            intro z w' hb hz G hG
            simp only [putsAt, List.foldl]
            unfold Runs
            go_simp
            exact hG _ _ (Below.refl _ _) (fun d' e => by cases e; exact ⟨⟨by decide, by decide⟩, by rw [hK]; first | rfl | (show _ = _; simp)⟩)
          refine List.forall_mem_cons.2 ⟨?_, ?_⟩
          · refine ObA.mk (KA.mono K 25 4) (by rfl) ?_
            intro z w' hb hz G hG
            simp only [putsAt, List.foldl]
            unfold Runs
            go_simp
            exact hG _ _ (Below.refl _ _) (fun d' e => by cases e; exact ⟨⟨by decide, by decide⟩, by rw [hK]; first | rfl | (show _ = _; simp)⟩)
          refine List.forall_mem_cons.2 ⟨?_, ?_⟩
          · refine ObA.mk (KA.mono K 25 4) (by rfl) ?_
            intro z w' hb hz G hG
            have e17 : z 17 = .pointer (some ⟨g1, 1, none⟩) := by have h := (hz 17 (by simp)).2; rw [hK] at h; exact h
            have qHV1 := (HV.out.below hb HV.out.lt).cell 1
            have qHV2 := (HV.out.below hb HV.out.lt).cell 2
            simp at qHV1 qHV2
            simp only [putsAt, List.foldl, e17]
            unfold Runs
            go_simp
            exact hG _ _ (Below.refl _ _) (fun d' e => by cases e; exact ⟨⟨by decide, by decide⟩, by rw [hK]; first | rfl | (show _ = _; simp)⟩)
          refine List.forall_mem_cons.2 ⟨?_, ?_⟩
          · refine ObA.mk (KA.mono K 25 4) (by rfl) ?_
            intro z w' hb hz G hG
            have e18 : z 18 = .agg #[S vt, .bool va] := by have h := (hz 18 (by simp)).2; rw [hK] at h; exact h
            simp only [putsAt, List.foldl, e18]
            unfold Runs
            go_simp
            refine (HVT.out w').mono ?_
            rintro e w2 ⟨rfl, hb2⟩
            exact ⟨_, rfl, hG _ _ hb2 (fun d' e => by cases e; exact ⟨⟨by decide, by decide⟩, by rw [hK]; rfl⟩)⟩
          refine List.forall_mem_cons.2 ⟨?_, ?_⟩
          · refine ObA.mk (KA.mono K 25 4) (by rfl) ?_
            intro z w' hb hz G hG
            have e19 : z 19 = S TV := by have h := (hz 19 (by simp)).2; rw [hK] at h; exact h
            simp only [putsAt, List.foldl, e19]
            unfold Runs
            go_simp
            try rw [if_neg (by first | omega | (simp; omega))]
            exact hG _ _ (Below.refl _ _) (fun d' e => by cases e; exact ⟨⟨by decide, by decide⟩, by rw [hK]; first | rfl | (show _ = _; simp)⟩)
          refine List.forall_mem_cons.2 ⟨?_, ?_⟩
          · refine ObA.mk (KA.mono K 25 4) (by rfl) ?_
            intro z w' hb hz G hG
            simp only [putsAt, List.foldl]
            unfold Runs
            go_simp
            exact hG _ _ (Below.refl _ _) (fun d' e => by cases e; exact ⟨⟨by decide, by decide⟩, by rw [hK]; first | rfl | (show _ = _; simp)⟩)
          refine List.forall_mem_cons.2 ⟨?_, ?_⟩
          · refine ObA.mk (KA.mono K 25 4) (by rfl) ?_
            intro z w' hb hz G hG
            have e21 : z 21 = .pointer (some ⟨g1, 0, none⟩) := by have h := (hz 21 (by simp)).2; rw [hK] at h; exact h
            have qHV0 := (HV.out.below hb HV.out.lt).cell 0
            simp at qHV0
            simp only [putsAt, List.foldl, e21]
            unfold Runs
            go_simp
            exact hG _ _ (Below.refl _ _) (fun d' e => by cases e; exact ⟨⟨by decide, by decide⟩, by rw [hK]; first | rfl | (show _ = _; simp)⟩)
          refine List.forall_mem_cons.2 ⟨?_, ?_⟩
          · refine ObA.mk (KA.mono K 25 4) (by rfl) ?_
            intro z w' hb hz G hG
            have e20 : z 20 = S (TV ++ [32]) := by have h := (hz 20 (by simp)).2; rw [hK] at h; exact h
            have e22 : z 22 = S vn := by have h := (hz 22 (by simp)).2; rw [hK] at h; exact h
            simp only [putsAt, List.foldl, e20, e22]
            unfold Runs
            go_simp
            try rw [if_neg (by first | omega | (simp; omega))]
            exact hG _ _ (Below.refl _ _) (fun d' e => by cases e; exact ⟨⟨by decide, by decide⟩, by rw [hK]; first | rfl | (show _ = _; simp)⟩)
          refine List.forall_mem_cons.2 ⟨?_, ?_⟩
          · refine ObA.mk (KA.mono K 25 4) (by rfl) ?_
            intro z w' hb hz G hG
            have e23 : z 23 = S (TV ++ 32 :: vn) := by have h := (hz 23 (by simp)).2; rw [hK] at h; exact h
            simp only [putsAt, List.foldl, e23]
            unfold Runs
            go_simp
            exact hG _ _ ((Below.refl _ _).alloc (Nat.le_refl _) _) (fun d' e => by cases e; exact ⟨⟨by decide, by decide⟩, by rw [hK]; exact ⟨_, rfl, Blk.new _ _ _⟩⟩)
          refine List.forall_mem_cons.2 ⟨?_, ?_⟩
          · refine ObA.app (by rfl) TA.of ?_
            intro z w' hb hz G hG0
            have e16 : z 16 = .slice a' j c' := by have h := (hz 16 (by simp)).2; rw [hK] at h; exact h
            obtain ⟨g24, e24, k24⟩ : ∃ g, z 24 = (fun g => .slice (some ⟨g, 0, none⟩) 1 1) g ∧ Blk w' g 9 #[S (TV ++ 32 :: vn)] := by have h := (hz 24 (by simp)).2; rw [hK] at h; exact h
            replace hG0 := fun u w'' h1 h2 => hG0 u w'' (fun _ => h1) h2
            simp only [putsAt, List.foldl, e16, e24]
            have ho := own_belowT HOC.out hb
            have hc := k24.cell 0
            simp at hc
            refine runs_app1 (.tmp 16) (.tmp 24) 66 rfl wA.heap.size 9 (.string { data := #[] }) 16 Tryd.underlying66 str_info5 rfl _ j L rfl ho (S (TV ++ 32 :: vn)) rfl rfl hc (by omega) (by omega) (HBC.out.trans (hb.mono HBC.out.size)).size ?_
            intro a2 c2 w2 h1 h2
            exact hG0 _ w2 ⟨a2, c2, rfl, h1⟩ ((HBC.out.trans (hb.mono HBC.out.size)).grown h2 (HBC.out.trans (hb.mono HBC.out.size)).size (fun k hk => (own_baseT ho hk).1))
          refine List.forall_mem_cons.2 ⟨?_, ?_⟩
          · refine ObA.aft (by rfl) ?_
            intro z w' hz G hG
            have h := hz 25 (by simp) (.inl rfl)
            simp only [putsAt, List.foldl]
            unfold Runs
            go_simp
            exact hG _ (fun _ => h)
          exact List.forall_mem_nil _
        case hend =>
          intro z wZ hz hT
          have hR := hz 4 (by decide) (.inr rfl)
          clear hz hK
          simp only [putsAt, List.foldl, dstsOf, List.filterMap, Act.put, List.setIfInBounds_toArray, List.set_cons_zero, List.set_cons_succ]
          generalize z 16 = y16
          generalize z 17 = y17
          generalize z 18 = y18
          generalize z 19 = y19
          generalize z 20 = y20
          generalize z 21 = y21
          generalize z 22 = y22
          generalize z 23 = y23
          generalize z 24 = y24
          generalize z 25 = y25
          generalize z 4 = y4 at hR ⊢
          obtain ⟨a2, c2, rfl, ho2⟩ := hR
          have HO2 := hide (show wZ.ownsRow wA.heap.size 9 1 (.slice a2 (j + 1) c2) (j + 1) (((mps.take (j + 1)).map parT).map S) from by rw [HTK.out, HPT.out]; exact ho2)
          have HBZ := hide hT
          clear ho2 hT
          go_wp2_with fail
          go_roundw
          case rel => first | exact ⟨j + 1, by omega, by go_num, HBZ, a2, c2, rfl, HO2⟩ | ((repeat apply Exists.intro); exact ⟨⟨j + 1, by omega, by go_num, HBZ, a2, c2, rfl, HO2⟩, rfl⟩)
          case measure => simp [intOf]; omega
      case neg =>
        obtain rfl : j = mpk := by omega
        have HO2 := hide (show wr.ownsRow wA.heap.size 9 1 (.slice a' j c') j ((mps.map parT).map S) from by have := HO.out; rwa [List.take_of_length_le (by rw [HPL.out]; exact Nat.le_refl _)] at this)
        have hjk : ¬ (j : Int) < (j : Int) := by omega
        clear HO
        go_upto_region 10 with fail
        have HJN : Hid (∀ t : After wr, Calls Tryd.prog 54 #[.slice a' j c', S [44, 32]] t.val (Gives t.val (S (joinC (mps.map parT))))) := hide (fun t => join_own (own_belowT HO2.out t.prop) (by have := HPD.out; omega))
        have hjb : (joinC (mps.map parT)).length ≤ 104857600 := joinC_bd HPD.out
        have HTYT : Hid (∀ t : After wr, Calls Tryd.prog 46 #[.agg #[S mrn, .bool mra]] t.val (Gives t.val (S (tyT mrn mra)))) := hide (fun t => HTY.out t.val)
        have HR : Hid (Me.headT ⟨mln, mco, mn, true, mpA, j, mpc, mps, mrn, mra, mbA, mbk, mbc, mbs⟩ = [9, 115, 116, 97, 116, 105, 99, 32, 109, 101, 116, 104, 111, 100, 32] ++ tyT mrn mra ++ [32] ++ mn ++ [40] ++ joinC (mps.map parT) ++ [41, 32]) := hide rfl
        generalize joinC (mps.map parT) = JT at HJN hjb HR
        generalize tyT mrn mra = TR at HTYT HR htyb
        have HBKr := hide (HBK.out.below HBR.out HBK.out.lt)
        have p2 : ∀ t : After wr, t.val.cell? ⟨w.heap.size, 2, none⟩ = some (S mn) := fun t => (HBKr.out.below t.prop HBKr.out.lt).cell 2
        have p5 : ∀ t : After wr, t.val.cell? ⟨w.heap.size, 5, none⟩ = some (S mrn) := fun t => (HBKr.out.below t.prop HBKr.out.lt).cell 5
        have p6 : ∀ t : After wr, t.val.cell? ⟨w.heap.size, 6, none⟩ = some (.bool mra) := fun t => (HBKr.out.below t.prop HBKr.out.lt).cell 6
        clear HTY
        refine region_after (by kernel_rfl) (by kernel_rfl) ?_
        repeat (go_big_quiet_step (first | (go_at_call 46; with_reducible refine call_after (HTYT.out _)) | (go_at_call 54; with_reducible refine call_after (HJN.out _))))
        refine wpQuiet_nil ?_
        rintro _ ⟨t, rfl⟩
        go_wp2_with fail
        go_ret
        exact ⟨by rw [HR.out]; simp [go_sem], HBA.out.trans ((HBR.out.trans (t.prop.mono HBR.out.size)).mono HBA.out.size)⟩
end Go.Proofs.YtleccalfcnkklaaDoor
