/- How a face is laid, walked; no statement of the seat is proved here. -/
import Derived.Test.YthehimjdjgmnjaaLaysF
import Derived.Test.YthehimjdjgmnjaaFacePD
namespace Go.Proofs.Ythehimjdjgmnjaa
open Go.RowKit

set_option maxRecDepth 100000 in
set_option maxHeartbeats 4000000 in
theorem typ_any (g : Nat) (v : Value) (bs : List UInt8) (A : Option Addr) (n c : Nat) (l : List Ty) (w : World)
    (hw : Wr w g v bs) (hl : Rd w (Same g v) 2 A n (l.flatMap Ty.cells)) (hll : l.length = n) (hn : n ≤ 9223372036854775807) (hb : bs.length + (catAll tyL l).length + 60 ≤ 140737488355328) :
    Calls Try.prog 38 #[.pointer (some ⟨g, 0, none⟩), .slice A n c] w (LaysOff g v w (bs ++ catAll tyL l) w) := by
  have HNL := hide hll
  clear hll
  have HW := hide hw
  clear hw
  go_enter Try.func38, Try.ntmps38
  go_wp2_with fail
  go_loopw [8] (fun i wr => ∃ k : Nat, k ≤ n ∧ i = .int .i64 k ∧ Hid (Wk g v w (bs ++ catTo tyL l k) wr)) (fun i _ => n - (intOf i).toNat)
  case atStart => exact ⟨0, Nat.zero_le _, rfl, by simpa [catTo_zero] using hide (Wk.start HW.out)⟩
  case round =>
    obtain ⟨k, hk, rfl, HK⟩ := hrel
    by_cases hlt : k < n
    · obtain ⟨v1, h1⟩ := HK.out
      obtain ⟨b, o, rfl, _, _, hcs⟩ := Rd.rec_ (f := Ty.cells) (fun _ => rfl) (hl.keep h1.2.1) HNL.out k hlt
      have hlk : k < l.length := by have := HNL.out; omega
      have HT : Hid (catTo tyL l (k + 1) = catTo tyL l k ++ tyL l[k]) := catTo_succ tyL l k hlk
      have hdl := catTo_le tyL l k hlk
      have c0 := hcs 0 _ rfl
      have c1 := hcs 1 _ rfl
      clear hcs h1
      generalize l[k] = t at c0 c1 HT hdl
      obtain ⟨tn, ta⟩ := t
      simp only [Nat.add_zero] at c0 c1
      have htl : (tyL ⟨tn, ta⟩).length = (tx tn).length + 1 := by simp [tyL, fl]
      have htx : tn.length ≤ (tx tn).length := by simp [tx]
      obtain ⟨D, hD⟩ : ∃ D, D = bs ++ catTo tyL l k := ⟨_, rfl⟩
      have hDl : D.length + (tx tn).length + 60 ≤ 140737488355328 := by rw [hD, List.length_append]; omega
      rw [← hD] at HK
      have HD := hide hD
      have HB := hide (And.intro hDl htx)
      clear hD hdl htl hDl htx
      go_upto_region 3 with fail
      refine name_world ?_
      intro wB hwB
      have HKB : Hid (Wk g v w D wB) := hide (by rw [hwB]; exact HK.out.alloc _)
      have HBX : Hid (Blk wB wr.heap.size 56 #[S tn, .bool ta]) := hide (by rw [hwB]; exact Blk.new _ _ _)
      clear hwB HK c0 c1
      generalize wr.heap.size = q at HBX ⊢
      refine region_lays (by kernel_rfl) [⟨0, some 12, false, [0, 1, 2], []⟩, ⟨1, some 13, false, [0, 1, 2], []⟩, ⟨2, some 14, false, [0, 1, 2], [13]⟩, ⟨3, some 15, false, [0, 1, 2], [14]⟩, ⟨4, some 16, true, [0], [12, 15]⟩, ⟨5, some 17, false, [0, 1, 2], []⟩, ⟨6, some 18, false, [0, 1, 2], [17]⟩, ⟨7, some 19, false, [0, 1, 2], [18]⟩, ⟨8, some 20, true, [1], [16, 19]⟩] [4, 8] (fun d => match d with | 12 => .is (.pointer (some ⟨g, 0, none⟩)) | 13 => .is (.pointer (some ⟨q, 0, none⟩)) | 14 => .is (S tn) | 15 => .lit 1 9 #[S tn] | 16 => .is (.pointer (some ⟨g, 0, none⟩)) | 17 => .is (.pointer (some ⟨q, 1, none⟩)) | 18 => .is (.bool ta) | 19 => .lit 1 4 #[.bool ta] | 20 => .is (.pointer (some ⟨g, 0, none⟩)) | _ => .any) g v w (fun k => match k with | 0 => D | 1 => D ++ tx tn | _ => D ++ tx tn ++ fl ta) (by kernel_rfl) HKB.out ?obs ?hend
      case obs =>
        refine List.forall_mem_cons.2 ⟨?_, ?_⟩
        · refine ObL.pure (by rfl) ?_
          intro z w' hs hz G hG
          simp only [putsAt, List.foldl]
          unfold Runs
          go_simp
          exact hG _ rfl
        refine List.forall_mem_cons.2 ⟨?_, ?_⟩
        · refine ObL.pure (by rfl) ?_
          intro z w' hs hz G hG
          simp only [putsAt, List.foldl]
          unfold Runs
          go_simp
          exact hG _ rfl
        refine List.forall_mem_cons.2 ⟨?_, ?_⟩
        · refine ObL.pure (by rfl) ?_
          intro z w' hs hz G hG
          have e13 : z 13 = .pointer (some ⟨q, 0, none⟩) := hz 13 (by simp)
          have hc0 := (hs _ _ _ (by decide) HBX.out).cell 0
          simp at hc0
          simp only [putsAt, List.foldl, e13]
          unfold Runs
          go_simp
          exact hG _ rfl
        refine List.forall_mem_cons.2 ⟨?_, ?_⟩
        · refine ObL.lit (by rfl) rfl (by decide) ?_
          intro z w' hs hz G hG
          have e14 : z 14 = S tn := hz 14 (by simp)
          simp only [putsAt, List.foldl, e14]
          unfold Runs
          go_simp
          exact hG
        refine List.forall_mem_cons.2 ⟨?_, ?_⟩
        · refine ObL.call (by rfl) ?_
          intro z w' hk0 hs hz G hG
          have hk : Wk g v w (D) w' := hk0
          clear hk0
          have e12 : z 12 = .pointer (some ⟨g, 0, none⟩) := hz 12 (by simp)
          obtain ⟨_, b15, e15, k15⟩ : farT 9 = true ∧ ∃ b, z 15 = .slice (some ⟨b, 0, none⟩) 1 1 ∧ Blk w' b 9 #[S tn] := hz 15 (by simp)
          simp only [putsAt, List.foldl, e12, e15]
          unfold Runs
          go_simp
          refine (ctext1 tn hk k15 (by have := HB.out; omega)).mono ?_
          rintro e w2 ⟨rfl, h1, h2⟩
          exact ⟨_, rfl, hG _ _ (fun d' e => by cases e; rfl) h1 h2⟩
        refine List.forall_mem_cons.2 ⟨?_, ?_⟩
        · refine ObL.pure (by rfl) ?_
          intro z w' hs hz G hG
          simp only [putsAt, List.foldl]
          unfold Runs
          go_simp
          exact hG _ rfl
        refine List.forall_mem_cons.2 ⟨?_, ?_⟩
        · refine ObL.pure (by rfl) ?_
          intro z w' hs hz G hG
          have e17 : z 17 = .pointer (some ⟨q, 1, none⟩) := hz 17 (by simp)
          have hc1 := (hs _ _ _ (by decide) HBX.out).cell 1
          simp at hc1
          simp only [putsAt, List.foldl, e17]
          unfold Runs
          go_simp
          exact hG _ rfl
        refine List.forall_mem_cons.2 ⟨?_, ?_⟩
        · refine ObL.lit (by rfl) rfl (by decide) ?_
          intro z w' hs hz G hG
          have e18 : z 18 = .bool ta := hz 18 (by simp)
          simp only [putsAt, List.foldl, e18]
          unfold Runs
          go_simp
          exact hG
        refine List.forall_mem_cons.2 ⟨?_, ?_⟩
        · refine ObL.call (by rfl) ?_
          intro z w' hk0 hs hz G hG
          have hk : Wk g v w (D ++ tx tn) w' := hk0
          clear hk0
          have e16 : z 16 = .pointer (some ⟨g, 0, none⟩) := hz 16 (by simp)
          obtain ⟨_, b19, e19, k19⟩ : farT 4 = true ∧ ∃ b, z 19 = .slice (some ⟨b, 0, none⟩) 1 1 ∧ Blk w' b 4 #[.bool ta] := hz 19 (by simp)
          simp only [putsAt, List.foldl, e16, e19]
          unfold Runs
          go_simp
          refine (cflag1 ta hk k19 (by have := HB.out; simp only [List.length_append] at this ⊢; omega)).mono ?_
          rintro e w2 ⟨rfl, h1, h2⟩
          exact ⟨_, rfl, hG _ _ (fun d' e => by cases e; rfl) h1 h2⟩
        exact List.forall_mem_nil _
      case hend =>
        intro z w' hz hk0 hs
        have hk : Wk g v w (D ++ tx tn ++ fl ta) w' := hk0
        clear hk0
        simp only [putsAt, List.foldl, dstsOf, List.filterMap, Act.put, List.setIfInBounds_toArray, List.set_cons_zero, List.set_cons_succ]
        generalize z 12 = y12
        generalize z 13 = y13
        generalize z 14 = y14
        generalize z 15 = y15
        generalize z 16 = y16
        generalize z 17 = y17
        generalize z 18 = y18
        generalize z 19 = y19
        generalize z 20 = y20
        clear hz
        have HK2 : Hid (Wk g v w (bs ++ catTo tyL l (k + 1)) w') := hide (by rw [HT.out, tyL, ← List.append_assoc, ← List.append_assoc, ← HD.out]; exact hk)
        clear hk
        go_wp2_with fail
        go_roundw
        case rel => exact ⟨k + 1, by omega, by go_num, HK2⟩
        case measure => simp [intOf]; omega
    · have HF : Hid (Wk g v w (bs ++ catAll tyL l) wr) := hide (by rw [← catTo_all tyL l k (by have := HNL.out; omega)]; exact HK.out)
      go_wp2_with fail
      obtain ⟨v2, h2⟩ := HF.out
      exact bodyPost_end (v := .tuple #[]) (by simp [results, Try.results38, go_sem]) rfl ⟨rfl, HF.out, Wrote.stay HW.out h2⟩

/-- What was there when the writer began is there still, and is none of its blocks. -/
theorem Rd.wrote {wo w' : World} {g s n : Nat} {v v1 : Value} {bs : List UInt8} {A : Option Addr} {cs : List Value} (hl : Rd wo (Same g v) s A n cs) (h : Wrote g v wo bs v1 w') : Rd w' (Same g v1) s A n cs := by
  refine ⟨hl.1, fun hn => ?_⟩
  obtain ⟨b, o, rfl, hF, hb, hc⟩ := hl.2 hn
  refine ⟨b, o, rfl, ?_, Nat.lt_of_lt_of_le hb h.2.1.size, fun j u hu => by rw [h.2.1.cell (p := ⟨b, o + j, none⟩) hb hF]; exact hc j u hu⟩
  rintro (e | e)
  · exact hF (.inl e)
  · rcases h.2.2 with h3 | ⟨k, h3, hk⟩
    · exact hF (.inr (by rw [e, h3]))
    · rw [h3] at e
      injection e with e
      omega
section
variable {g : Nat} {v : Value} {wo w' : World} {bs : List UInt8} {b : Nat}
theorem ctyps (l : List Ty) (A : Option Addr) (n c : Nat) (h : Wk g v wo bs w') (hd : Rd wo (Same g v) 2 A n (l.flatMap Ty.cells)) (hll : l.length = n) (hn : n ≤ 9223372036854775807) (hl : bs.length + (catAll tyL l).length + 60 ≤ 140737488355328) :
    Calls Try.prog 38 #[.pointer (some ⟨g, 0, none⟩), .slice A n c] w' (LaysOff g v wo (bs ++ catAll tyL l) w') := by
  obtain ⟨v1, h1⟩ := h
  refine (typ_any g v1 bs A n c l w' h1.1 (hd.wrote h1) hll hn hl).mono ?_
  rintro e w2 ⟨rfl, ⟨v2, h2⟩, h3⟩
  exact ⟨rfl, (Wk.step h1 h2).1, h3⟩
theorem ctyp1 (tn : List UInt8) (ta : Bool) (h : Wk g v wo bs w') (hb : Blk w' b 56 #[S tn, .bool ta]) (hl : bs.length + tn.length + 100 ≤ 140737488355328) :
    Calls Try.prog 38 #[.pointer (some ⟨g, 0, none⟩), .slice (some ⟨b, 0, none⟩) 1 1] w' (LaysOff g v wo (bs ++ tyL ⟨tn, ta⟩) w') := by
  obtain ⟨v1, h1⟩ := h
  have e : catAll tyL [⟨tn, ta⟩] = tyL ⟨tn, ta⟩ := by simp [catAll]
  have hv := vi_len_10 tn.length (by omega)
  have hr : Rd w' (Same g v1) 2 (some ⟨b, 0, none⟩) 1 ([(⟨tn, ta⟩ : Ty)].flatMap Ty.cells) :=
    ⟨by simp, fun _ => ⟨b, 0, rfl, h1.1.far (by decide) hb, hb.lt, fun j u hu => by rw [Nat.zero_add, hb.cell j]; simpa using hu⟩⟩
  refine (typ_any g v1 bs _ 1 1 [⟨tn, ta⟩] w' h1.1 hr rfl (by omega) (by rw [e]; simp only [tyL, tx, fl, List.length_append, List.length_cons, List.length_nil]; omega)).mono ?_
  rintro e2 w2 ⟨rfl, ⟨v2, h2⟩, h3⟩
  rw [e] at h2
  exact ⟨rfl, (Wk.step h1 h2).1, h3⟩
end
theorem Rd.wk {wo w' : World} {g s n : Nat} {v : Value} {bs : List UInt8} {A : Option Addr} {cs : List Value} (hl : Rd wo (Same g v) s A n cs) (h : Wk g v wo bs w') : Rd w' (Same g v) s A n cs := by
  obtain ⟨v1, h1⟩ := h
  exact hl.keep h1.2.1
theorem catTo_bd {α : Type} (f : α → List UInt8) (l : List α) (k : Nat) (h : k < l.length) : (catTo f l k).length + (f l[k]).length ≤ (catAll f l).length := catTo_le f l k h

set_option maxRecDepth 100000 in
set_option maxHeartbeats 8000000 in
theorem flay_any (f : Fc) (g : Nat) (v : Value) (bs : List UInt8) (w : World) (hw : Wr w g v bs) (h : f.at_ w (Same g v)) (hb : bs.length + (fcL f.pl).length + 200 ≤ 140737488355328) :
    Calls Try.prog 25 #[f.val, .pointer (some ⟨g, 0, none⟩)] w (LaysOff g v w (bs ++ fcL f.pl) w) := by
  obtain ⟨n, su, fA, nf, fc, fs, mA, ml, mc, ms⟩ := f
  obtain ⟨⟨hf, hfl, hfm, _⟩, ⟨hm, hml, hmm, hmok⟩, _, _⟩ := h
  simp only at hf hfl hfm hm hml hmm hmok
  have hW := hide hw
  clear hw
  obtain ⟨R, hR⟩ : ∃ R, R = bs ++ fcL (Fc.pl ⟨n, su, fA, nf, fc, fs, mA, ml, mc, ms⟩) := ⟨_, rfl⟩
  have hRl : R.length + 200 ≤ 140737488355328 := by rw [hR, List.length_append]; omega
  rw [← hR]
  clear hb
  obtain ⟨D1, hD1⟩ : ∃ D1, D1 = bs ++ (tx n ++ tx su) ++ vi nf := ⟨_, rfl⟩
  obtain ⟨D2, hD2⟩ : ∃ D2, D2 = D1 ++ catAll vrL fs ++ vi ml := ⟨_, rfl⟩
  have hR2 : R = D2 ++ catAll sgL (ms.map Sg.pl) := by
    rw [hR, hD2, hD1]
    simp only [fcL, Fc.pl, List.length_map, hfl, hml, List.append_assoc]
  have hD1l : D1.length + (catAll vrL fs).length + 200 ≤ 140737488355328 := by rw [hR2, hD2, List.length_append, List.length_append, List.length_append] at hRl; omega
  have hD2l : D2.length + (catAll sgL (ms.map Sg.pl)).length + 200 ≤ 140737488355328 := by rw [hR2, List.length_append] at hRl; omega
  have hs0 : bs.length + n.length + su.length + 200 ≤ 140737488355328 := by
    rw [hD1] at hD1l
    simp only [List.length_append, tx] at hD1l
    omega
  have HFL := hide hfl
  have HML := hide hml
  have HM := hide hmok
  have HB0 := hide hs0
  have HB1 := hide hD1l
  have HB2 := hide hD2l
  have HD1 := hide hD1
  have HD2 := hide hD2
  have HR := hide hR2
  have HMS : Hid ((ms.map Sg.pl).length = ml) := hide (by rw [List.length_map]; exact hml)
  have HRL := hide hRl
  clear hfl hml hmok hs0 hD1l hD2l hD1 hD2 hR2 hR hRl
  have HF := hide hf
  have HMR := hide hm
  clear hf hm
  go_enter Try.func25, Try.ntmps25
  go_upto_region 1 with fail
  refine name_world ?_
  intro wB hwB
  have HKB : Hid (Wk g v w bs wB) := hide (by rw [hwB]; exact (Wk.start hW.out).alloc _)
  have HBX : Hid (Blk wB w.heap.size 47 #[S n, S su, .slice fA nf fc, .slice mA ml mc]) := hide (by rw [hwB]; exact Blk.new _ _ _)
  clear hwB
  generalize w.heap.size = q at HBX ⊢
  refine region_lays (by kernel_rfl) [⟨0, some 8, false, [0, 1, 2], []⟩, ⟨1, some 9, false, [0, 1, 2], []⟩, ⟨2, some 10, false, [0, 1, 2], [9]⟩, ⟨3, some 11, false, [0, 1, 2], []⟩, ⟨4, some 12, false, [0, 1, 2], [11]⟩, ⟨5, some 13, false, [0, 1, 2], [10, 12]⟩, ⟨6, some 14, true, [0], [8, 13]⟩, ⟨7, some 15, false, [0, 1, 2], []⟩, ⟨8, some 16, false, [0, 1, 2], [15]⟩, ⟨9, some 17, false, [0, 1, 2], [16]⟩, ⟨10, some 18, false, [0, 1, 2], [17]⟩, ⟨11, some 19, true, [1], [14, 18]⟩] [6, 11] (fun d => match d with | 8 => .is (.pointer (some ⟨g, 0, none⟩)) | 9 => .is (.pointer (some ⟨q, 0, none⟩)) | 10 => .is (S n) | 11 => .is (.pointer (some ⟨q, 1, none⟩)) | 12 => .is (S su) | 13 => .lit 2 9 #[S n, S su] | 14 => .is (.pointer (some ⟨g, 0, none⟩)) | 15 => .is (.pointer (some ⟨q, 2, none⟩)) | 16 => .is (.slice fA nf fc) | 17 => .is (.int .i64 (nf : Int)) | 18 => .lit 1 3 #[.int .i64 (nf : Int)] | 19 => .is (.pointer (some ⟨g, 0, none⟩)) | _ => .any) g v w (fun k => match k with | 0 => bs | 1 => bs ++ (tx n ++ tx su) | _ => bs ++ (tx n ++ tx su) ++ vi (nf : Int).toNat) (by kernel_rfl) HKB.out ?obs ?hend
  case obs =>
    refine List.forall_mem_cons.2 ⟨?_, ?_⟩
    · refine ObL.pure (by rfl) ?_
      intro z w' hs hz G hG
      simp only [putsAt, List.foldl]
      unfold Runs
      go_simp
      exact hG _ rfl
    refine List.forall_mem_cons.2 ⟨?_, ?_⟩
    · refine ObL.pure (by rfl) ?_
      intro z w' hs hz G hG
      simp only [putsAt, List.foldl]
      unfold Runs
      go_simp
      exact hG _ rfl
    refine List.forall_mem_cons.2 ⟨?_, ?_⟩
    · refine ObL.pure (by rfl) ?_
      intro z w' hs hz G hG
      have e9 : z 9 = .pointer (some ⟨q, 0, none⟩) := hz 9 (by simp)
      have hc0 := (hs _ _ _ (by decide) HBX.out).cell 0
      simp at hc0
      simp only [putsAt, List.foldl, e9]
      unfold Runs
      go_simp
      exact hG _ rfl
    refine List.forall_mem_cons.2 ⟨?_, ?_⟩
    · refine ObL.pure (by rfl) ?_
      intro z w' hs hz G hG
      simp only [putsAt, List.foldl]
      unfold Runs
      go_simp
      exact hG _ rfl
    refine List.forall_mem_cons.2 ⟨?_, ?_⟩
    · refine ObL.pure (by rfl) ?_
      intro z w' hs hz G hG
      have e11 : z 11 = .pointer (some ⟨q, 1, none⟩) := hz 11 (by simp)
      have hc1 := (hs _ _ _ (by decide) HBX.out).cell 1
      simp at hc1
      simp only [putsAt, List.foldl, e11]
      unfold Runs
      go_simp
      exact hG _ rfl
    refine List.forall_mem_cons.2 ⟨?_, ?_⟩
    · refine ObL.lit (by rfl) rfl (by decide) ?_
      intro z w' hs hz G hG
      have e10 : z 10 = S n := hz 10 (by simp)
      have e12 : z 12 = S su := hz 12 (by simp)
      simp only [putsAt, List.foldl, e10, e12]
      unfold Runs
      go_simp
      exact hG
    refine List.forall_mem_cons.2 ⟨?_, ?_⟩
    · refine ObL.call (by rfl) ?_
      intro z w' hk0 hs hz G hG
      have hk : Wk g v w (bs) w' := hk0
      clear hk0
      have e8 : z 8 = .pointer (some ⟨g, 0, none⟩) := hz 8 (by simp)
      obtain ⟨_, b13, e13, k13⟩ : farT 9 = true ∧ ∃ b, z 13 = .slice (some ⟨b, 0, none⟩) 2 2 ∧ Blk w' b 9 #[S n, S su] := hz 13 (by simp)
      simp only [putsAt, List.foldl, e8, e13]
      unfold Runs
      go_simp
      refine (ctext2 n su hk k13 (by have := HB0.out; omega)).mono ?_
      rintro e w2 ⟨rfl, h1, h2⟩
      exact ⟨_, rfl, hG _ _ (fun d' e => by cases e; rfl) h1 h2⟩
    refine List.forall_mem_cons.2 ⟨?_, ?_⟩
    · refine ObL.pure (by rfl) ?_
      intro z w' hs hz G hG
      simp only [putsAt, List.foldl]
      unfold Runs
      go_simp
      exact hG _ rfl
    refine List.forall_mem_cons.2 ⟨?_, ?_⟩
    · refine ObL.pure (by rfl) ?_
      intro z w' hs hz G hG
      have e15 : z 15 = .pointer (some ⟨q, 2, none⟩) := hz 15 (by simp)
      have hc2 := (hs _ _ _ (by decide) HBX.out).cell 2
      simp at hc2
      simp only [putsAt, List.foldl, e15]
      unfold Runs
      go_simp
      exact hG _ rfl
    refine List.forall_mem_cons.2 ⟨?_, ?_⟩
    · refine ObL.pure (by rfl) ?_
      intro z w' hs hz G hG
      have e16 : z 16 = .slice fA nf fc := hz 16 (by simp)
      simp only [putsAt, List.foldl, e16]
      unfold Runs
      go_simp
      exact hG _ rfl
    refine List.forall_mem_cons.2 ⟨?_, ?_⟩
    · refine ObL.lit (by rfl) rfl (by decide) ?_
      intro z w' hs hz G hG
      have e17 : z 17 = .int .i64 (nf : Int) := hz 17 (by simp)
      simp only [putsAt, List.foldl, e17]
      unfold Runs
      go_simp
      exact hG
    refine List.forall_mem_cons.2 ⟨?_, ?_⟩
    · refine ObL.call (by rfl) ?_
      intro z w' hk0 hs hz G hG
      have hk : Wk g v w (bs ++ (tx n ++ tx su)) w' := hk0
      clear hk0
      have e14 : z 14 = .pointer (some ⟨g, 0, none⟩) := hz 14 (by simp)
      obtain ⟨_, b18, e18, k18⟩ : farT 3 = true ∧ ∃ b, z 18 = .slice (some ⟨b, 0, none⟩) 1 1 ∧ Blk w' b 3 #[.int .i64 (nf : Int)] := hz 18 (by simp)
      simp only [putsAt, List.foldl, e14, e18]
      unfold Runs
      go_simp
      refine (cnum1 (nf : Int) hk k18 (by have := HB1.out; have e := HD1.out; rw [e] at this; simp only [List.length_append] at this ⊢; omega) (by omega)).mono ?_
      rintro e w2 ⟨rfl, h1, h2⟩
      exact ⟨_, rfl, hG _ _ (fun d' e => by cases e; rfl) h1 h2⟩
    exact List.forall_mem_nil _
  case hend =>
    intro z w' hz hk0 hs
    have hk : Wk g v w (bs ++ (tx n ++ tx su) ++ vi (nf : Int).toNat) w' := hk0
    clear hk0
    simp only [putsAt, List.foldl, dstsOf, List.filterMap, Act.put, List.setIfInBounds_toArray, List.set_cons_zero, List.set_cons_succ]
    generalize z 8 = y8
    generalize z 9 = y9
    generalize z 10 = y10
    generalize z 11 = y11
    generalize z 12 = y12
    generalize z 13 = y13
    generalize z 14 = y14
    generalize z 15 = y15
    generalize z 16 = y16
    generalize z 17 = y17
    generalize z 18 = y18
    generalize z 19 = y19
    clear hz
    have HK1 : Hid (Wk g v w D1 w') := hide (by rw [HD1.out, ← Int.toNat_natCast nf]; exact hk)
    have HX1 := hide (hs _ _ _ (by decide) HBX.out)
    clear hk hs HKB HBX
    have k2 := HX1.out.cell 2
    simp at k2
    go_upto_region 3 with fail
    clear k2
    go_wp2_with fail
    go_loopw [23] (fun i wr => ∃ k : Nat, k ≤ nf ∧ i = .int .i64 k ∧ Hid (Wk g v w (D1 ++ catTo vrL fs k) wr) ∧ Hid (Blk wr q 47 #[S n, S su, .slice fA nf fc, .slice mA ml mc])) (fun i _ => nf - (intOf i).toNat)
    case atStart => exact ⟨0, Nat.zero_le _, rfl, hide (by rw [catTo_zero, List.append_nil]; exact HK1.out), HX1⟩
    case round =>
      obtain ⟨k, hk, rfl, HK, HX⟩ := hrel
      clear HK1 HX1
      by_cases hlt : k < nf
      · obtain ⟨b, o, rfl, _, _, hcs⟩ := Rd.rec_ (f := Vr.cells) (fun _ => rfl) (HF.out.wk HK.out) HFL.out k hlt
        have hlk : k < fs.length := by have := HFL.out; omega
        have HT : Hid (catTo vrL fs (k + 1) = catTo vrL fs k ++ vrL fs[k]) := catTo_succ vrL fs k hlk
        have hdl := catTo_bd vrL fs k hlk
        have c0 := hcs 0 _ rfl
        have c1 := hcs 1 _ rfl
        have c2 := hcs 2 _ rfl
        clear hcs
        generalize fs[k] = t at c0 c1 c2 HT hdl
        obtain ⟨xn, ⟨tn, ta⟩⟩ := t
        simp only [Nat.add_zero] at c0 c1 c2
        obtain ⟨D, hD⟩ : ∃ D, D = D1 ++ catTo vrL fs k := ⟨_, rfl⟩
        have hDl : D.length + (vi xn.length).length + xn.length + tn.length + 200 ≤ 140737488355328 := by
          have := HB1.out
          rw [hD, List.length_append]
          simp only [vrL, tyL, tx, List.length_append] at hdl
          omega
        rw [← hD] at HK
        have HD := hide hD
        have HDL := hide hDl
        clear hD hDl hdl
        go_upto_region 5 with fail
        refine name_world ?_
        intro wC hwC
        have HKC : Hid (Wk g v w D wC) := hide (by rw [hwC]; exact HK.out.alloc _)
        have HBX : Hid (Blk wC wr.heap.size 59 #[S xn, S tn, .bool ta]) := hide (by rw [hwC]; exact Blk.new _ _ _)
        have HXC : Hid (Blk wC q 47 #[S n, S su, .slice (some ⟨b, o, none⟩) nf fc, .slice mA ml mc]) := hide (by rw [hwC]; exact HX.out.alloc _)
        clear hwC HK HX c0 c1 c2
        generalize wr.heap.size = q1 at HBX ⊢
        have k0 := HBX.out.cell 0
        simp at k0
        go_upto_region 6 with (go_at_call 36; refine (ctext1 xn (HKC.out.alloc _) (Blk.new _ _ _) (by have := HDL.out; omega)).mono ?_; rintro e w3 ⟨rfl, h1, h2⟩; have HKD := hide h1; have HS3 := hide ((Stay.alloc _ _).trans h2); clear h1 h2)
        have HBX3 := hide (HS3.out _ _ _ (by decide) HBX.out)
        have HX3 := hide (HS3.out _ _ _ (by decide) HXC.out)
        clear HS3 HBX HXC HKC k0
        have k1 := HBX3.out.cell 1
        have k2 := HBX3.out.cell 2
        simp at k1 k2
        go_upto_region 7 with (go_at_call 38; refine (ctyp1 tn ta (HKD.out.alloc _) (Blk.new _ _ _) (by have := HDL.out; simp only [tx, List.length_append]; omega)).mono ?_; rintro e w4 ⟨rfl, h1, h2⟩; have HKE := hide h1; have HS4 := hide ((Stay.alloc _ _).trans h2); clear h1 h2)
        have HX4 := hide (HS4.out _ _ _ (by decide) HX3.out)
        have HK2 : Hid (Wk g v w (D1 ++ catTo vrL fs (k + 1)) w4) := hide (by rw [HT.out, vrL, ← List.append_assoc, ← List.append_assoc, ← HD.out]; exact HKE.out)
        clear k1 k2 HS4 HX3 HBX3 HKD HKE
        go_wp2_with fail
        go_roundw
        case rel => exact ⟨k + 1, by omega, by go_num, HK2, HX4⟩
        case measure => simp [intOf]; omega
      · have HK1 : Hid (Wk g v w (D1 ++ catAll vrL fs) wr) := hide (by rw [← catTo_all vrL fs k (by have := HFL.out; omega)]; exact HK.out)
        have HK3 := HK1
        clear HK HK1
        have k3 := HX.out.cell 3
        simp at k3
        go_upto_region 9 with (go_at_call 37; refine (cnum1 (ml : Int) (HK3.out.alloc _) (Blk.new _ _ _) (by have := HB1.out; simp only [List.length_append]; omega) (by omega)).mono ?_; rintro e w3 ⟨rfl, h1, h2⟩; have HKD := hide h1; have HS3 := hide ((Stay.alloc _ _).trans h2); clear h1 h2)
        have HX3 := hide (HS3.out _ _ _ (by decide) HX.out)
        have HK1 : Hid (Wk g v w D2 w3) := hide (by rw [HD2.out, ← Int.toNat_natCast ml]; exact HKD.out)
        clear HS3 HX HK3 HKD k3
        have k3 := HX3.out.cell 3
        simp at k3
        go_upto_region 10 with fail
        clear k3
        go_wp2_with fail
        go_loopw [47] (fun i wr => ∃ k : Nat, k ≤ ml ∧ i = .int .i64 k ∧ Hid (Wk g v w (D2 ++ catTo sgL (ms.map Sg.pl) k) wr)) (fun i _ => ml - (intOf i).toNat)
        case atStart => exact ⟨0, Nat.zero_le _, rfl, hide (by rw [catTo_zero, List.append_nil]; exact HK1.out)⟩
        case round =>
          obtain ⟨k, hk, rfl, HK⟩ := hrel
          clear HK1 HX3
          by_cases hlt : k < ml
          · obtain ⟨b, o, hA, _, _, hcs⟩ := Rd.rec_ (f := Sg.cells) (fun _ => rfl) (HMR.out.wk HK.out) HML.out k hlt
            have hlk : k < ms.length := by have := HML.out; omega
            have hlk2 : k < (ms.map Sg.pl).length := by have := HMS.out; omega
            have HT := hide (catTo_succ sgL (ms.map Sg.pl) k hlk2)
            have hdl := catTo_bd sgL (ms.map Sg.pl) k hlk2
            have hat := HM.out ms[k] (List.getElem_mem hlk)
            have hge : (ms.map Sg.pl)[k] = ms[k].pl := by simp
            rw [hge] at HT hdl
            clear hge
            have c0 := hcs 0 _ rfl
            have c1 := hcs 1 _ rfl
            have c2 := hcs 2 _ rfl
            have c3 := hcs 3 _ rfl
            have c4 := hcs 4 _ rfl
            clear hcs
            generalize ms[k] = t at c0 c1 c2 c3 c4 HT hdl hat
            obtain ⟨xn, st, pA, pk, pc, ps, ⟨rn, ra⟩⟩ := t
            obtain ⟨hp1, hp2, hp3, _⟩ := hat
            simp only [Nat.add_zero] at c0 c1 c2 c3 c4 hp1 hp2 hp3
            obtain ⟨D, hD⟩ : ∃ D, D = D2 ++ catTo sgL (ms.map Sg.pl) k := ⟨_, rfl⟩
            have hDl : D.length + (vi xn.length).length + xn.length + (vi rn.length).length + rn.length + (vi pk).length + (catAll tyL ps).length + 200 ≤ 140737488355328 := by
              have := HB2.out
              rw [hD, List.length_append]
              simp only [sgL, Sg.pl, tyL, tx, List.length_append, hp2] at hdl
              omega
            rw [← hD] at HK
            have HD := hide hD
            have HDL := hide hDl
            have HP := hide (And.intro hp1 (And.intro hp2 hp3))
            clear hD hDl hdl hp1 hp2 hp3
            subst hA
            go_upto_region 12 with fail
            refine name_world ?_
            intro wC hwC
            have HKC : Hid (Wk g v w D wC) := hide (by rw [hwC]; exact HK.out.alloc _)
            have HBX : Hid (Blk wC wr.heap.size 93 #[S xn, .bool st, .slice pA pk pc, S rn, .bool ra]) := hide (by rw [hwC]; exact Blk.new _ _ _)
            clear hwC HK c0 c1 c2 c3 c4
            generalize wr.heap.size = q1 at HBX ⊢
            refine region_lays (by kernel_rfl) [⟨0, some 51, false, [0, 1, 2], []⟩, ⟨1, some 52, false, [0, 1, 2], []⟩, ⟨2, some 53, false, [0, 1, 2], [52]⟩, ⟨3, some 54, false, [0, 1, 2], [53]⟩, ⟨4, some 55, true, [0], [51, 54]⟩, ⟨5, some 56, false, [0, 1, 2], []⟩, ⟨6, some 57, false, [0, 1, 2], [56]⟩, ⟨7, some 58, false, [0, 1, 2], [57]⟩, ⟨8, some 59, true, [1], [55, 58]⟩] [4, 8] (fun d => match d with | 51 => .is (.pointer (some ⟨g, 0, none⟩)) | 52 => .is (.pointer (some ⟨q1, 0, none⟩)) | 53 => .is (S xn) | 54 => .lit 1 9 #[S xn] | 55 => .is (.pointer (some ⟨g, 0, none⟩)) | 56 => .is (.pointer (some ⟨q1, 1, none⟩)) | 57 => .is (.bool st) | 58 => .lit 1 4 #[.bool st] | 59 => .is (.pointer (some ⟨g, 0, none⟩)) | _ => .any) g v w (fun k => match k with | 0 => D | 1 => D ++ tx xn | _ => D ++ tx xn ++ fl st) (by kernel_rfl) HKC.out ?obs ?hend
            case obs =>
              refine List.forall_mem_cons.2 ⟨?_, ?_⟩
              · refine ObL.pure (by rfl) ?_
                intro z w' hs hz G hG
                simp only [putsAt, List.foldl]
                unfold Runs
                go_simp
                exact hG _ rfl
              refine List.forall_mem_cons.2 ⟨?_, ?_⟩
              · refine ObL.pure (by rfl) ?_
                intro z w' hs hz G hG
                simp only [putsAt, List.foldl]
                unfold Runs
                go_simp
                exact hG _ rfl
              refine List.forall_mem_cons.2 ⟨?_, ?_⟩
              · refine ObL.pure (by rfl) ?_
                intro z w' hs hz G hG
                have e52 : z 52 = .pointer (some ⟨q1, 0, none⟩) := hz 52 (by simp)
                have hc0 := (hs _ _ _ (by decide) HBX.out).cell 0
                simp at hc0
                simp only [putsAt, List.foldl, e52]
                unfold Runs
                go_simp
                exact hG _ rfl
              refine List.forall_mem_cons.2 ⟨?_, ?_⟩
              · refine ObL.lit (by rfl) rfl (by decide) ?_
                intro z w' hs hz G hG
                have e53 : z 53 = S xn := hz 53 (by simp)
                simp only [putsAt, List.foldl, e53]
                unfold Runs
                go_simp
                exact hG
              refine List.forall_mem_cons.2 ⟨?_, ?_⟩
              · refine ObL.call (by rfl) ?_
                intro z w' hk0 hs hz G hG
                have hk : Wk g v w (D) w' := hk0
                clear hk0
                have e51 : z 51 = .pointer (some ⟨g, 0, none⟩) := hz 51 (by simp)
                obtain ⟨_, b54, e54, k54⟩ : farT 9 = true ∧ ∃ b, z 54 = .slice (some ⟨b, 0, none⟩) 1 1 ∧ Blk w' b 9 #[S xn] := hz 54 (by simp)
                simp only [putsAt, List.foldl, e51, e54]
                unfold Runs
                go_simp
                refine (ctext1 xn hk k54 (by have := HDL.out; omega)).mono ?_
                rintro e w2 ⟨rfl, h1, h2⟩
                exact ⟨_, rfl, hG _ _ (fun d' e => by cases e; rfl) h1 h2⟩
              refine List.forall_mem_cons.2 ⟨?_, ?_⟩
              · refine ObL.pure (by rfl) ?_
                intro z w' hs hz G hG
                simp only [putsAt, List.foldl]
                unfold Runs
                go_simp
                exact hG _ rfl
              refine List.forall_mem_cons.2 ⟨?_, ?_⟩
              · refine ObL.pure (by rfl) ?_
                intro z w' hs hz G hG
                have e56 : z 56 = .pointer (some ⟨q1, 1, none⟩) := hz 56 (by simp)
                have hc1 := (hs _ _ _ (by decide) HBX.out).cell 1
                simp at hc1
                simp only [putsAt, List.foldl, e56]
                unfold Runs
                go_simp
                exact hG _ rfl
              refine List.forall_mem_cons.2 ⟨?_, ?_⟩
              · refine ObL.lit (by rfl) rfl (by decide) ?_
                intro z w' hs hz G hG
                have e57 : z 57 = .bool st := hz 57 (by simp)
                simp only [putsAt, List.foldl, e57]
                unfold Runs
                go_simp
                exact hG
              refine List.forall_mem_cons.2 ⟨?_, ?_⟩
              · refine ObL.call (by rfl) ?_
                intro z w' hk0 hs hz G hG
                have hk : Wk g v w (D ++ tx xn) w' := hk0
                clear hk0
                have e55 : z 55 = .pointer (some ⟨g, 0, none⟩) := hz 55 (by simp)
                obtain ⟨_, b58, e58, k58⟩ : farT 4 = true ∧ ∃ b, z 58 = .slice (some ⟨b, 0, none⟩) 1 1 ∧ Blk w' b 4 #[.bool st] := hz 58 (by simp)
                simp only [putsAt, List.foldl, e55, e58]
                unfold Runs
                go_simp
                refine (cflag1 st hk k58 (by have := HDL.out; simp only [tx, List.length_append] at this ⊢; omega)).mono ?_
                rintro e w2 ⟨rfl, h1, h2⟩
                exact ⟨_, rfl, hG _ _ (fun d' e => by cases e; rfl) h1 h2⟩
              exact List.forall_mem_nil _
            case hend =>
              intro z w' hz hk0 hs
              have hk : Wk g v w (D ++ tx xn ++ fl st) w' := hk0
              clear hk0
              simp only [putsAt, List.foldl, dstsOf, List.filterMap, Act.put, List.setIfInBounds_toArray, List.set_cons_zero, List.set_cons_succ]
              generalize z 51 = y51
              generalize z 52 = y52
              generalize z 53 = y53
              generalize z 54 = y54
              generalize z 55 = y55
              generalize z 56 = y56
              generalize z 57 = y57
              generalize z 58 = y58
              generalize z 59 = y59
              clear hz
              have HKD := hide hk
              have HBX2 := hide (hs _ _ _ (by decide) HBX.out)
              clear hk hs HBX HKC
              have k3 := HBX2.out.cell 3
              have k4 := HBX2.out.cell 4
              simp at k3 k4
              go_upto_region 14 with (go_at_call 38; refine (ctyp1 rn ra (HKD.out.alloc _) (Blk.new _ _ _) (by have := HDL.out; simp only [tx, fl, List.length_append, List.length_cons, List.length_nil]; omega)).mono ?_; rintro e w4 ⟨rfl, h1, h2⟩; have HKE := hide h1; have HS4 := hide ((Stay.alloc _ _).trans h2); clear h1 h2)
              have HBX3 := hide (HS4.out _ _ _ (by decide) HBX2.out)
              clear k3 k4 HS4 HBX2 HKD
              have k2 := HBX3.out.cell 2
              simp at k2
              obtain ⟨hp1, hp2, hp3⟩ := HP.out
              go_upto_region 15 with (go_at_call 37; refine (cnum1 (pk : Int) (HKE.out.alloc _) (Blk.new _ _ _) (by have := HDL.out; simp only [tx, fl, tyL, List.length_append, List.length_cons, List.length_nil]; omega) (by omega)).mono ?_; rintro e w5 ⟨rfl, h1, h2⟩; have HKF := hide h1; have HS5 := hide ((Stay.alloc _ _).trans h2); clear h1 h2)
              have HBX4 := hide (HS5.out _ _ _ (by decide) HBX3.out)
              clear k2 HS5 HBX3 HKE
              have k2 := HBX4.out.cell 2
              simp at k2
              go_upto_region 16 with (go_at_call 38; refine (ctyps ps pA pk pc HKF.out hp1 hp2 hp3 (by have := HDL.out; simp only [tx, fl, tyL, List.length_append, List.length_cons, List.length_nil, Int.toNat_natCast]; omega)).mono ?_; rintro e w6 ⟨rfl, h1, h2⟩; have HKG := hide h1; clear h1 h2)
              have HK2 : Hid (Wk g v w (D2 ++ catTo sgL (ms.map Sg.pl) (k + 1)) w6) := hide (by
                have := HKG.out
                rw [HT.out, ← List.append_assoc, ← HD.out]
                simp only [sgL, Sg.pl, List.append_assoc, Int.toNat_natCast, (HP.out).2.1] at this ⊢
                exact this)
              clear k2 HKF HKG HBX4 hp1
              go_wp2_with fail
              go_roundw
              case rel => exact ⟨k + 1, by omega, by go_num, HK2⟩
              case measure => simp [intOf]; omega
          · have HFI : Hid (Wk g v w R wr) := hide (by rw [HR.out, ← catTo_all sgL (ms.map Sg.pl) k (by have := HMS.out; omega)]; exact HK.out)
            go_wp2_with fail
            obtain ⟨v2, h2⟩ := HFI.out
            exact bodyPost_end (v := .tuple #[]) (by simp [results, Try.results25, go_sem]) rfl ⟨rfl, HFI.out, Wrote.stay hW.out h2⟩
end Go.Proofs.Ythehimjdjgmnjaa
