/- How a class's pool is laid, walked; no statement of the seat is proved here. -/
import Derived.Test.YtkldfbacagnhoaaDoorFaceLay
import Derived.Test.YtkldfbacagnhoaaDoorClsR1
namespace Go.Proofs.YtkldfbacagnhoaaDoor
open Go.RowKit

section
variable {g : Nat} {v : Value} {wo w' : World} {bs : List UInt8}
theorem cints (l : List Int) (A : Option Addr) (n c : Nat) (h : Wk g v wo bs w') (hd : Rd wo (Same g v) 1 A n (l.map (Value.int .i64))) (hW : ∀ x ∈ l, i64In x) (hn : n ≤ 9223372036854775807) (hl : bs.length + (catAll zi l).length + 20 ≤ 140737488355328) :
    Calls Tryd.prog 42 #[.pointer (some ⟨g, 0, none⟩), .slice A n c] w' (LaysOn g v wo (bs ++ catAll zi l) w') := by
  obtain ⟨v1, h1⟩ := h
  refine (int_any g v1 bs A n c l w' h1.1 (hd.wrote h1) hW hn hl).mono ?_
  rintro e w2 ⟨v2, rfl, h2⟩
  exact ⟨rfl, Wk.step h1 h2⟩
theorem ctextd (l : List (List UInt8)) (A : Option Addr) (n c : Nat) (h : Wk g v wo bs w') (hd : Rd wo (Same g v) 1 A n (l.map S)) (hn : n ≤ 9223372036854775807) (hl : bs.length + (catAll tx l).length + 20 ≤ 140737488355328) :
    Calls Tryd.prog 23 #[.pointer (some ⟨g, 0, none⟩), .slice A n c] w' (LaysOn g v wo (bs ++ catAll tx l) w') := by
  obtain ⟨v1, h1⟩ := h
  refine (text_any g v1 bs A n c l w' h1.1 (hd.wrote h1) hn hl).mono ?_
  rintro e w2 ⟨v2, rfl, h2⟩
  exact ⟨rfl, Wk.step h1 h2⟩

set_option maxRecDepth 100000 in
set_option maxHeartbeats 4000000 in
theorem cone (tn : List UInt8) (ta : Bool) (hk : Wk g v wo bs w') (hl : bs.length + (vi tn.length).length + tn.length + 100 ≤ 140737488355328) :
    Calls Tryd.prog 53 #[.pointer (some ⟨g, 0, none⟩), .agg #[S tn, .bool ta]] w' (LaysOff g v wo (bs ++ tyL ⟨tn, ta⟩) w') := by
  have HB := hide hl
  have HKB0 := hide hk
  clear hl hk
  go_enter Tryd.func53, Tryd.ntmps53
  go_upto_region 1 with fail
  refine name_world ?_
  intro wB hwB
  have HKB : Hid (Wk g v wo bs wB) := hide (by rw [hwB]; exact HKB0.out.alloc _)
  have HS0 : Hid (Stay w' wB) := hide (by rw [hwB]; exact Stay.alloc _ _)
  have HBX : Hid (Blk wB w'.heap.size 49 #[S tn, .bool ta]) := hide (by rw [hwB]; exact Blk.new _ _ _)
  clear hwB
  generalize w'.heap.size = q at HBX ⊢
  obtain ⟨w0, hw0⟩ : ∃ w0 : World, w0 = w' := ⟨_, rfl⟩
  rw [← hw0] at HS0 ⊢
  clear hw0
  refine region_lays (by kernel_rfl) [⟨0, some 4, false, [0, 1, 2], []⟩, ⟨1, some 5, false, [0, 1, 2], []⟩, ⟨2, some 6, false, [0, 1, 2], [5]⟩, ⟨3, some 7, false, [0, 1, 2], [6]⟩, ⟨4, some 8, true, [0], [4, 7]⟩, ⟨5, some 9, false, [0, 1, 2], []⟩, ⟨6, some 10, false, [0, 1, 2], [9]⟩, ⟨7, some 11, false, [0, 1, 2], [10]⟩, ⟨8, some 12, true, [1], [8, 11]⟩] [4, 8] (fun d => match d with | 4 => .is (.pointer (some ⟨g, 0, none⟩)) | 5 => .is (.pointer (some ⟨q, 0, none⟩)) | 6 => .is (S tn) | 7 => .lit 1 9 #[S tn] | 8 => .is (.pointer (some ⟨g, 0, none⟩)) | 9 => .is (.pointer (some ⟨q, 1, none⟩)) | 10 => .is (.bool ta) | 11 => .lit 1 4 #[.bool ta] | 12 => .is (.pointer (some ⟨g, 0, none⟩)) | _ => .any) g v wo (fun k => match k with | 0 => bs | 1 => bs ++ tx tn | _ => bs ++ tx tn ++ fl ta) (by kernel_rfl) HKB.out ?obs ?hend
  case obs =>
    refine List.forall_mem_cons.2 ⟨?_, ?_⟩
    · refine ObL.pure (by rfl) ?_
      intro z w' hs hz G hG
      simp only [putsAt, List.foldl]
      unfold Runs
      go_simp
      exact hG _ rfl
    refine List.forall_mem_cons.2 ⟨?_, ?_⟩
    · refine ObL.pure (by rfl) ?_
      intro z w' hs hz G hG
      simp only [putsAt, List.foldl]
      unfold Runs
      go_simp
      exact hG _ rfl
    refine List.forall_mem_cons.2 ⟨?_, ?_⟩
    · refine ObL.pure (by rfl) ?_
      intro z w' hs hz G hG
      have e5 : z 5 = .pointer (some ⟨q, 0, none⟩) := hz 5 (by simp)
      have hc0 := (hs _ _ _ (by decide) HBX.out).cell 0
      simp at hc0
      simp only [putsAt, List.foldl, e5]
      unfold Runs
      go_simp
      exact hG _ rfl
    refine List.forall_mem_cons.2 ⟨?_, ?_⟩
    · refine ObL.lit (by rfl) rfl (by decide) ?_
      intro z w' hs hz G hG
      have e6 : z 6 = S tn := hz 6 (by simp)
      simp only [putsAt, List.foldl, e6]
      unfold Runs
      go_simp
      exact hG
    refine List.forall_mem_cons.2 ⟨?_, ?_⟩
    · refine ObL.call (by rfl) ?_
      intro z w' hk0 hs hz G hG
      have hk : Wk g v wo (bs) w' := hk0
      clear hk0
      have e4 : z 4 = .pointer (some ⟨g, 0, none⟩) := hz 4 (by simp)
      obtain ⟨_, b7, e7, k7⟩ : farT 9 = true ∧ ∃ b, z 7 = .slice (some ⟨b, 0, none⟩) 1 1 ∧ Blk w' b 9 #[S tn] := hz 7 (by simp)
      simp only [putsAt, List.foldl, e4, e7]
      unfold Runs
      go_simp
      refine (ctext1 tn hk k7 (by have := HB.out; omega)).mono ?_
      rintro e w2 ⟨rfl, h1, h2⟩
      exact ⟨_, rfl, hG _ _ (fun d' e => by cases e; rfl) h1 h2⟩
    refine List.forall_mem_cons.2 ⟨?_, ?_⟩
    · refine ObL.pure (by rfl) ?_
      intro z w' hs hz G hG
      simp only [putsAt, List.foldl]
      unfold Runs
      go_simp
      exact hG _ rfl
    refine List.forall_mem_cons.2 ⟨?_, ?_⟩
    · refine ObL.pure (by rfl) ?_
      intro z w' hs hz G hG
      have e9 : z 9 = .pointer (some ⟨q, 1, none⟩) := hz 9 (by simp)
      have hc1 := (hs _ _ _ (by decide) HBX.out).cell 1
      simp at hc1
      simp only [putsAt, List.foldl, e9]
      unfold Runs
      go_simp
      exact hG _ rfl
    refine List.forall_mem_cons.2 ⟨?_, ?_⟩
    · refine ObL.lit (by rfl) rfl (by decide) ?_
      intro z w' hs hz G hG
      have e10 : z 10 = .bool ta := hz 10 (by simp)
      simp only [putsAt, List.foldl, e10]
      unfold Runs
      go_simp
      exact hG
    refine List.forall_mem_cons.2 ⟨?_, ?_⟩
    · refine ObL.call (by rfl) ?_
      intro z w' hk0 hs hz G hG
      have hk : Wk g v wo (bs ++ tx tn) w' := hk0
      clear hk0
      have e8 : z 8 = .pointer (some ⟨g, 0, none⟩) := hz 8 (by simp)
      obtain ⟨_, b11, e11, k11⟩ : farT 4 = true ∧ ∃ b, z 11 = .slice (some ⟨b, 0, none⟩) 1 1 ∧ Blk w' b 4 #[.bool ta] := hz 11 (by simp)
      simp only [putsAt, List.foldl, e8, e11]
      unfold Runs
      go_simp
      refine (cflag1 ta hk k11 (by have := HB.out; simp only [List.length_append, tx] at this ⊢; omega)).mono ?_
      rintro e w2 ⟨rfl, h1, h2⟩
      exact ⟨_, rfl, hG _ _ (fun d' e => by cases e; rfl) h1 h2⟩
    exact List.forall_mem_nil _
  case hend =>
    intro z w' hz hk0 hs
    have hk : Wk g v wo (bs ++ tx tn ++ fl ta) w' := hk0
    clear hk0
    simp only [putsAt, List.foldl, dstsOf, List.filterMap, Act.put, List.setIfInBounds_toArray, List.set_cons_zero, List.set_cons_succ]
    generalize z 4 = y4
    generalize z 5 = y5
    generalize z 6 = y6
    generalize z 7 = y7
    generalize z 8 = y8
    generalize z 9 = y9
    generalize z 10 = y10
    generalize z 11 = y11
    generalize z 12 = y12
    clear hz
    have HS := hide (HS0.out.trans hs)
    have HF : Hid (Wk g v wo (bs ++ tyL ⟨tn, ta⟩) w') := hide (by rw [tyL, ← List.append_assoc]; exact hk)
    clear hk hs
    go_wp2_with fail
    exact bodyPost_end (v := .tuple #[]) (by simp [results, Tryd.results53, go_sem]) rfl ⟨rfl, HF.out, HS.out⟩
end

/-- A face of one method is laid. -/
theorem cface1 (m : Sg) (cn : List UInt8) (b : Nat) {g : Nat} {v : Value} {wo w' : World} {bs : List UInt8} (h : Wk g v wo bs w') (hb : Blk w' b 52 m.cells.toArray) (hm : m.at_ wo (Same g v)) (hc : short cn) (hl : bs.length + (fcL (mtF ⟨m.pl, cn⟩)).length + 200 ≤ 140737488355328) :
    Calls Tryd.prog 31 #[.agg #[S cn, S [], .slice none 0 0, .slice (some ⟨b, 0, none⟩) 1 1], .pointer (some ⟨g, 0, none⟩)] w' (LaysOff g v wo (bs ++ fcL (mtF ⟨m.pl, cn⟩)) w') := by
  obtain ⟨v1, h1⟩ := h
  have hat : (oneF m cn b).at_ w' (Same g v1) := by
    refine ⟨⟨⟨rfl, fun h => absurd h (Nat.lt_irrefl 0)⟩, rfl, Nat.zero_le _, fun v hv => by cases hv⟩, ⟨⟨rfl, fun _ => ⟨b, 0, rfl, h1.1.far (by decide) hb, hb.lt, fun j u hu => ?_⟩⟩, rfl, by show 1 ≤ 9223372036854775807; omega, fun m' hm' => ?_⟩, hc, by show 0 ≤ 9223372036854775807; omega⟩
    · rw [Nat.zero_add, hb.cell j]
      simp only [oneF, List.flatMap_cons, List.flatMap_nil, List.append_nil] at hu
      simpa using hu
    · obtain rfl := List.mem_singleton.1 hm'
      exact ⟨hm.1.wrote h1, hm.2⟩
  refine (flay_any (oneF m cn b) g v1 bs w' h1.1 hat hl).mono ?_
  rintro e w2 ⟨rfl, ⟨v2, h2⟩, h3⟩
  exact ⟨rfl, (Wk.step h1 h2).1, h3⟩

set_option maxRecDepth 100000 in
set_option maxHeartbeats 8000000 in
theorem play_any (f : Fl) (g : Nat) (v : Value) (bs : List UInt8) (w : World) (hw : Wr w g v bs) (h : f.pat w (Same g v)) (hb : bs.length + (poolL f.ppl).length + 300 ≤ 140737488355328) :
    Calls Tryd.prog 32 #[f.pval, .pointer (some ⟨g, 0, none⟩)] w (LaysOff g v w (bs ++ poolL f.ppl) w) := by
  have HW := hide hw
  have HP := hide h
  clear hw h
  have hn := HP.out.nB
  have hc := HP.out.cB
  have ht := HP.out.tB
  have hd := HP.out.dB
  have hm := HP.out.mB
  obtain ⟨R, hR⟩ : ∃ R, R = bs ++ poolL f.ppl := ⟨_, rfl⟩
  have hRl : R.length + 300 ≤ 140737488355328 := by rw [hR, List.length_append]; omega
  rw [← hR]
  clear hb
  obtain ⟨D1, hD1⟩ : ∃ D1, D1 = bs ++ vi (f.nl : Int).toNat ++ catAll zi f.nums ++ vi (f.cl : Int).toNat ++ catAll tx f.cls ++ vi (f.tl : Int).toNat := ⟨_, rfl⟩
  obtain ⟨D2, hD2⟩ : ∃ D2, D2 = D1 ++ catAll tyL f.tys ++ vi (f.dl : Int).toNat := ⟨_, rfl⟩
  obtain ⟨D3, hD3⟩ : ∃ D3, D3 = D2 ++ catAll fdL f.fds ++ vi (f.ml : Int).toNat := ⟨_, rfl⟩
  obtain ⟨M, hM⟩ : ∃ M, M = (f.mts.map Mt.pl).map mtF := ⟨_, rfl⟩
  have hML : M.length = f.ml := by rw [hM]; simp [HP.out.mL]
  have hR2 : R = D3 ++ catAll fcL M := by
    rw [hR, hD3, hD2, hD1, hM]
    simp only [poolL, poL, poL1, poL2, secL, Fl.ppl, List.length_map, HP.out.nL, HP.out.cL, HP.out.tL, HP.out.dL, HP.out.mL, List.append_assoc, Int.toNat_natCast]
  have hl3 : D3.length + (catAll fcL M).length + 300 ≤ 140737488355328 := by rw [hR2, List.length_append] at hRl; omega
  have hl2 : D2.length + (catAll fdL f.fds).length + 300 ≤ 140737488355328 := by rw [hD3, List.length_append, List.length_append] at hl3; omega
  have hl1 : D1.length + (catAll tyL f.tys).length + 300 ≤ 140737488355328 := by rw [hD2, List.length_append, List.length_append] at hl2; omega
  have HB : Hid (bs.length + 300 ≤ 140737488355328 ∧ (bs ++ vi (f.nl : Int).toNat).length + (catAll zi f.nums).length + 300 ≤ 140737488355328 ∧ (bs ++ vi (f.nl : Int).toNat ++ catAll zi f.nums).length + 300 ≤ 140737488355328 ∧ (bs ++ vi (f.nl : Int).toNat ++ catAll zi f.nums ++ vi (f.cl : Int).toNat).length + (catAll tx f.cls).length + 300 ≤ 140737488355328 ∧ (bs ++ vi (f.nl : Int).toNat ++ catAll zi f.nums ++ vi (f.cl : Int).toNat ++ catAll tx f.cls).length + 300 ≤ 140737488355328 ∧ D1.length + (catAll tyL f.tys).length + 300 ≤ 140737488355328 ∧ D2.length + (catAll fdL f.fds).length + 300 ≤ 140737488355328 ∧ D3.length + (catAll fcL M).length + 300 ≤ 140737488355328) := by
    refine hide ⟨?_, ?_, ?_, ?_, ?_, hl1, hl2, hl3⟩ <;> rw [hD1] at hl1 <;> simp only [List.length_append] at hl1 ⊢ <;> omega
  have HD1 := hide hD1
  have HD2 := hide hD2
  have HD3 := hide hD3
  have HR := hide hR2
  have HMM := hide hM
  have HML := hide hML
  clear hD1 hD2 hD3 hR2 hl1 hl2 hl3 hR hRl hM hML
  go_enter Tryd.func32, Tryd.ntmps32
  go_upto_region 1 with fail
  refine name_world ?_
  intro wB hwB
  have HKB : Hid (Wk g v w bs wB) := hide (by rw [hwB]; exact (Wk.start HW.out).alloc _)
  have HBX : Hid (Blk wB w.heap.size 33 f.pcells.toArray) := hide (by rw [hwB]; exact Blk.new _ _ _)
  clear hwB
  generalize w.heap.size = q at HBX ⊢
  refine region_lays (by kernel_rfl) [⟨0, some 10, false, [0, 1, 2, 3, 4, 5], []⟩, ⟨1, some 11, false, [0, 1, 2, 3, 4, 5], []⟩, ⟨2, some 12, false, [0, 1, 2, 3, 4, 5], [11]⟩, ⟨3, some 13, false, [0, 1, 2, 3, 4, 5], [12]⟩, ⟨4, some 14, false, [0, 1, 2, 3, 4, 5], [13]⟩, ⟨5, some 15, true, [0], [10, 14]⟩, ⟨6, some 16, false, [0, 1, 2, 3, 4, 5], []⟩, ⟨7, some 17, false, [0, 1, 2, 3, 4, 5], [16]⟩, ⟨8, some 18, true, [1], [15, 17]⟩, ⟨9, some 19, false, [0, 1, 2, 3, 4, 5], []⟩, ⟨10, some 20, false, [0, 1, 2, 3, 4, 5], [19]⟩, ⟨11, some 21, false, [0, 1, 2, 3, 4, 5], [20]⟩, ⟨12, some 22, false, [0, 1, 2, 3, 4, 5], [21]⟩, ⟨13, some 23, true, [2], [18, 22]⟩, ⟨14, some 24, false, [0, 1, 2, 3, 4, 5], []⟩, ⟨15, some 25, false, [0, 1, 2, 3, 4, 5], [24]⟩, ⟨16, some 26, true, [3], [23, 25]⟩, ⟨17, some 27, false, [0, 1, 2, 3, 4, 5], []⟩, ⟨18, some 28, false, [0, 1, 2, 3, 4, 5], [27]⟩, ⟨19, some 29, false, [0, 1, 2, 3, 4, 5], [28]⟩, ⟨20, some 30, false, [0, 1, 2, 3, 4, 5], [29]⟩, ⟨21, some 31, true, [4], [26, 30]⟩] [5, 8, 13, 16, 21] (fun d => match d with | 10 => .is (.pointer (some ⟨g, 0, none⟩)) | 11 => .is (.pointer (some ⟨q, 0, none⟩)) | 12 => .is (.slice f.nA f.nl f.nc) | 13 => .is (.int .i64 (f.nl : Int)) | 14 => .lit 1 3 #[.int .i64 (f.nl : Int)] | 15 => .is (.pointer (some ⟨g, 0, none⟩)) | 16 => .is (.pointer (some ⟨q, 0, none⟩)) | 17 => .is (.slice f.nA f.nl f.nc) | 18 => .is (.pointer (some ⟨g, 0, none⟩)) | 19 => .is (.pointer (some ⟨q, 1, none⟩)) | 20 => .is (.slice f.cA f.cl f.cc) | 21 => .is (.int .i64 (f.cl : Int)) | 22 => .lit 1 3 #[.int .i64 (f.cl : Int)] | 23 => .is (.pointer (some ⟨g, 0, none⟩)) | 24 => .is (.pointer (some ⟨q, 1, none⟩)) | 25 => .is (.slice f.cA f.cl f.cc) | 26 => .is (.pointer (some ⟨g, 0, none⟩)) | 27 => .is (.pointer (some ⟨q, 2, none⟩)) | 28 => .is (.slice f.tA f.tl f.tc) | 29 => .is (.int .i64 (f.tl : Int)) | 30 => .lit 1 3 #[.int .i64 (f.tl : Int)] | 31 => .is (.pointer (some ⟨g, 0, none⟩)) | _ => .any) g v w (fun k => match k with | 0 => bs | 1 => bs ++ vi (f.nl : Int).toNat | 2 => bs ++ vi (f.nl : Int).toNat ++ catAll zi f.nums | 3 => bs ++ vi (f.nl : Int).toNat ++ catAll zi f.nums ++ vi (f.cl : Int).toNat | 4 => bs ++ vi (f.nl : Int).toNat ++ catAll zi f.nums ++ vi (f.cl : Int).toNat ++ catAll tx f.cls | _ => bs ++ vi (f.nl : Int).toNat ++ catAll zi f.nums ++ vi (f.cl : Int).toNat ++ catAll tx f.cls ++ vi (f.tl : Int).toNat) (by kernel_rfl) HKB.out ?obs ?hend
  case obs =>
    refine List.forall_mem_cons.2 ⟨?_, ?_⟩
    · refine ObL.pure (by rfl) ?_
      intro z w' hs hz G hG
      simp only [putsAt, List.foldl]
      unfold Runs
      go_simp
      exact hG _ rfl
    refine List.forall_mem_cons.2 ⟨?_, ?_⟩
    · refine ObL.pure (by rfl) ?_
      intro z w' hs hz G hG
      simp only [putsAt, List.foldl]
      unfold Runs
      go_simp
      exact hG _ rfl
    refine List.forall_mem_cons.2 ⟨?_, ?_⟩
    · refine ObL.pure (by rfl) ?_
      intro z w' hs hz G hG
      have e11 : z 11 = .pointer (some ⟨q, 0, none⟩) := hz 11 (by simp)
      have hc0 := (hs _ _ _ (by decide) HBX.out).cell 0
      simp at hc0
      simp only [putsAt, List.foldl, e11]
      unfold Runs
      go_simp
      exact hG _ rfl
    refine List.forall_mem_cons.2 ⟨?_, ?_⟩
    · refine ObL.pure (by rfl) ?_
      intro z w' hs hz G hG
      have e12 : z 12 = .slice f.nA f.nl f.nc := hz 12 (by simp)
      simp only [putsAt, List.foldl, e12]
      unfold Runs
      go_simp
      exact hG _ rfl
    refine List.forall_mem_cons.2 ⟨?_, ?_⟩
    · refine ObL.lit (by rfl) rfl (by decide) ?_
      intro z w' hs hz G hG
      have e13 : z 13 = .int .i64 (f.nl : Int) := hz 13 (by simp)
      simp only [putsAt, List.foldl, e13]
      unfold Runs
      go_simp
      exact hG
    refine List.forall_mem_cons.2 ⟨?_, ?_⟩
    · refine ObL.call (by rfl) ?_
      intro z w' hk0 hs hz G hG
      have hk : Wk g v w (bs) w' := hk0
      clear hk0
      have e10 : z 10 = .pointer (some ⟨g, 0, none⟩) := hz 10 (by simp)
      obtain ⟨_, b14, e14, k14⟩ : farT 3 = true ∧ ∃ b, z 14 = .slice (some ⟨b, 0, none⟩) 1 1 ∧ Blk w' b 3 #[.int .i64 (f.nl : Int)] := hz 14 (by simp)
      simp only [putsAt, List.foldl, e10, e14]
      unfold Runs
      go_simp
      refine (cnum1 (f.nl : Int) hk k14 (by have := HB.out.1; omega) (by omega)).mono ?_
      rintro e w2 ⟨rfl, h1, h2⟩
      exact ⟨_, rfl, hG _ _ (fun d' e => by cases e; rfl) h1 h2⟩
    refine List.forall_mem_cons.2 ⟨?_, ?_⟩
    · refine ObL.pure (by rfl) ?_
      intro z w' hs hz G hG
      simp only [putsAt, List.foldl]
      unfold Runs
      go_simp
      exact hG _ rfl
    refine List.forall_mem_cons.2 ⟨?_, ?_⟩
    · refine ObL.pure (by rfl) ?_
      intro z w' hs hz G hG
      have e16 : z 16 = .pointer (some ⟨q, 0, none⟩) := hz 16 (by simp)
      have hc0 := (hs _ _ _ (by decide) HBX.out).cell 0
      simp at hc0
      simp only [putsAt, List.foldl, e16]
      unfold Runs
      go_simp
      exact hG _ rfl
    refine List.forall_mem_cons.2 ⟨?_, ?_⟩
    · refine ObL.call (by rfl) ?_
      intro z w' hk0 hs hz G hG
      have hk : Wk g v w (bs ++ vi (f.nl : Int).toNat) w' := hk0
      clear hk0
      have e15 : z 15 = .pointer (some ⟨g, 0, none⟩) := hz 15 (by simp)
      have e17 : z 17 = .slice f.nA f.nl f.nc := hz 17 (by simp)
      simp only [putsAt, List.foldl, e15, e17]
      unfold Runs
      go_simp
      refine (cints f.nums f.nA f.nl f.nc hk HP.out.nr HP.out.nW HP.out.nB (by have := HB.out.2.1; omega)).mono ?_
      rintro e w2 ⟨rfl, h1, h2⟩
      exact ⟨_, rfl, hG _ _ (fun d' e => by cases e; rfl) h1 h2⟩
    refine List.forall_mem_cons.2 ⟨?_, ?_⟩
    · refine ObL.pure (by rfl) ?_
      intro z w' hs hz G hG
      simp only [putsAt, List.foldl]
      unfold Runs
      go_simp
      exact hG _ rfl
    refine List.forall_mem_cons.2 ⟨?_, ?_⟩
    · refine ObL.pure (by rfl) ?_
      intro z w' hs hz G hG
      have e19 : z 19 = .pointer (some ⟨q, 1, none⟩) := hz 19 (by simp)
      have hc1 := (hs _ _ _ (by decide) HBX.out).cell 1
      simp at hc1
      simp only [putsAt, List.foldl, e19]
      unfold Runs
      go_simp
      exact hG _ rfl
    refine List.forall_mem_cons.2 ⟨?_, ?_⟩
    · refine ObL.pure (by rfl) ?_
      intro z w' hs hz G hG
      have e20 : z 20 = .slice f.cA f.cl f.cc := hz 20 (by simp)
      simp only [putsAt, List.foldl, e20]
      unfold Runs
      go_simp
      exact hG _ rfl
    refine List.forall_mem_cons.2 ⟨?_, ?_⟩
    · refine ObL.lit (by rfl) rfl (by decide) ?_
      intro z w' hs hz G hG
      have e21 : z 21 = .int .i64 (f.cl : Int) := hz 21 (by simp)
      simp only [putsAt, List.foldl, e21]
      unfold Runs
      go_simp
      exact hG
    refine List.forall_mem_cons.2 ⟨?_, ?_⟩
    · refine ObL.call (by rfl) ?_
      intro z w' hk0 hs hz G hG
      have hk : Wk g v w (bs ++ vi (f.nl : Int).toNat ++ catAll zi f.nums) w' := hk0
      clear hk0
      have e18 : z 18 = .pointer (some ⟨g, 0, none⟩) := hz 18 (by simp)
      obtain ⟨_, b22, e22, k22⟩ : farT 3 = true ∧ ∃ b, z 22 = .slice (some ⟨b, 0, none⟩) 1 1 ∧ Blk w' b 3 #[.int .i64 (f.cl : Int)] := hz 22 (by simp)
      simp only [putsAt, List.foldl, e18, e22]
      unfold Runs
      go_simp
      refine (cnum1 (f.cl : Int) hk k22 (by have := HB.out.2.2.1; omega) (by omega)).mono ?_
      rintro e w2 ⟨rfl, h1, h2⟩
      exact ⟨_, rfl, hG _ _ (fun d' e => by cases e; rfl) h1 h2⟩
    refine List.forall_mem_cons.2 ⟨?_, ?_⟩
    · refine ObL.pure (by rfl) ?_
      intro z w' hs hz G hG
      simp only [putsAt, List.foldl]
      unfold Runs
      go_simp
      exact hG _ rfl
    refine List.forall_mem_cons.2 ⟨?_, ?_⟩
    · refine ObL.pure (by rfl) ?_
      intro z w' hs hz G hG
      have e24 : z 24 = .pointer (some ⟨q, 1, none⟩) := hz 24 (by simp)
      have hc1 := (hs _ _ _ (by decide) HBX.out).cell 1
      simp at hc1
      simp only [putsAt, List.foldl, e24]
      unfold Runs
      go_simp
      exact hG _ rfl
    refine List.forall_mem_cons.2 ⟨?_, ?_⟩
    · refine ObL.call (by rfl) ?_
      intro z w' hk0 hs hz G hG
      have hk : Wk g v w (bs ++ vi (f.nl : Int).toNat ++ catAll zi f.nums ++ vi (f.cl : Int).toNat) w' := hk0
      clear hk0
      have e23 : z 23 = .pointer (some ⟨g, 0, none⟩) := hz 23 (by simp)
      have e25 : z 25 = .slice f.cA f.cl f.cc := hz 25 (by simp)
      simp only [putsAt, List.foldl, e23, e25]
      unfold Runs
      go_simp
      refine (ctextd f.cls f.cA f.cl f.cc hk HP.out.cr HP.out.cB (by have := HB.out.2.2.2.1; omega)).mono ?_
      rintro e w2 ⟨rfl, h1, h2⟩
      exact ⟨_, rfl, hG _ _ (fun d' e => by cases e; rfl) h1 h2⟩
    refine List.forall_mem_cons.2 ⟨?_, ?_⟩
    · refine ObL.pure (by rfl) ?_
      intro z w' hs hz G hG
      simp only [putsAt, List.foldl]
      unfold Runs
      go_simp
      exact hG _ rfl
    refine List.forall_mem_cons.2 ⟨?_, ?_⟩
    · refine ObL.pure (by rfl) ?_
      intro z w' hs hz G hG
      have e27 : z 27 = .pointer (some ⟨q, 2, none⟩) := hz 27 (by simp)
      have hc2 := (hs _ _ _ (by decide) HBX.out).cell 2
      simp at hc2
      simp only [putsAt, List.foldl, e27]
      unfold Runs
      go_simp
      exact hG _ rfl
    refine List.forall_mem_cons.2 ⟨?_, ?_⟩
    · refine ObL.pure (by rfl) ?_
      intro z w' hs hz G hG
      have e28 : z 28 = .slice f.tA f.tl f.tc := hz 28 (by simp)
      simp only [putsAt, List.foldl, e28]
      unfold Runs
      go_simp
      exact hG _ rfl
    refine List.forall_mem_cons.2 ⟨?_, ?_⟩
    · refine ObL.lit (by rfl) rfl (by decide) ?_
      intro z w' hs hz G hG
      have e29 : z 29 = .int .i64 (f.tl : Int) := hz 29 (by simp)
      simp only [putsAt, List.foldl, e29]
      unfold Runs
      go_simp
      exact hG
    refine List.forall_mem_cons.2 ⟨?_, ?_⟩
    · refine ObL.call (by rfl) ?_
      intro z w' hk0 hs hz G hG
      have hk : Wk g v w (bs ++ vi (f.nl : Int).toNat ++ catAll zi f.nums ++ vi (f.cl : Int).toNat ++ catAll tx f.cls) w' := hk0
      clear hk0
      have e26 : z 26 = .pointer (some ⟨g, 0, none⟩) := hz 26 (by simp)
      obtain ⟨_, b30, e30, k30⟩ : farT 3 = true ∧ ∃ b, z 30 = .slice (some ⟨b, 0, none⟩) 1 1 ∧ Blk w' b 3 #[.int .i64 (f.tl : Int)] := hz 30 (by simp)
      simp only [putsAt, List.foldl, e26, e30]
      unfold Runs
      go_simp
      refine (cnum1 (f.tl : Int) hk k30 (by have := HB.out.2.2.2.2.1; omega) (by omega)).mono ?_
      rintro e w2 ⟨rfl, h1, h2⟩
      exact ⟨_, rfl, hG _ _ (fun d' e => by cases e; rfl) h1 h2⟩
    exact List.forall_mem_nil _
  case hend =>
    intro z w' hz hk0 hs
    have hk : Wk g v w (bs ++ vi (f.nl : Int).toNat ++ catAll zi f.nums ++ vi (f.cl : Int).toNat ++ catAll tx f.cls ++ vi (f.tl : Int).toNat) w' := hk0
    clear hk0
    simp only [putsAt, List.foldl, dstsOf, List.filterMap, Act.put, List.setIfInBounds_toArray, List.set_cons_zero, List.set_cons_succ]
    generalize z 10 = y10
    generalize z 11 = y11
    generalize z 12 = y12
    generalize z 13 = y13
    generalize z 14 = y14
    generalize z 15 = y15
    generalize z 16 = y16
    generalize z 17 = y17
    generalize z 18 = y18
    generalize z 19 = y19
    generalize z 20 = y20
    generalize z 21 = y21
    generalize z 22 = y22
    generalize z 23 = y23
    generalize z 24 = y24
    generalize z 25 = y25
    generalize z 26 = y26
    generalize z 27 = y27
    generalize z 28 = y28
    generalize z 29 = y29
    generalize z 30 = y30
    generalize z 31 = y31
    clear hz
    have HK1 : Hid (Wk g v w D1 w') := hide (by rw [HD1.out]; exact hk)
    have HX1 := hide (hs _ _ _ (by decide) HBX.out)
    clear hk hs HKB HBX
    have k2 := HX1.out.cell 2
    simp at k2
    go_upto_region 3 with fail
    clear k2
    go_wp2_with fail
    go_loopw [35] (fun i wr => ∃ k : Nat, k ≤ f.tl ∧ i = .int .i64 k ∧ Hid (Wk g v w (D1 ++ catTo tyL f.tys k) wr) ∧ Hid (Blk wr q 33 f.pcells.toArray)) (fun i _ => f.tl - (intOf i).toNat)
    case atStart => exact ⟨0, Nat.zero_le _, rfl, hide (by rw [catTo_zero, List.append_nil]; exact HK1.out), HX1⟩
    case round =>
      obtain ⟨k, hk, rfl, HK, HX⟩ := hrel
      clear HK1 HX1
      by_cases hlt : k < f.tl
      · obtain ⟨b, o, hA, _, _, hcs⟩ := Rd.rec_ (f := Ty.cells) (fun _ => rfl) (HP.out.tr.wk HK.out) HP.out.tL k hlt
        have hlk : k < f.tys.length := by have := HP.out.tL; omega
        have HT := hide (catTo_succ tyL f.tys k hlk)
        have hdl := catTo_bd tyL f.tys k hlk
        have c0 := hcs 0 _ rfl
        have c1 := hcs 1 _ rfl
        clear hcs
        generalize f.tys[k] = t at c0 c1 HT hdl
        obtain ⟨tn, ta⟩ := t
        simp only [Nat.add_zero] at c0 c1
        obtain ⟨D, hD⟩ : ∃ D, D = D1 ++ catTo tyL f.tys k := ⟨_, rfl⟩
        have hDl : D.length + (vi tn.length).length + tn.length + 200 ≤ 140737488355328 := by
          have := HB.out.2.2.2.2.2.1
          rw [hD, List.length_append]
          simp only [tyL, tx, List.length_append] at hdl
          omega
        rw [← hD] at HK
        have HD := hide hD
        have HDL := hide hDl
        clear hD hDl hdl
        rw [hA]
        go_upto_region 5 with fail
        refine name_world ?_
        intro wC hwC
        have HKC : Hid (Wk g v w D wC) := hide (by rw [hwC]; exact HK.out.alloc _)
        have HBV : Hid (Blk wC wr.heap.size 49 #[S tn, .bool ta]) := hide (by rw [hwC]; exact Blk.new _ _ _)
        have HXC : Hid (Blk wC q 33 f.pcells.toArray) := hide (by rw [hwC]; exact HX.out.alloc _)
        clear hwC HK HX c0 c1
        generalize wr.heap.size = q1 at HBV ⊢
        have k0 := HBV.out.cell 0
        have k1 := HBV.out.cell 1
        simp at k0 k1
        go_upto_region 6 with (go_at_call 53; refine (cone tn ta HKC.out (by have := HDL.out; omega)).mono ?_; rintro e w3 ⟨rfl, h1, h2⟩; have HKD := hide h1; have HS3 := hide h2; clear h1 h2)
        have HX3 := hide (HS3.out _ _ _ (by decide) HXC.out)
        have HK2 : Hid (Wk g v w (D1 ++ catTo tyL f.tys (k + 1)) w3) := hide (by rw [HT.out, ← List.append_assoc, ← HD.out]; exact HKD.out)
        clear k0 k1 HS3 HKC HXC HBV HKD
        go_wp2_with fail
        go_roundw
        case rel => exact ⟨k + 1, by omega, by go_num, HK2, HX3⟩
        case measure => simp [intOf]; omega
      · have HK1 : Hid (Wk g v w (D1 ++ catAll tyL f.tys) wr) := hide (by rw [← catTo_all tyL f.tys k (by have := HP.out.tL; omega)]; exact HK.out)
        clear HK
        have k3 := HX.out.cell 3
        simp at k3
        go_upto_region 8 with (go_at_call 22; refine (cnum1 (f.dl : Int) (HK1.out.alloc _) (Blk.new _ _ _) (by have := HB.out.2.2.2.2.2.1; simp only [List.length_append]; omega) (by omega)).mono ?_; rintro e w3 ⟨rfl, h1, h2⟩; have HKD := hide h1; have HS3 := hide ((Stay.alloc _ _).trans h2); clear h1 h2)
        have HX3 := hide (HS3.out _ _ _ (by decide) HX.out)
        have HK2 : Hid (Wk g v w D2 w3) := hide (by rw [HD2.out]; exact HKD.out)
        clear HS3 HX HK1 HKD k3
        have k3 := HX3.out.cell 3
        simp at k3
        go_upto_region 9 with fail
        clear k3
        go_wp2_with fail
        go_loopw [52] (fun i wr => ∃ k : Nat, k ≤ f.dl ∧ i = .int .i64 k ∧ Hid (Wk g v w (D2 ++ catTo fdL f.fds k) wr) ∧ Hid (Blk wr q 33 f.pcells.toArray)) (fun i _ => f.dl - (intOf i).toNat)
        case atStart => exact ⟨0, Nat.zero_le _, rfl, hide (by rw [catTo_zero, List.append_nil]; exact HK2.out), HX3⟩
        case round =>
          obtain ⟨k, hk, rfl, HK, HX⟩ := hrel
          clear HK2 HX3
          by_cases hlt : k < f.dl
          · obtain ⟨b, o, hA, _, _, hcs⟩ := Rd.rec_ (f := FdP.cells) (fun _ => rfl) (HP.out.dr.wk HK.out) HP.out.dL k hlt
            have hlk : k < f.fds.length := by have := HP.out.dL; omega
            have HT := hide (catTo_succ fdL f.fds k hlk)
            have hdl := catTo_bd fdL f.fds k hlk
            have c0 := hcs 0 _ rfl
            have c1 := hcs 1 _ rfl
            have c2 := hcs 2 _ rfl
            have c3 := hcs 3 _ rfl
            clear hcs
            generalize f.fds[k] = t at c0 c1 c2 c3 HT hdl
            obtain ⟨⟨xn, ⟨tn, ta⟩⟩, xc⟩ := t
            simp only [Nat.add_zero] at c0 c1 c2 c3
            obtain ⟨D, hD⟩ : ∃ D, D = D2 ++ catTo fdL f.fds k := ⟨_, rfl⟩
            have hDl : D.length + (vi xc.length).length + xc.length + (vi xn.length).length + xn.length + (vi tn.length).length + tn.length + 200 ≤ 140737488355328 := by
              have := HB.out.2.2.2.2.2.2.1
              rw [hD, List.length_append]
              simp only [fdL, tyL, tx, List.length_append] at hdl
              omega
            rw [← hD] at HK
            have HD := hide hD
            have HDL := hide hDl
            clear hD hDl hdl
            rw [hA]
            go_upto_region 11 with fail
            refine name_world ?_
            intro wC hwC
            have HKC : Hid (Wk g v w D wC) := hide (by rw [hwC]; exact HK.out.alloc _)
            have HBV : Hid (Blk wC wr.heap.size 92 #[S xn, S tn, .bool ta, S xc]) := hide (by rw [hwC]; exact Blk.new _ _ _)
            have HXC : Hid (Blk wC q 33 f.pcells.toArray) := hide (by rw [hwC]; exact HX.out.alloc _)
            clear hwC HK HX c0 c1 c2 c3
            generalize wr.heap.size = q1 at HBV ⊢
            refine region_lays (by kernel_rfl) [⟨0, some 56, false, [0, 1, 2], []⟩, ⟨1, some 57, false, [0, 1, 2], []⟩, ⟨2, some 58, false, [0, 1, 2], [57]⟩, ⟨3, some 59, false, [0, 1, 2], []⟩, ⟨4, some 60, false, [0, 1, 2], [59]⟩, ⟨5, some 61, false, [0, 1, 2], [60]⟩, ⟨6, some 62, false, [0, 1, 2], [58, 61]⟩, ⟨7, some 63, true, [0], [56, 62]⟩, ⟨8, some 64, false, [0, 1, 2], []⟩, ⟨9, some 65, false, [0, 1, 2], [64]⟩, ⟨10, some 66, false, [0, 1, 2], [65]⟩, ⟨11, some 67, true, [1], [63, 66]⟩] [7, 11] (fun d => match d with | 56 => .is (.pointer (some ⟨g, 0, none⟩)) | 57 => .is (.pointer (some ⟨q1, 3, none⟩)) | 58 => .is (S xc) | 59 => .is (.pointer (some ⟨q1, 0, none⟩)) | 60 => .is (.pointer (some ⟨q1, 0, none⟩)) | 61 => .is (S xn) | 62 => .lit 2 9 #[S xc, S xn] | 63 => .is (.pointer (some ⟨g, 0, none⟩)) | 64 => .is (.pointer (some ⟨q1, 0, none⟩)) | 65 => .is (.pointer (some ⟨q1, 1, none⟩)) | 66 => .is (.agg #[S tn, .bool ta]) | 67 => .is (.tuple #[]) | _ => .any) g v w (fun k => match k with | 0 => D | 1 => D ++ (tx xc ++ tx xn) | _ => D ++ (tx xc ++ tx xn) ++ tyL ⟨tn, ta⟩) (by kernel_rfl) HKC.out ?obs ?hend
            case obs =>
              refine List.forall_mem_cons.2 ⟨?_, ?_⟩
              · refine ObL.pure (by rfl) ?_
                intro z w' hs hz G hG
                simp only [putsAt, List.foldl]
                unfold Runs
                go_simp
                exact hG _ rfl
              refine List.forall_mem_cons.2 ⟨?_, ?_⟩
              · refine ObL.pure (by rfl) ?_
                intro z w' hs hz G hG
                simp only [putsAt, List.foldl]
                unfold Runs
                go_simp
                exact hG _ rfl
              refine List.forall_mem_cons.2 ⟨?_, ?_⟩
              · refine ObL.pure (by rfl) ?_
                intro z w' hs hz G hG
                have e57 : z 57 = .pointer (some ⟨q1, 3, none⟩) := hz 57 (by simp)
                have hc3 := (hs _ _ _ (by decide) HBV.out).cell 3
                simp at hc3
                simp only [putsAt, List.foldl, e57]
                unfold Runs
                go_simp
                exact hG _ rfl
              refine List.forall_mem_cons.2 ⟨?_, ?_⟩
              · refine ObL.pure (by rfl) ?_
                intro z w' hs hz G hG
                simp only [putsAt, List.foldl]
                unfold Runs
                go_simp
                exact hG _ rfl
              refine List.forall_mem_cons.2 ⟨?_, ?_⟩
              · refine ObL.pure (by rfl) ?_
                intro z w' hs hz G hG
                have e59 : z 59 = .pointer (some ⟨q1, 0, none⟩) := hz 59 (by simp)
                simp only [putsAt, List.foldl, e59]
                unfold Runs
                go_simp
                exact hG _ rfl
              refine List.forall_mem_cons.2 ⟨?_, ?_⟩
              · refine ObL.pure (by rfl) ?_
                intro z w' hs hz G hG
                have e60 : z 60 = .pointer (some ⟨q1, 0, none⟩) := hz 60 (by simp)
                have hc0 := (hs _ _ _ (by decide) HBV.out).cell 0
                simp at hc0
                simp only [putsAt, List.foldl, e60]
                unfold Runs
                go_simp
                exact hG _ rfl
              refine List.forall_mem_cons.2 ⟨?_, ?_⟩
              · refine ObL.lit (by rfl) rfl (by decide) ?_
                intro z w' hs hz G hG
                have e58 : z 58 = S xc := hz 58 (by simp)
                have e61 : z 61 = S xn := hz 61 (by simp)
                simp only [putsAt, List.foldl, e58, e61]
                unfold Runs
                go_simp
                exact hG
              refine List.forall_mem_cons.2 ⟨?_, ?_⟩
              · refine ObL.call (by rfl) ?_
                intro z w' hk0 hs hz G hG
                have hk : Wk g v w (D) w' := hk0
                clear hk0
                have e56 : z 56 = .pointer (some ⟨g, 0, none⟩) := hz 56 (by simp)
                obtain ⟨_, b62, e62, k62⟩ : farT 9 = true ∧ ∃ b, z 62 = .slice (some ⟨b, 0, none⟩) 2 2 ∧ Blk w' b 9 #[S xc, S xn] := hz 62 (by simp)
                simp only [putsAt, List.foldl, e56, e62]
                unfold Runs
                go_simp
                refine (ctext2 xc xn hk k62 (by have := HDL.out; omega)).mono ?_
                rintro e w2 ⟨rfl, h1, h2⟩
                exact ⟨_, rfl, hG _ _ (fun d' e => by cases e; rfl) h1 h2⟩
              refine List.forall_mem_cons.2 ⟨?_, ?_⟩
              · refine ObL.pure (by rfl) ?_
                intro z w' hs hz G hG
                simp only [putsAt, List.foldl]
                unfold Runs
                go_simp
                exact hG _ rfl
              refine List.forall_mem_cons.2 ⟨?_, ?_⟩
              · refine ObL.pure (by rfl) ?_
                intro z w' hs hz G hG
                have e64 : z 64 = .pointer (some ⟨q1, 0, none⟩) := hz 64 (by simp)
                simp only [putsAt, List.foldl, e64]
                unfold Runs
                go_simp
                exact hG _ rfl
              refine List.forall_mem_cons.2 ⟨?_, ?_⟩
              · refine ObL.pure (by rfl) ?_
                intro z w' hs hz G hG
                have e65 : z 65 = .pointer (some ⟨q1, 1, none⟩) := hz 65 (by simp)
                have hc1 := (hs _ _ _ (by decide) HBV.out).cell 1
                simp at hc1
                have hc2 := (hs _ _ _ (by decide) HBV.out).cell 2
                simp at hc2
                simp only [putsAt, List.foldl, e65]
                unfold Runs
                go_simp
                exact hG _ rfl
              refine List.forall_mem_cons.2 ⟨?_, ?_⟩
              · refine ObL.call (by rfl) ?_
                intro z w' hk0 hs hz G hG
                have hk : Wk g v w (D ++ (tx xc ++ tx xn)) w' := hk0
                clear hk0
                have e63 : z 63 = .pointer (some ⟨g, 0, none⟩) := hz 63 (by simp)
                have e66 : z 66 = .agg #[S tn, .bool ta] := hz 66 (by simp)
                simp only [putsAt, List.foldl, e63, e66]
                unfold Runs
                go_simp
                refine (cone tn ta hk (by have := HDL.out; simp only [List.length_append, tx] at this ⊢; omega)).mono ?_
                rintro e w2 ⟨rfl, h1, h2⟩
                exact ⟨_, rfl, hG _ _ (fun d' e => by cases e; rfl) h1 h2⟩
              exact List.forall_mem_nil _
            case hend =>
              intro z w' hz hk0 hs
              have hk : Wk g v w (D ++ (tx xc ++ tx xn) ++ tyL ⟨tn, ta⟩) w' := hk0
              clear hk0
              simp only [putsAt, List.foldl, dstsOf, List.filterMap, Act.put, List.setIfInBounds_toArray, List.set_cons_zero, List.set_cons_succ]
              generalize z 56 = y56
              generalize z 57 = y57
              generalize z 58 = y58
              generalize z 59 = y59
              generalize z 60 = y60
              generalize z 61 = y61
              generalize z 62 = y62
              generalize z 63 = y63
              generalize z 64 = y64
              generalize z 65 = y65
              generalize z 66 = y66
              generalize z 67 = y67
              clear hz
              have HX3 := hide (hs _ _ _ (by decide) HXC.out)
              have HK2 : Hid (Wk g v w (D2 ++ catTo fdL f.fds (k + 1)) w') := hide (by
                rw [HT.out, ← List.append_assoc, ← HD.out]
                simp only [fdL, List.append_assoc] at hk ⊢
                exact hk)
              clear hk hs HKC HXC HBV
              go_wp2_with fail
              go_roundw
              case rel => exact ⟨k + 1, by omega, by go_num, HK2, HX3⟩
              case measure => simp [intOf]; omega
          · have HK1 : Hid (Wk g v w (D2 ++ catAll fdL f.fds) wr) := hide (by rw [← catTo_all fdL f.fds k (by have := HP.out.dL; omega)]; exact HK.out)
            clear HK
            have k3 := HX.out.cell 4
            simp at k3
            go_upto_region 14 with (go_at_call 22; refine (cnum1 (f.ml : Int) (HK1.out.alloc _) (Blk.new _ _ _) (by have := HB.out.2.2.2.2.2.2.1; simp only [List.length_append]; omega) (by omega)).mono ?_; rintro e w3 ⟨rfl, h1, h2⟩; have HKD := hide h1; have HS3 := hide ((Stay.alloc _ _).trans h2); clear h1 h2)
            have HX3 := hide (HS3.out _ _ _ (by decide) HX.out)
            have HK2 : Hid (Wk g v w D3 w3) := hide (by rw [HD3.out]; exact HKD.out)
            clear HS3 HX HK1 HKD k3
            have k3 := HX3.out.cell 4
            simp at k3
            go_upto_region 15 with fail
            clear k3
            go_wp2_with fail
            go_loopw [78] (fun i wr => ∃ k : Nat, k ≤ f.ml ∧ i = .int .i64 k ∧ Hid (Wk g v w (D3 ++ catTo fcL M k) wr)) (fun i _ => f.ml - (intOf i).toNat)
            case atStart => exact ⟨0, Nat.zero_le _, rfl, hide (by rw [catTo_zero, List.append_nil]; exact HK2.out)⟩
            case round =>
              obtain ⟨k, hk, rfl, HK⟩ := hrel
              clear HK2 HX3
              by_cases hlt : k < f.ml
              · obtain ⟨b, o, hA, _, _, hcs⟩ := Rd.rec_ (f := Mt.cells) (fun _ => rfl) (HP.out.mr.wk HK.out) HP.out.mL k hlt
                have hlk : k < f.mts.length := by have := HP.out.mL; omega
                have hlM : k < M.length := by have := HML.out; omega
                have HT := hide (catTo_succ fcL M k hlM)
                have hdl := catTo_bd fcL M k hlM
                have hMk : M[k] = mtF f.mts[k].pl := by simp [HMM.out]
                rw [hMk] at HT hdl
                have hat := HP.out.mW f.mts[k] (List.getElem_mem hlk)
                clear hMk
                have c0 := hcs 0 _ rfl
                have c1 := hcs 1 _ rfl
                have c2 := hcs 2 _ rfl
                have c3 := hcs 3 _ rfl
                have c4 := hcs 4 _ rfl
                have c5 := hcs 5 _ rfl
                clear hcs
                generalize f.mts[k] = t at c0 c1 c2 c3 c4 c5 HT hdl hat
                obtain ⟨⟨xn, st, pA, pk, pc, ps, ⟨rn, ra⟩⟩, xc⟩ := t
                simp only [Nat.add_zero] at c0 c1 c2 c3 c4 c5
                obtain ⟨D, hD⟩ : ∃ D, D = D3 ++ catTo fcL M k := ⟨_, rfl⟩
                have hDl : D.length + (fcL (mtF (Mt.pl ⟨⟨xn, st, pA, pk, pc, ps, ⟨rn, ra⟩⟩, xc⟩))).length + 200 ≤ 140737488355328 := by
                  have := HB.out.2.2.2.2.2.2.2
                  rw [hD, List.length_append]
                  omega
                rw [← hD] at HK
                have HD := hide hD
                have HDL := hide hDl
                have HAT := hide hat
                clear hD hDl hdl hat
                rw [hA]
                go_upto_region 17 with fail
                refine name_world ?_
                intro wC hwC
                have HKC : Hid (Wk g v w D wC) := hide (by rw [hwC]; exact HK.out.alloc _)
                have HBV : Hid (Blk wC wr.heap.size 94 #[S xn, .bool st, .slice pA pk pc, S rn, .bool ra, S xc]) := hide (by rw [hwC]; exact Blk.new _ _ _)
                clear hwC HK c0 c1 c2 c3 c4 c5
                generalize wr.heap.size = q1 at HBV ⊢
                have k0 := HBV.out.cell 0
                have k1 := HBV.out.cell 1
                have k2 := HBV.out.cell 2
                have k3 := HBV.out.cell 3
                have k4 := HBV.out.cell 4
                have k5 := HBV.out.cell 5
                simp at k0 k1 k2 k3 k4 k5
                go_upto_region 18 with (go_at_call 31; refine (cface1 ⟨xn, st, pA, pk, pc, ps, ⟨rn, ra⟩⟩ xc _ (HKC.out.alloc _) (Blk.new _ _ _) HAT.out.1 HAT.out.2 (by have := HDL.out; exact this)).mono ?_; rintro e w3 ⟨rfl, h1, h2⟩; have HKD := hide h1; clear h1 h2)
                have HK2 : Hid (Wk g v w (D3 ++ catTo fcL M (k + 1)) w3) := hide (by rw [HT.out, ← List.append_assoc, ← HD.out]; exact HKD.out)
                clear k0 k1 k2 k3 k4 k5 HKC HBV HKD HAT
                go_wp2_with fail
                go_roundw
                case rel => exact ⟨k + 1, by omega, by go_num, HK2⟩
                case measure => simp [intOf]; omega
              · have HFI : Hid (Wk g v w R wr) := hide (by rw [HR.out, ← catTo_all fcL M k (by have := HML.out; omega)]; exact HK.out)
                go_wp2_with fail
                obtain ⟨v2, h2⟩ := HFI.out
                exact bodyPost_end (v := .tuple #[]) (by simp [results, Tryd.results32, go_sem]) rfl ⟨rfl, HFI.out, Wrote.stay HW.out h2⟩
end Go.Proofs.YtkldfbacagnhoaaDoor
