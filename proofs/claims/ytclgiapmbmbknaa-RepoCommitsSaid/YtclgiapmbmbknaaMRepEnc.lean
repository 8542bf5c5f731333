/- A list as bytes: List.Encode, walked; no statement of the seat is proved here. -/
import Derived.Test.YtclgiapmbmbknaaMRepRight
import Derived.Test.YtclgiapmbmbknaaMLaysR
namespace Go.Proofs.Ytclgiapmbmbknaa
open Go.RowKit
set_option linter.unusedVariables false

/-- A writer behind what touches new blocks alone. -/
theorem Wk.on {g : Nat} {v : Value} {wo w' w'' : World} {bs : List UInt8} (h : Wk g v wo bs w') (hb : Below w'.heap.size w' w'') : Wk g v wo bs w'' := by
  obtain ⟨v', h1, h2, h3⟩ := h
  have hk : Keep (fun _ => False) w' w'' := Keep.of_below hb (fun k h1 h2 => by omega)
  exact ⟨v', h1.keep hk id (fun _ _ h => h), h2.trans' hk (fun _ _ h => h.elim), h3⟩
theorem ctext3 {g : Nat} {v : Value} {wo w' : World} {bs : List UInt8} {b : Nat} (s t u : List UInt8) (h : Wk g v wo bs w') (hb : Blk w' b 9 #[S s, S t, S u]) (hl : bs.length + s.length + t.length + u.length + 80 ≤ 140737488355328) :
    Calls Try.prog 41 #[.pointer (some ⟨g, 0, none⟩), .slice (some ⟨b, 0, none⟩) 3 3] w' (LaysOn g v wo (bs ++ (tx s ++ (tx t ++ tx u))) w') := by
  have e : catAll tx [s, t, u] = tx s ++ (tx t ++ tx u) := by simp [catAll]
  have h1 := vi_len_10 s.length (by omega)
  have h2 := vi_len_10 t.length (by omega)
  have h3 := vi_len_10 u.length (by omega)
  have := ctexts [s, t, u] h hb (by rw [e]; simp only [tx, List.length_append]; omega) (by simp)
  rw [e] at this
  exact this
theorem rdL_len (x : Rdq) : x.n.length + x.d.length ≤ (rdL x).length := by
  unfold rdL tx
  simp only [List.length_append]
  omega
theorem enL_len (e : EnP) : e.n.length + e.s.length + e.b.length + (catAll rdL e.rs).length ≤ (enL e).length := by
  unfold enL secL tx
  simp only [List.length_append]
  omega

set_option maxRecDepth 100000 in
set_option maxHeartbeats 16000000 in
theorem enc_no (A : Option Addr) (n c : Nat) (L : List Enq) (w : World) (h : LiAt w (fun k => w.heap.size ≤ k) A n L) (hr : rightL (L.map Enq.pl) = false) : Calls Try.prog 21 #[.slice A n c] w (Gives w (.tuple #[S [], .int .i64 1])) := by
  have HR := hide (right_any A n c L w h)
  rw [hr] at HR
  clear h hr
  go_enter Try.func21, Try.ntmps21
  go_wp2_with (go_at_call 15; refine HR.out.mono ?_; rintro e w1 ⟨rfl, hb1⟩)
  go_ret2
  exact ⟨rfl, hb1⟩

set_option maxRecDepth 100000 in
set_option maxHeartbeats 16000000 in
theorem enc_ok (A : Option Addr) (n c : Nat) (L : List Enq) (w : World) (h : LiAt w (fun k => w.heap.size ≤ k) A n L) (hr : rightL (L.map Enq.pl) = true) (hok : ∀ e ∈ L, e.pl.ok = true) (hb : (liL (L.map Enq.pl)).length ≤ 1099511627000) : Calls Try.prog 21 #[.slice A n c] w (Gives w (.tuple #[S (encM (L.map Enq.pl)), .int .i64 0])) := by
  have HR := hide (right_any A n c L w h)
  rw [hr] at HR
  have hll := h.ll
  have hn200 : n ≤ 200 := by
    unfold rightL at hr
    simp only [Bool.and_eq_true, decide_eq_true_eq, List.length_map] at hr
    omega
  have HL := hide h
  have HLL := hide hll
  have HOK : Hid (∀ e ∈ L, e.s.length = 32 ∧ e.b.length = 32 ∧ ∀ x ∈ e.rs, x.d.length = 32) := hide (fun e he => ok_s (hok e he))
  obtain ⟨E, hE⟩ : ∃ E, E = liL (L.map Enq.pl) := ⟨_, rfl⟩
  have HE : Hid (E = vi n ++ catAll enL (L.map Enq.pl)) := hide (by rw [hE, liL, secL, List.length_map, hll])
  have HEB : Hid (E.length ≤ 1099511627000) := hide (by rw [hE]; exact hb)
  have HEM : Hid (encM (L.map Enq.pl) = E ++ sumM E) := hide (by rw [encM, hE])
  clear hr h hll hok hb hE
  rw [HEM.out]
  go_enter Try.func21, Try.ntmps21
  go_upto_region 4 with (go_at_call 15; refine HR.out.mono ?_; rintro e w1 ⟨rfl, hb1⟩)
  have HB1 := hide hb1
  clear hb1 HR
  refine name_world ?_
  intro wW hwW
  have HW0 : Hid (Wk w1.heap.size (.slice none 0 0) wW [] wW) := hide (by rw [hwW]; exact Wk.start (wr_new w1))
  have HBW : Hid (Below w.heap.size w wW) := hide (by rw [hwW]; exact HB1.out.alloc HB1.out.size _)
  have HGW : Hid (w.heap.size ≤ w1.heap.size) := hide HB1.out.size
  clear hwW HB1
  obtain ⟨gw, hgw⟩ : ∃ g, g = w1.heap.size := ⟨_, rfl⟩
  rw [← hgw] at HW0 HGW ⊢
  clear hgw
  have HN1 := hide (cnum1 (n : Int) (HW0.out.alloc (.cells #[.int .i64 (n : Int)] 3)) (Blk.new wW 3 #[.int .i64 (n : Int)]) (by simp) (by omega))
  go_upto_region 5 with (go_at_call 40; refine HN1.out.mono ?_; rintro e w2 ⟨rfl, hk2, hs2⟩)
  have HK2 : Hid (Wk gw (.slice none 0 0) wW (vi n) w2) := hide (by simpa using hk2)
  clear hk2 hs2 HN1 HW0
  go_wp2_with fail
  go_loopw [19] (fun i wr => ∃ j : Nat, j ≤ n ∧ i = .int .i64 j ∧ Hid (Wk gw (.slice none 0 0) wW (vi n ++ catTo enL (L.map Enq.pl) j) wr)) (fun i _ => n - (intOf i).toNat)
  case atStart => exact ⟨0, Nat.zero_le _, rfl, by simpa [catTo_zero] using HK2⟩
  case round =>
    obtain ⟨j, hj, rfl, HK⟩ := hrel
    have HBR : Hid (Below w.heap.size w wr) := hide (HBW.out.trans (HK.out.below HBW.out.size HGW.out (fun k hk => by simp [Value.ownBlock] at hk)))
    by_cases hlt : j < n
    case pos =>
      focus
        obtain ⟨wo, rfl⟩ : ∃ wo : World, wo = wr := ⟨_, rfl⟩
        obtain ⟨b, o, hA, _, hbl, hcs⟩ := Rd.rec_ (f := Enq.cells) (size := 66) Enq.cells_len (HL.out.lr.below HBR.out) HLL.out j hlt
        have hlk : j < L.length := by have := HLL.out; omega
        have hlk2 : j < (L.map Enq.pl).length := by rw [List.length_map]; exact hlk
        have hea := HL.out.la L[j] (List.getElem_mem hlk)
        have hok := HOK.out L[j] (List.getElem_mem hlk)
        have HT : Hid (catTo enL (L.map Enq.pl) (j + 1) = catTo enL (L.map Enq.pl) j ++ enL L[j].pl) := hide (by rw [catTo_succ _ _ _ hlk2, List.getElem_map])
        have HTL : Hid ((vi n ++ catTo enL (L.map Enq.pl) j).length + (enL L[j].pl).length ≤ 1099511627000) := hide (by
          have h1 := catTo_le enL (L.map Enq.pl) j hlk2
          have h2 := HEB.out
          rw [HE.out] at h2
          rw [List.getElem_map] at h1
          simp only [List.length_append] at h2 ⊢
          omega)
        generalize L[j] = e at hcs hea hok HT HTL
        have HV := hide (EnV.mk_ e)
        obtain ⟨ev, hev⟩ : ∃ ev, ev = e.cells.toArray := ⟨_, rfl⟩
        rw [← hev] at HV
        have HRG : Hid (wo.rangeAt b (o + j * 66) ev.toList) := hide (fun i v hv => hcs i v (by rw [hev] at hv; simpa using hv))
        clear hev hcs
        have HEA := hide hea
        have HEOK := hide hok
        have hkb : e.k ≤ 9223372036854775807 := hea.rb
        clear hea hok
        obtain ⟨ze, hze⟩ : ∃ ze, ze = ZE := ⟨_, rfl⟩
        have hzero : ∀ w, (zeroValue 44).run Try.prog w = .ok (.agg ze) w := fun w => by rw [hze]; exact zero_en w
        obtain ⟨w1', hw1⟩ : ∃ w1, w1 = (wo.alloc (.cells ze 44)).setCells wo.heap.size 0 ev.toList := ⟨_, rfl⟩
        have HBX := hide (box_any wo 44 ze ev (by rw [HV.out.size, hze]; rfl))
        rw [← hw1] at HBX
        have HZT : Hid ((wo.alloc (.cells ze 44)).there wo.heap.size 0 ev.size) := hide ((Blk.new wo 44 ze).there_ (by rw [HV.out.size, hze]; rfl))
        clear hze
        replace hA : A = some ⟨b, o, none⟩ := hA
        rw [hA]
        have hjk : (j : Int) < (n : Int) := by omega
        go_upto_region 8 with (first
          | (refine wpList_load_mid rfl 44 (.tmp 21) rfl b (o + j * 66) rfl ev.toList _ HRG.out Try.underlying44 rfl (by rw [Array.length_toList, HV.out.size]; exact en_info) ?_; rw [Array.toArray_toList])
          | (refine wpList_store_mid rfl 44 (.tmp 6) (.tmp 22) rfl wo.heap.size 0 ev rfl rfl HZT.out (by rw [HV.out.size]; exact en_info) HV.out.one ?_))
        rw [← hw1]
        have HB6 : Hid (Blk w1' wo.heap.size 44 ev) := hide HBX.out.1
        have HKW0 : Hid (Wk gw (.slice none 0 0) wW (vi n ++ catTo enL (L.map Enq.pl) j) w1') := hide (HK.out.on HBX.out.2)
        have HW1 : Hid (Below w.heap.size w w1') := hide (HBR.out.trans (HBX.out.2.mono HBR.out.size))
        clear hw1 hzero HBX HZT hjk HK
        obtain ⟨g6, hg6⟩ : ∃ g, g = wo.heap.size := ⟨_, rfl⟩
        rw [← hg6] at HB6 ⊢
        clear hg6
        obtain ⟨en, es, eA, ek, ec, ers, eb⟩ := e
        obtain ⟨D, hD⟩ : ∃ D, D = vi n ++ catTo enL (L.map Enq.pl) j := ⟨_, rfl⟩
        rw [← hD] at HKW0 HTL
        have HKW := HKW0
        have HD := hide hD
        have HEL : Hid ((enL (Enq.pl ⟨en, es, eA, ek, ec, ers, eb⟩)) = tx en ++ (tx es ++ (tx eb ++ (vi ek ++ catAll rdL ers)))) := hide (by rw [← show ers.length = ek from HEA.out.rl]; rfl)
        have HBD : Hid (D.length + en.length + es.length + eb.length + (tx en ++ (tx es ++ tx eb)).length + (catAll rdL ers).length + 200 ≤ 140737488355328) := hide (by
          have h1 := HTL.out
          have h2 := enL_len (Enq.pl ⟨en, es, eA, ek, ec, ers, eb⟩)
          rw [HEL.out] at h1 h2
          simp only [Enq.pl, List.length_append] at h1 h2 ⊢
          omega)
        have HEK : Hid (ek ≤ 9223372036854775807) := hide hkb
        have HS1 : Hid (dpad es = es ∧ dpad eb = eb) := hide ⟨dpad_id HEOK.out.1, dpad_id HEOK.out.2.1⟩
        have HC1 : Hid (∀ w', Blk w' g6 44 ev → (convert 67 9 (.slice (some ⟨g6, 1, none⟩) 32 32)).run Try.prog w' = .ok (S es) w') := hide (fun w' hb => conv_32 HEOK.out.1 (fun i hi => by have := HV.out.src hb i hi; simpa [HS1.out.1] using this))
        have HC2 : Hid (∀ w', Blk w' g6 44 ev → (convert 67 9 (.slice (some ⟨g6, 34, none⟩) 32 32)).run Try.prog w' = .ok (S eb) w') := hide (fun w' hb => conv_32 HEOK.out.2.1 (fun i hi => by have := HV.out.blob hb i hi; simpa [HS1.out.2] using this))
        clear hD
        refine region_lays (by kernel_rfl) [⟨0, some 23, false, [0, 1, 2], []⟩, ⟨1, some 24, false, [0, 1, 2], [23]⟩, ⟨2, some 25, false, [0, 1, 2], []⟩, ⟨3, some 26, false, [0, 1, 2], [25]⟩, ⟨4, some 27, false, [0, 1, 2], [26]⟩, ⟨5, some 28, false, [0, 1, 2], []⟩, ⟨6, some 29, false, [0, 1, 2], [28]⟩, ⟨7, some 30, false, [0, 1, 2], [29]⟩, ⟨8, some 31, false, [0, 1, 2], [24, 27, 30]⟩, ⟨9, some 32, true, [0], [31]⟩, ⟨10, some 33, false, [0, 1, 2], []⟩, ⟨11, some 34, false, [0, 1, 2], [33]⟩, ⟨12, some 35, false, [0, 1, 2], [34]⟩, ⟨13, some 36, false, [0, 1, 2], [35]⟩, ⟨14, some 37, true, [1], [32, 36]⟩] [9, 14] (fun d => match d with | 23 => .is (.pointer (some ⟨g6, 0, none⟩)) | 24 => .is (S en) | 25 => .is (.pointer (some ⟨g6, 1, none⟩)) | 26 => .is (.slice (some ⟨g6, 1, none⟩) 32 32) | 27 => .is (S es) | 28 => .is (.pointer (some ⟨g6, 34, none⟩)) | 29 => .is (.slice (some ⟨g6, 34, none⟩) 32 32) | 30 => .is (S eb) | 31 => .lit 3 9 #[S en, S es, S eb] | 32 => .is (.pointer (some ⟨gw, 0, none⟩)) | 33 => .is (.pointer (some ⟨g6, 33, none⟩)) | 34 => .is (.slice eA ek ec) | 35 => .is (.int .i64 (ek : Int)) | 36 => .lit 1 3 #[.int .i64 (ek : Int)] | 37 => .is (.pointer (some ⟨gw, 0, none⟩)) | _ => .any) gw (.slice none 0 0) wW (fun k => match k with | 0 => D | 1 => D ++ (tx en ++ (tx es ++ tx eb)) | _ => D ++ (tx en ++ (tx es ++ tx eb)) ++ vi (ek : Int).toNat) (by kernel_rfl) HKW.out ?obs ?hend
        case obs =>
          refine List.forall_mem_cons.2 ⟨?_, ?_⟩
          · refine ObL.pure (by rfl) ?_
            intro z w' hs hz G hG
            simp only [putsAt, List.foldl]
            unfold Runs
            go_simp
            exact hG _ rfl
          refine List.forall_mem_cons.2 ⟨?_, ?_⟩
          · refine ObL.pure (by rfl) ?_
            intro z w' hs hz G hG
            have e23 : z 23 = (.pointer (some ⟨g6, 0, none⟩)) := hz 23 (by simp)
            have hc0 := ((hs _ _ _ (by decide) HB6.out).cell 0).trans HV.out.c0
            simp only at hc0
            simp only [putsAt, List.foldl, e23]
            unfold Runs
            go_simp
            exact hG _ rfl
          refine List.forall_mem_cons.2 ⟨?_, ?_⟩
          · refine ObL.pure (by rfl) ?_
            intro z w' hs hz G hG
            simp only [putsAt, List.foldl]
            unfold Runs
            go_simp
            exact hG _ rfl
          refine List.forall_mem_cons.2 ⟨?_, ?_⟩
          · refine ObL.pure (by rfl) ?_
            intro z w' hs hz G hG
            have e25 : z 25 = (.pointer (some ⟨g6, 1, none⟩)) := hz 25 (by simp)
            simp only [putsAt, List.foldl, e25]
            unfold Runs
            go_simp
            exact hG _ rfl
          refine List.forall_mem_cons.2 ⟨?_, ?_⟩
          · refine ObL.pure (by rfl) ?_
            intro z w' hs hz G hG
            have e26 : z 26 = (.slice (some ⟨g6, 1, none⟩) 32 32) := hz 26 (by simp)
            have hcv := HC1.out w' (hs _ _ _ (by decide) HB6.out)
            simp only [putsAt, List.foldl, e26]
            unfold Runs
            go_simp
            exact hG _ rfl
          refine List.forall_mem_cons.2 ⟨?_, ?_⟩
          · refine ObL.pure (by rfl) ?_
            intro z w' hs hz G hG
            simp only [putsAt, List.foldl]
            unfold Runs
            go_simp
            exact hG _ rfl
          refine List.forall_mem_cons.2 ⟨?_, ?_⟩
          · refine ObL.pure (by rfl) ?_
            intro z w' hs hz G hG
            have e28 : z 28 = (.pointer (some ⟨g6, 34, none⟩)) := hz 28 (by simp)
            simp only [putsAt, List.foldl, e28]
            unfold Runs
            go_simp
            exact hG _ rfl
          refine List.forall_mem_cons.2 ⟨?_, ?_⟩
          · refine ObL.pure (by rfl) ?_
            intro z w' hs hz G hG
            have e29 : z 29 = (.slice (some ⟨g6, 34, none⟩) 32 32) := hz 29 (by simp)
            have hcv := HC2.out w' (hs _ _ _ (by decide) HB6.out)
            simp only [putsAt, List.foldl, e29]
            unfold Runs
            go_simp
            exact hG _ rfl
          refine List.forall_mem_cons.2 ⟨?_, ?_⟩
          · refine ObL.lit (by rfl) rfl (by decide) ?_
            intro z w' hs hz G hG
            have e24 : z 24 = (S en) := hz 24 (by simp)
            have e27 : z 27 = (S es) := hz 27 (by simp)
            have e30 : z 30 = (S eb) := hz 30 (by simp)
            simp only [putsAt, List.foldl, e24, e27, e30]
            unfold Runs
            go_simp
            exact hG
          refine List.forall_mem_cons.2 ⟨?_, ?_⟩
          · refine ObL.call (by rfl) ?_
            intro z w' hk0 hs hz G hG
            have hk : Wk gw (.slice none 0 0) wW (D) w' := hk0
            clear hk0
            obtain ⟨_, b31, e31, k31⟩ : farT 9 = true ∧ ∃ b, z 31 = .slice (some ⟨b, 0, none⟩) 3 3 ∧ Blk w' b 9 #[S en, S es, S eb] := hz 31 (by simp)
            simp only [putsAt, List.foldl, e31]
            unfold Runs
            go_simp
            refine (ctext3 en es eb hk k31 (by have := HBD.out; omega)).mono ?_
            rintro e w2 ⟨rfl, h1, h2⟩
            exact ⟨_, rfl, hG _ _ (fun d' e => by cases e; rfl) h1 h2⟩
          refine List.forall_mem_cons.2 ⟨?_, ?_⟩
          · refine ObL.pure (by rfl) ?_
            intro z w' hs hz G hG
            simp only [putsAt, List.foldl]
            unfold Runs
            go_simp
            exact hG _ rfl
          refine List.forall_mem_cons.2 ⟨?_, ?_⟩
          · refine ObL.pure (by rfl) ?_
            intro z w' hs hz G hG
            have e33 : z 33 = (.pointer (some ⟨g6, 33, none⟩)) := hz 33 (by simp)
            have hc0 := ((hs _ _ _ (by decide) HB6.out).cell 33).trans HV.out.cr
            simp only at hc0
            simp only [putsAt, List.foldl, e33]
            unfold Runs
            go_simp
            exact hG _ rfl
          refine List.forall_mem_cons.2 ⟨?_, ?_⟩
          · refine ObL.pure (by rfl) ?_
            intro z w' hs hz G hG
            have e34 : z 34 = (.slice eA ek ec) := hz 34 (by simp)
            simp only [putsAt, List.foldl, e34]
            unfold Runs
            go_simp
            exact hG _ rfl
          refine List.forall_mem_cons.2 ⟨?_, ?_⟩
          · refine ObL.lit (by rfl) rfl (by decide) ?_
            intro z w' hs hz G hG
            have e35 : z 35 = (.int .i64 (ek : Int)) := hz 35 (by simp)
            simp only [putsAt, List.foldl, e35]
            unfold Runs
            go_simp
            exact hG
          refine List.forall_mem_cons.2 ⟨?_, ?_⟩
          · refine ObL.call (by rfl) ?_
            intro z w' hk0 hs hz G hG
            have hk : Wk gw (.slice none 0 0) wW (D ++ (tx en ++ (tx es ++ tx eb))) w' := hk0
            clear hk0
            have e32 : z 32 = (.pointer (some ⟨gw, 0, none⟩)) := hz 32 (by simp)
            obtain ⟨_, b36, e36, k36⟩ : farT 3 = true ∧ ∃ b, z 36 = .slice (some ⟨b, 0, none⟩) 1 1 ∧ Blk w' b 3 #[.int .i64 (ek : Int)] := hz 36 (by simp)
            simp only [putsAt, List.foldl, e32, e36]
            unfold Runs
            go_simp
            refine (cnum1 (ek : Int) hk k36 (by have := HBD.out; simp only [List.length_append] at this ⊢; omega) (by have := HEK.out; omega)).mono ?_
            rintro e w2 ⟨rfl, h1, h2⟩
            exact ⟨_, rfl, hG _ _ (fun d' e => by cases e; rfl) h1 h2⟩
          exact List.forall_mem_nil _
        case hend =>
          intro z w' hz hk0 hs
          have hk : Wk gw (.slice none 0 0) wW (D ++ (tx en ++ (tx es ++ tx eb)) ++ vi (ek : Int).toNat) w' := hk0
          clear hk0
          simp only [putsAt, List.foldl, dstsOf, List.filterMap, Act.put, List.setIfInBounds_toArray, List.set_cons_zero, List.set_cons_succ]
          generalize z 23 = y23
          generalize z 24 = y24
          generalize z 25 = y25
          generalize z 26 = y26
          generalize z 27 = y27
          generalize z 28 = y28
          generalize z 29 = y29
          generalize z 30 = y30
          generalize z 31 = y31
          generalize z 32 = y32
          generalize z 33 = y33
          generalize z 34 = y34
          generalize z 35 = y35
          generalize z 36 = y36
          generalize z 37 = y37
          have HB7' := hide (hs _ _ _ (by decide) HB6.out)
          obtain ⟨D2, hD2⟩ : ∃ D2, D2 = D ++ (tx en ++ (tx es ++ tx eb)) ++ vi (ek : Int).toNat := ⟨_, rfl⟩
          rw [← hD2] at hk
          have HK2' := hide hk
          have HD2 : Hid (D2 ++ catAll rdL ers = D ++ enL (Enq.pl ⟨en, es, eA, ek, ec, ers, eb⟩)) := hide (by rw [hD2, HEL.out]; simp [List.append_assoc])
          have HD2L : Hid (D2.length + (catAll rdL ers).length ≤ 1099511627000) := hide (by have := congrArg List.length HD2.out; rw [List.length_append, List.length_append] at this; have := HTL.out; omega)
          have HX2 : Hid (ers.length = ek) := hide HEA.out.rl
          clear hk hs hD2 HKW HKW0 HBD HC1 HC2 HS1 HEL HTL
          have q2 := (HB7'.out.cell 33).trans HV.out.cr
          simp only at q2 hkb
          go_wp2_with fail
          clear q2
          go_loopw [41] (fun i wr => ∃ t : Nat, t ≤ ek ∧ i = .int .i64 t ∧ Hid (Wk gw (.slice none 0 0) wW (D2 ++ catTo rdL ers t) wr)) (fun i _ => ek - (intOf i).toNat)
          case atStart => exact ⟨0, Nat.zero_le _, rfl, by simpa [catTo_zero] using HK2'⟩
          case round =>
            obtain ⟨t, ht, rfl, HKT⟩ := hrel
            have HBT : Hid (Below w.heap.size w wr) := hide (HBW.out.trans (HKT.out.below HBW.out.size HGW.out (fun k hk => by simp [Value.ownBlock] at hk)))
            by_cases hltt : t < ek
            case pos =>
              focus
                obtain ⟨wi, rfl⟩ : ∃ wi : World, wi = wr := ⟨_, rfl⟩
                obtain ⟨b', o', hA', _, hbl', hcs'⟩ := Rd.rec_ (f := Rdq.cells) (size := 33) Rdq.cells_len (HEA.out.rr.below HBT.out) HEA.out.rl t hltt
                have hlk' : t < ers.length := by have := HX2.out; omega
                have HTT : Hid (catTo rdL ers (t + 1) = catTo rdL ers t ++ rdL ers[t]) := hide (catTo_succ _ _ _ hlk')
                have hxd : (ers[t]).d.length = 32 := HEOK.out.2.2 _ (List.getElem_mem hlk')
                have hdl := catTo_le rdL ers t hlk'
                have hxl := rdL_len ers[t]
                generalize ers[t] = x at hcs' HTT hxd hdl hxl
                have HV' := hide (RdV.mk_ x)
                obtain ⟨xv, hxv⟩ : ∃ xv, xv = x.cells.toArray := ⟨_, rfl⟩
                rw [← hxv] at HV'
                have HRG' : Hid (wi.rangeAt b' (o' + t * 33) xv.toList) := hide (fun i v hv => hcs' i v (by rw [hxv] at hv; simpa using hv))
                clear hxv hcs'
                obtain ⟨zr, hzr⟩ : ∃ zr, zr = ZR := ⟨_, rfl⟩
                have hzero : ∀ w, (zeroValue 87).run Try.prog w = .ok (.agg zr) w := fun w => by rw [hzr]; exact zero_rd w
                obtain ⟨w3, hw3⟩ : ∃ w1, w1 = (wi.alloc (.cells zr 87)).setCells wi.heap.size 0 xv.toList := ⟨_, rfl⟩
                have HBX := hide (box_any wi 87 zr xv (by rw [HV'.out.size, hzr]; rfl))
                rw [← hw3] at HBX
                have HZT : Hid ((wi.alloc (.cells zr 87)).there wi.heap.size 0 xv.size) := hide ((Blk.new wi 87 zr).there_ (by rw [HV'.out.size, hzr]; rfl))
                clear hzr
                replace hA' : eA = some ⟨b', o', none⟩ := hA'
                rw [hA']
                have hjk : (t : Int) < (ek : Int) := by omega
                obtain ⟨D, hD⟩ : ∃ D, D = D2 ++ catTo rdL ers t := ⟨_, rfl⟩
                rw [← hD] at HKT
                have HBD : Hid (D.length + x.n.length + x.d.length + 200 ≤ 140737488355328) := hide (by rw [hD]; have := HD2L.out; rw [List.length_append]; omega)
                have HDT : Hid (D2 ++ catTo rdL ers (t + 1) = D ++ rdL x) := hide (by rw [HTT.out, hD, List.append_assoc])
                clear hD hdl hxl
                go_upto_region 12 with (first
                  | (refine wpList_load_mid rfl 87 (.tmp 43) rfl b' (o' + t * 33) rfl xv.toList _ HRG'.out Try.underlying87 rfl (by rw [Array.length_toList, HV'.out.size]; exact rd_info) ?_; rw [Array.toArray_toList])
                  | (refine wpList_store_mid rfl 87 (.tmp 8) (.tmp 44) rfl wi.heap.size 0 xv rfl rfl HZT.out (by rw [HV'.out.size]; exact rd_info) HV'.out.one ?_))
                rw [← hw3]
                have HB7 : Hid (Blk w3 wi.heap.size 87 xv) := hide HBX.out.1
                have HKX : Hid (Wk gw (.slice none 0 0) wW D w3) := hide (HKT.out.on HBX.out.2)
                clear hw3 hzero HBX HZT hjk HKT
                obtain ⟨g7, hg7⟩ : ∃ g, g = wi.heap.size := ⟨_, rfl⟩
                rw [← hg7] at HB7 ⊢
                clear hg7
                obtain ⟨xn, xd⟩ := x
                have HC3 : Hid (∀ w', Blk w' g7 87 xv → (convert 67 9 (.slice (some ⟨g7, 1, none⟩) 32 32)).run Try.prog w' = .ok (S xd) w') := hide (fun w' hb => conv_32 hxd (fun i hi => by have := HV'.out.face hb i hi; simpa [dpad_id hxd] using this))
                simp only at HBD
                refine region_lays (by kernel_rfl) [⟨0, some 45, false, [0, 1], []⟩, ⟨1, some 46, false, [0, 1], [45]⟩, ⟨2, some 47, false, [0, 1], []⟩, ⟨3, some 48, false, [0, 1], [47]⟩, ⟨4, some 49, false, [0, 1], [48]⟩, ⟨5, some 50, false, [0, 1], [46, 49]⟩, ⟨6, some 51, true, [0], [50]⟩] [6] (fun d => match d with | 45 => .is (.pointer (some ⟨g7, 0, none⟩)) | 46 => .is (S xn) | 47 => .is (.pointer (some ⟨g7, 1, none⟩)) | 48 => .is (.slice (some ⟨g7, 1, none⟩) 32 32) | 49 => .is (S xd) | 50 => .lit 2 9 #[S xn, S xd] | 51 => .is (.pointer (some ⟨gw, 0, none⟩)) | _ => .any) gw (.slice none 0 0) wW (fun k => match k with | 0 => D | _ => D ++ (tx xn ++ tx xd)) (by kernel_rfl) HKX.out ?obs ?hend
                case obs =>
                  refine List.forall_mem_cons.2 ⟨?_, ?_⟩
                  · refine ObL.pure (by rfl) ?_
                    intro z w' hs hz G hG
                    simp only [putsAt, List.foldl]
                    unfold Runs
                    go_simp
                    exact hG _ rfl
                  refine List.forall_mem_cons.2 ⟨?_, ?_⟩
                  · refine ObL.pure (by rfl) ?_
                    intro z w' hs hz G hG
                    have e45 : z 45 = (.pointer (some ⟨g7, 0, none⟩)) := hz 45 (by simp)
                    have hc0 := ((hs _ _ _ (by decide) HB7.out).cell 0).trans HV'.out.c0
                    simp only at hc0
                    simp only [putsAt, List.foldl, e45]
                    unfold Runs
                    go_simp
                    exact hG _ rfl
                  refine List.forall_mem_cons.2 ⟨?_, ?_⟩
                  · refine ObL.pure (by rfl) ?_
                    intro z w' hs hz G hG
                    simp only [putsAt, List.foldl]
                    unfold Runs
                    go_simp
                    exact hG _ rfl
                  refine List.forall_mem_cons.2 ⟨?_, ?_⟩
                  · refine ObL.pure (by rfl) ?_
                    intro z w' hs hz G hG
                    have e47 : z 47 = (.pointer (some ⟨g7, 1, none⟩)) := hz 47 (by simp)
                    simp only [putsAt, List.foldl, e47]
                    unfold Runs
                    go_simp
                    exact hG _ rfl
                  refine List.forall_mem_cons.2 ⟨?_, ?_⟩
                  · refine ObL.pure (by rfl) ?_
                    intro z w' hs hz G hG
                    have e48 : z 48 = (.slice (some ⟨g7, 1, none⟩) 32 32) := hz 48 (by simp)
                    have hcv := HC3.out w' (hs _ _ _ (by decide) HB7.out)
                    simp only [putsAt, List.foldl, e48]
                    unfold Runs
                    go_simp
                    exact hG _ rfl
                  refine List.forall_mem_cons.2 ⟨?_, ?_⟩
                  · refine ObL.lit (by rfl) rfl (by decide) ?_
                    intro z w' hs hz G hG
                    have e46 : z 46 = (S xn) := hz 46 (by simp)
                    have e49 : z 49 = (S xd) := hz 49 (by simp)
                    simp only [putsAt, List.foldl, e46, e49]
                    unfold Runs
                    go_simp
                    exact hG
                  refine List.forall_mem_cons.2 ⟨?_, ?_⟩
                  · refine ObL.call (by rfl) ?_
                    intro z w' hk0 hs hz G hG
                    have hk : Wk gw (.slice none 0 0) wW (D) w' := hk0
                    clear hk0
                    obtain ⟨_, b50, e50, k50⟩ : farT 9 = true ∧ ∃ b, z 50 = .slice (some ⟨b, 0, none⟩) 2 2 ∧ Blk w' b 9 #[S xn, S xd] := hz 50 (by simp)
                    simp only [putsAt, List.foldl, e50]
                    unfold Runs
                    go_simp
                    refine (ctext2 xn xd hk k50 (by have := HBD.out; omega)).mono ?_
                    rintro e w2 ⟨rfl, h1, h2⟩
                    exact ⟨_, rfl, hG _ _ (fun d' e => by cases e; rfl) h1 h2⟩
                  exact List.forall_mem_nil _
                case hend =>
                  intro z w' hz hk0 hs
                  have hk : Wk gw (.slice none 0 0) wW (D ++ (tx xn ++ tx xd)) w' := hk0
                  clear hk0
                  simp only [putsAt, List.foldl, dstsOf, List.filterMap, Act.put, List.setIfInBounds_toArray, List.set_cons_zero, List.set_cons_succ]
                  generalize z 45 = y45
                  generalize z 46 = y46
                  generalize z 47 = y47
                  generalize z 48 = y48
                  generalize z 49 = y49
                  generalize z 50 = y50
                  generalize z 51 = y51
                  have HK5 : Hid (Wk gw (.slice none 0 0) wW (D2 ++ catTo rdL ers (t + 1)) w') := hide (by rw [HDT.out]; exact hk)
                  clear hk hs HB7 HKX HC3 HV' HDT HBD HTT
                  go_wp2_with fail
                  go_roundw
                  case rel => first | exact ⟨t + 1, by omega, by go_num, HK5⟩ | ((repeat apply Exists.intro); exact ⟨⟨t + 1, by omega, by go_num, HK5⟩, rfl⟩)
                  case measure => simp [intOf]; omega
            case neg =>
              obtain rfl : ek = t := by omega
              have HK6 : Hid (Wk gw (.slice none 0 0) wW (vi n ++ catTo enL (L.map Enq.pl) (j + 1)) wr) := hide (by rw [HT.out, ← List.append_assoc, ← HD.out, ← HD2.out, ← catTo_all rdL ers ek (by have := HX2.out; omega)]; exact HKT.out)
              have hjk : ¬ (ek : Int) < (ek : Int) := by omega
              clear HKT
              go_wp2_with fail
              go_roundw
              case rel => first | exact ⟨j + 1, by omega, by go_num, HK6⟩ | ((repeat apply Exists.intro); exact ⟨⟨j + 1, by omega, by go_num, HK6⟩, rfl⟩)
              case measure => simp [intOf]; omega
    case neg =>
      focus
        obtain rfl : n = j := by omega
        have hKE : Wk gw (.slice none 0 0) wW E wr := by rw [HE.out, ← catTo_all enL (L.map Enq.pl) n (by rw [List.length_map, HLL.out]; exact Nat.le_refl _)]; exact HK.out
        obtain ⟨v', hwr⟩ := hKE
        have HWR := hide hwr.1
        have HST := hide (string_any gw v' E wr HWR.out)
        have HSUM := hide (sum_any (wr.alloc (.cells #[S E] 9)) (some ⟨wr.heap.size, 0, none⟩) 1 1 [E] (Rd.blk (l := [E].map S) (Blk.new _ _ _) (by simp)) rfl (by have := HEB.out; simp; omega) (by decide))
        simp only [List.flatten_cons, List.flatten_nil, List.append_nil] at HSUM
        have hjk : ¬ (n : Int) < (n : Int) := by omega
        obtain ⟨sm, hsm⟩ : ∃ s, s = sumM E := ⟨_, rfl⟩
        have HSL : Hid (sm.length = 32) := hide (by rw [hsm, sumM_len])
        have HSM := hide (fun _ : Unit => hsm)
        rw [← hsm] at HSUM
        rw [← hsm]
        obtain ⟨dz, hdz⟩ : ∃ dz, dz = darr sm := ⟨_, rfl⟩
        rw [← hdz] at HSUM
        have HDZ := hide (fun _ : Unit => hdz)
        have HDS : Hid (dz.size = 32) := hide (by rw [hdz, darr_size, HSL.out])
        have HDO : Hid (dz.all (·.oneCell') = true) := hide (by rw [hdz]; exact darr_one _)
        clear hsm hdz hwr HK
        obtain ⟨z4, hz4⟩ : ∃ z, z = ZC := ⟨_, rfl⟩
        have hzero : ∀ w, (zeroValue 41).run Try.prog w = .ok (.agg z4) w := fun w => by rw [hz4]; kernel_rfl
        have HZ4 : Hid (z4.size = 32) := hide (by rw [hz4]; rfl)
        clear hz4
        go_upto_region 16 with (first
          | (go_at_call 42; refine HST.out.mono ?_; rintro e w3 ⟨rfl, hw3⟩; subst w3)
          | (go_at_call 23; refine HSUM.out.mono ?_; rintro e w5 ⟨rfl, hb5⟩; have HWR5 := hide ((HWR.out.alloc (.cells #[S E] 9)).keep (Keep.of_below (F := fun _ => False) hb5 (fun k h1 h2 => by omega)) id (fun _ _ h => h)); have HB5 := hide ((HBR.out.alloc HBR.out.size (.cells #[S E] 9)).trans (hb5.mono (HBR.out.alloc HBR.out.size _).size)); clear hb5)
          | (refine wpList_store_mid rfl 41 (.tmp 9) (.tmp 56) rfl _ 0 dz rfl rfl ((Blk.new _ _ _).there_ (by rw [HDS.out, HZ4.out])) (by rw [HDS.out]; exact dig_info) HDO.out ?_))
        simp only [show ∀ (x : Act), x.put none undef = x from fun _ => rfl]
        refine name_world ?_
        intro w6 hw6
        have HX6 := hide (box_any w5 41 z4 dz (by rw [HDS.out, HZ4.out]))
        rw [← hw6] at HX6
        have HWR6 : Hid (Wr w6 gw v' E) := hide (HWR5.out.keep (Keep.of_below (F := fun _ => False) HX6.out.2 (fun k h1 h2 => by omega)) id (fun _ _ h => h))
        have HB6 : Hid (Below w.heap.size w w6) := hide (HB5.out.trans (HX6.out.2.mono HB5.out.size))
        have HBD6 : Hid (Blk w6 w5.heap.size 41 dz) := hide HX6.out.1
        have HST6 : ∀ t : After w6, Hid (Calls Try.prog 42 #[.pointer (some ⟨gw, 0, none⟩)] t.val (fun e w' => e = .returned (S E) ∧ t.val = w')) := fun t => hide (string_any gw v' E _ (HWR6.out.keep (Keep.of_below (F := fun _ => False) t.prop (fun k h1 h2 => by omega)) id (fun _ _ h => h)))
        clear hw6 HX6 HWR5 HB5 HST HSUM hzero HZ4 HWR
        obtain ⟨g9, hg9⟩ : ∃ g, g = w5.heap.size := ⟨_, rfl⟩
        rw [← hg9] at HBD6 ⊢
        clear hg9
        have hcv : ∀ t : After w6, (convert 67 9 (.slice (some ⟨g9, 0, none⟩) 32 32)).run Try.prog t.val = .ok (S sm) t.val := fun t => conv_32 HSL.out (fun i hi => by
          have h := (HBD6.out.below t.prop HBD6.out.lt).cell (0 + i)
          rw [h, HDZ.out ()]
          have := HSL.out
          simp [darr, show i < sm.length by omega])
        have hel : E.length ≤ 1099511627000 := HEB.out
        have hsl : sm.length = 32 := HSL.out
        clear HDZ HDS HDO HK2 hjk
        refine region_after (by kernel_rfl) (by kernel_rfl) ?_
        repeat (go_big_quiet_step ((go_at_call 42; refine call_after_same (HST6 _).out)))
        refine wpQuiet_nil ?_
        rintro _ ⟨t, rfl⟩
        go_wp2_with fail
        go_ret2
        exact ⟨by rw [HSM.out ()] <;> rfl, HB6.out.trans (t.prop.mono HB6.out.size)⟩
end Go.Proofs.Ytclgiapmbmbknaa
