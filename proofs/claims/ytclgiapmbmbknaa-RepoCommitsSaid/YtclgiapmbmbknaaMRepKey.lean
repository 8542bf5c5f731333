/- Digests as a map's keys; no statement of the seat is proved here. -/
import Derived.Test.YtclgiapmbmbknaaMRepSame
import Derived.DeepKeys4
import Derived.Maps.OwnSet
import Derived.Deep.DeepCutAuto
namespace Go.Proofs.Ytclgiapmbmbknaa
open Go.RowKit Go.Maps
set_option linter.unusedVariables false

theorem laidOut18 : laidOutB Try.prog = true := by kernel_rfl
theorem rowDg : (41 : TypeId) < Try.prog.types.size := of_decide_eq_true (by kernel_rfl)
theorem wideDg : (match Try.prog.underlying 41 with | some (.array _ _) | some (.struct _) => true | _ => false) = true := by kernel_rfl
set_option maxRecDepth 100000 in
theorem klawDg : Keyed Try.prog 41 := Keyed.of_law (deep_law_laid laidOut18 (m := 2) (by omega) rowDg (by kernel_rfl) wideDg)
theorem mapM_all {α β : Type} {f : α → Option β} {g : α → β} : ∀ (l : List α), (∀ i ∈ l, f i = some (g i)) → l.mapM f = some (l.map g)
  | [], _ => rfl
  | a :: l, h => by
    rw [List.mapM_cons, h a (List.mem_cons_self ..), mapM_all l fun i hi => h i (List.mem_cons_of_mem _ hi)]
    rfl
theorem cellsU8 : Try.prog.cellsOf 5 = 1 := by kernel_rfl
theorem cellsDg : Try.prog.cellsOf 41 = 32 := by kernel_rfl
theorem keyTypeDg : Try.prog.keyType 41 = true := by kernel_rfl
theorem dig_key (d : List UInt8) (hd : d.length = 32) : ∃ l, keyOf Try.prog 41 (.agg (darr d)) = some l := by
  have hu := Try.underlying41
  have hu8 := Try.underlying5
  have hf : (Value.agg (darr d)).formed Try.prog 41 = true := by simp [Value.formed, hu, cellsDg, darr, hd]
  have hc : (Value.agg (darr d)).cells.toList = d.map B8 := by simp [Value.cells, darr]
  obtain ⟨m, hm⟩ : ∃ m, Try.prog.types.size = m + 1 := ⟨Try.prog.types.size - 1, by have h : (0 : Nat) < Try.prog.types.size := Nat.lt_of_le_of_lt (Nat.zero_le _) rowDg; omega⟩
  have hone : ∀ i ∈ List.range 32, Try.prog.keyLits Try.prog.types.size 5 (((d.map B8).drop (i * 1)).take 1) = some [Lit.int .u8 ((d.getD i 0).toNat : Int)] := fun i hi => by
    have hi' : i < d.length := by rw [hd]; exact List.mem_range.1 hi
    have e : ((d.map B8).drop (i * 1)).take 1 = [B8 (d.getD i 0)] := by
      rw [Nat.mul_one, List.drop_eq_getElem_cons (by simpa using hi')]
      simp [hi']
    rw [e, hm]
    generalize d.getD i 0 = x
    unfold Program.keyLits
    rw [hu8]
    have hw : (Lit.int .u8 (x.toNat : Int)).wf = true := by
      have := x.toNat_lt
      simp [Lit.wf, IntKind.min, IntKind.max, IntKind.signed, IntKind.bits]
      omega
    simp [hw]
  have hk : ∃ L, Try.prog.keyLits (Try.prog.types.size + 1) 41 (d.map B8) = some L := by
    unfold Program.keyLits
    rw [hu]
    simp only [cellsDg, cellsU8, List.length_map, hd, if_true]
    rw [mapM_all _ hone]
    exact ⟨_, rfl⟩
  obtain ⟨L, hL⟩ := hk
  refine ⟨.string (keyBytes L), ?_⟩
  unfold keyOf
  rw [hu]
  simp only [keyTypeDg, hf, Bool.and_self, if_true, hc, hL, Option.map_some]
/-- The key that a file's digest is. -/
noncomputable def kX (x : Nat × Nat) : Lit := Classical.choose (dig_key (dgt x) (dgt_len x))
theorem kX_is (x : Nat × Nat) : keyOf Try.prog 41 (.agg (darr (dgt x))) = some (kX x) := Classical.choose_spec (dig_key (dgt x) (dgt_len x))
theorem B8_inj {a b : UInt8} (h : B8 a = B8 b) : a = b := by
  injection h with _ h
  exact UInt8.toNat_inj.1 (by omega)
theorem darr_inj {a b : List UInt8} (h : darr a = darr b) : a = b := by
  have h1 : a.map B8 = b.map B8 := by
    have := congrArg Array.toList h
    simpa [darr] using this
  exact (List.map_inj_right (fun x y => B8_inj)).1 h1
theorem kX_inj {x y : Nat × Nat} (hx : isX x) (hy : isX y) (h : kX x = kX y) : x = y := by
  have h1 := kX_is x
  rw [h] at h1
  have h2 := klawDg.inj h1 (kX_is y)
  exact dgt_inj hx hy (darr_inj (Value.agg.inj h2))
/-- The digests that a map holds: those of the files up to here. -/
def SetAt (w : World) (b t : Nat) (P : List (Nat × Nat)) : Prop := ∃ D : DataW Value, w.ownsMap Try.prog 41 heldR b t D ∧ Maps.size D = t ∧ ∀ y ∈ P.drop t, Maps.has D (kX y) = false
theorem SetAt.made (w : World) (P : List (Nat × Nat)) : SetAt (w.alloc (.map #[] 0)) w.heap.size 0 P := ⟨.map [], World.ownsMap_made _ _ _ _, rfl, fun y _ => by simp [Maps.has]⟩
theorem SetAt.next {w' : World} {b t : Nat} {P : List (Nat × Nat)} (hP : OkX P) (ht : t < P.length) {D : DataW Value} {v : Value} (hy : ∀ y ∈ P.drop t, Maps.has D (kX y) = false) (hs : Maps.size D = t) (hT : Maps.Tidy D)
    (h : w'.ownsMap Try.prog 41 heldR b (t + 1) (D.put (kX P[t]) (.held v))) : SetAt w' b (t + 1) P := by
  have hd : P.drop t = P[t] :: P.drop (t + 1) := List.drop_eq_getElem_cons ht
  refine ⟨_, h, ?_, fun y hm => ?_⟩
  · rw [Maps.size_put hT, hy _ (by rw [hd]; exact List.mem_cons_self ..), if_neg (by simp), hs]
  · have hne : kX y ≠ kX P[t] := fun e => by
      have h1 := hP.nodup.sublist (List.drop_sublist t P)
      rw [hd, List.nodup_cons] at h1
      have h2 := kX_inj (hP.is y (List.mem_of_mem_drop hm)) (hP.is _ (List.getElem_mem ht)) e
      exact h1.1 (h2 ▸ hm)
    rw [Maps.has_put_other hne]
    exact hy y (by rw [hd]; exact List.mem_cons_of_mem _ hm)
theorem SetAt.block {w w' : World} {b t : Nat} {P : List (Nat × Nat)} (h : SetAt w b t P) (he : w'.heap[b]? = w.heap[b]?) : SetAt w' b t P := by
  obtain ⟨D, ⟨es, clock, hb, r⟩, h2⟩ := h
  exact ⟨D, ⟨es, clock, he.trans hb, r⟩, h2⟩
theorem SetAt.lt {w : World} {b t : Nat} {P : List (Nat × Nat)} (h : SetAt w b t P) : b < w.heap.size := by
  obtain ⟨D, ⟨es, clock, hb, r⟩, h2⟩ := h
  exact (Array.getElem?_eq_some_iff.1 hb).1
end Go.Proofs.Ytclgiapmbmbknaa
/- whole, walked over a disk that holds just a list's files; no statement of the seat is proved here. -/
namespace Go.Proofs.Ytclgiapmbmbknaa
open Go.RowKit Go.Maps
set_option linter.unusedVariables false
set_option linter.unusedSimpArgs false

/-- An entry of a list of the law's, as it lies. -/
theorem li_get {w : World} {B n c i : Nat} {A : Option Addr} {L : List Enq} {P : List (Nat × Nat)} (h : LiOwn w B A n c L) (hL : L.map Enq.pl = P.map entX) (hn : n ≤ 200) (hi : i < n) (hiP : i < P.length) :
    ∃ x o ev, ∃ e : Enq, A = some ⟨x, o, none⟩ ∧ x < w.heap.size ∧ w.rangeAt x (o + i * 66) ev.toList ∧ EnV e ev ∧ e.b = dgt P[i] := by
  obtain ⟨x, o, hA, _, hx, hc⟩ := Rd.rec_ (f := Enq.cells) (size := 66) Enq.cells_len (h.li hn).lr h.ll i hi
  have hiL : i < L.length := by rw [h.ll]; exact hi
  have hp : (L[i]).pl = entX P[i] := by
    have := congrArg (·[i]?) hL
    simpa [hiL, hiP] using this
  generalize L[i] = e at hc hp
  generalize P[i] = p at hp
  have r4 : e.b = dgt p := (congrArg EnP.b hp).trans (entX_b p)
  exact ⟨x, o, e.cells.toArray, e, hA, hx, fun j v hv => hc j v (by simpa using hv), EnV.mk_ e, r4⟩
theorem blob_range {e : Enq} {ev : Array Value} (h : EnV e ev) {d : List UInt8} (hb : e.b = d) (hd : d.length = 32) {w : World} {q : Nat} {t : TypeId} (hB : Blk w q t ev) : w.rangeAt q 34 (darr d).toList := fun i v hv => by
  have hv' : (darr d).toList[i]? = some v := hv
  have hi : i < 32 := by have := (List.getElem?_eq_some_iff.1 hv').1; simpa [darr, hd] using this
  rw [h.blob hB i hi]
  have : (dpad e.b)[i]'(by rw [dpad_len]; exact hi) = d[i] := by
    simp only [hb, dpad_id hd]
  rw [this]
  simp only [darr, List.toList_toArray, List.getElem?_map, List.getElem?_eq_getElem (show i < d.length by omega), Option.map_some, Option.some.injEq] at hv'
  rw [← hv']
set_option maxRecDepth 100000 in
set_option maxHeartbeats 4000000 in
theorem whole_ds (P : List (Nat × Nat)) (hP : OkX P) (B g room M : Nat) (s : Ds) (w : World) (h : DAt w B g room M s) (hM : M ≤ 79000) (hu : s.dn = false) (hR : Exact P s.R)
    (B0 : Nat) (A : Option Addr) (c : Nat) (L : List Enq) (hL : L.map Enq.pl = P.map entX) (hli : LiOwn w B0 A L.length c L) :
    Calls Try.prog 16 #[.pointer (some ⟨g, 0, none⟩), .slice A L.length c] w (fun e w' => e = .returned (.bool true) ∧ Below w.heap.size w w') := by
  have hll := len_of hL
  have hpl := hP.len
  have HD := hide h
  have HP := hide hP
  have HX := hide hR
  have HPL := hide hL
  have HLI := hide hli
  have HNP : Hid (L.length = P.length) := hide hll
  obtain ⟨n, hn⟩ : ∃ n, n = L.length := ⟨_, rfl⟩
  rw [← hn] at HLI HNP ⊢
  have HNL := hide hn
  have hn6 : n ≤ 6 := by omega
  clear h hP hR hL hli hll hpl hn
  obtain ⟨ze, hze⟩ : ∃ ze, ze = ZE := ⟨_, rfl⟩
  have hzero : ∀ w, (zeroValue 44).run Try.prog w = .ok (.agg ze) w := fun w => by rw [hze]; exact zero_en w
  have HZS : Hid (ze.size = 66) := hide (by rw [hze]; rfl)
  clear hze
  have hmm := @run_makeMap Try.prog
  obtain ⟨qb, hqb⟩ : ∃ q, q = w.heap.size := ⟨_, rfl⟩
  go_enter Try.func16, Try.ntmps16
  go_upto_region 2 with fail
  obtain ⟨wA, hwA⟩ : ∃ x, x = w.alloc (.cells #[.pointer (some ⟨g, 0, none⟩)] 34) := ⟨_, rfl⟩
  have HBA : Hid (Below w.heap.size w wA) := hide (by rw [hwA]; exact (Below.refl _ w).alloc (Nat.le_refl _) _)
  have HQA : Hid (Blk wA qb 34 #[.pointer (some ⟨g, 0, none⟩)]) := hide (by rw [hwA, hqb]; exact Blk.new _ _ _)
  rw [← hwA, ← hqb]
  clear hwA hqb
  have HLD := hide (load_ds P HP.out B g room M s wA (HD.out.below HBA.out) (by omega) hu HX.out.good.list)
  have q0 : wA.cell? ⟨qb, 0, none⟩ = some (.pointer (some ⟨g, 0, none⟩)) := HQA.out.cell 0
  go_upto_region 3 with (go_at_call 14; refine HLD.out.mono ?_; rintro e w1 ⟨A1, c1, L1, rfl, hpl1, ho1, hb1⟩; have HPL1 := hide hpl1; have HLI1 := hide ho1; have HB1 := hide (HBA.out.trans (hb1.mono HBA.out.size)); have HQ1 := hide (HQA.out.below hb1 HQA.out.lt); clear hpl1 ho1 hb1)
  clear HLD HQA q0 HBA
  have HSM := hide (same_any P P HP.out HP.out w1 wA.heap.size A1 c1 L1 HPL1.out HLI1.out B0 A c L HPL.out (by rw [← HNL.out]; exact HLI.out.onb HB1.out))
  rw [← HNL.out, decide_eq_true (rfl : P = P)] at HSM
  go_upto_region 5 with (go_at_call 18; refine HSM.out.mono ?_; rintro e w2 ⟨rfl, hb2⟩; have HB2 := hide (HB1.out.trans (hb2.mono HB1.out.size)); have HQ2 := hide (HQ1.out.below hb2 HQ1.out.lt); clear hb2)
  clear HSM HB1 HQ1 HPL1 HLI1
  obtain ⟨bm, hbm⟩ : ∃ q, q = w2.heap.size := ⟨_, rfl⟩
  go_upto_region 6 with fail
  obtain ⟨w3, hw3⟩ : ∃ x, x = w2.alloc (.map #[] 0) := ⟨_, rfl⟩
  have HB3 : Hid (Below w.heap.size w w3) := hide (by rw [hw3]; exact HB2.out.alloc HB2.out.size _)
  have HQ3 : Hid (Blk w3 qb 34 #[.pointer (some ⟨g, 0, none⟩)]) := hide (by rw [hw3]; exact HQ2.out.alloc _)
  have HST : Hid (SetAt w3 bm 0 P) := hide (by rw [hw3, hbm]; exact SetAt.made w2 P)
  have HBM : Hid (w.heap.size ≤ bm ∧ qb ≠ bm) := hide ⟨by rw [hbm]; exact HB2.out.size, by have := HQ2.out.lt; omega⟩
  rw [← hw3, ← hbm]
  clear hw3 hbm HB2 HQ2
  go_wp2_with fail
  go_loopw [33] (fun u wr => ∃ t : Nat, t ≤ n ∧ u = .int .i64 t ∧ Hid (SetAt wr bm t P) ∧ Hid (Below w.heap.size w wr) ∧ Hid (Blk wr qb 34 #[.pointer (some ⟨g, 0, none⟩)])) (fun u _ => n - (intOf u).toNat)
  case atStart => exact ⟨0, Nat.zero_le _, rfl, HST, HB3, HQ3⟩
  case round =>
    obtain ⟨t, ht, rfl, HSA, HBR, HQR⟩ := hrel
    by_cases hlt : t < n
    case neg =>
      obtain rfl : t = n := by omega
      have HNM := hide (names_ds B g room M s wr (HD.out.below HBR.out) (by omega) hu)
      go_upto_region 15 with (go_at_call 37; refine HNM.out.mono ?_; rintro e w5 ⟨A5, c5, l5, rfl, hn5, hr5, hb5⟩; have HN5 := hide hn5; have HB5 := hide (HBR.out.trans (hb5.mono HBR.out.size)); have HS5 := hide (HSA.out.block (hb5.block bm HSA.out.lt)); clear hn5 hr5 hb5)
      have HLN : Hid (l5.length = t + 1 ∨ (l5.length = 0 ∧ t = 0)) := hide (by
        have h1 := HX.out.names HP.out HN5.out
        cases hc : s.R nList with
        | some v =>
          rw [hc] at h1
          simp only [Option.isSome_some, if_true] at h1
          exact .inl (by rw [h1, HNP.out])
        | none =>
          rw [hc] at h1
          simp only [Option.isSome_none, Bool.false_eq_true, if_false] at h1
          rcases HX.out.good.list with h2 | ⟨_, h2⟩
          · rw [hc] at h2; cases h2
          · exact .inr ⟨h1, by rw [HNP.out, h2]; rfl⟩)
      obtain ⟨D, hown, hsz, _⟩ := HS5.out
      have hown9 := hown
      clear hown
      obtain ⟨ln, hln⟩ : ∃ k, k = l5.length := ⟨_, rfl⟩
      rw [← hln] at HLN ⊢
      clear hln
      rcases HLN.out with rfl | ⟨rfl, rfl⟩
      · go_wp2_with (at_len; refine wpList_len_own _ rfl _ 88 rfl 41 4 Try.underlying88 heldR bm _ D rfl hown9 ?_; rw [hsz])
        go_ret
        exact ⟨rfl, HB5.out⟩
      · go_wp2_with (at_len; refine wpList_len_own _ rfl _ 88 rfl 41 4 Try.underlying88 heldR bm _ D rfl hown9 ?_; rw [hsz])
        go_ret
        exact ⟨rfl, HB5.out⟩
    case pos =>
      have htp : t < P.length := by rw [← HNP.out]; exact hlt
      obtain ⟨x, o, ev, e, rfl, hx, hrg, hV, heb⟩ := li_get (HLI.out.onb HBR.out) HPL.out (by omega) hlt htp
      have HRG := hide hrg
      have HV := hide hV
      have HBX := hide (box_any wr 44 ze ev (by rw [HV.out.size, HZS.out]))
      have HZT : Hid ((wr.alloc (.cells ze 44)).there wr.heap.size 0 ev.size) := hide ((Blk.new wr 44 ze).there_ (by rw [HV.out.size, HZS.out]))
      obtain ⟨dz, hdz⟩ : ∃ z, z = darr (dgt P[t]) := ⟨_, rfl⟩
      have HDZ := hide (dg_size hdz (dgt_len _))
      obtain ⟨wE, hwE⟩ : ∃ w1, w1 = (wr.alloc (.cells ze 44)).setCells wr.heap.size 0 ev.toList := ⟨_, rfl⟩
      rw [← hwE] at HBX
      have HRD : Hid (∀ W, Below wE.heap.size wE W → W.rangeAt wr.heap.size 34 dz.toList) := hide (fun W hb => by
        rw [hdz]
        exact blob_range hV heb (dgt_len _) (HBX.out.1.below hb HBX.out.1.lt))
      have HKD : Hid (keyOf Try.prog 41 (.agg dz) = some (kX P[t])) := hide (by rw [hdz]; exact kX_is _)
      have HTX : Hid (∀ W, Below w.heap.size w W → Calls Try.prog 29 #[.agg #[.pointer (some ⟨g, 0, none⟩)], .agg dz] W (fun e w' => e = .returned (.tuple #[S (txt P[t]), .int .i64 0]) ∧ Below W.heap.size W w')) := hide (fun W hb => by
        have hm := List.getElem_mem htp
        have h1 := text_ds B g room M s W (HD.out.below hb) (by omega) hu (dgt P[t]) (dgt_len _) (fun t' ht' => by
          have h2 := HX.out.good.blob _ hm
          rw [show nmX P[t] = bnm (dgt P[t]) from rfl, ht'] at h2
          injection h2 with h2
          rw [h2]
          simp [txt])
        rw [text_good HX.out.good hm, ← hdz] at h1
        exact h1)
      obtain ⟨tx, htx⟩ : ∃ x, x = txt P[t] := ⟨_, rfl⟩
      rw [← htx] at HTX
      clear htx hdz heb hV hrg hx
      go_upto_region 9 with (first
        | (refine wpList_load_mid rfl 44 (.tmp 35) rfl x (o + t * 66) rfl ev.toList _ HRG.out Try.underlying44 rfl (by rw [Array.length_toList, HV.out.size]; exact en_info) ?_; rw [Array.toArray_toList])
        | (refine wpList_store_mid rfl 44 (.tmp 10) (.tmp 36) rfl wr.heap.size 0 ev rfl rfl HZT.out (by rw [HV.out.size]; exact en_info) HV.out.one ?_))
      simp only [show ∀ (x : Act), x.put none undef = x from fun _ => rfl]
      rw [← hwE]
      have HBE : Hid (Below w.heap.size w wE) := hide (HBR.out.trans (HBX.out.2.mono HBR.out.size))
      have HSE : Hid (SetAt wE bm t P) := hide (HSA.out.block (HBX.out.2.block bm HSA.out.lt))
      have HQE : Hid (Blk wE qb 34 #[.pointer (some ⟨g, 0, none⟩)]) := hide (HQR.out.below HBX.out.2 HQR.out.lt)
      have HRE := hide (HRD.out wE (Below.refl _ _))
      have HTE := hide (HTX.out wE HBE.out)
      obtain ⟨q, hq⟩ : ∃ q, q = wr.heap.size := ⟨_, rfl⟩
      rw [← hq] at HRE HRD ⊢
      have q0 : wE.cell? ⟨qb, 0, none⟩ = some (.pointer (some ⟨g, 0, none⟩)) := HQE.out.cell 0
      clear hwE hq HBX HZT HRG HV HTX
      go_upto_region 10 with (first
        | (refine wpList_load_mid rfl 41 (.tmp 40) rfl q 34 rfl dz.toList _ HRE.out Try.underlying41 rfl (by rw [Array.length_toList, HDZ.out.1]; exact dig_info) ?_; rw [Array.toArray_toList])
        | (go_at_call 29; refine HTE.out.mono ?_; rintro e w4 ⟨rfl, hb4⟩; have HB4 := hide (HBE.out.trans (hb4.mono HBE.out.size)); have HS4 := hide (HSE.out.block (hb4.block bm HSE.out.lt)); have HQ4 := hide (HQE.out.below hb4 HQE.out.lt); have HR4 := hide (HRD.out w4 hb4); clear hb4))
      obtain ⟨D, hown, hsz, hhs⟩ := HS4.out
      have hown9 := hown
      have HTD := hide (hown.tidy klawDg)
      clear hown HSE HQE HRE HTE q0 HBE
      go_upto_region 13 with (first
        | (refine wpList_load_mid rfl 41 (.tmp 48) rfl q 34 rfl dz.toList _ HR4.out Try.underlying41 rfl (by rw [Array.length_toList, HDZ.out.1]; exact dig_info) ?_; rw [Array.toArray_toList])
        | (at_mapUpdate; refine wpList_mapUpdate_own _ rfl _ _ _ 88 rfl 41 4 klawDg Try.underlying88 _ bm t D rfl hown9 (by unfold maxLen; omega) _ _ _ rfl rfl HKD.out _ [] (show heldR (.bool true) = some (.held (.bool true), []) from rfl) ?_; intro w5 hown5 hgrow5; have HOWN5 := hide hown5; have HGR5 := hide hgrow5; clear hown5 hgrow5))
      have HST5 : Hid (SetAt w5 bm (t + 1) P) := hide (SetAt.next HP.out htp hhs hsz HTD.out HOWN5.out)
      have HK5 : Hid (Keep (fun k => k = bm) w4 w5) := hide ((Keep.refl _ w4).grown HGR5.out (fun k hk _ => by injection hk with hk; exact hk.symm))
      have HB5 : Hid (Below w.heap.size w w5) := hide (HB4.out.trans (HK5.out.below (B := w.heap.size) HB4.out.size (fun k hk => by rw [hk]; exact HBM.out.1)))
      have HQ5 : Hid (Blk w5 qb 34 #[.pointer (some ⟨g, 0, none⟩)]) := hide (HQ4.out.keep HK5.out HBM.out.2)
      clear hown9 HOWN5 HGR5 HK5 HTD hhs hsz HS4
      go_wp2_with fail
      go_roundw
      · exact ⟨t + 1, by omega, by go_num, HST5, HB5, HQ5⟩
      · simp [intOf]; omega
end Go.Proofs.Ytclgiapmbmbknaa
