/- deps.Stale, walked; no statement of the seat is proved here. -/
import Derived.Test.YthehimjdjgmnjaaDepMap
namespace Go.Proofs.Ythehimjdjgmnjaa
open Go.RowKit Go.Maps Go.Sort
set_option linter.unusedVariables false

/-- A name is stale. -/
def staleM (T : List Fc) (L : List Enq) (F : Fd) (k : List UInt8) : Bool := match findM L k with
  | none => true
  | some e => !(freshM T e ((F k).getD Z32))
/-- An entry whose reads can be looked at. -/
structure EnOk (w : World) (s : Nat) (e : Enq) : Prop where
  es : e.s.length = 32
  ok : RdsOk e.rs
  rl : e.rs.length = e.k
  rk : e.k ≤ 100
  rr : Rd w (fun b => b = s) 33 e.A e.k (e.rs.flatMap Rdq.cells)
theorem EnOk.keep {w w' : World} {s : Nat} {e : Enq} (h : EnOk w s e) (hk : Keep (fun b => b = s) w w') : EnOk w' s e := { h with rr := h.rr.keep hk }
/-- A load of a whole array, under a guard that is struck. -/
theorem wpList_load_g {P : Program} {ops : Array Oper} {rest : List Oper} {op : Oper} {a : Act} {w : World} {Q : Exit → Act → World → Prop} (ty : TypeId) (x : Operand) (ho : op.op = .load ty x) (hw : Region.wanted op (yielded ops a.tmps) = true)
    (b o : Nat) (hx : a.eval x = .pointer (some ⟨b, o, none⟩)) (cs : Array Value) (d : TypeDesc) (hc : w.rangeAt b o cs.toList)
    (hu : P.underlying ty = some d) (hd : d.isRow = true) (hi : (P.info? ty).map (·.size) = some cs.toList.length)
    (h : wpList P ops Q rest (a.put op.dst (.agg cs)) w) : wpList P ops Q (op :: rest) a w :=
  wpList_step fun K hK => by
    rw [if_pos hw]
    refine wp_load_mid ty x ho b o hx cs.toList d hc hu hd hi ?_
    rw [Array.toArray_toList]
    exact hK _ _ h
theorem str_info3 : (Try.prog.info? 9).map (fun i => (i.zero, i.size, i.bytes)) = some (some (S []), 1, 16) := by kernel_rfl
theorem findM_mem {L : List Enq} {k : List UInt8} {e : Enq} (h : findM L k = some e) : e ∈ L := List.mem_of_find?_eq_some h
theorem names_size {w : World} {b N : Nat} {D : DataW Value} {F : Fd} (h : w.ownsMap Try.prog 9 heldR b N D) (hR : ReadsD D F) {ss : List (List UInt8)} (hp : ss.Perm (strKeys D)) : (ss.mergeSort leB).length ≤ N := by
  obtain ⟨_, _, h3⟩ := keys_of h hR
  rw [List.length_mergeSort, hp.length_eq, ← h3]
  exact h.size_le

set_option maxRecDepth 100000 in
set_option maxHeartbeats 4000000 in
theorem stale_any (w0 : World) (g m s n b N : Nat) (T : List Fc) (A : Option Addr) (nL c : Nat) (L : List Enq) (F : Fd) (w : World) (h : Tab w g m s T n) (hN : N ≤ 1000) (hn : n + 100 * N ≤ 1000000) (hnL : nL ≤ 1000) (hL : L.length = nL)
    (hr : Rd w (fun b => b = s) 66 A nL (L.flatMap Enq.cells)) (hok : ∀ e ∈ L, EnOk w s e) (hD : DgIs w b N F) (hbs : b ≠ s) (hF32 : ∀ k d, F k = some d → d.length = 32 ∧ short k) (hT : FcsOk w0 T) (hB0 : Below w0.heap.size w0 w) (hs0 : w0.heap.size ≤ s) :
    Calls Try.prog 11 #[.pointer (some ⟨g, 0, none⟩), .slice A nL c, .map (some b)] w (fun x w' => ∃ A2 c2 l, x = .returned (.slice A2 (l.filter (staleM T L F)).length c2) ∧ IsNames F l ∧ w'.ownsRow w.heap.size 9 1 (.slice A2 (l.filter (staleM T L F)).length c2) (l.filter (staleM T L F)).length ((l.filter (staleM T L F)).map S) ∧ Keep (fun b => b = s) w w') := by
  have HT := hide h
  have HFO := hide hT
  have HBO := hide (And.intro hB0 hs0)
  have HN := hide (And.intro hn (And.intro hN hnL))
  have HSL : Hid (s < w.heap.size) := hide h.slt
  have HLL := hide hL
  have HLR := hide hr
  have HEO := hide hok
  have HDD := hide hD
  have HBS := hide hbs
  have HF2 := hide hF32
  have HZC : Hid ((S []).cells.size = 1) := hide rfl
  obtain ⟨ze, hze⟩ : ∃ z, z = ZE := ⟨_, rfl⟩
  have hzero : ∀ w, (zeroValue 39).run Try.prog w = .ok (.agg ze) w := fun w => by rw [hze]; exact zero_en w
  have HZS : Hid (ze.size = 66) := hide (by rw [hze]; rfl)
  obtain ⟨D, hDo, hDr⟩ := hD
  have HKY : Hid (∀ mb W, Calls Try.prog 21 #[.map mb] W fun e w' => e = .returned (.func (.func 34) #[] #[.pointer (some ⟨W.heap.size, 0, none⟩)]) ∧ w' = W.alloc (.cells #[.map mb] 32)) :=
    hide (fun mb W => callsIn_wide.1 (Try.maps_Keys_21 mb W))
  have hle := hDo.size_le
  have HSO := hide (callsIn_wide.1 (Try.slices_Sorted_keys_20_21 b N D heldR w hDo (by unfold maxLen; omega) (by omega)))
  have HNM : Hid (∀ ss : List (List UInt8), ss.Perm (strKeys D) → IsNames F (ss.mergeSort leB) ∧ (ss.mergeSort leB).length ≤ N) := hide (fun ss hp => ⟨names_of hDo hDr hp, names_size hDo hDr hp⟩)
  clear hze h hT hB0 hs0 hn hN hnL hL hr hok hbs hF32 hDo hDr hle
  go_enter Try.func11, Try.ntmps11
  go_wp2_with fail
  refine (HKY.out (some b) w).mono ?_
  rintro e w3 ⟨rfl, rfl⟩
  go_wp2_with fail
  refine HSO.out.mono ?_
  rintro e w4 ⟨v, ss, rfl, hS, hrow, hnil, hb4⟩
  obtain ⟨l, hl⟩ : ∃ l, l = ss.mergeSort leB := ⟨_, rfl⟩
  obtain ⟨k, hk⟩ : ∃ k, k = ss.length := ⟨_, rfl⟩
  have HLK : Hid (l.length = k) := hide (by rw [hl, hk]; exact List.length_mergeSort ss)
  obtain ⟨hN1, hN2⟩ := HNM.out ss hS
  rw [← hl] at hN1 hN2
  have hrow2 : w4.ownsRow (w.heap.size + 1) 9 1 v k (l.map S) := by rw [hk, hl]; simpa using hrow
  obtain ⟨A', c', rfl⟩ := own_slice hrow2
  have HRL : Hid (Rd w4 (fun b => b = s) 1 A' k (l.map S)) := hide (Rd.of_own2 hrow2 (fun k hk => by have := HSL.out; omega))
  have HNN := hide hN1
  have HKN : Hid (k ≤ N) := hide (by have := HLK.out; omega)
  have hk9 : k ≤ 9223372036854775807 := by have := HKN.out; have := HN.out; omega
  have HK4 : Hid (Below w.heap.size w w4) := hide (((Below.refl _ w).alloc (Nat.le_refl _) _).trans (hb4.mono (by simp)))
  have HS4 : Hid (s < w4.heap.size ∧ w.heap.size ≤ w4.heap.size) := hide (by have := HSL.out; have := HK4.out.size; omega)
  have HT4 := hide (HT.out.below HK4.out)
  clear hrow hrow2 hN1 hN2 hnil hb4 hS hl hk HKY HSO HNM
  go_wp2_with fail
  have HLR4 : Hid (Rd w4 (fun b => b = s) 66 A nL (L.flatMap Enq.cells)) := hide (HLR.out.keep (Keep.of_below HK4.out (fun k h1 h2 => by have := HSL.out; omega)))
  have HEO4 : Hid (∀ e ∈ L, EnOk w4 s e) := hide (fun e he => (HEO.out e he).keep (Keep.of_below HK4.out (fun k h1 h2 => by have := HSL.out; omega)))
  have HDD4 := hide (HDD.out.below HK4.out)
  have HB4 : Hid (Below w0.heap.size w0 w4) := hide (HBO.out.1.trans (HK4.out.mono HBO.out.1.size))
  clear HLR HEO HDD
  go_loopw [7, 16] (fun u i wr => ∃ (t : Nat) (A2 : Option Addr) (c2 : Nat), t ≤ k ∧ u = .slice A2 ((l.take t).filter (staleM T L F)).length c2 ∧ i = .int .i64 t ∧ Hid (wr.ownsRow w4.heap.size 9 1 (.slice A2 ((l.take t).filter (staleM T L F)).length c2) ((l.take t).filter (staleM T L F)).length (((l.take t).filter (staleM T L F)).map S)) ∧ Hid (Tab wr g m s T (n + 100 * t)) ∧ Hid (Keep (fun b => b = s) w4 wr)) (fun _ i _ => k - (intOf i).toNat)
  case atStart => exact ⟨0, none, 0, Nat.zero_le _, rfl, rfl, hide (World.ownsRow_nil _ _ _ _), hide (HT4.out.mono (by omega)), hide (Keep.refl _ _)⟩
  case round =>
    obtain ⟨t, A2, c2, ht, rfl, rfl, HOW, HTA, HK⟩ := hrel
    obtain ⟨cnt, hcnt⟩ : ∃ x, x = ((l.take t).filter (staleM T L F)).length := ⟨_, rfl⟩
    rw [← hcnt] at HOW ⊢
    have HCN : Hid (cnt ≤ 1000) := hide (by
      have h1 := List.length_filter_le (staleM T L F) (l.take t)
      have h2 := List.length_take_le t l
      have := HKN.out; have := HN.out; omega)
    have hcnt9 : cnt ≤ 9223372036854775807 := by have := HCN.out; omega
    have HCT := hide hcnt
    clear hcnt
    by_cases hlt : t < k
    · have hlt2 : t < l.length := by rw [HLK.out]; exact hlt
      obtain ⟨nm, hnm⟩ : ∃ x, x = l[t] := ⟨_, rfl⟩
      have HIS : Hid ((F nm).isSome = true) := hide ((HNN.out.2 nm).1 (by rw [hnm]; exact List.getElem_mem hlt2))
      obtain ⟨d, hd⟩ := Option.isSome_iff_exists.1 HIS.out
      have HFD := hide hd
      have HDS := hide (HF2.out nm d hd)
      have HTK : Hid ((l.take (t + 1)).filter (staleM T L F) = (l.take t).filter (staleM T L F) ++ (if staleM T L F nm then [nm] else [])) := hide (by
        rw [List.take_add_one, List.getElem?_eq_getElem hlt2, List.filter_append, ← hnm]
        simp [List.filter_cons])
      obtain ⟨x, o, rfl, hxs, hxl, hcell⟩ := Rd.rec_ (size := 1) (l := l) (f := fun l => [S l]) (fun _ => rfl) (by rw [← List.map_eq_flatMap]; exact HRL.out.keep HK.out) HLK.out t hlt
      have q0 : wr.cell? ⟨x, o + t, none⟩ = some (S nm) := by have := hcell 0 (S nm) (by rw [hnm]; rfl); simpa using this
      clear hcell hnm hd
      have HLRr : Hid (Rd wr (fun b => b = s) 66 A nL (L.flatMap Enq.cells)) := hide (HLR4.out.keep HK.out)
      have HFI := hide (find_any A nL c L nm wr (HLRr.out.weak (fun k h1 h2 => by omega)) HLL.out (by have := HN.out; omega))
      obtain ⟨fe, hfe⟩ : ∃ e, e = (findM L nm).getD zeroEn := ⟨_, rfl⟩
      obtain ⟨fb, hfb⟩ : ∃ e, e = (findM L nm).isSome := ⟨_, rfl⟩
      rw [← hfe, ← hfb] at HFI
      have HFE : Hid (fb = true → findM L nm = some fe) := hide (fun hb => by
        rw [hb] at hfb
        obtain ⟨y, hy⟩ := Option.isSome_iff_exists.1 hfb.symm
        rw [hy] at hfe
        rw [hy, hfe]; rfl)
      have HFN : Hid (fb = false → findM L nm = none) := hide (fun hb => by
        rw [hb] at hfb
        exact Option.not_isSome_iff_eq_none.1 (by rw [← hfb]; simp))
      clear hfe hfb
      have HV' := hide (EnV.mk_ fe)
      obtain ⟨fv, hfv⟩ : ∃ v, v = fe.cells.toArray := ⟨_, rfl⟩
      rw [← hfv] at HV' HFI
      have HFV := hide hfv
      clear hfv
      go_upto_region 5 with fail
      go_upto_region 6 with (first
        | (go_at_call 22; refine HFI.out.mono ?_; rintro e w5 ⟨rfl, hb5⟩; have HB5 := hide hb5; have HZT : Hid ((w5.alloc (.cells ze 39)).there w5.heap.size 0 fv.size) := hide ((Blk.new w5 39 ze).there_ (by rw [HV'.out.size, HZS.out])); clear hb5)
        | (refine wpList_store_mid rfl 39 (.tmp 10) (.tmp 24) rfl w5.heap.size 0 fv rfl rfl HZT.out (by rw [HV'.out.size]; exact en_info) HV'.out.one ?_))
      refine name_world ?_
      intro w6 hw6
      have HBX := hide (box_any w5 39 ze fv (by rw [HV'.out.size, HZS.out]))
      rw [← hw6] at HBX
      have HQ6 : Hid (Blk w6 w5.heap.size 39 fv) := hide HBX.out.1
      have HB6 : Hid (Below wr.heap.size wr w6) := hide (HB5.out.trans (HBX.out.2.mono HB5.out.size))
      clear hw6 HZT HBX HB5
      obtain ⟨q, hq⟩ : ∃ q, q = w5.heap.size := ⟨_, rfl⟩
      rw [← hq] at HQ6 ⊢
      clear hq
      have HKE6 : Hid (Keep (fun b => b = s) wr w6) := hide (Keep.of_below HB6.out (fun k h1 h2 => by have := HK.out.size; have := HS4.out; omega))
      have HT6 := hide (HTA.out.below HB6.out)
      have HOW6 := hide (own_keep HOW.out HKE6.out (fun i hi h => by have := own_base HOW.out hi; have := HS4.out; omega))
      obtain ⟨dz, hdz⟩ : ∃ z, z = darr d := ⟨_, rfl⟩
      have hlook : (Instr.lookup 32 (.map (some b)) (S nm) false).run Try.prog w6 = .ok (.agg dz) w6 := by rw [hdz]; exact DgIs.look (w := w6) (HDD4.out.of_block ((HK.out.trans HKE6.out).block b HDD4.out.lt HBS.out)) HDS.out.2 HFD.out
      have HDZ := hide hdz
      clear hdz
      cases fb with
      | false =>
        have HST : Hid (staleM T L F nm = true) := hide (by unfold staleM; rw [HFN.out rfl])
        have HKX : Hid (Keep (fun b => b = s) wr w6) := HKE6
        go_upto_region 8 with (at_builtin; have e1 := HOW6.out.alloc (.cells #[S nm] 9); have e2 : Blk (w6.alloc (.cells #[S nm] 9)) w6.heap.size 9 [S nm].toArray := Blk.new _ _ _; refine wpList_appB rfl (.tmp 37) (.tmp 39) 33 rfl w4.heap.size 9 (S []) 1 16 Try.underlying33 str_info3 HZC.out (by decide) (.slice A2 cnt c2) cnt (((l.take t).filter (staleM T L F)).map S) ?hs e1 w6.heap.size [S nm] ?hx ?hl e2 ?h1 ?h63 ?hbytes ?hbase ?h; (case hs => exact rfl); (case hx => exact rfl); (case hl => exact rfl); (case h1 => (intro v hv; obtain rfl := List.mem_singleton.1 hv; rfl)); (case h63 => (unfold maxLen; have := HCN.out; omega)); (case hbytes => (have := HCN.out; omega)); (case hbase => (have := HK.out.size; have := HKX.out.size; simp; omega)); intro A4 c4 w9 hown9 hg9; clear e1 e2; have HOWN9 := hide hown9; have HG9 := hide hg9; clear hown9 hg9)
        have HKA : Hid (Keep (fun i => some i = (Value.slice A2 cnt c2).ownBlock) w6 w9) := hide (((Keep.refl _ w6).alloc _).grown HG9.out (fun i hi _ => hi.symm))
        have HLEN : Hid (((l.take (t + 1)).filter (staleM T L F)).length = cnt + 1) := hide (by rw [HTK.out, HST.out, HCT.out]; simp)
        have HON : Hid (w9.ownsRow w4.heap.size 9 1 (.slice A4 ((l.take (t + 1)).filter (staleM T L F)).length c4) ((l.take (t + 1)).filter (staleM T L F)).length (((l.take (t + 1)).filter (staleM T L F)).map S)) := hide (by
          rw [HLEN.out, HTK.out, HST.out, if_pos rfl, List.map_append]
          exact HOWN9.out)
        have HTN : Hid (Tab w9 g m s T (n + 100 * (t + 1))) := hide ((HT6.out.mono (by omega)).keep HKA.out (fun h => by have := own_base HOW6.out h.symm; have := HT4.out.blk.lt; omega) (fun h => by have := own_base HOW6.out h.symm; have := HT4.out.faces.lt; omega) (fun h => by have := own_base HOW6.out h.symm; have := HS4.out; omega))
        have HKR : Hid (Keep (fun b => b = s) w4 w9) := hide ((HK.out.trans HKX.out).trans' HKA.out (fun i hi h => by have := own_base HOW6.out h.symm; omega))
        clear HOWN9 HG9 HKA
        go_wp2_with fail
        go_roundw
        · exact ⟨t + 1, A4, c4, by omega, by rw [HLEN.out] <;> rfl, rfl, HON, HTN, HKR⟩
        · simp [intOf]; omega
      | true =>
        have HFX := hide (HFE.out rfl)
        have HEN := hide (HEO4.out fe (findM_mem HFX.out))
        have HEK : Hid (fe.k ≤ 100) := hide HEN.out.rk
        have HEN6 := hide (HEN.out.keep (HK.out.trans HKE6.out))
        obtain ⟨R, hR⟩ : ∃ R, R = freshM T fe d := ⟨_, rfl⟩
        have HFR := hide (fresh_any w0 g m s (n + 100 * t) T fe d fv dz w6 HT6.out (by have := HN.out; have := HKN.out; have := HEK.out; omega) HEN6.out.rl HEN6.out.ok HEN6.out.es HDS.out.1 HEN6.out.rr HFO.out ((HB4.out.trans (HK.out.below (B := w0.heap.size) HB4.out.size (fun k hk => by rw [hk]; exact HBO.out.2))).trans (HKE6.out.below (B := w0.heap.size) (Nat.le_trans HB4.out.size HK.out.size) (fun k hk => by rw [hk]; exact HBO.out.2))) HBO.out.2 HFV.out HDZ.out)
        rw [← hR] at HFR
        have HFM : Hid (freshM T fe ((F nm).getD Z32) = R) := hide (by rw [HFD.out, hR]; rfl)
        clear hR
        cases R with
        | false =>
          go_upto_region 7 with (first
            | (refine wpList_load_g 39 (.tmp 10) rfl rfl q 0 rfl fv _ HQ6.out.range Try.underlying39 rfl (by rw [Array.length_toList, HV'.out.size]; exact en_info) ?_)
            | (refine HFR.out.mono ?_; rintro e w7 ⟨rfl, ht7, hk7⟩; have HT7 := hide ht7; have HK7 := hide hk7; have HOW7 := hide (own_keep HOW6.out hk7 (fun i hi h => by have := own_base HOW6.out hi; have := HS4.out; omega)); clear ht7 hk7))
          clear hlook
          have HST : Hid (staleM T L F nm = true) := hide (by unfold staleM; rw [HFX.out]; simp only; rw [HFM.out]; rfl)
          have HKX : Hid (Keep (fun b => b = s) wr w7) := hide (HKE6.out.trans HK7.out)
          go_upto_region 8 with (at_builtin; have e1 := HOW7.out.alloc (.cells #[S nm] 9); have e2 : Blk (w7.alloc (.cells #[S nm] 9)) w7.heap.size 9 [S nm].toArray := Blk.new _ _ _; refine wpList_appB rfl (.tmp 37) (.tmp 39) 33 rfl w4.heap.size 9 (S []) 1 16 Try.underlying33 str_info3 HZC.out (by decide) (.slice A2 cnt c2) cnt (((l.take t).filter (staleM T L F)).map S) ?hs e1 w7.heap.size [S nm] ?hx ?hl e2 ?h1 ?h63 ?hbytes ?hbase ?h; (case hs => exact rfl); (case hx => exact rfl); (case hl => exact rfl); (case h1 => (intro v hv; obtain rfl := List.mem_singleton.1 hv; rfl)); (case h63 => (unfold maxLen; have := HCN.out; omega)); (case hbytes => (have := HCN.out; omega)); (case hbase => (have := HK.out.size; have := HKX.out.size; simp; omega)); intro A4 c4 w9 hown9 hg9; clear e1 e2; have HOWN9 := hide hown9; have HG9 := hide hg9; clear hown9 hg9)
          have HKA : Hid (Keep (fun i => some i = (Value.slice A2 cnt c2).ownBlock) w7 w9) := hide (((Keep.refl _ w7).alloc _).grown HG9.out (fun i hi _ => hi.symm))
          have HLEN : Hid (((l.take (t + 1)).filter (staleM T L F)).length = cnt + 1) := hide (by rw [HTK.out, HST.out, HCT.out]; simp)
          have HON : Hid (w9.ownsRow w4.heap.size 9 1 (.slice A4 ((l.take (t + 1)).filter (staleM T L F)).length c4) ((l.take (t + 1)).filter (staleM T L F)).length (((l.take (t + 1)).filter (staleM T L F)).map S)) := hide (by
            rw [HLEN.out, HTK.out, HST.out, if_pos rfl, List.map_append]
            exact HOWN9.out)
          have HTN : Hid (Tab w9 g m s T (n + 100 * (t + 1))) := hide ((HT7.out.mono (by have := HEK.out; omega)).keep HKA.out (fun h => by have := own_base HOW7.out h.symm; have := HT4.out.blk.lt; omega) (fun h => by have := own_base HOW7.out h.symm; have := HT4.out.faces.lt; omega) (fun h => by have := own_base HOW7.out h.symm; have := HS4.out; omega))
          have HKR : Hid (Keep (fun b => b = s) w4 w9) := hide ((HK.out.trans HKX.out).trans' HKA.out (fun i hi h => by have := own_base HOW7.out h.symm; omega))
          clear HOWN9 HG9 HKA
          go_wp2_with fail
          go_roundw
          · exact ⟨t + 1, A4, c4, by omega, by rw [HLEN.out] <;> rfl, rfl, HON, HTN, HKR⟩
          · simp [intOf]; omega

        | true =>
          have HST : Hid (staleM T L F nm = false) := hide (by unfold staleM; rw [HFX.out]; simp only; rw [HFM.out]; rfl)
          have HFI2 : Hid ((l.take (t + 1)).filter (staleM T L F) = (l.take t).filter (staleM T L F)) := hide (by rw [HTK.out, HST.out]; simp)
          go_upto_region 7 with (first
            | (refine wpList_load_g 39 (.tmp 10) rfl rfl q 0 rfl fv _ HQ6.out.range Try.underlying39 rfl (by rw [Array.length_toList, HV'.out.size]; exact en_info) ?_)
            | (refine HFR.out.mono ?_; rintro e w7 ⟨rfl, ht7, hk7⟩; have HT7 := hide ht7; have HK7 := hide hk7; have HOW7 := hide (own_keep HOW6.out hk7 (fun i hi h => by have := own_base HOW6.out hi; have := HS4.out; omega)); clear ht7 hk7))
          clear hlook
          have HTN : Hid (Tab w7 g m s T (n + 100 * (t + 1))) := hide (HT7.out.mono (by have := HEK.out; omega))
          have HKR : Hid (Keep (fun b => b = s) w4 w7) := hide ((HK.out.trans HKE6.out).trans HK7.out)
          go_wp2_with fail
          go_roundw
          · exact ⟨t + 1, A2, c2, by omega, by rw [HFI2.out, ← HCT.out] <;> rfl, rfl, by rw [HFI2.out, ← HCT.out]; exact HOW7, HTN, HKR⟩
          · simp [intOf]; omega
    · obtain rfl : t = k := by omega
      clear hlt
      go_wp2_with fail
      go_ret
      have h1 : l.take t = l := List.take_of_length_le (by have := HLK.out; omega)
      have h2 := HOW.out
      have h3 := HCT.out
      rw [h1] at h2 h3
      rw [h3] at h2 ⊢
      exact ⟨A2, c2, l, rfl, HNN.out, own_base_mono h2 HS4.out.2, (Keep.of_below HK4.out (fun k h1 h2 => by have := HSL.out; omega)).trans HK.out⟩
end Go.Proofs.Ythehimjdjgmnjaa
