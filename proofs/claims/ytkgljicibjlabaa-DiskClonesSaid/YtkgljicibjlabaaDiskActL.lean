/- Acts, by the page: what an act does to files; the contract of the law's own turn; no statement of the seat is proved here. -/
import Derived.Test.YtkgljicibjlabaaDiskNames
import Derived.Lib.MinMax
namespace Go.Proofs.Ytkgljicibjlabaa
open Go.RowKit Go.Maps

/-- An act: its kind, a number, a name, another one, a text. -/
structure Ac where
  k : Int
  n : Int
  nm : List UInt8
  to : List UInt8
  tx : List UInt8
abbrev Ac.cells (a : Ac) : List Value := [.int .i64 a.k, .int .i64 a.n, S a.nm, S a.to, S a.tx]
abbrev Ac.val (a : Ac) : Value := .agg #[.int .i64 a.k, .int .i64 a.n, S a.nm, S a.to, S a.tx]
def Ac.ok (a : Ac) : Prop := (Lit.int .i64 a.k).wf = true ∧ (Lit.int .i64 a.n).wf = true ∧ short a.nm ∧ short a.to ∧ short a.tx
/-- Its kind, of six. -/
def Ac.kap (a : Ac) : Nat := (a.k % 18446744073709551616 % 6).toNat
theorem Ac.kap_lt (a : Ac) : a.kap < 6 := by unfold Ac.kap; omega
theorem kap_wrap (k : Int) : wrap64 ((IntKind.u64.wrap k).tmod 6) = ((k % 18446744073709551616 % 6).toNat : Int) := by
  rw [IntKind.wrap_u64, Int.tmod_eq_emod_of_nonneg (by omega)]
  unfold wrap64
  omega
/-- The files behind an act. -/
def actDo (F : Fl) (a : Ac) : Fl :=
  if a.kap ≤ 1 then F.set a.nm a.tx else if a.kap = 2 then (match F a.nm with | some o => (F.del a.nm).set a.to o | none => F) else if a.kap = 3 then F.del a.nm else F

theorem Fl.part (F : Fl) (l0 : List (List UInt8)) (h : ∀ k, k ∈ l0 ↔ (F k).isSome = true) : (fun x => if x ∈ l0 then none else F x) = fun _ => none := by
  funext x
  by_cases hx : x ∈ l0
  · simp [hx]
  · have := mt (h x).2 hx
    simp [hx] at this ⊢
    exact this
theorem Fl.part_step (F : Fl) (l : List (List UInt8)) (hn : l.Nodup) {k v : List UInt8} (hv : F k = some v) : (Fl.set (fun x => if x ∈ l then none else F x) k v) = fun x => if x ∈ l.erase k then none else F x := by
  funext x
  unfold Fl.set
  by_cases e : x = k
  · subst e; simp [hn.mem_erase_iff, hv]
  · simp [hn.mem_erase_iff, e]

set_option maxRecDepth 100000 in
set_option maxHeartbeats 2000000 in
theorem trn_any (a : Ac) (ha : a.ok) (b N : Nat) (F : Fl) (w : World) (h : TxtIs w b N F) (hN : N ≤ 900000) :
    Calls Try.prog 29 #[.map (some b), a.val] w (fun e w' => ∃ b', e = .returned (.map (some b')) ∧ TxtIs w' b' (N + 1) (actDo F a) ∧ Below w.heap.size w w' ∧ w.heap.size ≤ b') := by
  obtain ⟨D, hD, hR⟩ := h
  obtain ⟨k, n, nm, to, tx⟩ := a
  obtain ⟨hk, _, hnm, hto, htx⟩ := ha
  obtain ⟨q1, q2, q3⟩ := keys_of hD hR
  have hmm := @run_makeMap Try.prog
  have hbl := hD.lt
  have hsz := hD.size_le
  have k0 := ((Blk.new w 49 #[.int .i64 k, .int .i64 n, S nm, S to, S tx]).alloc (.map #[] 0))
  have hb1 := ((Below.refl w.heap.size w).alloc (Nat.le_refl _) (.cells #[.int .i64 k, .int .i64 n, S nm, S to, S tx] 49)).alloc (by simp) (.map #[] 0)
  have hD1 := (hD.alloc (.cells #[.int .i64 k, .int .i64 n, S nm, S to, S tx] 49)).alloc (.map #[] 0)
  have hM1 : TxtIs ((w.alloc (.cells #[.int .i64 k, .int .i64 n, S nm, S to, S tx] 49)).alloc (.map #[] 0)) (w.heap.size + 1) 0 (fun _ => none) := by
    have := TxtIs.made (w.alloc (.cells #[.int .i64 k, .int .i64 n, S nm, S to, S tx] 49))
    rwa [World.size_alloc] at this
  have HR := hide hR
  have HHB := hide hb1
  have HHM := hide hM1
  have HK0 := hide k0
  clear hD hR hb1 hM1 k0
  go_enter Try.func29, Try.ntmps29
  go_wp2_with (first | (at_range; refine wpList_range_own _ rfl _ 54 rfl 9 9 klaw Try.underlying54 _ b _ D rfl hD1 ?_; intro w0 hrg0 hg0 hs0) | go_in)
  simp only [World.size_alloc] at hrg0 hs0
  have hb0 := below_grown HHB.out (by simp; omega) hg0 (fun j hj => by cases hj)
  have hm0 := HHM.out.of_block (hg0.block (w.heap.size + 1) (by simp) (by simp))
  have hk0 := HK0.out.grown hg0 (by simp)
  clear HHB HHM HK0 hg0
  go_loopw [6] (fun _ wr => ∃ (left : Lit → Bool) (cnt : Nat) (l : List (List UInt8)), wr.ranges Try.prog 9 heldR b (w.heap.size + 1 + 1) N D left cnt ∧ l.Nodup ∧ (∀ k, k ∈ l ↔ left (.string k) = true) ∧ (∀ k ∈ l, (F k).isSome = true) ∧ l.length ≤ Maps.size D ∧
      TxtIs wr (w.heap.size + 1) (Maps.size D - l.length) (fun x => if x ∈ l then none else F x) ∧ Blk wr w.heap.size 49 #[.int .i64 k, .int .i64 n, S nm, S to, S tx] ∧ Below w.heap.size w wr)
    (fun _ wr => wr.rangeLeft b (w.heap.size + 1 + 1))
  case atStart => exact ⟨_, _, strKeys D, hrg0, q1, fun x => by rw [q2, (HR.out.2 x).1], fun x hx => (q2 x).1 hx, by omega, by rw [Fl.part F _ q2]; exact hm0.mono (by omega), hk0, hb0⟩
  case round =>
    obtain ⟨left, cnt, l, hrg, hnl, hml, hFl, hll, hTx, hBk, hBr⟩ := hrel
    have HML := hide hml
    have HFL := hide hFl
    have HTX := hide hTx
    have HBK := hide hBk
    have HBR := hide hBr
    clear hml hFl hTx hBk hBr hk0 hm0 hb0 hrg0
    have hrl := hrg.lt
    go_wp2_with (first | (at_next; refine next_txt _ rfl _ rfl b (w.heap.size + 1 + 1) _ D F HR.out left cnt l hnl HML.out HFL.out rfl hrg ?_ ?_) | go_in)
    · intro hnil
      subst hnil
      have hbk := HBK.out
      have r0 : wr.cell? ⟨w.heap.size, 0, none⟩ = some (.int .i64 k) := hbk.cell 0
      have r2 : wr.cell? ⟨w.heap.size, 2, none⟩ = some (S nm) := hbk.cell 2
      have r3 : wr.cell? ⟨w.heap.size, 3, none⟩ = some (S to) := hbk.cell 3
      have r4 : wr.cell? ⟨w.heap.size, 4, none⟩ = some (S tx) := hbk.cell 4
      obtain ⟨D2, hD2, hR2⟩ := HTX.out
      have hR2 : Reads D2 F := by simpa using hR2
      have hB := (hR2.2 nm).1
      have hV := (hR2.2 nm).2 (S [])
      have HR2 := hide hR2
      have hkn := key_S hnm
      clear hR2 hbk
      obtain ⟨bb, hbb⟩ : ∃ bb, bb = (F nm).isSome := ⟨_, rfl⟩
      obtain ⟨oo, hoo⟩ : ∃ oo, S oo = ((F nm).map S).getD (S []) := by
        cases F nm with
        | none => exact ⟨_, rfl⟩
        | some o => exact ⟨o, rfl⟩
      rw [← hbb] at hB
      rw [← hoo] at hV
      have hkp := kap_wrap k
      obtain ⟨κ, hκ⟩ : ∃ κ : Nat, κ = (k % 18446744073709551616 % 6).toNat := ⟨_, rfl⟩
      have hκ6 : κ < 6 := by omega
      have hkk : Ac.kap ⟨k, n, nm, to, tx⟩ = κ := by unfold Ac.kap; exact hκ.symm
      rw [← hκ] at hkp
      clear hκ
      have hkt := key_S hto
      obtain rfl | rfl | rfl | rfl | rfl | rfl : κ = 0 ∨ κ = 1 ∨ κ = 2 ∨ κ = 3 ∨ κ = 4 ∨ κ = 5 := by omega
      · have hkp : wrap64 ((IntKind.u64.wrap k).tmod 6) = 0 := hkp
        have HA : Hid (actDo F ⟨k, n, nm, to, tx⟩ = F.set nm tx) := hide (by simp [actDo, hkk])
        clear hbb hoo hkk
        go_wp2_with (first | (at_lookup; refine lookup_held2 _ rfl _ _ 54 rfl 9 9 klaw Try.underlying54 (zero_str _) _ _ D2 rfl hD2 _ _ rfl hkn (S oo) bb hV hB ?_) | (at_mapUpdate; refine wpList_mapUpdate_own _ rfl _ _ _ 54 rfl 9 9 klaw Try.underlying54 _ (w.heap.size + 1) _ D2 rfl hD2 (by unfold maxLen; omega) _ _ _ rfl rfl hkn _ [] (show heldR (S tx) = some (.held (S tx), []) from rfl) ?_; intro w3 hown3 hgrow3))
        go_ret
        exact ⟨_, rfl, ⟨_, hown3.mono (by simp at *; omega), by rw [HA.out]; exact HR2.out.set nm tx⟩, below_grown HBR.out HBR.out.size hgrow3 (fun j hj => by cases hj; omega), by omega⟩
      · have hkp : wrap64 ((IntKind.u64.wrap k).tmod 6) = 1 := hkp
        have HA : Hid (actDo F ⟨k, n, nm, to, tx⟩ = F.set nm tx) := hide (by simp [actDo, hkk])
        clear hbb hoo hkk
        go_wp2_with (first | (at_lookup; refine lookup_held2 _ rfl _ _ 54 rfl 9 9 klaw Try.underlying54 (zero_str _) _ _ D2 rfl hD2 _ _ rfl hkn (S oo) bb hV hB ?_) | (at_mapUpdate; refine wpList_mapUpdate_own _ rfl _ _ _ 54 rfl 9 9 klaw Try.underlying54 _ (w.heap.size + 1) _ D2 rfl hD2 (by unfold maxLen; omega) _ _ _ rfl rfl hkn _ [] (show heldR (S tx) = some (.held (S tx), []) from rfl) ?_; intro w3 hown3 hgrow3))
        go_ret
        exact ⟨_, rfl, ⟨_, hown3.mono (by simp at *; omega), by rw [HA.out]; exact HR2.out.set nm tx⟩, below_grown HBR.out HBR.out.size hgrow3 (fun j hj => by cases hj; omega), by omega⟩
      · have hkp : wrap64 ((IntKind.u64.wrap k).tmod 6) = 2 := hkp
        cases hF : F nm with
        | none =>
          have HA : Hid (actDo F ⟨k, n, nm, to, tx⟩ = F) := hide (by simp [actDo, hkk, hF])
          obtain rfl : bb = false := by rw [hbb, hF]; rfl
          clear hbb hoo hkk hF
          go_wp2_with ((at_lookup; refine lookup_held2 _ rfl _ _ 54 rfl 9 9 klaw Try.underlying54 (zero_str _) _ _ D2 rfl hD2 _ _ rfl hkn (S oo) false hV hB ?_))
          go_ret
          exact ⟨_, rfl, ⟨_, hD2.mono (by simp; omega), by rw [HA.out]; exact HR2.out⟩, HBR.out, by omega⟩
        | some o' =>
          have HA : Hid (actDo F ⟨k, n, nm, to, tx⟩ = (F.del nm).set to oo) := hide (by
            have : oo = o' := by
              rw [hF] at hoo
              have h2 : (ByteArray.mk oo.toArray) = ByteArray.mk o'.toArray := by injection hoo
              have h3 : oo.toArray = o'.toArray := by injection h2
              simpa using h3
            subst this
            simp [actDo, hkk, hF])
          obtain rfl : bb = true := by rw [hbb, hF]; rfl
          clear hbb hoo hkk hF
          go_wp2_with (first | (at_lookup; refine lookup_held2 _ rfl _ _ 54 rfl 9 9 klaw Try.underlying54 (zero_str _) _ _ D2 rfl hD2 _ _ rfl hkn (S oo) true hV hB ?_) | (at_delete; refine wpList_delete_own _ rfl _ _ 54 9 rfl 9 klaw Try.underlying54 _ (w.heap.size + 1) _ D2 rfl hD2 _ _ rfl hkn ?_; intro w2 hown2 hturn2; have hbk2 := HBK.out.grown hturn2.grown (by simp); have s0 : w2.cell? ⟨w.heap.size, 0, none⟩ = some (.int .i64 k) := hbk2.cell 0; have s2 : w2.cell? ⟨w.heap.size, 2, none⟩ = some (S nm) := hbk2.cell 2; have s3 : w2.cell? ⟨w.heap.size, 3, none⟩ = some (S to) := hbk2.cell 3; have HB2 := hide (below_grown HBR.out HBR.out.size hturn2.grown (fun j hj => by cases hj; omega)); clear hbk2 hturn2) | (at_mapUpdate; refine wpList_mapUpdate_own _ rfl _ _ _ 54 rfl 9 9 klaw Try.underlying54 _ (w.heap.size + 1) _ (D2.del (.string nm)) rfl hown2 (by unfold maxLen; omega) _ _ _ rfl rfl hkt _ [] (show heldR (S oo) = some (.held (S oo), []) from rfl) ?_; intro w3 hown3 hgrow3))
          go_ret
          exact ⟨_, rfl, ⟨_, hown3.mono (by simp at *; omega), by rw [HA.out]; exact (HR2.out.del nm).set to oo⟩, below_grown HB2.out HB2.out.size hgrow3 (fun j hj => by cases hj; omega), by omega⟩
      · have hkp : wrap64 ((IntKind.u64.wrap k).tmod 6) = 3 := hkp
        have HA : Hid (actDo F ⟨k, n, nm, to, tx⟩ = F.del nm) := hide (by simp [actDo, hkk])
        clear hbb hoo hkk
        go_wp2_with (first | (at_lookup; refine lookup_held2 _ rfl _ _ 54 rfl 9 9 klaw Try.underlying54 (zero_str _) _ _ D2 rfl hD2 _ _ rfl hkn (S oo) bb hV hB ?_) | (at_delete; refine wpList_delete_own _ rfl _ _ 54 9 rfl 9 klaw Try.underlying54 _ (w.heap.size + 1) _ D2 rfl hD2 _ _ rfl hkn ?_; intro w2 hown2 hturn2))
        go_ret
        exact ⟨_, rfl, ⟨_, hown2.mono (by simp; omega), by rw [HA.out]; exact HR2.out.del nm⟩, below_grown HBR.out HBR.out.size hturn2.grown (fun j hj => by cases hj; omega), by omega⟩
      · have hkp : wrap64 ((IntKind.u64.wrap k).tmod 6) = 4 := hkp
        have HA : Hid (actDo F ⟨k, n, nm, to, tx⟩ = F) := hide (by simp [actDo, hkk])
        clear hbb hoo hkk
        go_wp2_with ((at_lookup; refine lookup_held2 _ rfl _ _ 54 rfl 9 9 klaw Try.underlying54 (zero_str _) _ _ D2 rfl hD2 _ _ rfl hkn (S oo) bb hV hB ?_))
        go_ret
        exact ⟨_, rfl, ⟨_, hD2.mono (by simp; omega), by rw [HA.out]; exact HR2.out⟩, HBR.out, by omega⟩
      · have hkp : wrap64 ((IntKind.u64.wrap k).tmod 6) = 5 := hkp
        have HA : Hid (actDo F ⟨k, n, nm, to, tx⟩ = F) := hide (by simp [actDo, hkk])
        clear hbb hoo hkk
        go_wp2_with ((at_lookup; refine lookup_held2 _ rfl _ _ 54 rfl 9 9 klaw Try.underlying54 (zero_str _) _ _ D2 rfl hD2 _ _ rfl hkn (S oo) bb hV hB ?_))
        go_ret
        exact ⟨_, rfl, ⟨_, hD2.mono (by simp; omega), by rw [HA.out]; exact HR2.out⟩, HBR.out, by omega⟩
    · intro kk v w2 left' cnt' hk2 hv hm' hrg' hlt hg2 hs2 hen
      have hB2 := below_grown HBR.out HBR.out.size hg2 (fun j hj => by cases hj; omega)
      have hT2 := HTX.out.of_block (hg2.block (w.heap.size + 1) (by omega) (by simp))
      have hBk2 := HBK.out.grown hg2 (by simp; omega)
      have hks : short kk := by
        have := strKeys_le hrg.owns Try.underlying9 kk ((q2 kk).2 (by rw [hv]; rfl))
        unfold short
        simpa [maxLen] using this
      have hkk := key_S hks
      obtain ⟨D2, hD2, hR2⟩ := hT2
      have HR2 := hide hR2
      have HB2 := hide hB2
      have HBk2 := hide hBk2
      have hlp := List.length_pos_of_mem hk2
      have hle := List.length_erase_of_mem hk2
      clear hR2 hB2 hBk2 HTX HBK HBR
      go_wp2_with (at_mapUpdate; refine wpList_mapUpdate_own _ rfl _ _ _ 54 rfl 9 9 klaw Try.underlying54 _ (w.heap.size + 1) _ D2 rfl hD2 (by unfold maxLen; omega) _ _ _ rfl rfl hkk _ [] (show heldR (S v) = some (.held (S v), []) from rfl) ?_; intro w3 hown3 hgrow3)
      have hrg3 := hrg'.kept hgrow3 (by simp; omega) (by simp)
      have hb3 := below_grown HB2.out HB2.out.size hgrow3 (fun j hj => by cases hj; omega)
      have hbk3 := HBk2.out.grown hgrow3 (by simp)
      go_roundw
      case rel =>
        (repeat apply Exists.intro)
        exact ⟨⟨left', cnt', l.erase kk, hrg3, hnl.erase kk, hm', fun x hx => HFL.out x (List.mem_of_mem_erase hx), by omega, ⟨_, hown3.mono (by omega), by rw [← Fl.part_step F l hnl hv]; exact HR2.out.set kk v⟩, hbk3, hb3⟩, rfl⟩
      case measure => rw [hrg3.left_eq, hrg.left_eq]; omega
end Go.Proofs.Ytkgljicibjlabaa
