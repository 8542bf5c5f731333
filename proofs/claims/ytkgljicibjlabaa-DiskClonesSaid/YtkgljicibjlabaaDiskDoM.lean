/- An act of the page's model: the contract of the law's Do; no statement of the seat is proved here. -/
import Derived.Test.YtkgljicibjlabaaDiskPlay
import Derived.Deep.AppendLies
import Derived.Deep.RegionLaw
namespace Go.Proofs.Ytkgljicibjlabaa
open Go.RowKit Go.Maps

theorem actDo_eq (F : Fl) (a : Ac) (h : a.kap ≤ 3) : actDo F a = chDo F (chOf a) := by
  unfold actDo chOf
  by_cases h1 : a.kap ≤ 1
  · simp [h1, chDo]
  · by_cases h2 : a.kap = 2
    · rw [if_neg h1, if_pos h2, if_neg h1, if_pos h2]
      rfl
    · have h3 : a.kap = 3 := by omega
      rw [if_neg h1, if_neg h2, if_pos h3, if_neg h1, if_neg h2]
      rfl
theorem fold_eq : ∀ (ac : List Ac) (F : Fl), (∀ a ∈ ac, a.kap ≤ 3) → ac.foldl actDo F = (ac.map chOf).foldl chDo F
  | [], _, _ => rfl
  | a :: ac, F, h => by
    simp only [List.foldl_cons, List.map_cons]
    rw [actDo_eq F a (h a (by simp)), fold_eq ac _ (fun x hx => h x (by simp [hx]))]

/-- A model that stands as a disk does. -/
def MdS (w : World) (B h b N n c : Nat) (A : Option Addr) (ac : List Ac) (room : Nat) (s : St) : Prop := Md w B h b N n c A ac room s.fall s.dn s.F ∧ ac.map chOf = s.cs ∧ ∀ a ∈ ac, a.kap ≤ 3
/-- Behind an act. -/
def PostM (B h N n c : Nat) (A : Option Addr) (room : Nat) (s : St) (w : World) (w' : World) : Prop :=
  (∃ b' N' n' c' A' ac', MdS w' B h b' N' n' c' A' ac' room s ∧ N' + n' ≤ N + n + 1) ∧ Keep (fun k => k = h ∨ (Value.slice A n c).ownBlock = some k) w w'

theorem act_info : (Try.prog.info? 49).map (fun i => (i.zero, i.size, i.bytes)) = some (some (.agg #[.int .i64 0, .int .i64 0, .string { data := #[] }, .string { data := #[] }, .string { data := #[] }]), 5, 64) := by kernel_rfl

/-- One more act is laid. -/
theorem Md.more {w w5 : World} {B h b N n c q cap : Nat} {A : Option Addr} {ac : List Ac} {size : Nat} {falls : Int} {dn : Bool} {F : Fl} {a : Ac} {o : Obj} (m : Md w B h b N n c A ac size falls dn F) (ha : a.ok)
    (hown : w5.ownsRow B 49 5 (.slice (some ⟨q, 0, none⟩) (n + 1) cap) (n + 1) (ac.flatMap Ac.cells ++ a.cells)) (hg : ((w.alloc o).drew).grownBy w5 (Value.slice A n c).ownBlock) (hat : (Value.slice A n c).ownBlock = some q ∨ q = w.heap.size + 1) :
    w5.cell? ⟨h, 1, none⟩ = some (.slice A n c) ∧ w5.frozen? ⟨h, 1, none⟩ = false ∧ Md (w5.setCell ⟨h, 1, none⟩ (.slice (some ⟨q, 0, none⟩) (n + 1) cap)) B h b N (n + 1) cap (some ⟨q, 0, none⟩) (ac ++ [a]) size falls dn F ∧
      Keep (fun k => k = h ∨ (Value.slice A n c).ownBlock = some k) w (w5.setCell ⟨h, 1, none⟩ (.slice (some ⟨q, 0, none⟩) (n + 1) cap)) := by
  have k5 : Keep (fun k => (Value.slice A n c).ownBlock = some k) w w5 := (((Keep.refl _ w).alloc o).drew).grown hg (fun k hk _ => hk)
  have hq : q ≠ h := by
    rintro rfl
    rcases hat with e | e
    · exact m.oh e
    · have := m.blk.lt; omega
  have hb5 := m.blk.keep k5 m.oh
  refine ⟨hb5.cell 1, hb5.frozen 1, ⟨hb5.set_ 1 _, ?_, ?_, ?_, m.bB, m.hB⟩, (k5.mono fun _ _ h => .inr h).setCell (fun _ => .inl rfl) _⟩
  · exact (m.txt.of_block (k5.block b m.txt.lt m.ob)).of_block (Below.heap_setCell _ _ _ _ m.bh)
  · rw [List.flatMap_append]
    refine own_keep (F := fun k => k = h) (by simpa using hown) ((Keep.refl (fun k => k = h) w5).setCell (p := ⟨h, 1, none⟩) (fun _ => rfl) _) (fun k hk e => ?_)
    have : q = k := by simpa [Value.ownBlock] using hk
    exact hq (this.trans e)
  · intro x hx
    rcases List.mem_append.1 hx with h' | h'
    · exact m.ok x h'
    · rw [List.mem_singleton] at h'; subst h'; exact ha

set_option maxRecDepth 100000 in
set_option maxHeartbeats 2000000 in
theorem dom_any (B h b N n c : Nat) (A : Option Addr) (ac : List Ac) (room : Nat) (s : St) (a : Ac) (tot : Nat) (w : World)
    (hs : MdS w B h b N n c A ac room s) (ha : a.ok) (hf2 : s.fall ≤ 9223372036854775807) (hf3 : -1 ≤ s.fall) (hn : n ≤ 90000) (hN : N ≤ 100000) (hT : Tot s.R tot) (ht : tot ≤ 1000000000000) (hr : room ≤ 4194304) (htl : a.tx.length ≤ 1000000) :
    Calls Try.prog 26 #[.pointer (some ⟨h, 0, none⟩), a.val] w (fun e w' => e = .returned (.int .i64 (s.err ((room : Int) - tot) a : Nat)) ∧ PostM B h N n c A room (s.nxt ((room : Int) - tot) a) w w') := by
  obtain ⟨m, hcs, hk3⟩ := hs
  have hRR : ac.foldl actDo s.F = s.R := by rw [fold_eq ac _ hk3, hcs]; rfl
  obtain ⟨F, cs, falls, dn⟩ := s
  obtain ⟨E, hE⟩ : ∃ E, E = St.err ⟨F, cs, falls, dn⟩ ((room : Int) - tot) a := ⟨_, rfl⟩
  obtain ⟨T, hTT⟩ : ∃ T, T = St.nxt ⟨F, cs, falls, dn⟩ ((room : Int) - tot) a := ⟨_, rfl⟩
  rw [← hE, ← hTT]
  obtain ⟨R, hR⟩ : ∃ R, R = St.R ⟨F, cs, falls, dn⟩ := ⟨_, rfl⟩
  rw [← hR] at hT hRR
  have HSTOP := hide (fun hst h5 => stopped (s := ⟨F, cs, falls, dn⟩) (a := a) hst h5 ((room : Int) - tot))
  have HGO := hide (fun hst h5 => going (s := ⟨F, cs, falls, dn⟩) (a := a) hst h5 ((room : Int) - tot))
  have H5 : Hid (a.kap = 5 → St.err ⟨F, cs, falls, dn⟩ ((room : Int) - tot) a = 0 ∧ St.nxt ⟨F, cs, falls, dn⟩ ((room : Int) - tot) a = ⟨F, cs, max a.n 0, dn⟩) := hide (fun hk => by unfold St.err St.nxt; rw [if_pos hk, if_pos hk]; exact ⟨rfl, rfl⟩)
  rw [← hE, ← hTT] at HSTOP HGO H5
  rw [← hR] at HGO
  have HCS := hide hcs
  have HK3 := hide hk3
  have HRR := hide hRR
  have HTOT := hide hT
  have hfw : falls ≤ 9223372036854775807 := hf2
  have hfw3 : -1 ≤ falls := hf3
  have HAO := hide ha
  clear hE hTT hR hcs hk3 hRR hT hf2 hf3
  have hkp := kap_wrap a.k
  obtain ⟨κ, hκ⟩ : ∃ κ : Nat, κ = (a.k % 18446744073709551616 % 6).toNat := ⟨_, rfl⟩
  have hκ6 : κ < 6 := by omega
  have hkk : a.kap = κ := by unfold Ac.kap; exact hκ.symm
  rw [← hκ] at hkp
  clear hκ
  have hb1 := (Below.refl w.heap.size w).alloc (Nat.le_refl _) (.cells #[.int .i64 a.k, .int .i64 a.n, S a.nm, S a.to, S a.tx] 49)
  have m1 := m.below hb1
  have k1 := Keep.of_below (F := fun k => k = h) hb1 (fun k h1 h2 => by omega)
  have bx := Blk.new w 49 #[.int .i64 a.k, .int .i64 a.n, S a.nm, S a.to, S a.tx]
  have hmb := m1.blk
  have f1 := hmb.frozen 1
  have f3 := hmb.frozen 3
  have f4 := hmb.frozen 4
  have c3 : (w.alloc (.cells #[.int .i64 a.k, .int .i64 a.n, S a.nm, S a.to, S a.tx] 49)).cell? ⟨h, 3, none⟩ = some (.int .i64 falls) := hmb.cell 3
  have c4 : (w.alloc (.cells #[.int .i64 a.k, .int .i64 a.n, S a.nm, S a.to, S a.tx] 49)).cell? ⟨h, 4, none⟩ = some (.bool dn) := hmb.cell 4
  have HM := hide m
  have HM1 := hide m1
  have HK1 := hide k1
  have HBX := hide bx
  have hwh : w.heap.size ≠ h := by have := m.blk.lt; omega
  clear m m1 k1 bx hb1 hmb
  obtain ⟨k, nn, nm, to, tx⟩ := a
  by_cases h5 : κ = 5
  · subst h5
    have hkp : wrap64 ((IntKind.u64.wrap k).tmod 6) = 5 := hkp
    obtain ⟨rfl, rfl⟩ := H5.out hkk
    have hs4 := HM1.out.blk.set_ 3 (.int .i64 (max nn 0))
    have hk4 := (Keep.refl (fun j => j = h) (w.alloc (.cells #[.int .i64 k, .int .i64 nn, S nm, S to, S tx] 49))).setCell (p := ⟨h, 3, none⟩) (fun _ => rfl) (.int .i64 (max nn 0))
    have HF := hide (show PostM B h N n c A room ⟨F, cs, max nn 0, dn⟩ w ((w.alloc (.cells #[.int .i64 k, .int .i64 nn, S nm, S to, S tx] 49)).setCell ⟨h, 3, none⟩ (.int .i64 (max nn 0))) from
      ⟨⟨b, N, n, c, A, ac, ⟨HM1.out.turned hk4 hs4, HCS.out, HK3.out⟩, by omega⟩, (HK1.out.trans hk4).mono (fun _ _ h => .inl h)⟩)
    clear hs4 hk4 HM1 HM HSTOP HGO H5 hkk
    go_enter Try.func26, Try.ntmps26
    go_wp2_with fail
    go_ret
    exact ⟨rfl, HF.out⟩
  have d5 : ((κ : Int) == 5) = false := by simp; omega
  have hne5 : Ac.kap ⟨k, nn, nm, to, tx⟩ ≠ 5 := by rw [hkk]; exact h5
  by_cases hst : dn = true ∨ falls = 0
  · obtain ⟨rfl, rfl⟩ := HSTOP.out hst hne5
    have hs4 := HM1.out.blk.set_ 4 (.bool true)
    have hk4 := (Keep.refl (fun j => j = h) (w.alloc (.cells #[.int .i64 k, .int .i64 nn, S nm, S to, S tx] 49))).setCell (p := ⟨h, 4, none⟩) (fun _ => rfl) (.bool true)
    have HF := hide (show PostM B h N n c A room ⟨F, cs, falls, true⟩ w ((w.alloc (.cells #[.int .i64 k, .int .i64 nn, S nm, S to, S tx] 49)).setCell ⟨h, 4, none⟩ (.bool true)) from
      ⟨⟨b, N, n, c, A, ac, ⟨HM1.out.turned hk4 hs4, HCS.out, HK3.out⟩, by omega⟩, (HK1.out.trans hk4).mono (fun _ _ h => .inl h)⟩)
    clear hs4 hk4 HM1 HM HSTOP HGO H5 hkk hne5
    cases dn with
    | true =>
      clear hst
      go_enter Try.func26, Try.ntmps26
      go_wp2_with fail
      go_ret
      exact ⟨rfl, HF.out⟩
    | false =>
      obtain rfl : falls = 0 := by simpa using hst
      clear hst
      go_enter Try.func26, Try.ntmps26
      go_wp2_with fail
      go_ret
      exact ⟨rfl, HF.out⟩
  · have hgo := HGO.out hst hne5
    have hdf : dn = false := by
      cases dn with
      | false => rfl
      | true => exact absurd (.inl rfl) hst
    have hf0 : falls ≠ 0 := fun e => hst (.inr e)
    subst hdf
    have d6 : (falls == 0) = false := by simpa using hf0
    have HG := hide hgo
    clear hgo hst HSTOP HGO H5 hne5
    obtain ⟨fall', hfall⟩ : ∃ f : Int, f = fallS falls := ⟨_, rfl⟩
    rw [← hfall] at HG
    by_cases hp : 0 < falls
    case' pos =>
      have d7 : decide (0 < falls) = true := by simpa using hp
      have hw7 : wrap64 (falls - 1) = falls - 1 := by unfold wrap64; omega
      obtain rfl : fall' = falls - 1 := by rw [hfall, fallS, if_pos hp]
      have hs4 := HM1.out.blk.set_ 3 (.int .i64 (falls - 1))
      have hk4 := (Keep.refl (fun j => j = h) (w.alloc (.cells #[.int .i64 k, .int .i64 nn, S nm, S to, S tx] 49))).setCell (p := ⟨h, 3, none⟩) (fun _ => rfl) (.int .i64 (falls - 1))
      have m2 : Md ((w.alloc (.cells #[.int .i64 k, .int .i64 nn, S nm, S to, S tx] 49)).setCell ⟨h, 3, none⟩ (.int .i64 (falls - 1))) B h b N n c A ac room (falls - 1) false F := HM1.out.turned hk4 hs4
      have HM2 := hide m2
      have HK2 := hide (HK1.out.trans hk4)
      have HBX2 := hide (HBX.out.keep hk4 hwh)
      clear hs4 hk4 m2 HM1 HK1 HBX hfall
      go_enter Try.func26, Try.ntmps26
      go_wp2_with fail
      have HFI := hide (mfiles_any B h b N n c A ac room (falls - 1) false F _ HM2.out (by omega) hN)
    case' neg =>
      have d7 : decide (0 < falls) = false := by simpa using hp
      obtain rfl : fall' = falls := by rw [hfall, fallS, if_neg hp]
      have HM2 := HM1
      have HK2 := HK1
      have HBX2 := HBX
      clear HM1 HK1 HBX hfall
      go_enter Try.func26, Try.ntmps26
      go_wp2_with fail
      have HFI := hide (mfiles_any B h b N n c A ac room fall' false F _ HM2.out (by omega) hN)
    all_goals
      rw [HRR.out] at HFI
      refine HFI.out.mono ?_
      rintro e w3 ⟨b3, rfl, ht3, hb3, hB3⟩
      have m3 := HM2.out.below hb3
      have k3 := HK2.out.trans (Keep.of_below (F := fun j => j = h) hb3 (fun j h1 h2 => by omega))
      have bx3 := HBX2.out.below hb3 HBX2.out.lt
      have c2 : w3.cell? ⟨h, 2, none⟩ = some (.int .i64 room) := m3.blk.cell 2
      have HM3 := hide m3
      have HK3' := hide k3
      have HBX3 := hide bx3
      obtain ⟨D, hD, hRd⟩ := ht3
      clear m3 k3 bx3 hb3 HFI HM2 HK2 HBX2 c3 c4 f1 f3 f4
      go_wp2_with (first | (at_range; refine wpList_range_own _ rfl _ 54 rfl 9 9 klaw Try.underlying54 _ b3 _ D rfl hD ?_; intro w0 hrg0 hg0 hs0) | go_in)
      go_frame
      obtain ⟨l0, hn0, hm0, htl0⟩ := HTOT.out
      have hb0 := (Below.refl w3.heap.size w3)
      have hb0 := below_grown hb0 (Nat.le_refl _) hg0 (fun j hj => by cases hj)
      have HB0 := hide hb0
      have htot1 : lens R l0 = tot := htl0.symm
      clear htl0 hb0 hg0
      go_loopw [7] (fun v wr => ∃ (left : Lit → Bool) (cnt : Nat) (l : List (List UInt8)), wr.ranges Try.prog 9 heldR b3 w3.heap.size (N + n) D left cnt ∧ l.Nodup ∧ (∀ j, j ∈ l ↔ left (.string j) = true) ∧ (∀ j ∈ l, (R j).isSome = true) ∧ lens R l ≤ tot ∧
          v = .int .i64 ((room : Int) - tot + lens R l) ∧ Below w3.heap.size w3 wr) (fun _ wr => wr.rangeLeft b3 w3.heap.size)
      case atStart => exact ⟨_, _, l0, hrg0, hn0, fun j => by rw [hm0, (hRd.2 j).1], fun j hj => (hm0 j).1 hj, by omega, by rw [htot1]; congr 1; omega, HB0.out⟩
      case round =>
        obtain ⟨left, cnt, l, hrg, hnl, hml, hFl, hle, rfl, hBr⟩ := hrel
        have HLE := hide hle
        have HML := hide hml
        have HFL := hide hFl
        clear hle hml hFl
        go_wp2_with (first | (at_next; refine next_txt _ rfl _ rfl b3 w3.heap.size _ D R hRd left cnt l hnl HML.out HFL.out rfl hrg ?_ ?_) | go_in)
        · intro hnil
          subst hnil
          have m4 := HM3.out.below hBr
          have k4 := HK3'.out.trans (Keep.of_below (F := fun j => j = h) hBr (fun j h1 h2 => by omega))
          have bx4 := HBX3.out.below hBr HBX3.out.lt
          have r0 : wr.cell? ⟨w.heap.size, 0, none⟩ = some (.int .i64 k) := bx4.cell 0
          have r1 : wr.cell? ⟨w.heap.size, 1, none⟩ = some (.int .i64 nn) := bx4.cell 1
          have r2 : wr.cell? ⟨w.heap.size, 2, none⟩ = some (S nm) := bx4.cell 2
          have r3 : wr.cell? ⟨w.heap.size, 3, none⟩ = some (S to) := bx4.cell 3
          have r4 : wr.cell? ⟨w.heap.size, 4, none⟩ = some (S tx) := bx4.cell 4
          have hD4 := hrg.owns
          have HT4 : Hid (TxtIs wr b3 (N + n) R) := hide ⟨D, hD4, hRd⟩
          have hl00 : lens R [] = 0 := rfl
          have HM4 := hide m4
          have HK4 := hide k4
          have HBX4 := hide bx4
          have hkn := key_S HAO.out.2.2.1
          have hB := (hRd.2 nm).1
          have hV := (hRd.2 nm).2 (S [])
          obtain ⟨bb, hbb⟩ : ∃ bb, bb = (R nm).isSome := ⟨_, rfl⟩
          obtain ⟨oo, hoo⟩ : ∃ oo, oo = (R nm).getD [] := ⟨_, rfl⟩
          have hoo' : ((R nm).map S).getD (S []) = S oo := by rw [hoo]; cases R nm <;> rfl
          rw [← hbb] at hB
          rw [hoo'] at hV
          have hle2 := HTOT.out.le nm
          rw [← hoo] at hle2
          have hx : wrap64 ((room : Int) - tot + oo.length) = room - tot + oo.length := by unfold wrap64; omega
          have HBBH := hide hbb
          have HOO := hide hoo
          clear m4 k4 bx4 hbb hoo hoo' hRd HML HFL hBr hrg0 HM3 HK3' HBX3 HB0 htot1 hn0 hm0
          obtain rfl | rfl | rfl | rfl | rfl : κ = 0 ∨ κ = 1 ∨ κ = 2 ∨ κ = 3 ∨ κ = 4 := by omega
          · have hkp : wrap64 ((IntKind.u64.wrap k).tmod 6) = 0 := hkp
            by_cases h1 : nm = []
            · have e1 : (nm == []) = true := by simpa using h1
              have hans : ans R ((room : Int) - tot) ⟨k, nn, nm, to, tx⟩ = 1 := by unfold ans; rw [if_pos (by omega), if_pos (.inl h1)]
              have hET := HG.out
              rw [hans, if_pos (by decide)] at hET
              obtain ⟨rfl, rfl⟩ := hET
              clear hans HG HBBH HOO hkk h1
              go_wp2_with (first | (at_lookup; refine lookup_held2 _ rfl _ _ 54 rfl 9 9 klaw Try.underlying54 (zero_str _) _ _ D rfl hD4 _ _ rfl hkn (S oo) bb hV hB ?_))
              go_ret
              exact ⟨rfl, ⟨⟨b, N, n, c, A, ac, ⟨HM4.out, HCS.out, HK3.out⟩, by omega⟩, HK4.out.mono (fun _ _ h => .inl h)⟩⟩
            have e1 : (nm == []) = false := by simpa using h1
            by_cases h2 : 80 < nm.length
            · have e2 : decide (80 < (nm.length : Int)) = true := by simp; omega
              have hans : ans R ((room : Int) - tot) ⟨k, nn, nm, to, tx⟩ = 1 := by unfold ans; rw [if_pos (by omega), if_pos (.inr h2)]
              have hET := HG.out
              rw [hans, if_pos (by decide)] at hET
              obtain ⟨rfl, rfl⟩ := hET
              clear hans HG HBBH HOO hkk
              go_wp2_with (first | (at_lookup; refine lookup_held2 _ rfl _ _ 54 rfl 9 9 klaw Try.underlying54 (zero_str _) _ _ D rfl hD4 _ _ rfl hkn (S oo) bb hV hB ?_))
              go_ret
              exact ⟨rfl, ⟨⟨b, N, n, c, A, ac, ⟨HM4.out, HCS.out, HK3.out⟩, by omega⟩, HK4.out.mono (fun _ _ h => .inl h)⟩⟩
            have e2 : decide (80 < (nm.length : Int)) = false := by simp; omega
            have h12 : ¬ (nm = [] ∨ 80 < nm.length) := fun h => h.elim h1 h2
            by_cases h7 : (room : Int) - tot + oo.length < tx.length
            · have e7 : decide ((room : Int) - tot + oo.length < tx.length) = true := by simpa using h7
              have hans : ans R ((room : Int) - tot) ⟨k, nn, nm, to, tx⟩ = 7 := by unfold ans; rw [if_pos (by omega), if_neg h12, if_pos (by rw [← HOO.out]; exact h7)]
              have hET := HG.out
              rw [hans, if_pos (by decide)] at hET
              obtain ⟨rfl, rfl⟩ := hET
              clear hans HG HBBH HOO hkk
              go_wp2_with (first | (at_lookup; refine lookup_held2 _ rfl _ _ 54 rfl 9 9 klaw Try.underlying54 (zero_str _) _ _ D rfl hD4 _ _ rfl hkn (S oo) bb hV hB ?_) | (at_lookup; refine lookup_held1 _ rfl _ _ 54 rfl 9 9 klaw Try.underlying54 (zero_str _) _ _ D rfl hD4 _ _ rfl hkn (S oo) hV ?_))
              go_ret
              exact ⟨rfl, ⟨⟨b, N, n, c, A, ac, ⟨HM4.out, HCS.out, HK3.out⟩, by omega⟩, HK4.out.mono (fun _ _ h => .inl h)⟩⟩
            · have e7 : decide ((room : Int) - tot + oo.length < tx.length) = false := by simp; omega
              have hans : ans R ((room : Int) - tot) ⟨k, nn, nm, to, tx⟩ = 0 := by unfold ans; rw [if_pos (by omega), if_neg h12, if_neg (by rw [← HOO.out]; exact h7)]
              have hET := HG.out
              rw [hans, if_neg (by simp), if_neg (by omega)] at hET
              obtain ⟨rfl, rfl⟩ := hET
              have hkl : ∀ y ∈ ac ++ [(⟨k, nn, nm, to, tx⟩ : Ac)], Ac.kap y ≤ 3 := by
                intro y hy
                rcases List.mem_append.1 hy with h' | h'
                · exact HK3.out y h'
                · rw [List.mem_singleton] at h'; subst h'; omega
              have HKL := hide hkl
              have HCL : Hid (List.map chOf (ac ++ [⟨k, nn, nm, to, tx⟩]) = cs ++ [chOf ⟨k, nn, nm, to, tx⟩]) := hide (by rw [List.map_append, HCS.out]; rfl)
              clear hans HG HBBH HOO hkk hkl
              have g1 : wr.cell? ⟨h, 1, none⟩ = some (.slice A n c) := HM4.out.blk.cell 1
              have g1' : ((wr.alloc (.cells #[.int .i64 k, .int .i64 nn, S nm, S to, S tx] 49)).drew).cell? ⟨h, 1, none⟩ = some (.slice A n c) := (HM4.out.blk.alloc _).cell 1
              have s0 : wr.drew.cell? ⟨w.heap.size, 0, none⟩ = some (.int .i64 k) := r0
              have hoD : ((wr.alloc (.cells #[.int .i64 k, .int .i64 nn, S nm, S to, S tx] 49)).drew).ownsRow B 49 5 (.slice A n c) n (ac.flatMap Ac.cells) := HM4.out.own.alloc _
              have hnD : ∀ i u, (Ac.cells ⟨k, nn, nm, to, tx⟩)[i]? = some u → ((wr.alloc (.cells #[.int .i64 k, .int .i64 nn, S nm, S to, S tx] 49)).drew).cell? ((⟨wr.heap.size, 0, none⟩ : Addr).add i) = some u := World.news_of_block (heap_alloc_new wr _)
              have h1c : ∀ u ∈ (Ac.cells ⟨k, nn, nm, to, tx⟩), u.oneCell' = true := by
                intro u hu
                simp only [Ac.cells, List.mem_cons, List.not_mem_nil, or_false] at hu
                rcases hu with rfl | rfl | rfl | rfl | rfl <;> rfl
              have hBs : B ≤ wr.heap.size + 1 := by have := HM4.out.blk.lt; have := HM4.out.hB; omega
              obtain ⟨i0, hi0, hz0, hz1, hz2⟩ := info_parts act_info
              go_wp2_with (first | (at_lookup; refine lookup_held2 _ rfl _ _ 54 rfl 9 9 klaw Try.underlying54 (zero_str _) _ _ D rfl hD4 _ _ rfl hkn (S oo) bb hV hB ?_) | (at_lookup; refine lookup_held1 _ rfl _ _ 54 rfl 9 9 klaw Try.underlying54 (zero_str _) _ _ D rfl hD4 _ _ rfl hkn (S oo) hV ?_))
              go_region_law (refine step_append_lies _ rfl (.tmp 126) (.tmp 128) 44 rfl B 49 i0 _ 5 64 Try.underlying44 hi0 hz0 hz1 hz2 rfl (by decide) _ _ _ rfl hoD ⟨wr.heap.size, 0, none⟩ 1 1 (Ac.cells ⟨k, nn, nm, to, tx⟩) rfl rfl hnD h1c (by decide) (by unfold maxLen; omega) (by omega) (by simp; omega) (wr.heap.size + 1) (by simp) ?_; intro q cap w5 hown5 hgrow5 hat5 _; obtain ⟨g5, f5, hm5, hk5⟩ := Md.more (a := ⟨k, nn, nm, to, tx⟩) HM4.out HAO.out hown5 hgrow5 hat5; have HM5 := hide hm5; have HK5 := hide hk5; clear hm5 hk5 hown5 hgrow5)
              all_goals
                simp [go_sem]
                go_wp2
                go_ret
                exact ⟨rfl, ⟨⟨b, N, n + 1, cap, _, _, ⟨HM5.out, HCL.out, HKL.out⟩, by omega⟩, (HK4.out.mono (fun _ _ h => .inl h)).trans HK5.out⟩⟩
          · have hkp : wrap64 ((IntKind.u64.wrap k).tmod 6) = 1 := hkp
            by_cases h1 : nm = []
            · have e1 : (nm == []) = true := by simpa using h1
              have hans : ans R ((room : Int) - tot) ⟨k, nn, nm, to, tx⟩ = 1 := by unfold ans; rw [if_pos (by omega), if_pos (.inl h1)]
              have hET := HG.out
              rw [hans, if_pos (by decide)] at hET
              obtain ⟨rfl, rfl⟩ := hET
              clear hans HG HBBH HOO hkk h1
              go_wp2_with (first | (at_lookup; refine lookup_held2 _ rfl _ _ 54 rfl 9 9 klaw Try.underlying54 (zero_str _) _ _ D rfl hD4 _ _ rfl hkn (S oo) bb hV hB ?_))
              go_ret
              exact ⟨rfl, ⟨⟨b, N, n, c, A, ac, ⟨HM4.out, HCS.out, HK3.out⟩, by omega⟩, HK4.out.mono (fun _ _ h => .inl h)⟩⟩
            have e1 : (nm == []) = false := by simpa using h1
            by_cases h2 : 80 < nm.length
            · have e2 : decide (80 < (nm.length : Int)) = true := by simp; omega
              have hans : ans R ((room : Int) - tot) ⟨k, nn, nm, to, tx⟩ = 1 := by unfold ans; rw [if_pos (by omega), if_pos (.inr h2)]
              have hET := HG.out
              rw [hans, if_pos (by decide)] at hET
              obtain ⟨rfl, rfl⟩ := hET
              clear hans HG HBBH HOO hkk
              go_wp2_with (first | (at_lookup; refine lookup_held2 _ rfl _ _ 54 rfl 9 9 klaw Try.underlying54 (zero_str _) _ _ D rfl hD4 _ _ rfl hkn (S oo) bb hV hB ?_))
              go_ret
              exact ⟨rfl, ⟨⟨b, N, n, c, A, ac, ⟨HM4.out, HCS.out, HK3.out⟩, by omega⟩, HK4.out.mono (fun _ _ h => .inl h)⟩⟩
            have e2 : decide (80 < (nm.length : Int)) = false := by simp; omega
            have h12 : ¬ (nm = [] ∨ 80 < nm.length) := fun h => h.elim h1 h2
            by_cases h7 : (room : Int) - tot + oo.length < tx.length
            · have e7 : decide ((room : Int) - tot + oo.length < tx.length) = true := by simpa using h7
              have hans : ans R ((room : Int) - tot) ⟨k, nn, nm, to, tx⟩ = 7 := by unfold ans; rw [if_pos (by omega), if_neg h12, if_pos (by rw [← HOO.out]; exact h7)]
              have hET := HG.out
              rw [hans, if_pos (by decide)] at hET
              obtain ⟨rfl, rfl⟩ := hET
              clear hans HG HBBH HOO hkk
              go_wp2_with (first | (at_lookup; refine lookup_held2 _ rfl _ _ 54 rfl 9 9 klaw Try.underlying54 (zero_str _) _ _ D rfl hD4 _ _ rfl hkn (S oo) bb hV hB ?_) | (at_lookup; refine lookup_held1 _ rfl _ _ 54 rfl 9 9 klaw Try.underlying54 (zero_str _) _ _ D rfl hD4 _ _ rfl hkn (S oo) hV ?_))
              go_ret
              exact ⟨rfl, ⟨⟨b, N, n, c, A, ac, ⟨HM4.out, HCS.out, HK3.out⟩, by omega⟩, HK4.out.mono (fun _ _ h => .inl h)⟩⟩
            · have e7 : decide ((room : Int) - tot + oo.length < tx.length) = false := by simp; omega
              have hans : ans R ((room : Int) - tot) ⟨k, nn, nm, to, tx⟩ = 0 := by unfold ans; rw [if_pos (by omega), if_neg h12, if_neg (by rw [← HOO.out]; exact h7)]
              have hET := HG.out
              rw [hans, if_neg (by simp), if_neg (by omega)] at hET
              obtain ⟨rfl, rfl⟩ := hET
              have hkl : ∀ y ∈ ac ++ [(⟨k, nn, nm, to, tx⟩ : Ac)], Ac.kap y ≤ 3 := by
                intro y hy
                rcases List.mem_append.1 hy with h' | h'
                · exact HK3.out y h'
                · rw [List.mem_singleton] at h'; subst h'; omega
              have HKL := hide hkl
              have HCL : Hid (List.map chOf (ac ++ [⟨k, nn, nm, to, tx⟩]) = cs ++ [chOf ⟨k, nn, nm, to, tx⟩]) := hide (by rw [List.map_append, HCS.out]; rfl)
              clear hans HG HBBH HOO hkk hkl
              have g1 : wr.cell? ⟨h, 1, none⟩ = some (.slice A n c) := HM4.out.blk.cell 1
              have g1' : ((wr.alloc (.cells #[.int .i64 k, .int .i64 nn, S nm, S to, S tx] 49)).drew).cell? ⟨h, 1, none⟩ = some (.slice A n c) := (HM4.out.blk.alloc _).cell 1
              have s0 : wr.drew.cell? ⟨w.heap.size, 0, none⟩ = some (.int .i64 k) := r0
              have hoD : ((wr.alloc (.cells #[.int .i64 k, .int .i64 nn, S nm, S to, S tx] 49)).drew).ownsRow B 49 5 (.slice A n c) n (ac.flatMap Ac.cells) := HM4.out.own.alloc _
              have hnD : ∀ i u, (Ac.cells ⟨k, nn, nm, to, tx⟩)[i]? = some u → ((wr.alloc (.cells #[.int .i64 k, .int .i64 nn, S nm, S to, S tx] 49)).drew).cell? ((⟨wr.heap.size, 0, none⟩ : Addr).add i) = some u := World.news_of_block (heap_alloc_new wr _)
              have h1c : ∀ u ∈ (Ac.cells ⟨k, nn, nm, to, tx⟩), u.oneCell' = true := by
                intro u hu
                simp only [Ac.cells, List.mem_cons, List.not_mem_nil, or_false] at hu
                rcases hu with rfl | rfl | rfl | rfl | rfl <;> rfl
              have hBs : B ≤ wr.heap.size + 1 := by have := HM4.out.blk.lt; have := HM4.out.hB; omega
              obtain ⟨i0, hi0, hz0, hz1, hz2⟩ := info_parts act_info
              go_wp2_with (first | (at_lookup; refine lookup_held2 _ rfl _ _ 54 rfl 9 9 klaw Try.underlying54 (zero_str _) _ _ D rfl hD4 _ _ rfl hkn (S oo) bb hV hB ?_) | (at_lookup; refine lookup_held1 _ rfl _ _ 54 rfl 9 9 klaw Try.underlying54 (zero_str _) _ _ D rfl hD4 _ _ rfl hkn (S oo) hV ?_))
              go_region_law (refine step_append_lies _ rfl (.tmp 126) (.tmp 128) 44 rfl B 49 i0 _ 5 64 Try.underlying44 hi0 hz0 hz1 hz2 rfl (by decide) _ _ _ rfl hoD ⟨wr.heap.size, 0, none⟩ 1 1 (Ac.cells ⟨k, nn, nm, to, tx⟩) rfl rfl hnD h1c (by decide) (by unfold maxLen; omega) (by omega) (by simp; omega) (wr.heap.size + 1) (by simp) ?_; intro q cap w5 hown5 hgrow5 hat5 _; obtain ⟨g5, f5, hm5, hk5⟩ := Md.more (a := ⟨k, nn, nm, to, tx⟩) HM4.out HAO.out hown5 hgrow5 hat5; have HM5 := hide hm5; have HK5 := hide hk5; clear hm5 hk5 hown5 hgrow5)
              all_goals
                simp [go_sem]
                go_wp2
                go_ret
                exact ⟨rfl, ⟨⟨b, N, n + 1, cap, _, _, ⟨HM5.out, HCL.out, HKL.out⟩, by omega⟩, (HK4.out.mono (fun _ _ h => .inl h)).trans HK5.out⟩⟩
          · have hkp : wrap64 ((IntKind.u64.wrap k).tmod 6) = 2 := hkp
            by_cases h1 : to = []
            · have e1 : (to == []) = true := by simpa using h1
              have hans : ans R ((room : Int) - tot) ⟨k, nn, nm, to, tx⟩ = 1 := by unfold ans; rw [if_neg (by omega), if_pos hkk, if_pos (.inl h1)]
              have hET := HG.out
              rw [hans, if_pos (by decide)] at hET
              obtain ⟨rfl, rfl⟩ := hET
              clear hans HG HBBH HOO hkk h1
              go_wp2_with (first | (at_lookup; refine lookup_held2 _ rfl _ _ 54 rfl 9 9 klaw Try.underlying54 (zero_str _) _ _ D rfl hD4 _ _ rfl hkn (S oo) bb hV hB ?_))
              go_ret
              exact ⟨rfl, ⟨⟨b, N, n, c, A, ac, ⟨HM4.out, HCS.out, HK3.out⟩, by omega⟩, HK4.out.mono (fun _ _ h => .inl h)⟩⟩
            have e1 : (to == []) = false := by simpa using h1
            by_cases h2 : 80 < to.length
            · have e2 : decide (80 < (to.length : Int)) = true := by simp; omega
              have hans : ans R ((room : Int) - tot) ⟨k, nn, nm, to, tx⟩ = 1 := by unfold ans; rw [if_neg (by omega), if_pos hkk, if_pos (.inr h2)]
              have hET := HG.out
              rw [hans, if_pos (by decide)] at hET
              obtain ⟨rfl, rfl⟩ := hET
              clear hans HG HBBH HOO hkk
              go_wp2_with (first | (at_lookup; refine lookup_held2 _ rfl _ _ 54 rfl 9 9 klaw Try.underlying54 (zero_str _) _ _ D rfl hD4 _ _ rfl hkn (S oo) bb hV hB ?_))
              go_ret
              exact ⟨rfl, ⟨⟨b, N, n, c, A, ac, ⟨HM4.out, HCS.out, HK3.out⟩, by omega⟩, HK4.out.mono (fun _ _ h => .inl h)⟩⟩
            have e2 : decide (80 < (to.length : Int)) = false := by simp; omega
            have h12 : ¬ (to = [] ∨ 80 < to.length) := fun h => h.elim h1 h2
            cases bb with
            | false =>
              have hans : ans R ((room : Int) - tot) ⟨k, nn, nm, to, tx⟩ = 5 := by unfold ans; rw [if_neg (by omega), if_pos hkk, if_neg h12, if_neg (by rw [← HBBH.out]; simp)]
              have hET := HG.out
              rw [hans, if_pos (by decide)] at hET
              obtain ⟨rfl, rfl⟩ := hET
              clear hans HG HBBH HOO hkk
              go_wp2_with (first | (at_lookup; refine lookup_held2 _ rfl _ _ 54 rfl 9 9 klaw Try.underlying54 (zero_str _) _ _ D rfl hD4 _ _ rfl hkn (S oo) false hV hB ?_))
              go_ret
              exact ⟨rfl, ⟨⟨b, N, n, c, A, ac, ⟨HM4.out, HCS.out, HK3.out⟩, by omega⟩, HK4.out.mono (fun _ _ h => .inl h)⟩⟩
            | true =>
              have hans : ans R ((room : Int) - tot) ⟨k, nn, nm, to, tx⟩ = 0 := by unfold ans; rw [if_neg (by omega), if_pos hkk, if_neg h12, if_pos (HBBH.out.symm)]
              have hET := HG.out
              rw [hans, if_neg (by simp), if_neg (by omega)] at hET
              obtain ⟨rfl, rfl⟩ := hET
              have hkl : ∀ y ∈ ac ++ [(⟨k, nn, nm, to, tx⟩ : Ac)], Ac.kap y ≤ 3 := by
                intro y hy
                rcases List.mem_append.1 hy with h' | h'
                · exact HK3.out y h'
                · rw [List.mem_singleton] at h'; subst h'; omega
              have HKL := hide hkl
              have HCL : Hid (List.map chOf (ac ++ [⟨k, nn, nm, to, tx⟩]) = cs ++ [chOf ⟨k, nn, nm, to, tx⟩]) := hide (by rw [List.map_append, HCS.out]; rfl)
              clear hans HG HBBH HOO hkk hkl
              have g1 : wr.cell? ⟨h, 1, none⟩ = some (.slice A n c) := HM4.out.blk.cell 1
              have g1' : ((wr.alloc (.cells #[.int .i64 k, .int .i64 nn, S nm, S to, S tx] 49)).drew).cell? ⟨h, 1, none⟩ = some (.slice A n c) := (HM4.out.blk.alloc _).cell 1
              have s0 : wr.drew.cell? ⟨w.heap.size, 0, none⟩ = some (.int .i64 k) := r0
              have hoD : ((wr.alloc (.cells #[.int .i64 k, .int .i64 nn, S nm, S to, S tx] 49)).drew).ownsRow B 49 5 (.slice A n c) n (ac.flatMap Ac.cells) := HM4.out.own.alloc _
              have hnD : ∀ i u, (Ac.cells ⟨k, nn, nm, to, tx⟩)[i]? = some u → ((wr.alloc (.cells #[.int .i64 k, .int .i64 nn, S nm, S to, S tx] 49)).drew).cell? ((⟨wr.heap.size, 0, none⟩ : Addr).add i) = some u := World.news_of_block (heap_alloc_new wr _)
              have h1c : ∀ u ∈ (Ac.cells ⟨k, nn, nm, to, tx⟩), u.oneCell' = true := by
                intro u hu
                simp only [Ac.cells, List.mem_cons, List.not_mem_nil, or_false] at hu
                rcases hu with rfl | rfl | rfl | rfl | rfl <;> rfl
              have hBs : B ≤ wr.heap.size + 1 := by have := HM4.out.blk.lt; have := HM4.out.hB; omega
              obtain ⟨i0, hi0, hz0, hz1, hz2⟩ := info_parts act_info
              go_wp2_with (first | (at_lookup; refine lookup_held2 _ rfl _ _ 54 rfl 9 9 klaw Try.underlying54 (zero_str _) _ _ D rfl hD4 _ _ rfl hkn (S oo) true hV hB ?_))
              go_region_law (refine step_append_lies _ rfl (.tmp 126) (.tmp 128) 44 rfl B 49 i0 _ 5 64 Try.underlying44 hi0 hz0 hz1 hz2 rfl (by decide) _ _ _ rfl hoD ⟨wr.heap.size, 0, none⟩ 1 1 (Ac.cells ⟨k, nn, nm, to, tx⟩) rfl rfl hnD h1c (by decide) (by unfold maxLen; omega) (by omega) (by simp; omega) (wr.heap.size + 1) (by simp) ?_; intro q cap w5 hown5 hgrow5 hat5 _; obtain ⟨g5, f5, hm5, hk5⟩ := Md.more (a := ⟨k, nn, nm, to, tx⟩) HM4.out HAO.out hown5 hgrow5 hat5; have HM5 := hide hm5; have HK5 := hide hk5; clear hm5 hk5 hown5 hgrow5)
              all_goals
                simp [go_sem]
                go_wp2
                go_ret
                exact ⟨rfl, ⟨⟨b, N, n + 1, cap, _, _, ⟨HM5.out, HCL.out, HKL.out⟩, by omega⟩, (HK4.out.mono (fun _ _ h => .inl h)).trans HK5.out⟩⟩
          · have hkp : wrap64 ((IntKind.u64.wrap k).tmod 6) = 3 := hkp
            cases bb with
            | false =>
              have hans : ans R ((room : Int) - tot) ⟨k, nn, nm, to, tx⟩ = 5 := by unfold ans; rw [if_neg (by omega), if_neg (by omega), if_pos hkk, if_neg (by rw [← HBBH.out]; simp)]
              have hET := HG.out
              rw [hans, if_pos (by decide)] at hET
              obtain ⟨rfl, rfl⟩ := hET
              clear hans HG HBBH HOO hkk
              go_wp2_with (first | (at_lookup; refine lookup_held2 _ rfl _ _ 54 rfl 9 9 klaw Try.underlying54 (zero_str _) _ _ D rfl hD4 _ _ rfl hkn (S oo) false hV hB ?_))
              go_ret
              exact ⟨rfl, ⟨⟨b, N, n, c, A, ac, ⟨HM4.out, HCS.out, HK3.out⟩, by omega⟩, HK4.out.mono (fun _ _ h => .inl h)⟩⟩
            | true =>
              have hans : ans R ((room : Int) - tot) ⟨k, nn, nm, to, tx⟩ = 0 := by unfold ans; rw [if_neg (by omega), if_neg (by omega), if_pos hkk, if_pos (HBBH.out.symm)]
              have hET := HG.out
              rw [hans, if_neg (by simp), if_neg (by omega)] at hET
              obtain ⟨rfl, rfl⟩ := hET
              have hkl : ∀ y ∈ ac ++ [(⟨k, nn, nm, to, tx⟩ : Ac)], Ac.kap y ≤ 3 := by
                intro y hy
                rcases List.mem_append.1 hy with h' | h'
                · exact HK3.out y h'
                · rw [List.mem_singleton] at h'; subst h'; omega
              have HKL := hide hkl
              have HCL : Hid (List.map chOf (ac ++ [⟨k, nn, nm, to, tx⟩]) = cs ++ [chOf ⟨k, nn, nm, to, tx⟩]) := hide (by rw [List.map_append, HCS.out]; rfl)
              clear hans HG HBBH HOO hkk hkl
              have g1 : wr.cell? ⟨h, 1, none⟩ = some (.slice A n c) := HM4.out.blk.cell 1
              have g1' : ((wr.alloc (.cells #[.int .i64 k, .int .i64 nn, S nm, S to, S tx] 49)).drew).cell? ⟨h, 1, none⟩ = some (.slice A n c) := (HM4.out.blk.alloc _).cell 1
              have s0 : wr.drew.cell? ⟨w.heap.size, 0, none⟩ = some (.int .i64 k) := r0
              have hoD : ((wr.alloc (.cells #[.int .i64 k, .int .i64 nn, S nm, S to, S tx] 49)).drew).ownsRow B 49 5 (.slice A n c) n (ac.flatMap Ac.cells) := HM4.out.own.alloc _
              have hnD : ∀ i u, (Ac.cells ⟨k, nn, nm, to, tx⟩)[i]? = some u → ((wr.alloc (.cells #[.int .i64 k, .int .i64 nn, S nm, S to, S tx] 49)).drew).cell? ((⟨wr.heap.size, 0, none⟩ : Addr).add i) = some u := World.news_of_block (heap_alloc_new wr _)
              have h1c : ∀ u ∈ (Ac.cells ⟨k, nn, nm, to, tx⟩), u.oneCell' = true := by
                intro u hu
                simp only [Ac.cells, List.mem_cons, List.not_mem_nil, or_false] at hu
                rcases hu with rfl | rfl | rfl | rfl | rfl <;> rfl
              have hBs : B ≤ wr.heap.size + 1 := by have := HM4.out.blk.lt; have := HM4.out.hB; omega
              obtain ⟨i0, hi0, hz0, hz1, hz2⟩ := info_parts act_info
              go_wp2_with (first | (at_lookup; refine lookup_held2 _ rfl _ _ 54 rfl 9 9 klaw Try.underlying54 (zero_str _) _ _ D rfl hD4 _ _ rfl hkn (S oo) true hV hB ?_))
              go_region_law (refine step_append_lies _ rfl (.tmp 126) (.tmp 128) 44 rfl B 49 i0 _ 5 64 Try.underlying44 hi0 hz0 hz1 hz2 rfl (by decide) _ _ _ rfl hoD ⟨wr.heap.size, 0, none⟩ 1 1 (Ac.cells ⟨k, nn, nm, to, tx⟩) rfl rfl hnD h1c (by decide) (by unfold maxLen; omega) (by omega) (by simp; omega) (wr.heap.size + 1) (by simp) ?_; intro q cap w5 hown5 hgrow5 hat5 _; obtain ⟨g5, f5, hm5, hk5⟩ := Md.more (a := ⟨k, nn, nm, to, tx⟩) HM4.out HAO.out hown5 hgrow5 hat5; have HM5 := hide hm5; have HK5 := hide hk5; clear hm5 hk5 hown5 hgrow5)
              all_goals
                simp [go_sem]
                go_wp2
                go_ret
                exact ⟨rfl, ⟨⟨b, N, n + 1, cap, _, _, ⟨HM5.out, HCL.out, HKL.out⟩, by omega⟩, (HK4.out.mono (fun _ _ h => .inl h)).trans HK5.out⟩⟩
          · have hkp : wrap64 ((IntKind.u64.wrap k).tmod 6) = 4 := hkp
            have hans : ans R ((room : Int) - tot) ⟨k, nn, nm, to, tx⟩ = 0 := by unfold ans; rw [if_neg (by omega), if_neg (by omega), if_neg (by omega)]
            have hET := HG.out
            rw [hans, if_neg (by simp), if_pos hkk] at hET
            obtain ⟨rfl, rfl⟩ := hET
            clear hans HG HBBH HOO hkk
            have hmb := HM4.out.blk
            have f0 := hmb.frozen 0
            have f1 := hmb.frozen 1
            have p0 : wr.cell? ⟨h, 0, none⟩ = some (.map (some b)) := hmb.cell 0
            have p1 : wr.cell? ⟨h, 1, none⟩ = some (.slice A n c) := hmb.cell 1
            have hs6 := (hmb.set_ 0 (.map (some b3))).set_ 1 (.slice none 0 0)
            have hne3 : b3 ≠ h := by
              rintro rfl
              obtain ⟨es, clock, hb, _⟩ := hD4
              unfold Blk at hmb
              rw [hmb] at hb
              cases hb
            have ht6 := (HT4.out.of_block (Below.heap_setCell wr ⟨h, 0, none⟩ (.map (some b3)) _ hne3)).of_block (Below.heap_setCell (wr.setCell ⟨h, 0, none⟩ (.map (some b3))) ⟨h, 1, none⟩ (.slice none 0 0) _ hne3)
            have hk6 := ((Keep.refl (fun j => j = h) wr).setCell (p := ⟨h, 0, none⟩) (fun _ => rfl) (.map (some b3))).setCell (p := ⟨h, 1, none⟩) (fun _ => rfl) (.slice none 0 0)
            have hon : ∀ w : World, w.ownsRow B 49 5 (.slice none 0 0) 0 (([] : List Ac).flatMap Ac.cells) := fun w => by simpa using World.ownsRow_nil w B 49 5
            have HF := hide (show Md ((wr.setCell ⟨h, 0, none⟩ (.map (some b3))).setCell ⟨h, 1, none⟩ (.slice none 0 0)) B h b3 (N + n) 0 0 none [] room _ false R from ⟨hs6, ht6, hon _, by simp, hB3, HM4.out.hB⟩)
            have HK6 := hide (HK4.out.trans hk6)
            clear hmb hs6 ht6 hk6 hon hne3
            go_wp2_with ((at_lookup; refine lookup_held2 _ rfl _ _ 54 rfl 9 9 klaw Try.underlying54 (zero_str _) _ _ D rfl hD4 _ _ rfl hkn (S oo) bb hV hB ?_))
            go_ret
            exact ⟨rfl, ⟨⟨b3, N + n, 0, 0, none, [], ⟨HF.out, rfl, by simp⟩, by omega⟩, HK6.out.mono (fun _ _ h => .inl h)⟩⟩
        · intro kk v w4 left' cnt' hk hv hm' hrg' hlt hg2 hs2 hen
          have hB2 := below_grown hBr hBr.size hg2 (fun j hj => by cases hj; exact Nat.le_refl _)
          have hlen : Hid (lens R l = v.length + lens R (l.erase kk)) := hide (by rw [lens_erase hk, hv]; rfl)
          go_wp2_with fail
          go_roundw
          case rel =>
            refine ⟨left', cnt', l.erase kk, hrg', hnl.erase kk, hm', fun x hx => HFL.out x (List.mem_of_mem_erase hx), by have := hlen.out; have := HLE.out; omega, ?_, hB2⟩
            have := hlen.out
            have := HLE.out
            congr 1
            unfold wrap64
            omega
          case measure => rw [hrg'.left_eq, hrg.left_eq]; omega
end Go.Proofs.Ytkgljicibjlabaa
