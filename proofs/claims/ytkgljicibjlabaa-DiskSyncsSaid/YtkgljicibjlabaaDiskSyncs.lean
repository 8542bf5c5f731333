/- DiskSyncs, walked: it returns true for every input. -/
import Derived.Test.YtkgljicibjlabaaDiskActs
import Derived.Test.YtkgljicibjlabaaDiskFall
import Derived.BigRegion
namespace Go.Proofs.Ytkgljicibjlabaa
open Go.RowKit Go.Maps

/-- As many yeses. -/
def Yes (w : World) (B : Nat) (A : Option Addr) (j c : Nat) : Prop := w.ownsRow B 4 1 (.slice A j c) j (List.replicate j (.bool true))
/-- A disk and a model side by side, the act's own copy, and the yeses. -/
structure Bt (pre : Bool) (w : World) (g h room k : Nat) (s1 s2 : St) (x : Nat) (a : Ac) (A3 : Option Addr) (j c3 : Nat) (w' : World) : Prop where
  o : Bo pre w g h room k k s1 s2 x a w'
  y : Yes w' w.heap.size A3 j c3

section
variable {w w' w'' : World} {g h room k j c3 : Nat} {s1 s2 : St} {x : Nat} {a : Ac} {A3 : Option Addr}
theorem play_yes (i : Bo true w g h room k k s1 s2 x a w') (hy : Yes w' w.heap.size A3 j c3) (ha : a.ok) (htl : a.tx.length ≤ 1000000) (hf : s1.fall ≤ 9223372036854775807) {tot : Nat} (hT : Tot s1.R tot) (ht : tot ≤ 1000000000000) (hr : room ≤ 4194304) (hk : k ≤ 80000) :
    Calls Try.prog 25 #[.pointer (some ⟨g, 0, none⟩), a.val] w' (fun e w'' => e = .returned (.int .i64 (s1.err ((room : Int) - tot) a : Nat)) ∧ Bo true w g h room (k + 1) k (s1.nxt ((room : Int) - tot) a) s2 x a w'' ∧ Yes w'' w.heap.size A3 j c3) := by
  obtain ⟨⟨b, N, n, c, A, hd, hn⟩, ⟨bm, Nm, nm, cm, Am, ac, hm, hnm, hx⟩, hbx, hbb⟩ := i
  refine (play_any w.heap.size g b N n c A room s1 a tot w' hd ha hf (by omega) (by omega) hT ht hr htl).mono ?_
  rintro e w'' ⟨rfl, ⟨b', N', n', c', A', hd', hn'⟩, hk'⟩
  refine ⟨rfl, ⟨⟨b', N', n', c', A', hd', by omega⟩, ⟨bm, Nm, nm, cm, Am, ac, ⟨hm.1.keepD hd hk', hm.2⟩, hnm, hx⟩, hbx.keep hk' ?_, ?_⟩, own_keep hy hk' ?_⟩
  · rintro (e | e)
    · exact Blk.ne_ hbx hd.blk (by decide) e
    · exact own_blk_ne hd.own hbx (by decide) e
  · exact hbb.trans (hk'.below hbb.size (fun k hk => by
      rcases hk with rfl | e
      · exact hd.gB
      · exact (own_base' hd.own e).1))
  · rintro q hq (e | e)
    · subst e; exact own_blk_ne hy hd.blk (by decide) hq
    · exact row_ne_row hy hd.own (by decide) hq e
theorem do_yes (i : Bo true w g h room (k + 1) k s1 s2 x a w') (hy : Yes w' w.heap.size A3 j c3) (ha : a.ok) (htl : a.tx.length ≤ 1000000) (hf : -1 ≤ s2.fall ∧ s2.fall ≤ 9223372036854775807) {tot : Nat} (hT : Tot s2.R tot) (ht : tot ≤ 1000000000000) (hr : room ≤ 4194304) (hk : k ≤ 80000) :
    Calls Try.prog 26 #[.pointer (some ⟨h, 0, none⟩), a.val] w' (fun e w'' => e = .returned (.int .i64 (s2.err ((room : Int) - tot) a : Nat)) ∧ Bo false w g h room (k + 1) (k + 1) s1 (s2.nxt ((room : Int) - tot) a) x a w'' ∧ Yes w'' w.heap.size A3 j c3) := by
  obtain ⟨⟨b, N, n, c, A, hd, hn⟩, ⟨bm, Nm, nm, cm, Am, ac, hm, hnm, hx⟩, hbx, hbb⟩ := i
  refine (dom_any w.heap.size h bm Nm nm cm Am ac room s2 a tot w' hm ha hf.2 hf.1 (by omega) (by omega) hT ht hr htl).mono ?_
  rintro e w'' ⟨rfl, ⟨b', N', n', c', A', ac', hm', hn'⟩, hk'⟩
  refine ⟨rfl, ⟨⟨b, N, n, c, A, hd.keepM hm.1 hk', hn⟩, ⟨b', N', n', c', A', ac', hm', by omega, by simp⟩, hbx.keep hk' ?_, ?_⟩, own_keep hy hk' ?_⟩
  · rintro (e | e)
    · exact Blk.ne_ hbx hm.1.blk (by decide) e
    · exact hx rfl e
  · exact hbb.trans (hk'.below hbb.size (fun k hk => by
      rcases hk with rfl | e
      · exact hm.1.hB
      · exact (own_base' hm.1.own e).1))
  · rintro q hq (e | e)
    · subst e; exact own_blk_ne hy hm.1.blk (by decide) hq
    · exact row_ne_row hy hm.1.own (by decide) hq e
/-- One more yes: all else stays. -/
theorem yes_more (i : Bo false w g h room k k s1 s2 x a w') (hy : Yes w' w.heap.size A3 j c3) (hg : w'.grownBy w'' (Value.slice A3 j c3).ownBlock) : Bo false w g h room k k s1 s2 x a w'' := by
  obtain ⟨⟨b, N, n, c, A, hd, hn⟩, ⟨bm, Nm, nm, cm, Am, ac, hm, hnm, hx⟩, hbx, hbb⟩ := i
  have hk' : Keep (fun q => (Value.slice A3 j c3).ownBlock = some q) w' w'' := (Keep.refl _ w').grown hg (fun q hq _ => hq)
  refine ⟨⟨b, N, n, c, A, hd.keep hk' (own_blk_ne hy hd.blk (by decide)) (map_ne_row hd.txt hy) (fun q hq e => row_ne_row hd.own hy (by decide) hq e), hn⟩,
    ⟨bm, Nm, nm, cm, Am, ac, ⟨hm.1.keep hk' (own_blk_ne hy hm.1.blk (by decide)) (map_ne_row hm.1.txt hy) (fun q hq e => row_ne_row hm.1.own hy (by decide) hq e), hm.2⟩, hnm, by simp⟩,
    hbx.keep hk' (own_blk_ne hy hbx (by decide)), hbb.trans (hk'.below hbb.size (fun q hq => (own_base' hy hq).1))⟩
end

theorem nxt_up {s : St} (h : s.fall = -1 ∧ s.dn = false) (free : Int) (a : Ac) (h5 : a.kap ≠ 5) : (s.nxt free a).fall = -1 ∧ (s.nxt free a).dn = false := by
  have hst : ¬ (s.dn = true ∨ s.fall = 0) := by rw [h.1, h.2]; simp
  rw [(going hst h5 free).2]
  have hf : fallS s.fall = -1 := by rw [h.1]; rfl
  split
  · exact ⟨hf, rfl⟩
  · split <;> exact ⟨hf, rfl⟩
theorem nxt_len (s : St) (free : Int) (a : Ac) : (s.nxt free a).cs.length ≤ s.cs.length + 1 := by
  unfold St.nxt
  split
  · show s.cs.length ≤ _; omega
  · split
    · show s.cs.length ≤ _; omega
    · split
      · show s.cs.length ≤ _; omega
      · split
        · show 0 ≤ _; omega
        · show (s.cs ++ [chOf a]).length ≤ _; simp

theorem nxt_totF {s : St} {tot tf : Nat} (h : Tot s.R tot) (hF : Tot s.F tf) (free : Int) (a : Ac) : ∃ tf', Tot (s.nxt free a).F tf' ∧ (tf' = tf ∨ tf' = tot) := by
  unfold St.nxt
  split
  · exact ⟨tf, hF, .inl rfl⟩
  · split
    · exact ⟨tf, hF, .inl rfl⟩
    · split
      · exact ⟨tf, hF, .inl rfl⟩
      · split
        · exact ⟨tot, h, .inr rfl⟩
        · exact ⟨tf, hF, .inl rfl⟩

set_option maxRecDepth 100000 in
set_option maxHeartbeats 8000000 in
theorem syncs_law (A : Option Addr) (n c : Nat) (ac : List Ac) (w : World) (hx : ActsAt w (fun k => w.heap.size ≤ k) A n ac) :
    Calls Try.prog 9 #[.slice A n c] w (Gives w (.bool true)) := by
  have HX := hide hx
  clear hx
  go_enter Try.func9, Try.ntmps9
  go_wp2_with fail
  refine (head_any w).mono ?_
  rintro e w1 ⟨rfl, hb1⟩
  have HFE := hide (few_any A n c ac w1 ((HX.out.below hb1).weak' hb1.size))
  go_wp2_with fail
  refine HFE.out.mono ?_
  rintro e w2 ⟨R, rfl, hb2, hR⟩
  have hB2 := hb1.trans (hb2.mono hb1.size)
  have HRF := hide hR
  clear hR hb2 hb1 HFE
  cases R with
  | false =>
    go_wp2_with fail
    go_ret
    exact ⟨rfl, hB2⟩
  | true =>
    obtain ⟨hsm, hn40⟩ := HRF.out rfl
    have HSM := hide hsm
    clear hsm HRF
    have HMN := hide (mnew_any 1048576 1048576 (by decide))
    go_wp2_with fail
    refine (new_dk 1048576 (by omega) w2).mono ?_
    rintro e w3 ⟨g, b, rfl, h3, hb3⟩
    have HD3 := hide h3
    have HB3 := hide hb3
    clear h3 hb3
    go_wp2_with fail
    refine (HMN.out w3).mono ?_
    rintro e w4 ⟨h, bm, rfl, h4, hb4⟩
    have hd4 := HD3.out.below hb4
    have hb34 := HB3.out.size
    have hb5 := (Below.refl w4.heap.size w4).alloc (Nat.le_refl _) (.cells #[] 4)
    have HD4 : Hid (Dk (w4.alloc (.cells #[] 4)) w2.heap.size g b 0 0 0 none [] 1048576 (-1) false F0) := hide (Dk.below hd4 hb5)
    have HM4 : Hid (MdS (w4.alloc (.cells #[] 4)) w2.heap.size h bm 0 0 0 none [] 1048576 ⟨F0, [], -1, false⟩) := hide ⟨Md.below ⟨h4.blk, h4.txt, by simpa using World.ownsRow_nil w4 w2.heap.size 49 5, h4.ok, by have := h4.bB; omega, by have := h4.hB; omega⟩ hb5, rfl, by simp⟩
    have hB4 := HB3.out.trans (hb4.mono hb34)
    have HB4 := hide (hB4.trans (hb5.mono hB4.size))
    have HY4 : Hid (Yes (w4.alloc (.cells #[] 4)) w2.heap.size (some ⟨w4.heap.size, 0, none⟩) 0 0) := hide (World.ownsRow_made (base := w2.heap.size) (e := 4) (size := 1) w4 #[] 0 hB4.size (by unfold maxLen; omega) rfl)
    clear hd4 h4 hb4 HD3 HB3 HMN hb5 hB4
    have hcell := HX.out.1
    have hxl := HX.out.2.1
    have HOK := hide HX.out.2.2.1
    have HRD : Hid (Rd w (fun k => w.heap.size ≤ k) 5 A n (ac.flatMap Ac.cells)) := hide hcell
    clear hcell HX
    have HB2 := hide hB2
    clear hB2
    go_wp2_with fail
    go_loopw [5, 20] (fun v i wr => ∃ (k b N n' c' : Nat) (A' : Option Addr) (bm Nm nm cm : Nat) (Am : Option Addr) (ac' : List Ac) (st : St) (tot j c3 : Nat) (A3 : Option Addr) (tf : Nat), k ≤ n ∧ i = .int .i64 k ∧ v = .slice A3 j c3 ∧ Dk wr w2.heap.size g b N n' c' A' st.cs 1048576 st.fall st.dn st.F ∧ N + n' ≤ k ∧
      MdS wr w2.heap.size h bm Nm nm cm Am ac' 1048576 st ∧ Nm + nm ≤ k ∧ Tot st.R tot ∧ tot ≤ 100 * k ∧ (st.fall = -1 ∧ st.dn = false) ∧ Below w2.heap.size w2 wr ∧ Yes wr w2.heap.size A3 j c3 ∧ st.cs.length ≤ j ∧ j ≤ k ∧ Tot st.F tf ∧ tf ≤ 100 * k) (fun _ i _ => n - (intOf i).toNat)
    case atStart => exact ⟨0, b, 0, 0, 0, none, bm, 0, 0, 0, none, [], ⟨F0, [], -1, false⟩, 0, 0, 0, _, 0, Nat.zero_le _, rfl, rfl, HD4.out, by omega, HM4.out, by omega, Tot.none, by omega, ⟨rfl, rfl⟩, HB4.out, HY4.out, by simp, Nat.le_refl _, Tot.none, by omega⟩
    case round =>
      obtain ⟨k, b, N, n', c', A', bm, Nm, nm, cm, Am, ac', st, tot, j, c3, A3, tf, hk, rfl, rfl, hd, hN, hm, hNm, hT, htot, hfl, hBr, hY, hcj, hjk, hTF, htf⟩ := hrel
      have HTF := hide hTF
      clear hTF
      have HD := hide hd
      have HM := hide hm
      have HT := hide hT
      have HF := hide hfl
      have HB := hide hBr
      have HY := hide hY
      clear hd hm hT hfl hBr hY HD4 HM4 HB4 HY4
      by_cases hlt : k < n
      · obtain ⟨xx, o, rfl, _, _, hcell⟩ := Rd.rec_ (size := 5) (fun _ => rfl) (HRD.out.below (HB2.out.trans (HB.out.mono HB2.out.size))) hxl k hlt
        have hlk : k < ac.length := by omega
        have hck := HOK.out _ (List.getElem_mem hlk)
        have hsa := HSM.out _ (List.getElem_mem hlk)
        obtain ⟨d, hd⟩ : ∃ d, d = ac[k] := ⟨_, rfl⟩
        rw [← hd] at hcell hck hsa
        clear hd
        have hba := (Below.refl wr.heap.size wr).alloc (Nat.le_refl _) (.cells #[.int .i64 d.k, .int .i64 d.n, S d.nm, S d.to, S d.tx] 49)
        have hd5 := HD.out.below hba
        have hm5 := HM.out.1.below hba
        have i0 : Bo true w2 g h 1048576 k k st st wr.heap.size d (wr.alloc (.cells #[.int .i64 d.k, .int .i64 d.n, S d.nm, S d.to, S d.tx] 49)) := by
          exact ⟨⟨b, N, n', c', A', hd5, hN⟩, ⟨bm, Nm, nm, cm, Am, ac', ⟨hm5, HM.out.2⟩, hNm, fun _ e => by have := (own_base' HM.out.1.own e).2; omega⟩, Blk.new _ _ _, HB.out.trans (hba.mono HB.out.size)⟩
        have y0 : Yes (wr.alloc (.cells #[.int .i64 d.k, .int .i64 d.n, S d.nm, S d.to, S d.tx] 49)) w2.heap.size A3 j c3 := HY.out.alloc _
        have hBn := HB.out.trans (hba.mono HB.out.size)
        obtain ⟨dk, dn', dm, dt, dx⟩ := d
        have q0 : wr.cell? ⟨xx, o + k * 5, none⟩ = some (.int .i64 dk) := hcell 0 _ rfl
        have q1 : wr.cell? ⟨xx, o + k * 5 + 1, none⟩ = some (.int .i64 dn') := hcell 1 _ rfl
        have q2 : wr.cell? ⟨xx, o + k * 5 + 2, none⟩ = some (S dm) := hcell 2 _ rfl
        have q3 : wr.cell? ⟨xx, o + k * 5 + 3, none⟩ = some (S dt) := hcell 3 _ rfl
        have q4 : wr.cell? ⟨xx, o + k * 5 + 4, none⟩ = some (S dx) := hcell 4 _ rfl
        have hkp := kap_wrap dk
        obtain ⟨κ, hκ⟩ : ∃ κ : Nat, κ = (dk % 18446744073709551616 % 6).toNat := ⟨_, rfl⟩
        have hκ6 : κ < 6 := by omega
        have hkk : Ac.kap ⟨dk, dn', dm, dt, dx⟩ = κ := by unfold Ac.kap; exact hκ.symm
        rw [← hκ] at hkp
        clear hκ
        by_cases h5 : κ = 5
        · subst h5
          have hkp : wrap64 ((IntKind.u64.wrap dk).tmod 6) = 5 := hkp
          have HFI := hide (show Dk _ w2.heap.size g b N n' c' A' st.cs 1048576 st.fall st.dn st.F ∧ Md _ w2.heap.size h bm Nm nm cm Am ac' 1048576 st.fall st.dn st.F ∧ Yes _ w2.heap.size A3 j c3 ∧ Below w2.heap.size w2 _ from ⟨hd5, hm5, y0, hBn⟩)
          clear hd5 hm5 i0 y0 hBn hcell HD HB HY
          go_wp2_with fail
          go_roundw
          case rel => exact ⟨k + 1, b, N, n', c', A', bm, Nm, nm, cm, Am, ac', st, tot, j, c3, A3, tf, by omega, by go_num, rfl, HFI.out.1, by omega, ⟨HFI.out.2.1, HM.out.2⟩, by omega, HT.out, by omega, HF.out, HFI.out.2.2.2, HFI.out.2.2.1, hcj, by omega, HTF.out, by omega⟩
          case measure => simp [intOf]; omega
        · have d5 : ((κ : Int) == 5) = false := by simp; omega
          have hne5 : Ac.kap ⟨dk, dn', dm, dt, dx⟩ ≠ 5 := by rw [hkk]; exact h5
          have HPL := hide (play_yes i0 y0 hck (by have := hsa.1; omega) (by rw [HF.out.1]; omega) HT.out (by omega) (by omega) (by omega))
          have hdo := fun w' (i : Bo true w2 g h 1048576 (k + 1) k (st.nxt (((1048576 : Nat) : Int) - tot) ⟨dk, dn', dm, dt, dx⟩) st wr.heap.size ⟨dk, dn', dm, dt, dx⟩ w') (y : Yes w' w2.heap.size A3 j c3) => do_yes i y hck (by have := hsa.1; omega) (by rw [HF.out.1]; omega) HT.out (by omega) (by omega) (by omega)
          have HDO := hide hdo
          obtain ⟨tot', ht1, ht2⟩ := nxt_tot HT.out (((1048576 : Nat) : Int) - tot) ⟨dk, dn', dm, dt, dx⟩ hsa.1
          obtain ⟨tf', ht3, ht4⟩ := nxt_totF HT.out HTF.out (((1048576 : Nat) : Int) - tot) ⟨dk, dn', dm, dt, dx⟩
          have hf2 := nxt_up HF.out (((1048576 : Nat) : Int) - tot) ⟨dk, dn', dm, dt, dx⟩ hne5
          have hl2 := nxt_len st (((1048576 : Nat) : Int) - tot) ⟨dk, dn', dm, dt, dx⟩
          obtain ⟨E, hE⟩ : ∃ E, E = st.err (((1048576 : Nat) : Int) - tot) ⟨dk, dn', dm, dt, dx⟩ := ⟨_, rfl⟩
          obtain ⟨T, hT⟩ : ∃ T, T = st.nxt (((1048576 : Nat) : Int) - tot) ⟨dk, dn', dm, dt, dx⟩ := ⟨_, rfl⟩
          rw [← hE, ← hT] at HPL HDO
          rw [← hT] at ht1 hf2 hl2 ht3
          have HT3 := hide ht3
          have ht5 : tf' ≤ 100 * (k + 1) := by rcases ht4 with e | e <;> omega
          clear ht3 ht4
          clear hE hT hdo
          have HT' := hide ht1
          have HF' := hide hf2
          have hcel := i0.cells
          obtain ⟨s0, s1, s2, s3, s4⟩ := hcel
          clear hcell hck hsa ht1 hf2 HD HM HT HF i0 y0 hd5 hm5 hBn hba hkk hne5
          go_wp2_with fail
          refine HPL.out.mono ?_
          rintro e w5 ⟨rfl, i5, y5⟩
          obtain ⟨s0, s1, s2, s3, s4⟩ := i5.cells
          have HI5 := hide i5
          have HY5 := hide y5
          clear i5 y5 HPL
          go_wp2_with fail
          refine (HDO.out w5 HI5.out HY5.out).mono ?_
          rintro e w6 ⟨rfl, i6, y6⟩
          have HI6 := hide i6
          have hY6 : w6.ownsRow w2.heap.size 4 1 (.slice A3 j c3) j (List.replicate j (.bool true)) := y6
          have hs6 : w2.heap.size ≤ w6.heap.size := i6.b.size
          clear i6 y6 HDO HI5 HY5 s0 s1 s2 s3 s4
          go_wp2_with (at_builtin; refine app1 rfl (.tmp 36) (.tmp 37) 23 rfl w2.heap.size 4 (.bool false) 1 Try.underlying23 bool_info rfl (.slice A3 j c3) j (List.replicate j (.bool true)) rfl hY6 (.bool true) rfl rfl (by omega) (by omega) hs6 ?_)
          intro a7 c7 w7 hown7 hg7 _
          have i7 := yes_more HI6.out hY6 hg7
          rw [← List.replicate_succ'] at hown7
          have HI7 := hide i7
          have HY7 : Hid (Yes w7 w2.heap.size a7 (j + 1) c7) := hide hown7
          clear hg7 hown7 i7 hY6 HI6
          go_wp2_with fail
          go_roundw
          case rel =>
            obtain ⟨⟨b7, N7, n7, c7', A7, hd9, hn9⟩, ⟨bm7, Nm7, nm7, cm7, Am7, ac7, hm9, hnm9, _⟩, _, hbb9⟩ := HI7.out
            exact ⟨k + 1, b7, N7, n7, c7', A7, bm7, Nm7, nm7, cm7, Am7, ac7, T, tot', j + 1, c7, a7, tf', by omega, by go_num, rfl, hd9, hn9, hm9, hnm9, HT'.out, by omega, HF'.out, hbb9, HY7.out, by omega, by omega, HT3.out, ht5⟩
          case measure => simp [intOf]; omega
      · obtain ⟨hf1, hf2⟩ := HF.out
        have hd := HD.out
        have hmm := HM.out.1
        rw [hf1, hf2] at hd hmm
        have hRm : ac'.foldl actDo st.F = st.R := by rw [fold_eq ac' _ HM.out.2.2, HM.out.2.1]; rfl
        have HFI := hide (mfiles_any w2.heap.size h bm Nm nm cm Am ac' 1048576 (-1) false st.F wr.drew (Md.keep hmm ((Keep.refl (fun _ => False) wr).drew) (fun h => h) (fun h => h) (fun _ _ h => h)) (by omega) (by omega))
        rw [hRm] at HFI
        have c2 : wr.cell? ⟨h, 2, none⟩ = some (.int .i64 ((1048576 : Nat) : Int)) := hmm.blk.cell 2
        have HD' := hide hd
        have HM' := hide hmm
        clear hd hmm hf1 hf2 HD HM HF hRm
        go_wp2_with fail
        have c2' : wr.cell? ⟨h, 2, none⟩ = some (.int .i64 1048576) := c2
        clear c2
        first | (go_region_held3 (fun w' => w'.cell? ⟨h, 2, none⟩ = some (.int .i64 1048576)) (first | exact c2' | assumption | exact (World.cell?_alloc_lt _ _ (World.block_lt_of_cell? _ _ c5)).trans c5 | go_keep | fail)
          (first
            | (go_at_call 28; (with_reducible refine HFI.out.mono ?_); rintro e w5 ⟨bF, rfl, ht5, hb5, hbF⟩; have c5 : w5.cell? ⟨h, 2, none⟩ = some (.int .i64 1048576) := (HM'.out.below (show Below wr.heap.size wr w5 from ((Below.refl wr.heap.size wr).drew).trans hb5)).blk.cell 2)
            | fail)) | fail
        have hb5' : Below wr.heap.size wr w5 := ((Below.refl wr.heap.size wr).drew).trans hb5
        have hb6 := (Below.refl w5.heap.size w5).alloc (Nat.le_refl _) (.cells #[.map (some bF), .slice none 0 0, .int .i64 1048576, .int .i64 (-1), .bool false] 57)
        obtain ⟨w6, hw6⟩ : ∃ w6, w6 = w5.alloc (.cells #[.map (some bF), .slice none 0 0, .int .i64 1048576, .int .i64 (-1), .bool false] 57) := ⟨_, rfl⟩
        have kF : Blk w6 w5.heap.size 57 #[.map (some bF), .slice none 0 0, .int .i64 1048576, .int .i64 (-1), .bool false] := by rw [hw6]; exact Blk.new _ _ _
        rw [← hw6] at hb6
        have hsB : w2.heap.size ≤ w5.heap.size := Nat.le_trans HB.out.size hb5'.size
        have HMF : Hid (Md w6 w2.heap.size w5.heap.size bF (Nm + nm) 0 0 none [] 1048576 (-1) false st.R) := hide ⟨kF, ht5.of_block (hb6.block bF ht5.lt), by simpa using World.ownsRow_nil w6 w2.heap.size 49 5, by simp, hbF, hsB⟩
        have hb56 := hb5'.trans (hb6.mono hb5'.size)
        have HM6 := hide (HM'.out.below hb56)
        have HD6 := hide (HD'.out.below hb56)
        have HY6 : Hid (Rd w6 (fun q => w6.heap.size ≤ q) 1 A3 j ((List.replicate j true).map .bool)) := hide (by rw [List.map_replicate]; exact ((Rd.of_own2 HY.out).old.below hb56).weak (fun q _ hq => by have := hb56.size; omega))
        have HB6 := hide ((HB2.out.trans (HB.out.mono HB2.out.size)).trans (hb56.mono (Nat.le_trans HB2.out.size HB.out.size)))
        have d0 : w6.cell? ⟨h, 0, none⟩ = some (.map (some bm)) := HM6.out.blk.cell 0
        have d2 : w6.cell? ⟨h, 2, none⟩ = some (.int .i64 1048576) := HM6.out.blk.cell 2
        clear hb5' hb6 kF hsB hb56 ht5 hb5 hbF c5 c2' HFI HD' HM' HY
        go_wp2_with fail
        rw [← hw6]
        clear hw6
        first | (go_region_held3 (fun w' => w'.cell? ⟨h, 0, none⟩ = some (.map (some bm)) ∧ w'.cell? ⟨h, 2, none⟩ = some (.int .i64 1048576)) (first | exact ⟨d0, d2⟩ | assumption | go_keep | fail) (first | fail)) | fail
        have hb7 := ((Below.refl w6.heap.size w6).alloc (Nat.le_refl _) (.cells #[.map (some bm), .slice none 0 0, .int .i64 1048576, .int .i64 (-1), .bool false] 57)).drew
        obtain ⟨w7, hw7⟩ : ∃ w7, w7 = (w6.alloc (.cells #[.map (some bm), .slice none 0 0, .int .i64 1048576, .int .i64 (-1), .bool false] 57)).drew := ⟨_, rfl⟩
        have kB : Blk w7 w6.heap.size 57 #[.map (some bm), .slice none 0 0, .int .i64 1048576, .int .i64 (-1), .bool false] := by rw [hw7]; exact Blk.new _ _ _
        rw [← hw7] at hb7
        rw [← hw7]
        clear hw7
        have HMB : Hid (Md w7 w2.heap.size w6.heap.size bm Nm 0 0 none [] 1048576 (-1) false st.F) := hide ⟨kB, HM6.out.txt.of_block (hb7.block bm HM6.out.txt.lt), by simpa using World.ownsRow_nil w7 w2.heap.size 49 5, by simp, HM6.out.bB, by have := HM6.out.blk.lt; have := HM6.out.hB; omega⟩
        have HMF7 := hide (HMF.out.below hb7)
        have HD7 := hide (HD6.out.below hb7)
        have HY7 := hide ((HY6.out.below hb7).weak (fun q _ hq => by have := hb7.size; omega) : Rd w7 (fun q => w7.heap.size ≤ q) 1 A3 j ((List.replicate j true).map .bool))
        have HB7 := hide (HB6.out.trans (hb7.mono HB6.out.size))
        have hka : (kept (List.replicate j true) st.cs).foldl chDo st.F = st.R := by rw [kept_all j st.cs hcj]; rfl
        have hkn : (kept [] st.cs).foldl chDo st.F = st.F := by rw [kept_nil]; rfl
        have HKA := hide hka
        have HKN := hide hkn
        clear hb7 kB HMF HD6 HY6 HB6 HM6 d0 d2 hka hkn
        go_wp2_with fail
        refine (crash_dk w2.heap.size g b N n' c' j c3 A' A3 st.cs (List.replicate j true) 1048576 (-1) false st.F st.R w7 HD7.out (by omega) (by omega) (by omega) HKA.out HY7.out List.length_replicate).mono ?_
        rintro e w8 ⟨g8, b8, rfl, h8, hb8⟩
        have H8 := hide h8
        have HMF8 := hide (HMF7.out.below hb8)
        have HMB8 := hide (HMB.out.below hb8)
        have HD8 := hide (HD7.out.below hb8)
        have HB8 := hide (HB7.out.trans (hb8.mono HB7.out.size))
        clear h8 hb8 HMF7 HMB HD7 HB7 HY7 HKA
        go_wp2_with fail
        refine (same_any w7.heap.size g8 b8 (N + n') 0 0 none [] w2.heap.size w5.heap.size bF (Nm + nm) 0 0 none [] 1048576 (-1) (-1) false st.R st.R st.R tot w8 H8.out HMF8.out rfl rfl (by omega) (by omega) (by omega) (by omega) HT.out (by omega) (by omega)).mono ?_
        rintro e w9 ⟨rfl, hb9⟩
        have HMF9 := hide (HMF8.out.below hb9)
        have HMB9 := hide (HMB8.out.below hb9)
        have HD9 := hide (HD8.out.below hb9)
        have HB9 := hide (HB8.out.trans (hb9.mono HB8.out.size))
        clear hb9 HMF8 HMB8 HD8 HB8 H8
        go_wp2_with fail
        refine (crash_dk w2.heap.size g b N n' c' 0 0 A' none st.cs [] 1048576 (-1) false st.F st.F w9 HD9.out (by omega) (by omega) (by omega) HKN.out (Rd.nil _ _ _ _) rfl).mono ?_
        rintro e w10 ⟨g10, b10, rfl, h10, hb10⟩
        have H10 := hide h10
        have HMF10 := hide (HMF9.out.below hb10)
        have HMB10 := hide (HMB9.out.below hb10)
        have HD10 := hide (HD9.out.below hb10)
        have HB10 := hide (HB9.out.trans (hb10.mono HB9.out.size))
        clear h10 hb10 HMF9 HMB9 HD9 HB9 HKN
        go_wp2_with fail
        refine (same_any w9.heap.size g10 b10 (N + n') 0 0 none [] w2.heap.size w6.heap.size bm Nm 0 0 none [] 1048576 (-1) (-1) false st.F st.F st.F tf w10 H10.out HMB10.out rfl rfl (by omega) (by omega) (by omega) (by omega) HTF.out (by omega) (by omega)).mono ?_
        rintro e w11 ⟨rfl, hb11⟩
        have HMF11 := hide (HMF10.out.below hb11)
        have HD11 := hide (HD10.out.below hb11)
        have HB11 := hide (HB10.out.trans (hb11.mono HB10.out.size))
        clear hb11 HMF10 HMB10 HD10 HB10 H10
        go_wp2_with fail
        refine (sync_dk w2.heap.size g b N n' c' A' st.cs 1048576 (-1) st.F st.R w11 HD11.out (by omega) (by omega) (by omega) (by omega) rfl).mono ?_
        rintro e w12 ⟨rfl, ⟨b12, h12, _⟩, hk12⟩
        have hmf12 := HMF11.out.keep hk12 (fun e => Blk.ne_ HMF11.out.blk HD11.out.blk (by decide) e) (fun e => map_ne_blk HMF11.out.txt HD11.out.blk e) (fun q hq => by simp [Value.ownBlock] at hq)
        have HMF12 := hide hmf12
        have H12 := hide h12
        have hgB : w.heap.size ≤ g := by have := HD11.out.gB; have := HB2.out.size; omega
        have HB12 := hide (HB11.out.trans (hk12.below HB11.out.size (fun q hq => by omega)))
        have hkn2 : (kept [] ([] : List Ch)).foldl chDo st.R = st.R := rfl
        have HKN2 := hide hkn2
        clear h12 hk12 hmf12 HMF11 HD11 HB11 hgB hkn2
        go_wp2_with fail
        refine (crash_dk w2.heap.size g b12 (N + n') 0 0 0 0 none none [] [] 1048576 _ false st.R st.R w12 H12.out (by omega) (by omega) (by omega) HKN2.out (Rd.nil _ _ _ _) rfl).mono ?_
        rintro e w13 ⟨g13, b13, rfl, h13, hb13⟩
        have H13 := hide h13
        have HMF13 := hide (HMF12.out.below hb13)
        have HB13 := hide (HB12.out.trans (hb13.mono HB12.out.size))
        clear h13 hb13 HMF12 H12 HB12 HKN2
        go_wp2_with fail
        refine (same_any w12.heap.size g13 b13 (N + n' + 0) 0 0 none [] w2.heap.size w5.heap.size bF (Nm + nm) 0 0 none [] 1048576 (-1) (-1) false st.R st.R st.R tot w13 H13.out HMF13.out rfl rfl (by omega) (by omega) (by omega) (by omega) HT.out (by omega) (by omega)).mono ?_
        rintro e w14 ⟨rfl, hb14⟩
        have HB14 := hide (HB13.out.trans (hb14.mono HB13.out.size))
        clear hb14 HMF13 H13 HB13
        go_wp2_with fail
        go_ret
        exact ⟨rfl, HB14.out⟩
end Go.Proofs.Ytkgljicibjlabaa
