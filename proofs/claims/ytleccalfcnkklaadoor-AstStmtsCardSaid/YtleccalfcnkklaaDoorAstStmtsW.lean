/- AstStmts returns true for whatever statements: the walk. -/
import Derived.Test.YtleccalfcnkklaaDoorLines
import Derived.Test.YtleccalfcnkklaaDoorStmSame
import Derived.Test.YtleccalfcnkklaaDoorStmBd
import Derived.Test.YtleccalfcnkklaaDoorStmOpen
import Derived.Test.YtleccalfcnkklaaDoorAstAhead
namespace Go.Proofs.YtleccalfcnkklaaDoor
open Go.RowKit

theorem i64_lowS (p : Nat) (m : Nat) (hp : p < 63) (hm : m = 2 ^ p - 1) (n : Int) : ∃ N : Nat, N ≤ m ∧ bits .and .i64 n (m : Int) = (N : Int) := by
  have hpp : 2 ^ p < 2 ^ 64 := Nat.pow_lt_pow_right (by decide) (by omega)
  have h1 : (BitVec.ofInt 64 (m : Int)).toNat = m := by
    rw [BitVec.toNat_ofInt]
    have : ((m : Int) % ((2 ^ 64 : Nat) : Int)).toNat = m % 2 ^ 64 := by omega
    rw [this, Nat.mod_eq_of_lt (by omega)]
  have h2 : (BitVec.ofInt 64 n &&& BitVec.ofInt 64 (m : Int)).toNat ≤ m := by
    rw [BitVec.toNat_and, h1]
    exact Nat.and_le_right
  have hp2 : 2 ^ p ≤ 2 ^ 62 := Nat.pow_le_pow_right (by decide) (by omega)
  refine ⟨(BitVec.ofInt 64 n &&& BitVec.ofInt 64 (m : Int)).toNat, h2, ?_⟩
  show IntKind.i64.wrap ((BitVec.ofInt 64 n &&& BitVec.ofInt 64 (m : Int)).toNat : Int) = _
  rw [IntWalk.i64_in _ (by omega)]
theorem linesT_len {d b : Nat} : ∀ {ts : List St}, (∀ x ∈ ts, (x.text d).length ≤ b) → (linesT d ts).length ≤ ts.length * b
  | [], _ => by simp [linesT]
  | a :: l, h => by
    have h1 := h a List.mem_cons_self
    have h2 := linesT_len fun x hx => h x (List.mem_cons_of_mem _ hx)
    unfold linesT at h2 ⊢
    rw [List.map_cons, List.flatten_cons, List.length_append, List.length_cons, Nat.add_mul]
    omega

set_option maxRecDepth 100000 in
set_option maxHeartbeats 16000000 in
theorem stmts_walk (A : Option Addr) (k c : Nat) (ts : List St) (deep : Int) (w : World) (hL : Laid w) (hr0 : Rd w (fun _ => False) 9 A k (ts.flatMap St.cells)) (hl : ts.length = k) (ha0 : ∀ s ∈ ts, s.At w (fun _ => False)) (hk : k ≤ 9223372036854775807) :
    Calls Tryd.prog 7 #[.slice A k c, .int .i64 deep] w (Gives w (.bool true)) := by
  have hr := hr0.old
  have ha := fun s hs => (ha0 s hs).old
  obtain ⟨d, hd7, hd7e⟩ := i64_lowS 3 7 (by decide) (by decide) deep
  have hdd : bits .and .i64 deep 7 = (d : Int) := hd7e
  clear hd7e
  have HFS : Hid (∀ w', Below w.heap.size w w' → Calls Tryd.prog 25 #[.slice A k c, .int .i64 0] w' (Gives w' (.bool (fewL 0 ts)))) := hide (fun w' hb => fewstmts_any A k c ts w' ((hr.below hb).weak fun _ _ h2 => Nat.le_trans hb.size h2) hl hk (fun x hx => (ha x hx).on hb))
  have HFT : Hid (fewL 0 ts = true → ∀ e, e ≤ 10 → ∀ x ∈ ts, x.Fits e ∧ (x.text e).length ≤ 400000000000000) := hide (fun h e he x hx => by
    have h1 := (fewL_fits ha h he).1 x hx
    have h2 := tB5
    exact ⟨h1.1, by omega⟩)
  have HBD : Hid (fewL 0 ts = true → (linesT d ts).length ≤ 4000000000000000) := hide (fun h => by
    obtain ⟨h1, h2⟩ := fewL_fits ha h (d := d) (by omega)
    have h3 := linesT_len (fun x hx => (h1 x hx).2)
    have h4 := tB5
    have h5 : ts.length * tB 5 ≤ 10 * tB 5 := Nat.mul_le_mul_right _ h2
    omega)
  have HRD := hide hr
  have HLN := hide hl
  have HAT := hide ha
  have HLD := hide hL
  have HH := hide (fun w => ahead_any w)
  have HLL : Hid (fewL 0 ts = true → ∀ w', Below w.heap.size w w' → Calls Tryd.prog 28 #[.slice A k c, S (tabs d)] w' (Gives w' (S (linesT d ts)))) := hide (fun h w' hb => lines_all A k c ts d w' (hL.on hb) ((hr.below hb).weak fun _ _ h2 => Nat.le_trans hb.size h2) hl hk (by omega) (fun x hx => (ha x hx).on hb) (fun x hx => (HFT.out h d (by omega) x hx).1) (by have := HBD.out h; omega))
  clear hr hr0 ha ha0 hl hL
  generalize fewL 0 ts = FW at HFS HFT HLL HBD
  go_enter Tryd.func7, Tryd.ntmps7
  go_wp2_with (go_at_call 10; refine (HH.out _).mono ?_; rintro e w1 ⟨rfl, hb1⟩)
  refine (HFS.out _ hb1).mono ?_
  rintro e w2 ⟨rfl, hb2⟩
  have HB2 : Hid (Below w.heap.size w w2) := hide (hb1.trans (hb2.mono hb1.size))
  clear hb1 hb2
  cases FW
  case false =>
    go_wp2_with fail
    go_ret
    exact ⟨rfl, HB2.out⟩
  replace HFT := hide (HFT.out (by trivial))
  replace HLL := hide (HLL.out (by trivial))
  replace HBD := hide (HBD.out (by trivial))
  go_wp2_with fail
  go_loopw [5, 6] (fun v i wr => ∃ m : Nat, m ≤ d ∧ i = .int .i64 m ∧ v = S (tabs m) ∧ wr = w2) (fun _ i _ => d - (intOf i).toNat)
  case atStart => exact ⟨0, Nat.zero_le _, rfl, rfl, rfl⟩
  case round =>
  obtain ⟨m, hm, rfl, rfl, rfl⟩ := hrel
  by_cases hlm : m < d
  case pos =>
    have hmi : (m : Int) < (d : Int) := by omega
    have htl : (tabs m).length ≤ 7 := by simp [tabs]; omega
    go_wp2_with fail
    go_roundw
    case rel => exact ⟨m + 1, by omega, by go_num, (by rw [← tabs_succ]), trivial⟩
    case measure => simp [intOf]; omega
  obtain rfl : m = d := by omega
  have hmi : ¬ (m : Int) < (m : Int) := by omega
  go_wp2_with fail
  go_loopw [7, 26] (fun v i wr => ∃ j : Nat, j ≤ k ∧ i = .int .i64 j ∧ v = S (linesT m (ts.take j)) ∧ Hid (Below w.heap.size w wr)) (fun _ i _ => k - (intOf i).toNat)
  case atStart => exact ⟨0, Nat.zero_le _, rfl, rfl, HB2⟩
  case round =>
    obtain ⟨j, hj, rfl, rfl, HBR⟩ := hrel
    by_cases hlt : j < k
    case neg =>
      obtain rfl : j = k := by omega
      have HE : Hid (linesT m (ts.take j) = linesT m ts) := hide (by rw [List.take_of_length_le (by rw [HLN.out]; exact Nat.le_refl _)])
      have hjk1 : ¬ (j : Int) < (j : Int) := by omega
      rw [HE.out]
      have HL2 := hide (HLL.out _ HBR.out)
      have hRR : (linesT m ts == linesT m ts) = true := by simp
      go_wp2_with fail
      refine HL2.out.mono ?_
      rintro e w5 ⟨rfl, hb5⟩
      go_wp2_with fail
      go_ret
      exact ⟨rfl, HBR.out.trans (hb5.mono HBR.out.size)⟩
    obtain ⟨b, o, hA, _, hbl, hcs⟩ := Rd.rec_ (f := St.cells) St.cells_len (HRD.out.below HBR.out) HLN.out j hlt
    have hlk : j < ts.length := by have := HLN.out; omega
    have hmem := List.getElem_mem hlk
    have HSM : Hid (∀ w', Below w.heap.size w w' → Calls Tryd.prog 26 #[ts[j].val, ts[j].val] w' (Gives w' (.bool true))) := hide (fun w' hb => ssame_any _ w' ((HAT.out _ hmem).on hb))
    have HT0 : Hid (∀ w', Below w.heap.size w w' → Calls Tryd.prog 27 #[ts[j].val, .int .i64 0] w' (Gives w' (S (ts[j].text 0)))) := hide (fun w' hb => stext_any _ 0 0 w' (by omega) (HLD.out.on hb) ((HAT.out _ hmem).on hb) (HFT.out 0 (by omega) _ hmem).1)
    have HT1 : Hid (∀ w', Below w.heap.size w w' → Calls Tryd.prog 27 #[ts[j].val, .int .i64 (-1)] w' (Gives w' (S (ts[j].text 0)))) := hide (fun w' hb => stext_any _ (-1) 0 w' (by omega) (HLD.out.on hb) ((HAT.out _ hmem).on hb) (HFT.out 0 (by omega) _ hmem).1)
    have HTD : Hid (∀ w', Below w.heap.size w w' → Calls Tryd.prog 27 #[ts[j].val, .int .i64 (m : Int)] w' (Gives w' (S (ts[j].text m)))) := hide (fun w' hb => stext_any _ m m w' (by omega) (HLD.out.on hb) ((HAT.out _ hmem).on hb) (HFT.out m (by omega) _ hmem).1)
    have hTDb := (HFT.out m (by omega) _ hmem).2
    have HNX : Hid (linesT m (ts.take (j + 1)) = linesT m (ts.take j) ++ ts[j].text m) := hide (linesT_step hlk)
    have hLb : (linesT m (ts.take j)).length ≤ 4000000000000000 := linesT_bd HBD.out
    clear hmem
    generalize ts[j] = x at hcs HSM HT0 HT1 HTD hTDb HNX
    obtain ⟨yd, yl, yo, yn, yt, ya, yE, yek, yec, yes, yT, ytk, ytc, yts, yL, ylk, ylc, yls⟩ := x
    obtain ⟨X0, hX0⟩ : ∃ X0, X0 = St.text (.mk yd yl yo yn yt ya yE yek yec yes yT ytk ytc yts yL ylk ylc yls) 0 := ⟨_, rfl⟩
    rw [← hX0] at HT0 HT1
    obtain ⟨XD, hXD⟩ : ∃ XD, XD = St.text (.mk yd yl yo yn yt ya yE yek yec yes yT ytk ytc yts yL ylk ylc yls) m := ⟨_, rfl⟩
    rw [← hXD] at HTD hTDb HNX
    clear hX0 hXD
    obtain ⟨L, hLe⟩ : ∃ L, L = linesT m (ts.take j) := ⟨_, rfl⟩
    rw [← hLe] at HNX hLb ⊢
    clear hLe
    have hXX : (X0 == X0) = true := by simp
    have hjk1 : (j : Int) < (k : Int) := by omega
    have q0 := hcs 0 (.int .i64 yd) rfl
    have q1 := hcs 1 (.int .i64 yl) rfl
    have q2 := hcs 2 (.int .i64 yo) rfl
    have q3 := hcs 3 (S yn) rfl
    have q4 := hcs 4 (S yt) rfl
    have q5 := hcs 5 (.bool ya) rfl
    have q6 := hcs 6 (.slice yE yek yec) rfl
    have q7 := hcs 7 (.slice yT ytk ytc) rfl
    have q8 := hcs 8 (.slice yL ylk ylc) rfl
    simp only [Nat.add_zero] at q0 q1 q2 q3 q4 q5 q6 q7 q8
    clear hcs
    rw [hA]
    go_upto_region 15 with fail
    refine name_world ?_
    intro wC hwC
    have hbc : Below wr.heap.size wr wC := by rw [hwC]; exact (Below.refl _ _).alloc (Nat.le_refl _) _
    have HV : Hid (Blk wC wr.heap.size 53 #[.int .i64 yd, .int .i64 yl, .int .i64 yo, S yn, S yt, .bool ya, .slice yE yek yec, .slice yT ytk ytc, .slice yL ylk ylc]) := hide (by rw [hwC]; exact Blk.new _ _ _)
    have HBC : Hid (Below w.heap.size w wC) := hide (HBR.out.trans (hbc.mono HBR.out.size))
    clear hwC hbc q0 q1 q2 q3 q4 q5 q6 q7 q8
    generalize wr.heap.size = g1 at HV ⊢
    have GS : Hid (∀ t : After wC, Calls Tryd.prog 26 #[.agg #[.int .i64 yd, .int .i64 yl, .int .i64 yo, S yn, S yt, .bool ya, .slice yE yek yec, .slice yT ytk ytc, .slice yL ylk ylc], .agg #[.int .i64 yd, .int .i64 yl, .int .i64 yo, S yn, S yt, .bool ya, .slice yE yek yec, .slice yT ytk ytc, .slice yL ylk ylc]] t.val (Gives t.val (.bool true))) := hide (fun t => HSM.out t.val (HBC.out.trans (t.prop.mono HBC.out.size)))
    have G0 : Hid (∀ t : After wC, Calls Tryd.prog 27 #[.agg #[.int .i64 yd, .int .i64 yl, .int .i64 yo, S yn, S yt, .bool ya, .slice yE yek yec, .slice yT ytk ytc, .slice yL ylk ylc], .int .i64 0] t.val (Gives t.val (S X0))) := hide (fun t => HT0.out t.val (HBC.out.trans (t.prop.mono HBC.out.size)))
    have G1 : Hid (∀ t : After wC, Calls Tryd.prog 27 #[.agg #[.int .i64 yd, .int .i64 yl, .int .i64 yo, S yn, S yt, .bool ya, .slice yE yek yec, .slice yT ytk ytc, .slice yL ylk ylc], .int .i64 (-1)] t.val (Gives t.val (S X0))) := hide (fun t => HT1.out t.val (HBC.out.trans (t.prop.mono HBC.out.size)))
    have GD : Hid (∀ t : After wC, Calls Tryd.prog 27 #[.agg #[.int .i64 yd, .int .i64 yl, .int .i64 yo, S yn, S yt, .bool ya, .slice yE yek yec, .slice yT ytk ytc, .slice yL ylk ylc], .int .i64 (m : Int)] t.val (Gives t.val (S XD))) := hide (fun t => HTD.out t.val (HBC.out.trans (t.prop.mono HBC.out.size)))
    clear HSM HT0 HT1 HTD
    have p0 : ∀ t : After wC, t.val.cell? ⟨g1, 0, none⟩ = some (.int .i64 yd) := fun t => (HV.out.below t.prop HV.out.lt).cell 0
    have p1 : ∀ t : After wC, t.val.cell? ⟨g1, 1, none⟩ = some (.int .i64 yl) := fun t => (HV.out.below t.prop HV.out.lt).cell 1
    have p2 : ∀ t : After wC, t.val.cell? ⟨g1, 2, none⟩ = some (.int .i64 yo) := fun t => (HV.out.below t.prop HV.out.lt).cell 2
    have p3 : ∀ t : After wC, t.val.cell? ⟨g1, 3, none⟩ = some (S yn) := fun t => (HV.out.below t.prop HV.out.lt).cell 3
    have p4 : ∀ t : After wC, t.val.cell? ⟨g1, 4, none⟩ = some (S yt) := fun t => (HV.out.below t.prop HV.out.lt).cell 4
    have p5 : ∀ t : After wC, t.val.cell? ⟨g1, 5, none⟩ = some (.bool ya) := fun t => (HV.out.below t.prop HV.out.lt).cell 5
    have p6 : ∀ t : After wC, t.val.cell? ⟨g1, 6, none⟩ = some (.slice yE yek yec) := fun t => (HV.out.below t.prop HV.out.lt).cell 6
    have p7 : ∀ t : After wC, t.val.cell? ⟨g1, 7, none⟩ = some (.slice yT ytk ytc) := fun t => (HV.out.below t.prop HV.out.lt).cell 7
    have p8 : ∀ t : After wC, t.val.cell? ⟨g1, 8, none⟩ = some (.slice yL ylk ylc) := fun t => (HV.out.below t.prop HV.out.lt).cell 8
    refine region_after (by kernel_rfl) (by kernel_rfl) ?_
    repeat (go_big_quiet_step (first | (go_at_call 26; with_reducible refine call_after (GS.out _)) | (go_at_call 27; with_reducible refine call_after (G0.out _)) | (go_at_call 27; with_reducible refine call_after (G1.out _))))
    refine wpQuiet_nil ?_
    rintro _ ⟨t, rfl⟩
    have GDT := hide (GD.out t)
    have HBT : Hid (Below w.heap.size w t.val) := hide (HBC.out.trans (t.prop.mono HBC.out.size))
    go_wp2_with fail
    refine GDT.out.mono ?_
    rintro e w6 ⟨rfl, hb6⟩
    have HB6 : Hid (Below w.heap.size w w6) := hide (HBT.out.trans (hb6.mono HBT.out.size))
    clear hb6 p0 p1 p2 p3 p4 p5 p6 p7 p8
    go_wp2_with fail
    go_roundw
    case rel => first | exact ⟨j + 1, by omega, by go_num, (by rw [HNX.out] <;> rfl), HB6⟩ | ((repeat apply Exists.intro); exact ⟨⟨j + 1, by omega, by go_num, (by rw [HNX.out] <;> rfl), HB6⟩, rfl⟩)
    case measure => simp [intOf]; omega
end Go.Proofs.YtleccalfcnkklaaDoor
