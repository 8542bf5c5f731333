/- Parts of a statement's text, walked: a type, an expression of it, a block; no statement of the seat is proved here. -/
import Derived.Test.YtleccalfcnkklaaDoorStm
namespace Go.Proofs.YtleccalfcnkklaaDoor
open Go.RowKit

set_option maxRecDepth 100000 in
theorem tytext_any (tn : List UInt8) (ta : Bool) (hn : tn.length ≤ 140737488351232) (w : World) : Calls Tryd.prog 46 #[.agg #[S tn, .bool ta]] w (Gives w (S (tyT tn ta))) := by
  have hb : ∀ o, Below w.heap.size w (w.alloc o) := fun o => (Below.refl _ _).alloc (Nat.le_refl _) o
  cases ta
  all_goals
    go_enter Tryd.func46, Tryd.ntmps46
    go_wp2_with fail
    go_ret
    exact ⟨by simp [go_sem, tyT], hb _⟩

/-- What is known of a statement's expressions: how they lie, and that each one's text is had. -/
structure HadE (w : World) (A : Option Addr) (k : Nat) (ks : List Ex) (f : FuncId) : Prop where
  rd : Rd w (fun b => w.heap.size ≤ b) 11 A k (ks.flatMap Ex.cells)
  len : ks.length = k
  kc : k ≤ 9223372036854775807
  tx : ∀ x ∈ ks, ∀ w', Below w.heap.size w w' → Calls Tryd.prog f #[x.val] w' (Gives w' (S x.text))
  bd : ∀ x ∈ ks, x.text.length ≤ 1099511627776
theorem HadE.on {w w' : World} {A : Option Addr} {k : Nat} {ks : List Ex} {f : FuncId} (h : HadE w A k ks f) (hb : Below w.heap.size w w') : HadE w' A k ks f :=
  { h with rd := (h.rd.below hb).weak fun _ _ hk => Nat.le_trans hb.size hk, tx := fun x hx w'' hb' => h.tx x hx w'' (hb.trans (hb'.mono hb.size)) }
theorem HadE.kid {w : World} {A : Option Addr} {k : Nat} {ks : List Ex} {f : FuncId} (h : HadE w A k ks f) (i : Nat) : (kidT (ks.map Ex.text) i).length ≤ 1099511627776 := by
  unfold kidT
  rcases Nat.lt_or_ge i ks.length with hi | hi
  · have : (ks.map Ex.text).getD i nul = ks[i].text := by simp [List.getD, hi]
    rw [this]
    exact h.bd _ (List.getElem_mem hi)
  · have : (ks.map Ex.text).getD i nul = nul := by simp [List.getD, hi]
    rw [this]
    decide

set_option maxRecDepth 100000 in
set_option maxHeartbeats 4000000 in
theorem sexpr_any (ds ln co : Int) (n tn : List UInt8) (ta : Bool) (eA : Option Addr) (ek ec : Nat) (tA : Option Addr) (tk tc : Nat) (lA : Option Addr) (lk lc : Nat) (ks : List Ex) (i : Nat) (w : World) (h : HadE w eA ek ks 13) (hi : i ≤ 1) :
    Calls Tryd.prog 47 #[.agg #[.int .i64 ds, .int .i64 ln, .int .i64 co, S n, S tn, .bool ta, .slice eA ek ec, .slice tA tk tc, .slice lA lk lc], .int .i64 (i : Int)] w (Gives w (S (kidT (ks.map Ex.text) i))) := by
  have HH := hide h
  have hk64 := h.kc
  obtain ⟨R, hR⟩ : ∃ R, R = kidT (ks.map Ex.text) i := ⟨_, rfl⟩
  rw [← hR]
  by_cases hlt : i < ek
  · obtain ⟨b, o, hA, _, hbl, hcs⟩ := Rd.rec_ (f := Ex.cells) Ex.cells_len h.rd h.len i hlt
    have hlk : i < ks.length := by have := h.len; omega
    have HT := hide (fun w' hb => h.tx ks[i] (List.getElem_mem hlk) w' hb)
    have HR : Hid (R = ks[i].text) := hide (by rw [hR, kidT]; simp [List.getD, hlk])
    generalize ks[i] = x at hcs HT HR
    obtain ⟨xd, xl, xo, xu, xn, xt, xa, xA, xk, xc, xs, xm, xb, xw⟩ := x
    subst hA
    obtain ⟨wA, hwA⟩ : ∃ wA, wA = w.alloc (.cells #[.int .i64 ds, .int .i64 ln, .int .i64 co, S n, S tn, .bool ta, .slice (some ⟨b, o, none⟩) ek ec, .slice tA tk tc, .slice lA lk lc] 53) := ⟨_, rfl⟩
    have hbA : Below w.heap.size w wA := by rw [hwA]; exact (Below.refl _ _).alloc (Nat.le_refl _) _
    have HBK : Hid (Blk wA w.heap.size 53 #[.int .i64 ds, .int .i64 ln, .int .i64 co, S n, S tn, .bool ta, .slice (some ⟨b, o, none⟩) ek ec, .slice tA tk tc, .slice lA lk lc]) := hide (by rw [hwA]; exact Blk.new _ _ _)
    have HBA := hide hbA
    have HCS : Hid (∀ j u, (Ex.cells (.mk xd xl xo xu xn xt xa xA xk xc xs xm xb xw))[j]? = some u → wA.cell? ⟨b, o + i * 11 + j, none⟩ = some u) := hide (fun j u hu => (World.cell?_of_block (w := w) (hbA.block b hbl)).trans (hcs j u hu))
    clear hR hcs hbA h
    have p6 := HBK.out.cell 6
    simp at p6
    have q0 := HCS.out 0 (.int .i64 xd) rfl
    have q1 := HCS.out 1 (.int .i64 xl) rfl
    have q2 := HCS.out 2 (.int .i64 xo) rfl
    have q3 := HCS.out 3 (.int .i64 xu) rfl
    have q4 := HCS.out 4 (S xn) rfl
    have q5 := HCS.out 5 (S xt) rfl
    have q6 := HCS.out 6 (.bool xa) rfl
    have q7 := HCS.out 7 (.slice xA xk xc) rfl
    have q8 := HCS.out 8 (S xm) rfl
    have q9 := HCS.out 9 (.bool xb) rfl
    have q10 := HCS.out 10 (S xw) rfl
    simp only [Nat.add_zero] at q0 q1 q2 q3 q4 q5 q6 q7 q8 q9 q10
    have hik : (i : Int) < (ek : Int) := by omega
    have hi0 : i ≤ 1 := hi
    clear HBK
    go_enter Tryd.func47, Tryd.ntmps47
    go_upto_region 1 with fail
    rw [← hwA]
    clear hwA
    go_wp2_with fail
    refine (HT.out _ HBA.out).mono ?_
    rintro e w2 ⟨rfl, hb2⟩
    clear q0 q1 q2 q3 q4 q5 q6 q7 q8 q9 q10 p6
    go_wp2_with fail
    go_ret
    exact ⟨by rw [HR.out] <;> rfl, HBA.out.trans (hb2.mono HBA.out.size)⟩
  · have HR : Hid (R = nul) := hide (by rw [hR, kidT]; have := h.len; simp [List.getD, show ks.length ≤ i by omega])
    have hik : ¬ (i : Int) < (ek : Int) := by omega
    have hb : ∀ o, Below w.heap.size w (w.alloc o) := fun o => (Below.refl _ _).alloc (Nat.le_refl _) o
    have HB := hide hb
    clear hR hb h
    go_enter Tryd.func47, Tryd.ntmps47
    go_wp2_with fail
    go_ret
    exact ⟨by rw [HR.out] <;> rfl, HB.out _⟩
/-- What is known of the statements of a block. -/
structure HadS (w : World) (A : Option Addr) (k : Nat) (ts : List St) (d : Nat) : Prop where
  rd : Rd w (fun b => w.heap.size ≤ b) 9 A k (ts.flatMap St.cells)
  len : ts.length = k
  kc : k ≤ 9223372036854775807
  tx : ∀ x ∈ ts, ∀ w', Below w.heap.size w w' → Calls Tryd.prog 27 #[x.val, .int .i64 ((d + 1 : Nat) : Int)] w' (Gives w' (S (x.text (d + 1))))
  bd : (blockT d (ts.map fun x => x.text (d + 1))).length ≤ 225000000000000
theorem HadS.on {w w' : World} {A : Option Addr} {k : Nat} {ts : List St} {d : Nat} (h : HadS w A k ts d) (hb : Below w.heap.size w w') : HadS w' A k ts d :=
  { h with rd := (h.rd.below hb).weak fun _ _ hk => Nat.le_trans hb.size hk, tx := fun x hx w'' hb' => h.tx x hx w'' (hb.trans (hb'.mono hb.size)) }
theorem part_bd {ts : List (List UInt8)} {L : List UInt8} {B : Nat} {j : Nat} (h : (L ++ ts.flatten).length ≤ B) (hj : j < ts.length) : (L ++ (ts.take j).flatten).length + ts[j].length ≤ B := by
  have e : ts = ts.take j ++ (ts[j] :: ts.drop (j + 1)) := by rw [List.getElem_cons_drop, List.take_append_drop]
  rw [e] at h
  simp only [List.flatten_append, List.flatten_cons, List.length_append] at h ⊢
  omega

set_option maxRecDepth 100000 in
set_option maxHeartbeats 8000000 in
theorem block_any (A : Option Addr) (k c : Nat) (ts : List St) (d : Nat) (w : World) (h : HadS w A k ts d) (hd : d ≤ 1000) :
    Calls Tryd.prog 48 #[.slice A k c, .int .i64 (d : Int)] w (Gives w (S (blockT d (ts.map fun x => x.text (d + 1))))) := by
  have HH := hide h
  have hk64 := h.kc
  obtain ⟨TS, hTS⟩ : ∃ TS, TS = ts.map fun x => x.text (d + 1) := ⟨_, rfl⟩
  rw [← hTS]
  have HTS := hide (fun _ : Unit => hTS)
  have HTL : Hid (TS.length = k) := hide (by rw [hTS, List.length_map]; exact h.len)
  have HBD : Hid (([123, 10] ++ TS.flatten).length ≤ 225000000000000) := hide (by have := h.bd; rw [← hTS] at this; unfold blockT at this; simp at this ⊢; omega)
  obtain ⟨wA, hwA⟩ : ∃ wA, wA = w.alloc (.cells #[.pointer none, .slice none 0 0] 79) := ⟨_, rfl⟩
  have HBA : Hid (Below w.heap.size w wA) := hide (by rw [hwA]; exact (Below.refl _ _).alloc (Nat.le_refl _) _)
  have HNB : Hid (Bdr w.heap.size w.heap.size [] wA) := hide (by rw [hwA]; exact Bdr.new w)
  clear h hTS
  go_enter Tryd.func48, Tryd.ntmps48
  go_upto_region 2 with fail
  rw [← hwA]
  clear hwA
  go_wp2_with (go_at_call 50; refine (wstr_any [123, 10] HNB.out (by decide) HBA.out.size).mono ?_; rintro e w1 ⟨⟨z1, rfl⟩, hn1, hb1⟩)
  have HN1 := hide hn1
  have HB1 : Hid (Below w.heap.size w w1) := hide (HBA.out.trans hb1)
  clear hn1 hb1 HNB HBA
  go_wp2_with fail
  go_loopw [11] (fun i wr => ∃ j : Nat, j ≤ k ∧ i = .int .i64 j ∧ Hid (Bdr w.heap.size w.heap.size ([123, 10] ++ (TS.take j).flatten) wr) ∧ Hid (Below w.heap.size w wr)) (fun i _ => k - (intOf i).toNat)
  case atStart => exact ⟨0, Nat.zero_le _, rfl, HN1, HB1⟩
  case round =>
    obtain ⟨j, hj, rfl, HN, HBR⟩ := hrel
    clear HN1 HB1
    by_cases hlt : j < k
    · obtain ⟨b, o, hA, _, hbl, hcs⟩ := Rd.rec_ (f := St.cells) St.cells_len (HH.out.on HBR.out).rd HH.out.len j hlt
      have hlk : j < ts.length := by have := HH.out.len; omega
      have hlT : j < TS.length := by rw [HTL.out]; exact hlt
      have HT := hide (HH.out.tx ts[j] (List.getElem_mem hlk))
      have HXE : Hid (TS[j] = ts[j].text (d + 1)) := hide (by have := HTS.out (); subst this; simp)
      have HLX : Hid (([123, 10] ++ (TS.take j).flatten).length + (ts[j].text (d + 1)).length ≤ 225000000000000) := hide (by rw [← HXE.out]; exact part_bd HBD.out hlT)
      have HNX : Hid ([123, 10] ++ (TS.take (j + 1)).flatten = [123, 10] ++ (TS.take j).flatten ++ ts[j].text (d + 1)) := hide (by rw [← HXE.out, List.take_succ_eq_append_getElem hlT]; simp only [List.flatten_append, List.flatten_cons, List.flatten_nil, List.append_nil, List.append_assoc])
      clear HXE hlT
      generalize ts[j] = x at hcs HT HNX HLX
      obtain ⟨yd, yl, yo, yn, yt, ya, yE, yek, yec, yes, yT, ytk, ytc, yts, yL, ylk, ylc, yls⟩ := x
      obtain ⟨X, hX⟩ : ∃ X, X = St.text (.mk yd yl yo yn yt ya yE yek yec yes yT ytk ytc yts yL ylk ylc yls) (d + 1) := ⟨_, rfl⟩
      rw [← hX] at HT HNX HLX
      clear hX
      obtain ⟨L, hL⟩ : ∃ L, L = [123, 10] ++ (TS.take j).flatten := ⟨_, rfl⟩
      rw [← hL] at HNX HLX HN
      clear hL
      have q0 := hcs 0 (.int .i64 yd) rfl
      have q1 := hcs 1 (.int .i64 yl) rfl
      have q2 := hcs 2 (.int .i64 yo) rfl
      have q3 := hcs 3 (S yn) rfl
      have q4 := hcs 4 (S yt) rfl
      have q5 := hcs 5 (.bool ya) rfl
      have q6 := hcs 6 (.slice yE yek yec) rfl
      have q7 := hcs 7 (.slice yT ytk ytc) rfl
      have q8 := hcs 8 (.slice yL ylk ylc) rfl
      simp only [Nat.add_zero] at q0 q1 q2 q3 q4 q5 q6 q7 q8
      clear hcs
      rw [hA]
      have hjk1 : (j : Int) < (k : Int) := by omega
      go_upto_region 6 with fail
      refine name_world ?_
      intro wC hwC
      have hbc : Below wr.heap.size wr wC := by rw [hwC]; exact (Below.refl _ _).alloc (Nat.le_refl _) _
      have HV : Hid (Blk wC wr.heap.size 53 #[.int .i64 yd, .int .i64 yl, .int .i64 yo, S yn, S yt, .bool ya, .slice yE yek yec, .slice yT ytk ytc, .slice yL ylk ylc]) := hide (by rw [hwC]; exact Blk.new _ _ _)
      have HBC : Hid (Below w.heap.size w wC) := hide (HBR.out.trans (hbc.mono HBR.out.size))
      have HNC := hide (HN.out.below hbc)
      clear hwC hbc HBR HN q0 q1 q2 q3 q4 q5 q6 q7 q8
      generalize wr.heap.size = g1 at HV ⊢
      have q0 := HV.out.cell 0
      have q1 := HV.out.cell 1
      have q2 := HV.out.cell 2
      have q3 := HV.out.cell 3
      have q4 := HV.out.cell 4
      have q5 := HV.out.cell 5
      have q6 := HV.out.cell 6
      have q7 := HV.out.cell 7
      have q8 := HV.out.cell 8
      simp at q0 q1 q2 q3 q4 q5 q6 q7 q8
      have hdp : IntKind.i64.wrap ((d : Int) + 1) = ((d + 1 : Nat) : Int) := by rw [IntKind.wrap_i64]; omega
      go_wp2_with fail
      refine (HT.out _ HBC.out).mono ?_
      rintro e w2 ⟨rfl, hb2⟩
      have HN2 := hide (HNC.out.below hb2)
      have HB2 : Hid (Below w.heap.size w w2) := hide (HBC.out.trans (hb2.mono HBC.out.size))
      clear hb2 HBC HNC HV q0 q1 q2 q3 q4 q5 q6 q7 q8 hdp
      go_wp2_with (go_at_call 50; refine (wstr_any X HN2.out HLX.out HB2.out.size).mono ?_; rintro e w3 ⟨⟨z3, rfl⟩, hn3, hb3⟩; have HN3 := hide hn3; have HB3 : Hid (Below w.heap.size w w3) := hide (HB2.out.trans hb3); clear hn3 hb3)
      go_roundw
      case rel => exact ⟨j + 1, by omega, by go_num, hide (by rw [HNX.out]; exact HN3.out), HB3⟩
      case measure => simp [intOf]; omega
    · obtain rfl : j = k := by omega
      have HNE := hide (show Bdr w.heap.size w.heap.size ([123, 10] ++ TS.flatten) wr from by have := HN.out; rwa [List.take_of_length_le (by rw [HTL.out]; exact Nat.le_refl _)] at this)
      have hjk1 : ¬ (j : Int) < (j : Int) := by omega
      obtain ⟨R, hR⟩ : ∃ R, R = TS.flatten := ⟨_, rfl⟩
      have hRb : R.length ≤ 225000000000000 := by have := HBD.out; rw [← hR] at this; simp at this; omega
      have HFIN : Hid (blockT d TS = 123 :: 10 :: (R ++ (tabs d ++ [125]))) := hide (by rw [hR]; simp [blockT])
      rw [← hR] at HNE
      clear hR HN
      have HRP := hide (fun w' => rep_any d (by omega) w')
      have htl : (tabs d).length ≤ 1000 := by unfold tabs; simp; exact hd
      generalize tabs d = TB at HRP HFIN htl
      go_wp2_with (go_at_call 52; refine (bstr_any HNE.out HBR.out.size).mono ?_; rintro e w5 ⟨rfl, hb5⟩; have HB5 : Hid (Below w.heap.size w w5) := hide (HBR.out.trans hb5); clear hb5)
      refine (HRP.out _).mono ?_
      rintro e w6 ⟨rfl, hb6⟩
      have HB6 : Hid (Below w.heap.size w w6) := hide (HB5.out.trans (hb6.mono HB5.out.size))
      clear hb6
      go_wp2_with fail
      go_ret
      exact ⟨by rw [HFIN.out]; simp [go_sem], HB6.out⟩
    end Go.Proofs.YtleccalfcnkklaaDoor
