/- The law's own text of statements, walked, by the tree: it is their text; no statement of the seat is proved here. -/
import Derived.Test.YtleccalfcnkklaaDoorStmText
import Derived.Test.YtleccalfcnkklaaDoorLText
namespace Go.Proofs.YtleccalfcnkklaaDoor
open Go.RowKit

set_option maxRecDepth 100000 in
set_option maxHeartbeats 4000000 in
theorem lx_any (ds ln co : Int) (n tn : List UInt8) (ta : Bool) (eA : Option Addr) (ek ec : Nat) (tA : Option Addr) (tk tc : Nat) (lA : Option Addr) (lk lc : Nat) (ks : List Ex) (i bx : Nat) (w : World) (h : HadE w eA ek ks 21) (hB : Blk w bx 53 #[.int .i64 ds, .int .i64 ln, .int .i64 co, S n, S tn, .bool ta, .slice eA ek ec, .slice tA tk tc, .slice lA lk lc]) (hi : i ≤ 1) :
    Calls Tryd.prog 49 #[.int .i64 (i : Int), .pointer (some ⟨bx, 0, none⟩)] w (Gives w (S (kidT (ks.map Ex.text) i))) := by
  have hk64 := h.kc
  have p6 := hB.cell 6
  simp at p6
  obtain ⟨R, hR⟩ : ∃ R, R = kidT (ks.map Ex.text) i := ⟨_, rfl⟩
  rw [← hR]
  clear hB
  by_cases hlt : i < ek
  · obtain ⟨b, o, hA, _, hbl, hcs⟩ := Rd.rec_ (f := Ex.cells) Ex.cells_len h.rd h.len i hlt
    have hlk : i < ks.length := by have := h.len; omega
    have HT := hide (h.tx ks[i] (List.getElem_mem hlk) w (Below.refl _ _))
    have HR : Hid (R = ks[i].text) := hide (by rw [hR, kidT]; simp [List.getD, hlk])
    generalize ks[i] = x at hcs HT HR
    obtain ⟨xd, xl, xo, xu, xn, xt, xa, xA, xk, xc, xs, xm, xb, xw⟩ := x
    subst hA
    clear hR h
    have q0 := hcs 0 (.int .i64 xd) rfl
    have q1 := hcs 1 (.int .i64 xl) rfl
    have q2 := hcs 2 (.int .i64 xo) rfl
    have q3 := hcs 3 (.int .i64 xu) rfl
    have q4 := hcs 4 (S xn) rfl
    have q5 := hcs 5 (S xt) rfl
    have q6 := hcs 6 (.bool xa) rfl
    have q7 := hcs 7 (.slice xA xk xc) rfl
    have q8 := hcs 8 (S xm) rfl
    have q9 := hcs 9 (.bool xb) rfl
    have q10 := hcs 10 (S xw) rfl
    simp only [Nat.add_zero] at q0 q1 q2 q3 q4 q5 q6 q7 q8 q9 q10
    clear hcs
    have hik : (i : Int) < (ek : Int) := by omega
    have hi0 : i ≤ 1 := hi
    go_enter Tryd.func49, Tryd.ntmps49
    go_wp2_with fail
    refine HT.out.mono ?_
    rintro e w2 ⟨rfl, hb2⟩
    clear q0 q1 q2 q3 q4 q5 q6 q7 q8 q9 q10 p6
    go_wp2_with fail
    go_ret
    exact ⟨by rw [HR.out] <;> rfl, hb2⟩
  · have HR : Hid (R = nul) := hide (by rw [hR, kidT]; have := h.len; simp [List.getD, show ks.length ≤ i by omega])
    have hik : ¬ (i : Int) < (ek : Int) := by omega
    clear hR h
    go_enter Tryd.func49, Tryd.ntmps49
    go_wp2_with fail
    go_ret
    exact ⟨by rw [HR.out] <;> rfl, Below.refl _ _⟩
def linesT (d : Nat) (ts : List St) : List UInt8 := (ts.map fun x => x.text d).flatten
def St.tV : St → Value | .mk _ _ _ _ _ _ _ _ _ _ tA tk tc _ _ _ _ _ => .slice tA tk tc
def St.lV : St → Value | .mk _ _ _ _ _ _ _ _ _ _ _ _ _ _ lA lk lc _ => .slice lA lk lc
/-- What is known of one statement in the list. -/
structure HadL (w : World) (x : St) (d : Nat) : Prop where
  at_ : x.At w (fun b => w.heap.size ≤ b)
  fits : x.Fits d
  th : ∀ w', Below w.heap.size w w' → Calls Tryd.prog 28 #[x.tV, S (tabs d ++ [9])] w' (Gives w' (S (linesT (d + 1) x.ts)))
  el : ∀ w', Below w.heap.size w w' → Calls Tryd.prog 28 #[x.lV, S (tabs d ++ [9])] w' (Gives w' (S (linesT (d + 1) x.ls)))
theorem linesT_step {d j : Nat} {ts : List St} (h : j < ts.length) : linesT d (ts.take (j + 1)) = linesT d (ts.take j) ++ ts[j].text d := by
  rw [linesT, List.take_succ_eq_append_getElem h, List.map_append, List.flatten_append]
  simp only [List.map_cons, List.map_nil, List.flatten_cons, List.flatten_nil, List.append_nil, linesT]
theorem linesT_bd {d j B : Nat} {ts : List St} (h : (linesT d ts).length ≤ B) : (linesT d (ts.take j)).length ≤ B := by
  have e : linesT d ts = linesT d (ts.take j) ++ linesT d (ts.drop j) := by
    rw [linesT, linesT, linesT, ← List.flatten_append, ← List.map_append, List.take_append_drop]
  rw [e, List.length_append] at h
  omega

set_option maxRecDepth 100000 in
set_option maxHeartbeats 40000000 in
theorem lines_any (A : Option Addr) (k c : Nat) (ts : List St) (d : Nat) (w : World) (hL : Laid w) (hr : Rd w (fun b => w.heap.size ≤ b) 9 A k (ts.flatMap St.cells)) (hl : ts.length = k) (hk : k ≤ 9223372036854775807) (hd : d ≤ 1000)
    (hx : ∀ x ∈ ts, HadL w x d) (hbd : (linesT d ts).length ≤ 4000000000000000000) :
    Calls Tryd.prog 28 #[.slice A k c, S (tabs d)] w (Gives w (S (linesT d ts))) := by
  have HLD := hide hL
  have HRD := hide hr
  have HLN := hide hl
  have HX := hide hx
  have HBD : Hid (∀ j, (linesT d (ts.take j)).length ≤ 4000000000000000000) := hide (fun j => linesT_bd hbd)
  have htb : (tabs d).length ≤ 1000 := by unfold tabs; simp; exact hd
  clear hL hr hl hx hbd
  go_enter Tryd.func28, Tryd.ntmps28
  go_wp2_with fail
  go_loopw [5, 12] (fun v i wr => ∃ j : Nat, j ≤ k ∧ i = .int .i64 j ∧ v = S (linesT d (ts.take j)) ∧ Hid (Below w.heap.size w wr)) (fun _ i _ => k - (intOf i).toNat)
  case atStart => exact ⟨0, Nat.zero_le _, rfl, rfl, hide (Below.refl _ _)⟩
  case round =>
    obtain ⟨j, hj, rfl, rfl, HBR⟩ := hrel
    by_cases hlt : j < k
    case neg =>
      obtain rfl : j = k := by omega
      have HE : Hid (linesT d (ts.take j) = linesT d ts) := hide (by rw [List.take_of_length_le (by rw [HLN.out]; exact Nat.le_refl _)])
      have hjk1 : ¬ (j : Int) < (j : Int) := by omega
      obtain ⟨R, hR⟩ : ∃ R, R = linesT d (ts.take j) := ⟨_, rfl⟩
      rw [← hR] at HE ⊢
      clear hR
      go_wp2_with fail
      go_ret
      exact ⟨by rw [← HE.out] <;> rfl, HBR.out⟩
    obtain ⟨b, o, hA, _, hbl, hcs⟩ := Rd.rec_ (f := St.cells) St.cells_len (HRD.out.below HBR.out) HLN.out j hlt
    have hlk : j < ts.length := by have := HLN.out; omega
    have hxx := HX.out ts[j] (List.getElem_mem hlk)
    have HNX : Hid (linesT d (ts.take (j + 1)) = linesT d (ts.take j) ++ ts[j].text d) := hide (linesT_step hlk)
    have hLB := HBD.out j
    obtain ⟨L, hLe⟩ : ∃ L, L = linesT d (ts.take j) := ⟨_, rfl⟩
    rw [← hLe] at HNX hLB ⊢
    clear hLe
    generalize ts[j] = x at hcs hxx HNX
    obtain ⟨yd, yl, yo, yn, yt, ya, yE, yek, yec, yes, yT, ytk, ytc, yts, yL, ylk, ylc, yls⟩ := x
    have hf := hxx.fits
    have ha := hxx.at_
    cases hf with
    | mk _ he hn htn hb hlb hft hfl =>
    cases ha with
    | mk er el ekc ek' hea tr tl tkc tk' hta lr ll lkc lk' hla hi hs =>
    have hE : HadE w yE yek yes 21 := ⟨er, el, Nat.le_trans ekc ek', fun x hx w' hw => ltext_any x w' (HLD.out.on hw) ((hea x hx).on hw) (he x hx), fun x hx => by have := Ex.text_len (hea x hx); have := he x hx; omega⟩
    have bX0 := hE.kid 0
    have bX1 := hE.kid 1
    have hTH : ∀ w', Below w.heap.size w w' → Calls Tryd.prog 28 #[.slice yT ytk ytc, S (tabs d ++ [9])] w' (Gives w' (S (linesT (d + 1) yts))) := hxx.th
    have hEL : ∀ w', Below w.heap.size w w' → Calls Tryd.prog 28 #[.slice yL ylk ylc, S (tabs d ++ [9])] w' (Gives w' (S (linesT (d + 1) yls))) := hxx.el
    have bLT : (linesT (d + 1) yts).length ≤ 225000000000000 := by have := hb; unfold blockT at this; simp only [List.length_append] at this; unfold linesT; omega
    have bLE : (linesT (d + 1) yls).length ≤ 225000000000000 := by have := hlb; unfold blockT at this; simp only [List.length_append] at this; unfold linesT; omega
    have hTX : (St.mk yd yl yo yn yt ya yE yek yec yes yT ytk ytc yts yL ylk ylc yls).text d = stK yd (tabs d) (tyT yt ya) yn (kidT (yes.map Ex.text) 0) (kidT (yes.map Ex.text) 1) ([123, 10] ++ linesT (d + 1) yts ++ tabs d ++ [125]) (if ylk = 0 then [] else [32, 101, 108, 115, 101, 32] ++ ([123, 10] ++ linesT (d + 1) yls ++ tabs d ++ [125])) := by
      rw [St.text_mk, elseT, ll]
      rfl
    rw [hTX] at HNX
    have hjk1 : (j : Int) < (k : Int) := by omega
    have q0 := hcs 0 (.int .i64 yd) rfl
    have q1 := hcs 1 (.int .i64 yl) rfl
    have q2 := hcs 2 (.int .i64 yo) rfl
    have q3 := hcs 3 (S yn) rfl
    have q4 := hcs 4 (S yt) rfl
    have q5 := hcs 5 (.bool ya) rfl
    have q6 := hcs 6 (.slice yE yek yec) rfl
    have q7 := hcs 7 (.slice yT ytk ytc) rfl
    have q8 := hcs 8 (.slice yL ylk ylc) rfl
    simp only [Nat.add_zero] at q0 q1 q2 q3 q4 q5 q6 q7 q8
    clear hcs hTX hb hlb hft hfl he hi hs hla lr hta tr hea er hxx
    rw [hA]
    go_upto_region 5 with fail
    refine name_world ?_
    intro wC hwC
    have hbc : Below wr.heap.size wr wC := by rw [hwC]; exact (Below.refl _ _).alloc (Nat.le_refl _) _
    have hv : Blk wC wr.heap.size 53 #[.int .i64 yd, .int .i64 yl, .int .i64 yo, S yn, S yt, .bool ya, .slice yE yek yec, .slice yT ytk ytc, .slice yL ylk ylc] := by rw [hwC]; exact Blk.new _ _ _
    have HBC : Hid (Below w.heap.size w wC) := hide (HBR.out.trans (hbc.mono HBR.out.size))
    clear hwC hbc q0 q1 q2 q3 q4 q5 q6 q7 q8
    generalize wr.heap.size = g1 at hv ⊢
    have HV := hide hv
    have hX0 : ∀ t : After wC, Calls Tryd.prog 49 #[.int .i64 0, .pointer (some ⟨g1, 0, none⟩)] t.val (Gives t.val (S (kidT (yes.map Ex.text) 0))) := fun t => lx_any _ _ _ _ _ _ _ _ _ _ _ _ _ _ _ yes 0 g1 t.val (hE.on (HBC.out.trans (t.prop.mono HBC.out.size))) (HV.out.below t.prop HV.out.lt) (by omega)
    have hX1 : ∀ t : After wC, Calls Tryd.prog 49 #[.int .i64 1, .pointer (some ⟨g1, 0, none⟩)] t.val (Gives t.val (S (kidT (yes.map Ex.text) 1))) := fun t => lx_any _ _ _ _ _ _ _ _ _ _ _ _ _ _ _ yes 1 g1 t.val (hE.on (HBC.out.trans (t.prop.mono HBC.out.size))) (HV.out.below t.prop HV.out.lt) (by omega)
    generalize kidT (yes.map Ex.text) 0 = X0 at hX0 bX0 HNX
    generalize kidT (yes.map Ex.text) 1 = X1 at hX1 bX1 HNX
    generalize linesT (d + 1) yts = TL at hTH bLT HNX
    generalize linesT (d + 1) yls = EL at hEL bLE HNX
    have HX0 := hide hX0
    have HX1 := hide hX1
    have HTH : Hid (∀ t : After wC, Calls Tryd.prog 28 #[.slice yT ytk ytc, S ((tabs d) ++ [9])] t.val (Gives t.val (S TL))) := hide (fun t => hTH t.val (HBC.out.trans (t.prop.mono HBC.out.size)))
    have HEL : Hid (∀ t : After wC, Calls Tryd.prog 28 #[.slice yL ylk ylc, S ((tabs d) ++ [9])] t.val (Gives t.val (S EL))) := hide (fun t => hEL t.val (HBC.out.trans (t.prop.mono HBC.out.size)))
    clear hTH hEL hX0 hX1 hE hv
    go_upto_region 7 with fail
    have q0 := HV.out.cell 0
    have q1 := HV.out.cell 1
    have q2 := HV.out.cell 2
    have q3 := HV.out.cell 3
    have q4 := HV.out.cell 4
    have q5 := HV.out.cell 5
    have q6 := HV.out.cell 6
    have q7 := HV.out.cell 7
    have q8 := HV.out.cell 8
    simp at q0 q1 q2 q3 q4 q5 q6 q7 q8
    by_cases h1 : yd = 1
    case pos =>
      subst h1
      have HK : Hid (stK 1 (tabs d) (tyT yt ya) yn X0 X1 ([123, 10] ++ TL ++ (tabs d) ++ [125]) (if ylk = 0 then [] else [32, 101, 108, 115, 101, 32] ++ ([123, 10] ++ EL ++ (tabs d) ++ [125])) = (tabs d) ++ [108, 101, 116, 32] ++ (tyT yt ya) ++ [32] ++ yn ++ [32, 61, 32] ++ X0 ++ [59, 10]) := hide (by simp [stK])
      cases ya
      case false =>
        go_upto_region 13 with fail
        clear q0 q1 q2 q3 q4 q5 q6 q7 q8
        have p0 : ∀ t : After wC, t.val.cell? ⟨g1, 0, none⟩ = some (.int .i64 1) := fun t => (HV.out.below t.prop HV.out.lt).cell 0
        have p1 : ∀ t : After wC, t.val.cell? ⟨g1, 1, none⟩ = some (.int .i64 yl) := fun t => (HV.out.below t.prop HV.out.lt).cell 1
        have p2 : ∀ t : After wC, t.val.cell? ⟨g1, 2, none⟩ = some (.int .i64 yo) := fun t => (HV.out.below t.prop HV.out.lt).cell 2
        have p3 : ∀ t : After wC, t.val.cell? ⟨g1, 3, none⟩ = some (S yn) := fun t => (HV.out.below t.prop HV.out.lt).cell 3
        have p4 : ∀ t : After wC, t.val.cell? ⟨g1, 4, none⟩ = some (S yt) := fun t => (HV.out.below t.prop HV.out.lt).cell 4
        have p5 : ∀ t : After wC, t.val.cell? ⟨g1, 5, none⟩ = some (.bool false) := fun t => (HV.out.below t.prop HV.out.lt).cell 5
        have p6 : ∀ t : After wC, t.val.cell? ⟨g1, 6, none⟩ = some (.slice yE yek yec) := fun t => (HV.out.below t.prop HV.out.lt).cell 6
        have p7 : ∀ t : After wC, t.val.cell? ⟨g1, 7, none⟩ = some (.slice yT ytk ytc) := fun t => (HV.out.below t.prop HV.out.lt).cell 7
        have p8 : ∀ t : After wC, t.val.cell? ⟨g1, 8, none⟩ = some (.slice yL ylk ylc) := fun t => (HV.out.below t.prop HV.out.lt).cell 8
        refine region_after (by kernel_rfl) (by kernel_rfl) ?_
        repeat (go_big_quiet_step (first | (go_at_call 49; with_reducible refine call_after (HX0.out _))))
        refine wpQuiet_nil ?_
        rintro _ ⟨t, rfl⟩
        have HBN : Hid (Below w.heap.size w t.val) := hide (HBC.out.trans (t.prop.mono HBC.out.size))
        have HK0 := HK
        clear p0 p1 p2 p3 p4 p5 p6 p7 p8
        go_wp2_with fail
        go_roundw
        case rel => first | exact ⟨j + 1, by omega, by go_num, (by rw [HNX.out, HK.out] <;> simp [tyT]), HBN⟩ | ((repeat apply Exists.intro); exact ⟨⟨j + 1, by omega, by go_num, (by rw [HNX.out, HK.out] <;> simp [tyT]), HBN⟩, rfl⟩)
        case measure => simp [intOf]; omega
      case true =>
        go_upto_region 13 with fail
        clear q0 q1 q2 q3 q4 q5 q6 q7 q8
        have p0 : ∀ t : After wC, t.val.cell? ⟨g1, 0, none⟩ = some (.int .i64 1) := fun t => (HV.out.below t.prop HV.out.lt).cell 0
        have p1 : ∀ t : After wC, t.val.cell? ⟨g1, 1, none⟩ = some (.int .i64 yl) := fun t => (HV.out.below t.prop HV.out.lt).cell 1
        have p2 : ∀ t : After wC, t.val.cell? ⟨g1, 2, none⟩ = some (.int .i64 yo) := fun t => (HV.out.below t.prop HV.out.lt).cell 2
        have p3 : ∀ t : After wC, t.val.cell? ⟨g1, 3, none⟩ = some (S yn) := fun t => (HV.out.below t.prop HV.out.lt).cell 3
        have p4 : ∀ t : After wC, t.val.cell? ⟨g1, 4, none⟩ = some (S yt) := fun t => (HV.out.below t.prop HV.out.lt).cell 4
        have p5 : ∀ t : After wC, t.val.cell? ⟨g1, 5, none⟩ = some (.bool true) := fun t => (HV.out.below t.prop HV.out.lt).cell 5
        have p6 : ∀ t : After wC, t.val.cell? ⟨g1, 6, none⟩ = some (.slice yE yek yec) := fun t => (HV.out.below t.prop HV.out.lt).cell 6
        have p7 : ∀ t : After wC, t.val.cell? ⟨g1, 7, none⟩ = some (.slice yT ytk ytc) := fun t => (HV.out.below t.prop HV.out.lt).cell 7
        have p8 : ∀ t : After wC, t.val.cell? ⟨g1, 8, none⟩ = some (.slice yL ylk ylc) := fun t => (HV.out.below t.prop HV.out.lt).cell 8
        refine region_after (by kernel_rfl) (by kernel_rfl) ?_
        repeat (go_big_quiet_step (first | (go_at_call 49; with_reducible refine call_after (HX0.out _))))
        refine wpQuiet_nil ?_
        rintro _ ⟨t, rfl⟩
        have HBN : Hid (Below w.heap.size w t.val) := hide (HBC.out.trans (t.prop.mono HBC.out.size))
        have HK0 := HK
        clear p0 p1 p2 p3 p4 p5 p6 p7 p8
        go_wp2_with fail
        go_roundw
        case rel => first | exact ⟨j + 1, by omega, by go_num, (by rw [HNX.out, HK.out] <;> simp [tyT]), HBN⟩ | ((repeat apply Exists.intro); exact ⟨⟨j + 1, by omega, by go_num, (by rw [HNX.out, HK.out] <;> simp [tyT]), HBN⟩, rfl⟩)
        case measure => simp [intOf]; omega
    by_cases h2 : yd = 2
    case pos =>
      subst h2
      have HK : Hid (stK 2 (tabs d) (tyT yt ya) yn X0 X1 ([123, 10] ++ TL ++ (tabs d) ++ [125]) (if ylk = 0 then [] else [32, 101, 108, 115, 101, 32] ++ ([123, 10] ++ EL ++ (tabs d) ++ [125])) = (tabs d) ++ X0 ++ [32, 61, 32] ++ X1 ++ [59, 10]) := hide (by simp [stK])
      have HX2 := hide (HX0.out ⟨wC, Below.refl _ _⟩)
      go_wp2_with fail
      refine HX2.out.mono ?_
      rintro e w2 ⟨rfl, hb2⟩
      have HX3 : Hid (Calls Tryd.prog 49 #[.int .i64 1, .pointer (some ⟨g1, 0, none⟩)] w2 (Gives w2 (S X1))) := hide (HX1.out ⟨w2, hb2⟩)
      have HB2 : Hid (Below w.heap.size w w2) := hide (HBC.out.trans (Below.mono hb2 HBC.out.size))
      clear q0 q1 q2 q3 q4 q5 q6 q7 q8 hb2
      go_wp2_with fail
      refine HX3.out.mono ?_
      rintro e w3 ⟨rfl, hb3⟩
      have HBN : Hid (Below w.heap.size w w3) := hide (HB2.out.trans (Below.mono hb3 HB2.out.size))
      clear hb3
      go_wp2_with fail
      go_roundw
      case rel => first | exact ⟨j + 1, by omega, by go_num, (by rw [HNX.out, HK.out] <;> simp), HBN⟩ | ((repeat apply Exists.intro); exact ⟨⟨j + 1, by omega, by go_num, (by rw [HNX.out, HK.out] <;> simp), HBN⟩, rfl⟩)
      case measure => simp [intOf]; omega
    by_cases h4 : yd = 4
    case pos =>
      subst h4
      have HK : Hid (stK 4 (tabs d) (tyT yt ya) yn X0 X1 ([123, 10] ++ TL ++ (tabs d) ++ [125]) (if ylk = 0 then [] else [32, 101, 108, 115, 101, 32] ++ ([123, 10] ++ EL ++ (tabs d) ++ [125])) = (tabs d) ++ [105, 102, 32] ++ X0 ++ [32] ++ ([123, 10] ++ TL ++ (tabs d) ++ [125]) ++ (if ylk = 0 then [] else [32, 101, 108, 115, 101, 32] ++ ([123, 10] ++ EL ++ (tabs d) ++ [125])) ++ [10]) := hide (by simp [stK])
      go_upto_region 17 with fail
      clear q0 q1 q2 q3 q4 q5 q6 q7 q8
      have p0 : ∀ t : After wC, t.val.cell? ⟨g1, 0, none⟩ = some (.int .i64 4) := fun t => (HV.out.below t.prop HV.out.lt).cell 0
      have p1 : ∀ t : After wC, t.val.cell? ⟨g1, 1, none⟩ = some (.int .i64 yl) := fun t => (HV.out.below t.prop HV.out.lt).cell 1
      have p2 : ∀ t : After wC, t.val.cell? ⟨g1, 2, none⟩ = some (.int .i64 yo) := fun t => (HV.out.below t.prop HV.out.lt).cell 2
      have p3 : ∀ t : After wC, t.val.cell? ⟨g1, 3, none⟩ = some (S yn) := fun t => (HV.out.below t.prop HV.out.lt).cell 3
      have p4 : ∀ t : After wC, t.val.cell? ⟨g1, 4, none⟩ = some (S yt) := fun t => (HV.out.below t.prop HV.out.lt).cell 4
      have p5 : ∀ t : After wC, t.val.cell? ⟨g1, 5, none⟩ = some (.bool ya) := fun t => (HV.out.below t.prop HV.out.lt).cell 5
      have p6 : ∀ t : After wC, t.val.cell? ⟨g1, 6, none⟩ = some (.slice yE yek yec) := fun t => (HV.out.below t.prop HV.out.lt).cell 6
      have p7 : ∀ t : After wC, t.val.cell? ⟨g1, 7, none⟩ = some (.slice yT ytk ytc) := fun t => (HV.out.below t.prop HV.out.lt).cell 7
      have p8 : ∀ t : After wC, t.val.cell? ⟨g1, 8, none⟩ = some (.slice yL ylk ylc) := fun t => (HV.out.below t.prop HV.out.lt).cell 8
      refine region_after (by kernel_rfl) (by kernel_rfl) ?_
      repeat (go_big_quiet_step (first | (go_at_call 49; with_reducible refine call_after (HX0.out _)) | (go_at_call 28; with_reducible refine call_after (HTH.out _))))
      refine wpQuiet_nil ?_
      rintro _ ⟨t, rfl⟩
      have HBN : Hid (Below w.heap.size w t.val) := hide (HBC.out.trans (t.prop.mono HBC.out.size))
      clear p0 p1 p2 p3 p4 p5 p6 p7
      by_cases hlk0 : ylk = 0
      case pos =>
        subst hlk0
        have h0 : ¬ (0 : Int) < ((0 : Nat) : Int) := by omega
        go_wp2_with fail
        go_roundw
        case rel => first | exact ⟨j + 1, by omega, by go_num, (by rw [HNX.out, HK.out] <;> simp), HBN⟩ | ((repeat apply Exists.intro); exact ⟨⟨j + 1, by omega, by go_num, (by rw [HNX.out, HK.out] <;> simp), HBN⟩, rfl⟩)
        case measure => simp [intOf]; omega
      case neg =>
        have h0 : (0 : Int) < (ylk : Int) := by omega
        have HBT := HBN
        clear HBN
        go_wp2_with (go_at_call 28; refine (HEL.out t).mono ?_; rintro e w3 ⟨rfl, hb3⟩; have HBN : Hid (Below w.heap.size w w3) := hide (HBT.out.trans (hb3.mono HBT.out.size)); clear hb3)
        go_roundw
        case rel => first | exact ⟨j + 1, by omega, by go_num, (by rw [HNX.out, HK.out, if_neg hlk0] <;> simp), HBN⟩ | ((repeat apply Exists.intro); exact ⟨⟨j + 1, by omega, by go_num, (by rw [HNX.out, HK.out, if_neg hlk0] <;> simp), HBN⟩, rfl⟩)
        case measure => simp [intOf]; omega
    by_cases h5 : yd = 5
    case pos =>
      subst h5
      have HK : Hid (stK 5 (tabs d) (tyT yt ya) yn X0 X1 ([123, 10] ++ TL ++ (tabs d) ++ [125]) (if ylk = 0 then [] else [32, 101, 108, 115, 101, 32] ++ ([123, 10] ++ EL ++ (tabs d) ++ [125])) = (tabs d) ++ [119, 104, 105, 108, 101, 32] ++ X0 ++ [32] ++ ([123, 10] ++ TL ++ (tabs d) ++ [125]) ++ [10]) := hide (by simp [stK])
      go_upto_region 22 with fail
      clear q0 q1 q2 q3 q4 q5 q6 q7 q8
      have p0 : ∀ t : After wC, t.val.cell? ⟨g1, 0, none⟩ = some (.int .i64 5) := fun t => (HV.out.below t.prop HV.out.lt).cell 0
      have p1 : ∀ t : After wC, t.val.cell? ⟨g1, 1, none⟩ = some (.int .i64 yl) := fun t => (HV.out.below t.prop HV.out.lt).cell 1
      have p2 : ∀ t : After wC, t.val.cell? ⟨g1, 2, none⟩ = some (.int .i64 yo) := fun t => (HV.out.below t.prop HV.out.lt).cell 2
      have p3 : ∀ t : After wC, t.val.cell? ⟨g1, 3, none⟩ = some (S yn) := fun t => (HV.out.below t.prop HV.out.lt).cell 3
      have p4 : ∀ t : After wC, t.val.cell? ⟨g1, 4, none⟩ = some (S yt) := fun t => (HV.out.below t.prop HV.out.lt).cell 4
      have p5 : ∀ t : After wC, t.val.cell? ⟨g1, 5, none⟩ = some (.bool ya) := fun t => (HV.out.below t.prop HV.out.lt).cell 5
      have p6 : ∀ t : After wC, t.val.cell? ⟨g1, 6, none⟩ = some (.slice yE yek yec) := fun t => (HV.out.below t.prop HV.out.lt).cell 6
      have p7 : ∀ t : After wC, t.val.cell? ⟨g1, 7, none⟩ = some (.slice yT ytk ytc) := fun t => (HV.out.below t.prop HV.out.lt).cell 7
      have p8 : ∀ t : After wC, t.val.cell? ⟨g1, 8, none⟩ = some (.slice yL ylk ylc) := fun t => (HV.out.below t.prop HV.out.lt).cell 8
      refine region_after (by kernel_rfl) (by kernel_rfl) ?_
      repeat (go_big_quiet_step (first | (go_at_call 49; with_reducible refine call_after (HX0.out _)) | (go_at_call 28; with_reducible refine call_after (HTH.out _))))
      refine wpQuiet_nil ?_
      rintro _ ⟨t, rfl⟩
      have HBN : Hid (Below w.heap.size w t.val) := hide (HBC.out.trans (t.prop.mono HBC.out.size))
      clear p0 p1 p2 p3 p4 p5 p6 p7 p8
      go_wp2_with fail
      go_roundw
      case rel => first | exact ⟨j + 1, by omega, by go_num, (by rw [HNX.out, HK.out] <;> simp), HBN⟩ | ((repeat apply Exists.intro); exact ⟨⟨j + 1, by omega, by go_num, (by rw [HNX.out, HK.out] <;> simp), HBN⟩, rfl⟩)
      case measure => simp [intOf]; omega
    by_cases h6 : yd = 6
    case pos =>
      subst h6
      have HK : Hid (stK 6 (tabs d) (tyT yt ya) yn X0 X1 ([123, 10] ++ TL ++ (tabs d) ++ [125]) (if ylk = 0 then [] else [32, 101, 108, 115, 101, 32] ++ ([123, 10] ++ EL ++ (tabs d) ++ [125])) = (tabs d) ++ [114, 101, 116, 117, 114, 110, 32] ++ X0 ++ [59, 10]) := hide (by simp [stK])
      have HX2 := hide (HX0.out ⟨wC, Below.refl _ _⟩)
      go_wp2_with fail
      refine HX2.out.mono ?_
      rintro e w2 ⟨rfl, hb2⟩
      have HBN : Hid (Below w.heap.size w w2) := hide (HBC.out.trans (Below.mono hb2 HBC.out.size))
      clear q0 q1 q2 q3 q4 q5 q6 q7 q8 hb2
      go_wp2_with fail
      go_roundw
      case rel => first | exact ⟨j + 1, by omega, by go_num, (by rw [HNX.out, HK.out] <;> simp), HBN⟩ | ((repeat apply Exists.intro); exact ⟨⟨j + 1, by omega, by go_num, (by rw [HNX.out, HK.out] <;> simp), HBN⟩, rfl⟩)
      case measure => simp [intOf]; omega
    by_cases h7 : yd = 7
    case pos =>
      subst h7
      have HK : Hid (stK 7 (tabs d) (tyT yt ya) yn X0 X1 ([123, 10] ++ TL ++ (tabs d) ++ [125]) (if ylk = 0 then [] else [32, 101, 108, 115, 101, 32] ++ ([123, 10] ++ EL ++ (tabs d) ++ [125])) = (tabs d) ++ [112, 114, 105, 110, 116, 32] ++ X0 ++ [59, 10]) := hide (by simp [stK])
      have HX2 := hide (HX0.out ⟨wC, Below.refl _ _⟩)
      go_wp2_with fail
      refine HX2.out.mono ?_
      rintro e w2 ⟨rfl, hb2⟩
      have HBN : Hid (Below w.heap.size w w2) := hide (HBC.out.trans (Below.mono hb2 HBC.out.size))
      clear q0 q1 q2 q3 q4 q5 q6 q7 q8 hb2
      go_wp2_with fail
      go_roundw
      case rel => first | exact ⟨j + 1, by omega, by go_num, (by rw [HNX.out, HK.out] <;> simp), HBN⟩ | ((repeat apply Exists.intro); exact ⟨⟨j + 1, by omega, by go_num, (by rw [HNX.out, HK.out] <;> simp), HBN⟩, rfl⟩)
      case measure => simp [intOf]; omega
    have HK : Hid (stK yd (tabs d) (tyT yt ya) yn X0 X1 ([123, 10] ++ TL ++ (tabs d) ++ [125]) (if ylk = 0 then [] else [32, 101, 108, 115, 101, 32] ++ ([123, 10] ++ EL ++ (tabs d) ++ [125])) = (tabs d) ++ X0 ++ [59, 10]) := hide (by simp [stK, h1, h2, h4, h5, h6, h7])
    have e1 : (yd == 1) = false := by simpa using h1
    have e2 : (yd == 2) = false := by simpa using h2
    have e4 : (yd == 4) = false := by simpa using h4
    have e5 : (yd == 5) = false := by simpa using h5
    have e6 : (yd == 6) = false := by simpa using h6
    have e7 : (yd == 7) = false := by simpa using h7
    have HX2 := hide (HX0.out ⟨wC, Below.refl _ _⟩)
    go_wp2_with fail
    refine HX2.out.mono ?_
    rintro e w2 ⟨rfl, hb2⟩
    have HBN : Hid (Below w.heap.size w w2) := hide (HBC.out.trans (Below.mono hb2 HBC.out.size))
    clear q0 q1 q2 q3 q4 q5 q6 q7 q8 hb2
    go_wp2_with fail
    go_roundw
    case rel => first | exact ⟨j + 1, by omega, by go_num, (by rw [HNX.out, HK.out] <;> simp), HBN⟩ | ((repeat apply Exists.intro); exact ⟨⟨j + 1, by omega, by go_num, (by rw [HNX.out, HK.out] <;> simp), HBN⟩, rfl⟩)
    case measure => simp [intOf]; omega
set_option maxRecDepth 100000 in
theorem lines_nil (A : Option Addr) (k c : Nat) (d : Nat) (w : World) (hk : k = 0) : Calls Tryd.prog 28 #[.slice A k c, S (tabs d)] w (Gives w (S (linesT d []))) := by
  subst hk
  go_enter Tryd.func28, Tryd.ntmps28
  go_wp2_with fail
  go_loopw [5, 12] (fun v i wr => i = .int .i64 0 ∧ v = S [] ∧ Hid (Below w.heap.size w wr)) (fun _ i _ => 0)
  case atStart => exact ⟨rfl, rfl, hide (Below.refl _ _)⟩
  case round =>
    obtain ⟨rfl, rfl, HBR⟩ := hrel
    go_wp2_with fail
    go_ret
    exact ⟨rfl, HBR.out⟩
theorem lines_tree (s : St) : ∀ (d : Nat) (w : World), Laid w → s.At w (fun b => w.heap.size ≤ b) → s.Fits d →
    Calls Tryd.prog 28 #[s.tV, S (tabs d ++ [9])] w (Gives w (S (linesT (d + 1) s.ts))) ∧ Calls Tryd.prog 28 #[s.lV, S (tabs d ++ [9])] w (Gives w (S (linesT (d + 1) s.ls))) := by
  induction s using St.ind with
  | h s iht ihl =>
    intro d w hL hat hf
    obtain ⟨ds, ln, co, n, tn, ta, eA, ek, ec, es, tA, tk, tc, ts, lA, lk, lc, ls⟩ := s
    cases hf with
    | mk hd he hn htn hb hlb hft hfl =>
    cases hat with
    | mk hr hl hkc hk hea tr tl tkc tk' hta lr ll lkc lk' hla hi hs =>
    rw [tabs_succ]
    have bLT : (linesT (d + 1) ts).length ≤ 225000000000000 := by have := hb; unfold blockT at this; simp only [List.length_append] at this; unfold linesT; omega
    have bLE : (linesT (d + 1) ls).length ≤ 225000000000000 := by have := hlb; unfold blockT at this; simp only [List.length_append] at this; unfold linesT; omega
    have hd2 : ∀ x, St.Fits x (d + 1) → d + 1 ≤ 1000 := fun x hx => by cases hx; assumption
    have go : ∀ (A : Option Addr) (k c : Nat) (l : List St), Rd w (fun b => w.heap.size ≤ b) 9 A k (l.flatMap St.cells) → l.length = k → k ≤ 9223372036854775807 → (∀ x ∈ l, x.At w (fun b => w.heap.size ≤ b)) → (∀ x ∈ l, x.Fits (d + 1)) →
        (∀ x ∈ l, ∀ w', Below w.heap.size w w' → Calls Tryd.prog 28 #[x.tV, S (tabs (d + 1) ++ [9])] w' (Gives w' (S (linesT (d + 1 + 1) x.ts))) ∧ Calls Tryd.prog 28 #[x.lV, S (tabs (d + 1) ++ [9])] w' (Gives w' (S (linesT (d + 1 + 1) x.ls)))) →
        (linesT (d + 1) l).length ≤ 225000000000000 → Calls Tryd.prog 28 #[.slice A k c, S (tabs (d + 1))] w (Gives w (S (linesT (d + 1) l))) := by
      intro A k c l r1 r2 r3 r4 r5 r6 r7
      by_cases h0 : l = []
      · subst h0
        by_cases hd1 : d + 1 ≤ 1000
        · exact lines_any A k c [] (d + 1) w hL r1 r2 r3 hd1 (by simp) (by omega)
        · exact lines_nil A k c (d + 1) w (by simpa using r2.symm)
      · obtain ⟨x, hx⟩ := List.exists_mem_of_ne_nil l h0
        exact lines_any A k c l (d + 1) w hL r1 r2 r3 (hd2 x (r5 x hx)) (fun x hx => ⟨r4 x hx, r5 x hx, fun w' hw => (r6 x hx w' hw).1, fun w' hw => (r6 x hx w' hw).2⟩) (by omega)
    exact ⟨go tA tk tc ts tr tl (Nat.le_trans tkc tk') hta hft (fun x hx w' hw => iht x hx (d + 1) w' (hL.on hw) ((hta x hx).on hw) (hft x hx)) bLT,
      go lA lk lc ls lr ll (Nat.le_trans lkc lk') hla hfl (fun x hx w' hw => ihl x hx (d + 1) w' (hL.on hw) ((hla x hx).on hw) (hfl x hx)) bLE⟩
/-- Whatever statements: the law's own text of them is their text. -/
theorem lines_all (A : Option Addr) (k c : Nat) (ts : List St) (d : Nat) (w : World) (hL : Laid w) (hr : Rd w (fun b => w.heap.size ≤ b) 9 A k (ts.flatMap St.cells)) (hl : ts.length = k) (hk : k ≤ 9223372036854775807) (hd : d ≤ 1000)
    (ha : ∀ x ∈ ts, x.At w (fun b => w.heap.size ≤ b)) (hf : ∀ x ∈ ts, x.Fits d) (hbd : (linesT d ts).length ≤ 4000000000000000000) :
    Calls Tryd.prog 28 #[.slice A k c, S (tabs d)] w (Gives w (S (linesT d ts))) :=
  lines_any A k c ts d w hL hr hl hk hd (fun x hx => ⟨ha x hx, hf x hx, fun w' hw => (lines_tree x d w' (hL.on hw) ((ha x hx).on hw) (hf x hx)).1, fun w' hw => (lines_tree x d w' (hL.on hw) ((ha x hx).on hw) (hf x hx)).2⟩) hbd
end Go.Proofs.YtleccalfcnkklaaDoor
