/- What the laid variables give the walks: the shapes' cells, the table of powers of ten; no statement of the seat is proved here. -/
import Derived.Test.YtmbegaobnpoefaaDoorMBase
import Derived.Test.YtmbegaobnpoefaaDoorRows
import Derived.Test.YtmbegaobnpoefaaDoorChecked
import Derived.Lib.LaidTab
import Derived.ChangeSame
import Derived.OpenShut
import Derived.WalkSmall
import Derived.MakeChecks
import Derived.ProofKit
import Derived.Stop.Joined
import Derived.Test.YtmbegaobnpoefaaDoorMFaceDataC
import Derived.Deep.DeepCutAuto
import Derived.WalkLawsBesides
namespace Go.Proofs.YtmbegaobnpoefaaDoor
open Go.ChangeShapes Go.WideShapes Go.ChangeAt Go.RowKit
def shapes : List (List UInt8 × Int) := [([], 0), ([105, 110, 116], 110), ([110, 117, 108, 108], 0), ([108, 111, 99, 97, 108], 108), ([115, 116, 111, 114, 101], 108), ([97, 100, 100], 0), ([115, 117, 98], 0), ([109, 117, 108], 0), ([100, 105, 118], 0), ([109, 111, 100], 0), ([108, 101, 115, 115], 0), ([109, 111, 115, 116], 0), ([115, 97, 109, 101], 0), ([111, 116, 104, 101, 114], 0), ([110, 101, 103], 0), ([110, 111, 116], 0), ([103, 101, 116], 102), ([112, 117, 116], 102), ([110, 101, 119], 99), ([97, 114, 114, 97, 121], 116), ([108, 111, 97, 100], 116), ([115, 97, 118, 101], 116), ([108, 101, 110, 103, 116, 104], 0), ([99, 97, 115, 116], 99), ([105, 115], 99), ([99, 97, 108, 108], 109), ([115, 116, 97, 116, 105, 99], 109), ([106, 117, 109, 112], 106), ([117, 110, 108, 101, 115, 115], 106), ([114, 101, 116, 117, 114, 110], 0), ([112, 114, 105, 110, 116], 0), ([112, 111, 112], 0), ([98, 111, 111, 108], 98)]
theorem cells_of_pairs {H : Type} {enc : TypeId × Value → H} {P : Program} {w : World} {base : Nat} {sp : Nat → Bool} {held : Bool} {fuel : Nat} {t e : TypeId} {n : Nat} {f0 f1 : Field} {cs : List Value} {zs : List (List UInt8 × Int)} {p : List MemPlace}
  (ht : P.underlying t = some (.array n e)) (he : P.underlying e = some (.struct #[f0, f1])) (h0 : P.underlying f0.type = some .string) (h1 : P.underlying f1.type = some (.int .i32)) (ho0 : f0.offset = 0) (ho1 : f1.offset = 1)
  (hc0 : P.cellsOf f0.type = 1) (hc1 : P.cellsOf f1.type = 1) (hce : P.cellsOf e = 2) (hl : zs.length = n)
  (h : DataW.trod enc P w base sp held fuel t cs = some (.agg (zs.map fun z => .agg [.lit (.string z.1), .lit (.int .i32 z.2)]), p)) :
  ∀ i, i < n → cs[2 * i]? = some (S (zs.getD i ([], 0)).1) ∧ cs[2 * i + 1]? = some (.int .i32 (zs.getD i ([], 0)).2) := by
 obtain ⟨xs, m, _, hx, _, hxl, hel⟩ := DataW.trod_array ht h
 intro i hi
 have hq := hel i hi
 rw [hce, List.getElem?_eq_getElem (by omega)] at hq
 have hxi : xs[i].1 = .agg [.lit (.string zs[i].1), .lit (.int .i32 zs[i].2)] := by
  have h2 := congrArg Prod.fst hx
  simp only [DataW.agg.injEq] at h2
  have h3 := congrArg (fun l => l[i]?) h2
  simp [hxl ▸ hi, hl ▸ hi] at h3
  exact h3.symm
 obtain ⟨y0, y1, m', hy, _, e0, e1⟩ := trod_struct2 he hq
 rw [hy] at hxi
 simp only [DataW.agg.injEq, List.cons.injEq, and_true] at hxi
 rw [ho0, hc0] at e0
 rw [ho1, hc1] at e1
 obtain ⟨s, hs, rfl, _⟩ := DataW.trod_string h0 e0
 obtain ⟨k, hk, rfl, _⟩ := DataW.trod_int h1 e1
 simp only [DataW.lit.injEq, Lit.string.injEq, Lit.int.injEq, true_and] at hxi
 have g0 := congrArg (fun l => l[0]?) hs
 have g1 := congrArg (fun l => l[0]?) hk
 simp [List.getElem?_drop] at g0 g1
 have hz : zs.getD i ([], 0) = zs[i] := by simp [List.getD, hl ▸ hi]
 rw [hz, ← hxi.1, ← hxi.2, Nat.mul_comm 2 i]
 exact ⟨by rw [g0], g1⟩
theorem gShapes : Tryd.prog.globalNamed "kiln/op.shapes" = some 0 := by kernel_rfl
theorem tShapes : (Tryd.prog.globals[0]?).map (·.type) = some 135 := by kernel_rfl
structure Laid (w : World) : Prop where
 sh : ∃ cs, w.var? Tryd.prog "kiln/op.shapes" = some cs ∧ ∀ i, i < 33 → cs[2 * i]? = some (S (shapes.getD i ([], 0)).1) ∧ cs[2 * i + 1]? = some (.int .i32 (shapes.getD i ([], 0)).2)
theorem var_lt {P : Program} {w : World} {n : String} {g : Nat} {cs : Array Value} (hg : P.globalNamed n = some g) (h : w.var? P n = some cs) : g < w.heap.size := by
 unfold World.var? at h
 rw [hg, Option.bind_some] at h
 rcases Nat.lt_or_ge g w.heap.size with h2 | h2
 ·exact h2
 ·rw [Array.getElem?_eq_none h2] at h
  simp at h
theorem Laid.below {w w' : World} {B : Nat} (h : Laid w) (hb : Below B w w') (hB : w.heap.size ≤ B) : Laid w' := by
 obtain ⟨cs, h1, h2⟩ := h.sh
 have k1 := var_lt gShapes h1
 exact ⟨⟨cs, var?_below hb gShapes (by omega) h1, h2⟩⟩
theorem Laid.pool {w : World} (h : Laid w) (i : Nat) (hi : i < 33) : w.cell? ⟨0, i * 2 + 1, none⟩ = some (.int .i32 (shapes.getD i ([], 0)).2) := by
 obtain ⟨cs, h1, h2⟩ := h.sh
 rw [World.var?_cell gShapes h1, Nat.mul_comm i 2, (h2 i hi).2]
theorem shapes_laid : (Rows.laid_kiln_op_shapes : DataW Unit) = .agg (shapes.map fun z => .agg [.lit (.string z.1), .lit (.int .i32 z.2)]) := rfl
theorem laid_of {w : World} (h : laidMetH Tryd.prog [("kiln/op.shapes", Rows.laid_kiln_op_shapes)] w) : Laid w := by
 rw [MakeChecks.laidMetH_plain _ _ _ (by kernel_rfl)] at h
 obtain ⟨ps, ⟨g3, t3, cs3, f3, p3, q3, hg3, ht3, hv3, hd3, _, _⟩, _, _⟩ := h
 obtain rfl := Option.some.inj (gShapes.symm.trans hg3)
 obtain rfl := Option.some.inj (tShapes.symm.trans ht3)
 refine ⟨⟨cs3, hv3, ?_⟩⟩
 have := cells_of_pairs (n := 33) Tryd.underlying135 Tryd.underlying134 Tryd.underlying9 Tryd.underlying21 rfl rfl (by kernel_rfl) (by kernel_rfl) (by kernel_rfl) rfl (by rw [← shapes_laid]; exact hd3)
 simpa using this
end Go.Proofs.YtmbegaobnpoefaaDoor
namespace Go.Proofs.YtmbegaobnpoefaaDoor
open Go.RowKit
def kn (c : Int) : Bool := decide (1 ≤ c) && decide (c ≤ 32)
def nm (c : Int) : List UInt8 := if kn c then (shapes.getD c.toNat ([], 0)).1 else []
def pl (c : Int) : Int := if kn c then (shapes.getD c.toNat ([], 0)).2 else 0
theorem kn_cast {c : Int} (h : kn c = true) : ∃ n : Nat, c = (n : Int) ∧ 1 ≤ n ∧ n ≤ 32 := by
 simp only [kn, Bool.and_eq_true, decide_eq_true_eq] at h
 exact ⟨c.toNat, by omega, by omega, by omega⟩
set_option maxRecDepth 100000 in
theorem known_any (c : Int) (w : World) : Calls Tryd.prog 51 #[.int .i64 c] w fun e w' => e = .returned (.bool (kn c)) ∧ w' = w := by
 go_enter Tryd.func51, Tryd.ntmps51
 obtain ⟨X, hX⟩ : ∃ X, X = kn c := ⟨_, rfl⟩
 rw [← hX]
 unfold kn at hX
 cases h1 : decide (1 ≤ c) <;> rw [h1] at hX
 ·go_wp2_with fail
  go_ret
  exact ⟨by simp [hX], rfl⟩
 ·go_wp2_with fail
  go_ret
  exact ⟨by simp [hX], rfl⟩
set_option maxRecDepth 100000 in
theorem pool_any (c : Int) (w : World) (h : Laid w) : Calls Tryd.prog 52 #[.int .i64 c] w fun e w' => e = .returned (.int .i32 (pl c)) ∧ w' = w := by
 have HK := hide (known_any c w)
 obtain ⟨X, hX⟩ : ∃ X, X = kn c := ⟨_, rfl⟩
 rw [← hX] at HK
 have hn : ∃ X, X = pl c := ⟨_, rfl⟩
 obtain ⟨N, hN⟩ := hn
 rw [← hN]
 unfold pl at hN
 rw [← hX] at hN
 cases X
 ·have HN := hide hN
  clear hN hX
  go_enter Tryd.func52, Tryd.ntmps52
  go_wp2_with (go_at_call 51; refine HK.out.mono ?_; rintro e w' ⟨rfl, rfl⟩)
  go_ret
  exact ⟨by rw [HN.out]; rfl, rfl⟩
 ·obtain ⟨n, rfl, h1, h2⟩ := kn_cast hX.symm
  have hc := h.pool n (by omega)
  have HN := hide hN
  clear hN hX h
  go_enter Tryd.func52, Tryd.ntmps52
  go_wp2_with (go_at_call 51; refine HK.out.mono ?_; rintro e w' ⟨rfl, rfl⟩)
  go_ret
  exact ⟨by rw [HN.out]; rfl, rfl⟩
end Go.Proofs.YtmbegaobnpoefaaDoor
namespace Go.Proofs.YtmbegaobnpoefaaDoor
open Go.RowKit
def Vr.few (v : Vr) : Prop := v.n.length ≤ 60 ∧ v.t.n.length ≤ 60
def Sg.few (m : Sg) : Prop := m.n.length ≤ 60 ∧ m.r.n.length ≤ 60 ∧ m.k ≤ 10 ∧ ∀ p ∈ m.ps, p.n.length ≤ 60
def Fc.few (f : Fc) : Prop := f.fl ≤ 12 ∧ f.ml ≤ 12 ∧ f.n.length ≤ 60 ∧ f.su.length ≤ 60 ∧ (∀ v ∈ f.fs, v.few) ∧ ∀ m ∈ f.ms, m.few
def Asks (w : World) (p : Prop) (e : Ending) (w' : World) : Prop := ∃ R : Bool, e = .returned (.bool R) ∧ Below w.heap.size w w' ∧ (R = true → p)
theorem all_step {α : Type} {p : α → Prop} {l : List α} {k : Nat} (h : ∀ i (hi : i < l.length), i < k → p l[i]) (hk : k < l.length) (h1 : p l[k]) : ∀ i (hi : i < l.length), i < k + 1 → p l[i] := by
 intro i hi hlt
 rcases Nat.lt_or_ge i k with h2 | h2
 ·exact h i hi h2
 ·obtain rfl : i = k := by omega
  exact h1
theorem all_done {α : Type} {p : α → Prop} {l : List α} {k : Nat} (h : ∀ i (hi : i < l.length), i < k → p l[i]) (hk : l.length ≤ k) : ∀ x ∈ l, p x := by
 intro x hx
 obtain ⟨i, hi, rfl⟩ := List.mem_iff_getElem.1 hx
 exact h i hi (by omega)
set_option maxRecDepth 100000 in
set_option maxHeartbeats 2000000 in
theorem few_any (f : Fc) (w : World) (h : f.at_ w (fun k => w.heap.size ≤ k)) : Calls Tryd.prog 30 #[f.val] w (Asks w f.few) := by
 obtain ⟨n, su, fA, fl, fc, fs, mA, ml, mc, ms⟩ := f
 obtain ⟨⟨hf, hfl, hfm, _⟩, ⟨hm, hml, hmm, hmok⟩, _, _⟩ := h
 simp only at hf hfl hfm hm hml hmm hmok
 have hM := hide hmok
 clear hmok
 have HFL := hide hfl
 have HML := hide hml
 clear hfl hml
 by_cases c1 : 12 < (fl : Int)
 ·clear hf hm
  go_enter Tryd.func30, Tryd.ntmps30
  have d1 : decide (12 < (fl : Int)) = true := by simpa using c1
  go_wp2_with fail
  go_ret
  exact ⟨_, rfl, (Below.refl _ _).alloc (Nat.le_refl _) _, by simp⟩
 have d1 : decide (12 < (fl : Int)) = false := by simpa using c1
 by_cases c2 : 12 < (ml : Int)
 ·clear hf hm
  go_enter Tryd.func30, Tryd.ntmps30
  have d2 : decide (12 < (ml : Int)) = true := by simpa using c2
  go_wp2_with fail
  go_ret
  exact ⟨_, rfl, (Below.refl _ _).alloc (Nat.le_refl _) _, by simp⟩
 have d2 : decide (12 < (ml : Int)) = false := by simpa using c2
 by_cases c3 : 60 < (n.length : Int)
 ·clear hf hm
  go_enter Tryd.func30, Tryd.ntmps30
  have d3 : decide (60 < (n.length : Int)) = true := by simpa using c3
  go_wp2_with fail
  go_ret
  exact ⟨_, rfl, (Below.refl _ _).alloc (Nat.le_refl _) _, by simp⟩
 have d3 : decide (60 < (n.length : Int)) = false := by simpa using c3
 by_cases c4 : 60 < (su.length : Int)
 ·clear hf hm
  go_enter Tryd.func30, Tryd.ntmps30
  have d4 : decide (60 < (su.length : Int)) = true := by simpa using c4
  go_wp2_with fail
  go_ret
  exact ⟨_, rfl, (Below.refl _ _).alloc (Nat.le_refl _) _, by simp⟩
 have d4 : decide (60 < (su.length : Int)) = false := by simpa using c4
 obtain ⟨wA, hwA⟩ : ∃ wA, wA = w.alloc (.cells #[S n, S su, .slice fA fl fc, .slice mA ml mc] 43) := ⟨_, rfl⟩
 have hB1 : Below w.heap.size w wA := by rw [hwA]; exact (Below.refl _ _).alloc (Nat.le_refl _) _
 have hbk : Blk wA w.heap.size 43 #[S n, S su, .slice fA fl fc, .slice mA ml mc] := by rw [hwA]; exact Blk.new _ _ _
 go_enter Tryd.func30, Tryd.ntmps30
 go_wp2_with fail
 rw [← hwA]
 clear hwA d1 d2 d3 d4
 go_loopw [34] (fun i wr => ∃ k : Nat, k ≤ fl ∧ i = .int .i64 k ∧ Below wA.heap.size wA wr ∧ (∀ i (hi : i < fs.length), i < k → fs[i].few)) (fun i _ => fl - (intOf i).toNat)
 case atStart => exact ⟨0, Nat.zero_le _, rfl, Below.refl _ _, by omega⟩
 case round =>
  obtain ⟨k, hk, rfl, hbr, hall⟩ := hrel
  have hB := hB1.trans (hbr.mono hB1.size)
  have HA := hide hall
  clear hall
  by_cases hlt : k < fl
  ·obtain ⟨x, o, rfl, hx1, _, hcell⟩ := Rd.rec_ (size := 3) (fun _ => rfl) (hf.below hB) HFL.out k hlt
   have hlk : k < fs.length := by have := HFL.out; omega
   obtain ⟨v, hv⟩ : ∃ v, v = fs[k] := ⟨_, rfl⟩
   rw [← hv] at hcell
   have HV := hide hv
   clear hv
   obtain ⟨vn, vt, va⟩ := v
   have q0 : wr.cell? ⟨x, o + k * 3, none⟩ = some (S vn) := hcell 0 _ rfl
   have q1 : wr.cell? ⟨x, o + k * 3 + 1, none⟩ = some (S vt) := hcell 1 _ rfl
   have q2 : wr.cell? ⟨x, o + k * 3 + 2, none⟩ = some (.bool va) := hcell 2 _ rfl
   clear hcell
   by_cases e1 : 60 < (vn.length : Int)
   ·have d1 : decide (60 < (vn.length : Int)) = true := by simpa using e1
    go_wp2_with fail
    go_ret
    exact ⟨_, rfl, hB.alloc hB.size _, by simp⟩
   have d1 : decide (60 < (vn.length : Int)) = false := by simpa using e1
   by_cases e2 : 60 < (vt.length : Int)
   ·have d2 : decide (60 < (vt.length : Int)) = true := by simpa using e2
    go_wp2_with fail
    go_ret
    exact ⟨_, rfl, hB.alloc hB.size _, by simp⟩
   have d2 : decide (60 < (vt.length : Int)) = false := by simpa using e2
   go_wp2_with fail
   go_roundw
   case rel => exact ⟨k + 1, by omega, by go_num, hbr.alloc hbr.size _, all_step HA.out hlk (by rw [← HV.out]; exact ⟨by simp only; omega, by simp only; omega⟩)⟩
   case measure => simp [intOf]; omega
  ·have HVS : Hid (∀ v ∈ fs, v.few) := hide (all_done HA.out (by have := HFL.out; omega))
   clear HA
   obtain ⟨wB, hwB⟩ : ∃ wB, wB = wr := ⟨_, rfl⟩
   have hbk2 := hbk.below hbr hbk.lt
   rw [← hwB]
   rw [← hwB] at hB hbk2
   clear hwB hbr hbk
   have g3 : wB.cell? ⟨w.heap.size, 3, none⟩ = some (.slice mA ml mc) := hbk2.cell 3
   go_wp2_with fail
   go_loopw [53] (fun i wr => ∃ k : Nat, k ≤ ml ∧ i = .int .i64 k ∧ Below wB.heap.size wB wr ∧ (∀ i (hi : i < ms.length), i < k → ms[i].few)) (fun i _ => ml - (intOf i).toNat)
   case atStart => exact ⟨0, Nat.zero_le _, rfl, Below.refl _ _, by omega⟩
   case round =>
    obtain ⟨k, hk, rfl, hbr, hall⟩ := hrel
    have hB2 := hB.trans (hbr.mono hB.size)
    have HA := hide hall
    clear hall
    by_cases hlt : k < ml
    ·obtain ⟨x, o, rfl, hx1, _, hcell⟩ := Rd.rec_ (size := 5) (fun _ => rfl) (hm.below hB2) HML.out k hlt
     have hlk : k < ms.length := by have := HML.out; omega
     have hmr := (hM.out _ (List.getElem_mem hlk)).below hB2
     obtain ⟨m, hm'⟩ : ∃ m, m = ms[k] := ⟨_, rfl⟩
     rw [← hm'] at hcell hmr
     have HV := hide hm'
     clear hm'
     obtain ⟨sn, sst, sA, sk, sc, sps, srn, sra⟩ := m
     obtain ⟨hps, hpl, hpm, _⟩ := hmr
     simp only at hps hpl hpm
     have HPL := hide hpl
     clear hpl
     have q0 : wr.cell? ⟨x, o + k * 5, none⟩ = some (S sn) := hcell 0 _ rfl
     have q1 : wr.cell? ⟨x, o + k * 5 + 1, none⟩ = some (.bool sst) := hcell 1 _ rfl
     have q2 : wr.cell? ⟨x, o + k * 5 + 2, none⟩ = some (.slice sA sk sc) := hcell 2 _ rfl
     have q3 : wr.cell? ⟨x, o + k * 5 + 3, none⟩ = some (S srn) := hcell 3 _ rfl
     have q4 : wr.cell? ⟨x, o + k * 5 + 4, none⟩ = some (.bool sra) := hcell 4 _ rfl
     clear hcell
     by_cases e1 : 60 < (sn.length : Int)
     ·have d1 : decide (60 < (sn.length : Int)) = true := by simpa using e1
      clear hps
      go_wp2_with fail
      go_ret
      exact ⟨_, rfl, hB2.alloc hB2.size _, by simp⟩
     have d1 : decide (60 < (sn.length : Int)) = false := by simpa using e1
     by_cases e2 : 60 < (srn.length : Int)
     ·have d2 : decide (60 < (srn.length : Int)) = true := by simpa using e2
      clear hps
      go_wp2_with fail
      go_ret
      exact ⟨_, rfl, hB2.alloc hB2.size _, by simp⟩
     have d2 : decide (60 < (srn.length : Int)) = false := by simpa using e2
     by_cases e3 : 10 < (sk : Int)
     ·have d3 : decide (10 < (sk : Int)) = true := by simpa using e3
      clear hps
      go_wp2_with fail
      go_ret
      exact ⟨_, rfl, hB2.alloc hB2.size _, by simp⟩
     have d3 : decide (10 < (sk : Int)) = false := by simpa using e3
     obtain ⟨wC, hwC⟩ : ∃ wC, wC = wr.alloc (.cells #[S sn, .bool sst, .slice sA sk sc, S srn, .bool sra] 55) := ⟨_, rfl⟩
     have hbC : Below wB.heap.size wB wC := by rw [hwC]; exact hbr.alloc hbr.size _
     have hB3 := hB.trans (hbC.mono hB.size)
     have hps' := hps.below (by rw [hwC]; exact (Below.refl _ _).alloc hB2.size _ : Below w.heap.size wr wC)
     clear hps
     go_wp2_with fail
     rw [← hwC]
     clear hwC d1 d2 d3 q0 q1 q2 q3 q4
     go_loopw [77] (fun i wr => ∃ k : Nat, k ≤ sk ∧ i = .int .i64 k ∧ Below wC.heap.size wC wr ∧ (∀ i (hi : i < sps.length), i < k → sps[i].n.length ≤ 60)) (fun i _ => sk - (intOf i).toNat)
     case atStart => exact ⟨0, Nat.zero_le _, rfl, Below.refl _ _, by omega⟩
     case round =>
      obtain ⟨j, hj, rfl, hbp, hall⟩ := hrel
      have hB4 := hB3.trans (hbp.mono hB3.size)
      have HP := hide hall
      clear hall
      by_cases hlt : j < sk
      ·obtain ⟨x, o, rfl, hx1, _, hcell⟩ := Rd.rec_ (size := 2) (fun _ => rfl) (hps'.below (hbp.mono hB3.size)) HPL.out j hlt
       have hlj : j < sps.length := by have := HPL.out; omega
       obtain ⟨p, hp⟩ : ∃ p, p = sps[j] := ⟨_, rfl⟩
       rw [← hp] at hcell
       have HQ := hide hp
       clear hp
       obtain ⟨pn, pa⟩ := p
       have q0 : wr.cell? ⟨x, o + j * 2, none⟩ = some (S pn) := hcell 0 _ rfl
       have q1 : wr.cell? ⟨x, o + j * 2 + 1, none⟩ = some (.bool pa) := hcell 1 _ rfl
       clear hcell
       by_cases e4 : 60 < (pn.length : Int)
       ·have d4 : decide (60 < (pn.length : Int)) = true := by simpa using e4
        go_wp2_with fail
        go_ret
        exact ⟨_, rfl, hB4.alloc hB4.size _, by simp⟩
       have d4 : decide (60 < (pn.length : Int)) = false := by simpa using e4
       go_wp2_with fail
       go_roundw
       case rel => exact ⟨j + 1, by omega, by go_num, hbp.alloc hbp.size _, all_step (p := fun q : Ty => q.n.length ≤ 60) HP.out hlj (by rw [← HQ.out]; simp only; omega)⟩
       case measure => simp [intOf]; omega
      ·have HPS : Hid (∀ p ∈ sps, p.n.length ≤ 60) := hide (all_done HP.out (by have := HPL.out; omega))
       clear HP
       go_wp2_with fail
       go_roundw
       case rel => exact ⟨k + 1, by omega, by go_num, hbC.trans (hbp.mono hbC.size), all_step HA.out hlk (by rw [← HV.out]; exact ⟨by simp only; omega, by simp only; omega, by simp only; omega, HPS.out⟩)⟩
       case measure => simp [intOf]; omega
    ·have HMS : Hid (∀ m ∈ ms, m.few) := hide (all_done HA.out (by have := HML.out; omega))
     clear HA
     go_wp2_with fail
     go_ret
     exact ⟨_, rfl, hB2, fun _ => ⟨by simp only; omega, by simp only; omega, by simp only; omega, by simp only; omega, HVS.out, HMS.out⟩⟩
end Go.Proofs.YtmbegaobnpoefaaDoor
namespace Go.Proofs.YtmbegaobnpoefaaDoor
open Go.RowKit
def great : List UInt8 → Bool
 | [] => false
 | c :: _ => decide (65 ≤ (c.toNat : Int)) && decide ((c.toNat : Int) ≤ 90)
def Ty.cls (t : Ty) : Bool := !t.a && great t.n
def nInt : List UInt8 := [105, 110, 116]
def nBool : List UInt8 := [98, 111, 111, 108]
def nNull : List UInt8 := [110, 117, 108, 108]
def Ty.good (t : Ty) : Bool := t.n == nInt || t.n == nBool || (great t.n && decide (t.n.length ≤ 40))
def Ty.obj (t : Ty) : Bool := t.a || t.cls || decide (t = ⟨nNull, false⟩)
set_option maxRecDepth 100000 in
theorem class_any (n : List UInt8) (a : Bool) (w : World) : Calls Tryd.prog 23 #[.agg #[S n, .bool a]] w (Gives w (.bool (Ty.cls ⟨n, a⟩))) := by
 have hb : ∀ o, Below w.heap.size w (w.alloc o) := fun o => (Below.refl _ _).alloc (Nat.le_refl _) o
 cases a with
 | true =>
  go_enter Tryd.func23, Tryd.ntmps23
  go_wp2_with fail
  go_ret
  exact ⟨rfl, hb _⟩
 | false =>
  rcases n with _ | ⟨c, r⟩
  ·go_enter Tryd.func23, Tryd.ntmps23
   go_wp2_with fail
   go_ret
   exact ⟨rfl, hb _⟩
  ·by_cases h1 : 65 ≤ (c.toNat : Int)
   ·have d1 : decide (65 ≤ (c.toNat : Int)) = true := by simpa using h1
    by_cases h2 : (c.toNat : Int) ≤ 90
    ·have d2 : decide ((c.toNat : Int) ≤ 90) = true := by simpa using h2
     have H : Hid (Ty.cls ⟨c :: r, false⟩ = true) := hide (by simp [Ty.cls, great, d1, d2])
     go_enter Tryd.func23, Tryd.ntmps23
     go_wp2_with fail
     go_ret
     exact ⟨by rw [H.out] <;> rfl, hb _⟩
    ·have d2 : decide ((c.toNat : Int) ≤ 90) = false := by simpa using h2
     have H : Hid (Ty.cls ⟨c :: r, false⟩ = false) := hide (by simp [Ty.cls, great, d1, d2])
     go_enter Tryd.func23, Tryd.ntmps23
     go_wp2_with fail
     go_ret
     exact ⟨by rw [H.out] <;> rfl, hb _⟩
   ·have d1 : decide (65 ≤ (c.toNat : Int)) = false := by simpa using h1
    have H : Hid (Ty.cls ⟨c :: r, false⟩ = false) := hide (by simp [Ty.cls, great, d1])
    go_enter Tryd.func23, Tryd.ntmps23
    go_wp2_with fail
    go_ret
    exact ⟨by rw [H.out] <;> rfl, hb _⟩
theorem set_below' {w w2 : World} (h : Below w.heap.size w w2) {p : Addr} (hp : w.heap.size ≤ p.block) (u : Value) : Below w.heap.size w (w2.setCell p u) :=
 ((Keep.of_below (F := fun _ => False) h (fun k h1 h2 => by omega)).setCell (fun h => by omega) u).below (Nat.le_refl _) (fun k hk => absurd hk id)
set_option maxRecDepth 100000 in
theorem of_any (n : List UInt8) (w : World) : Calls Tryd.prog 22 #[S n] w (Gives w (.agg #[S n, .bool false])) := by
 have hb : ∀ o, Below w.heap.size w (w.alloc o) := fun o => (Below.refl _ _).alloc (Nat.le_refl _) o
 go_enter Tryd.func22, Tryd.ntmps22
 go_wp2_with fail
 refine bodyPost_ret (v := .agg #[S n, .bool false]) ?_ rfl ?_
 ·simp [results, Tryd.results22, go_sem]
 ·first
   | exact ⟨rfl, hb _⟩
   | exact ⟨rfl, set_below' (hb _) (Nat.le_refl _) _⟩
   | exact ⟨rfl, set_below' (set_below' (hb _) (Nat.le_refl _) _) (Nat.le_refl _) _⟩
set_option maxRecDepth 100000 in
theorem good_any (n : List UInt8) (a : Bool) (w : World) : Calls Tryd.prog 21 #[.agg #[S n, .bool a]] w (Gives w (.bool (Ty.good ⟨n, a⟩))) := by
 have hb : Below w.heap.size w (w.alloc (.cells #[S n, .bool a] 24)) := (Below.refl _ _).alloc (Nat.le_refl _) _
 by_cases e1 : n = nInt
 ·have H : Hid (Ty.good ⟨n, a⟩ = true) := hide (by simp [Ty.good, e1])
  rw [H.out]
  subst e1
  clear H
  unfold nInt at *
  go_enter Tryd.func21, Tryd.ntmps21
  go_wp2_with fail
  go_ret
  exact ⟨rfl, hb⟩
 ·have d1 : (n == [105, 110, 116]) = false := by simpa [nInt] using e1
  by_cases e2 : n = nBool
  ·have H : Hid (Ty.good ⟨n, a⟩ = true) := hide (by simp [Ty.good, e2])
   rw [H.out]
   subst e2
   clear H d1 e1
   unfold nBool at *
   go_enter Tryd.func21, Tryd.ntmps21
   go_wp2_with fail
   go_ret
   exact ⟨rfl, hb⟩
  ·have d2 : (n == [98, 111, 111, 108]) = false := by simpa [nBool] using e2
   have hG : Ty.good ⟨n, a⟩ = (great n && decide (n.length ≤ 40)) := by simp [Ty.good, e1, e2]
   rw [hG]
   clear hG
   obtain ⟨G, hG⟩ : ∃ G, G = great n := ⟨_, rfl⟩
   rw [← hG]
   have HC : Hid (∀ w, Calls Tryd.prog 23 #[.agg #[S n, .bool false]] w (Gives w (.bool G))) := hide (fun w => by
    have := class_any n false w
    rw [hG]
    simpa [Ty.cls] using this)
   clear hG
   by_cases h40 : n.length ≤ 40
   all_goals
    first
     | have d3 : decide ((n.length : Int) ≤ 40) = true := by simp; omega
     | have d3 : decide ((n.length : Int) ≤ 40) = false := by simp; omega
    cases G
    all_goals
     go_enter Tryd.func21, Tryd.ntmps21
     go_wp2_with fail
     refine (of_any n _).mono ?_
     rintro e w2 ⟨rfl, hb2⟩
     have hB2 := hb.trans (hb2.mono hb.size)
     have k0 := hb2.cell (p := ⟨w.heap.size, 0, none⟩) (by simp)
     have k1 : w2.cell? ⟨w.heap.size, 0, none⟩ = some (S n) := k0.trans (by simp [World.cell?_alloc_new])
     clear k0 hb2
     go_wp2_with fail
     refine (HC.out _).mono ?_
     rintro e w3 ⟨rfl, hb3⟩
     have hB3 := hB2.trans (hb3.mono hB2.size)
     have k2 : w3.cell? ⟨w.heap.size, 0, none⟩ = some (S n) := (hb3.cell (p := ⟨w.heap.size, 0, none⟩) (World.block_lt_of_cell? _ _ k1)).trans k1
     clear hb3 k1
     go_wp2_with fail
     go_ret
     exact ⟨by first | rfl | simp [h40], hB3⟩
end Go.Proofs.YtmbegaobnpoefaaDoor
namespace Go.Proofs.YtmbegaobnpoefaaDoor
open Go.RowKit
def IdxIs {α : Type} (l : List α) (p : α → Bool) (z : Int) : Prop := (z = -1 ∧ ∀ x ∈ l, p x = false) ∨ ∃ k, ∃ hk : k < l.length, z = (k : Int) ∧ p l[k] = true ∧ ∀ i (hi : i < l.length), i < k → p l[i] = false
def Finds {α : Type} (w : World) (l : List α) (p : α → Bool) (e : Ending) (w' : World) : Prop := ∃ z : Int, e = .returned (.int .i64 z) ∧ Below w.heap.size w w' ∧ IdxIs l p z
theorem IdxIs.any {α : Type} {l : List α} {p : α → Bool} {z : Int} (h : IdxIs l p z) : decide (0 ≤ z) = l.any p := by
 rcases h with ⟨rfl, h⟩ | ⟨k, hk, rfl, h, _⟩
 ·have : l.any p = false := by rw [List.any_eq_false]; intro x hx; rw [h x hx]; simp
  rw [this]; decide
 ·have : l.any p = true := List.any_eq_true.2 ⟨l[k], List.getElem_mem hk, h⟩
  rw [this]; simp
set_option maxRecDepth 100000 in
set_option maxHeartbeats 1000000 in
theorem idxty_any (A : Option Addr) (n c : Nat) (l : List Ty) (p : Ty → Bool) (w : World) (h : Rd w (fun k => w.heap.size ≤ k) 2 A n (l.flatMap Ty.cells)) (hl : l.length = n) (hm : n ≤ 9223372036854775807)
  (hc : ∀ (w' : World), Below w.heap.size w w' → ∀ u ∈ l, Calls Tryd.prog 46 #[u.val] w' (Gives w' (.bool (p u)))) :
  Calls Tryd.prog 65 #[.slice A n c, .func (.func 46) #[] #[]] w (Finds w l p) := by
 have HL := hide hl
 have HC := hide hc
 clear hl hc
 go_enter Tryd.func65, Tryd.ntmps65
 go_wp2_with fail
 go_loopw [8] (fun i wr => ∃ k : Nat, k ≤ n ∧ i = .int .i64 k ∧ Below w.heap.size w wr ∧ (∀ i (hi : i < l.length), i < k → p l[i] = false)) (fun i _ => n - (intOf i).toNat)
 case atStart => exact ⟨0, Nat.zero_le _, rfl, Below.refl _ _, by omega⟩
 case round =>
  obtain ⟨k, hk, rfl, hbr, hall⟩ := hrel
  have HA := hide hall
  clear hall
  by_cases hlt : k < n
  ·obtain ⟨x, o, rfl, _, _, hcell⟩ := Rd.rec_ (size := 2) (fun _ => rfl) (h.below hbr) HL.out k hlt
   have hlk : k < l.length := by have := HL.out; omega
   have hcc := HC.out wr hbr l[k] (List.getElem_mem hlk)
   obtain ⟨b, hb⟩ : ∃ b, b = p l[k] := ⟨_, rfl⟩
   rw [← hb] at hcc
   have HB := hide hb
   obtain ⟨u, hu⟩ : ∃ u, u = l[k] := ⟨_, rfl⟩
   rw [← hu] at hcell hcc
   clear hb hu
   have q0 : wr.cell? ⟨x, o + k * 2, none⟩ = some (S u.n) := hcell 0 _ rfl
   have q1 : wr.cell? ⟨x, o + k * 2 + 1, none⟩ = some (.bool u.a) := hcell 1 _ rfl
   clear hcell
   have HCC := hide hcc
   clear hcc
   go_wp2_with fail
   refine HCC.out.mono ?_
   rintro e w2 ⟨rfl, hb2⟩
   have hB2 := hbr.trans (hb2.mono hbr.size)
   cases b with
   | true =>
    have HI : Hid (IdxIs l p (k : Int)) := hide (.inr ⟨k, hlk, rfl, HB.out.symm, HA.out⟩)
    go_wp2_with fail
    go_ret
    exact ⟨_, rfl, hB2, HI.out⟩
   | false =>
    go_wp2_with fail
    go_roundw
    case rel => exact ⟨k + 1, by omega, by go_num, hB2, all_step (p := fun u => p u = false) HA.out hlk HB.out.symm⟩
    case measure => simp [intOf]; omega
  ·have HI : Hid (IdxIs l p (-1)) := hide (.inl ⟨rfl, all_done (p := fun u => p u = false) HA.out (by have := HL.out; omega)⟩)
   go_wp2_with fail
   go_ret
   exact ⟨_, rfl, hbr, HI.out⟩
set_option maxRecDepth 100000 in
theorem hasty_any (A : Option Addr) (n c : Nat) (l : List Ty) (p : Ty → Bool) (w : World) (h : Rd w (fun k => w.heap.size ≤ k) 2 A n (l.flatMap Ty.cells)) (hl : l.length = n) (hm : n ≤ 9223372036854775807)
  (hc : ∀ (w' : World), Below w.heap.size w w' → ∀ u ∈ l, Calls Tryd.prog 46 #[u.val] w' (Gives w' (.bool (p u)))) :
  Calls Tryd.prog 45 #[.slice A n c, .func (.func 46) #[] #[]] w (Gives w (.bool (l.any p))) := by
 have HI := hide (idxty_any A n c l p w h hl hm hc)
 clear h hl hc
 obtain ⟨R, hR⟩ : ∃ R, R = l.any p := ⟨_, rfl⟩
 rw [← hR]
 have HR := hide hR
 clear hR
 go_enter Tryd.func45, Tryd.ntmps45
 go_wp2_with fail
 refine HI.out.mono ?_
 rintro e w2 ⟨z, rfl, hb2, hz⟩
 have HZ : Hid (decide (0 ≤ z) = R) := hide (by rw [HR.out]; exact hz.any)
 clear hz
 go_wp2_with fail
 go_ret
 exact ⟨by rw [← HZ.out]; rfl, hb2⟩
end Go.Proofs.YtmbegaobnpoefaaDoor
namespace Go.Proofs.YtmbegaobnpoefaaDoor
open Go.RowKit
theorem ba_toList (l : List UInt8) : (ByteArray.mk l.toArray).toList = l := Lib.toList_data _
attribute [go_sem] ba_toList
def leqB (a b : List UInt8) : Bool := Op.bytesLess a b || a == b
def riseV : List UInt8 → List Vr → Bool
 | _, [] => true
 | last, v :: r => !leqB v.n last && decide (v.n.length ≤ 40) && v.t.good && riseV v.n r
def Sg.good (m : Sg) : Bool := m.r.good && decide (m.k ≤ 200) && !(m.ps.any fun t => !t.good)
def riseM : List UInt8 → List Sg → Bool
 | _, [] => true
 | last, m :: r => !leqB m.n last && decide (m.n.length ≤ 40) && m.good && riseM m.n r
def Fc.headOk (f : Fc) : Bool := great f.n && (f.su == [] || great f.su) && decide (f.fl ≤ 200) && decide (f.ml ≤ 200) && decide (f.n.length ≤ 40) && decide (f.su.length ≤ 40)
def Fc.right (f : Fc) : Bool := f.headOk && riseV [] f.fs && riseM [] f.ms
theorem dec_le (n b : Nat) : decide (n ≤ b) = !decide ((b : Int) < (n : Int)) := by
 by_cases h : n ≤ b
 ·have : ¬ (b : Int) < (n : Int) := by omega
  simp [h, this]
 ·have : (b : Int) < (n : Int) := by omega
  simp [h, this]
set_option maxRecDepth 100000 in
theorem notgood_any (t : Ty) (w : World) : Calls Tryd.prog 46 #[t.val] w (Gives w (.bool (!t.good))) := by
 obtain ⟨tn, ta⟩ := t
 have hg : ∀ w, Calls Tryd.prog 21 #[.agg #[S tn, .bool ta]] w (Gives w (.bool (Ty.good ⟨tn, ta⟩))) := good_any tn ta
 obtain ⟨G, hG⟩ : ∃ G, G = Ty.good ⟨tn, ta⟩ := ⟨_, rfl⟩
 rw [← hG] at hg
 rw [← hG]
 have HG := hide hg
 clear hg hG
 have hb : Below w.heap.size w (w.alloc (.cells #[S tn, .bool ta] 24)) := (Below.refl _ _).alloc (Nat.le_refl _) _
 go_enter Tryd.func46, Tryd.ntmps46
 go_wp2_with fail
 refine (HG.out _).mono ?_
 rintro e w2 ⟨rfl, hb2⟩
 have hB2 := hb.trans (hb2.mono hb.size)
 go_wp2_with fail
 go_ret
 exact ⟨rfl, hB2⟩
set_option maxRecDepth 100000 in
set_option maxHeartbeats 8000000 in
theorem right_any (f : Fc) (w : World) (h : f.at_ w (fun k => w.heap.size ≤ k)) : Calls Tryd.prog 25 #[f.val] w (Gives w (.bool f.right)) := by
 obtain ⟨n, su, fA, fl, fc, fs, mA, ml, mc, ms⟩ := f
 obtain ⟨⟨hf, hfl, hfm, _⟩, ⟨hm, hml, hmm, hmok⟩, hsn, hss⟩ := h
 simp only at hf hfl hfm hm hml hmm hmok
 unfold short at hsn hss
 simp only at hsn hss
 obtain ⟨R, hR⟩ : ∃ R, R = Fc.right ⟨n, su, fA, fl, fc, fs, mA, ml, mc, ms⟩ := ⟨_, rfl⟩
 rw [← hR]
 obtain ⟨H, hH⟩ : ∃ H, H = Fc.headOk ⟨n, su, fA, fl, fc, fs, mA, ml, mc, ms⟩ := ⟨_, rfl⟩
 have HR : Hid (R = (H && riseV [] fs && riseM [] ms)) := hide (by rw [hR, hH]; rfl)
 have HH : Hid (H = (great n && (su == [] || great su) && decide (fl ≤ 200) && decide (ml ≤ 200) && decide (n.length ≤ 40) && decide (su.length ≤ 40))) := hide hH
 have HM := hide hmok
 have HFL := hide hfl
 have HML := hide hml
 clear hmok hfl hml hR hH
 obtain ⟨wA, hwA⟩ : ∃ wA, wA = w.alloc (.cells #[S n, S su, .slice fA fl fc, .slice mA ml mc] 43) := ⟨_, rfl⟩
 have hB1 : Below w.heap.size w wA := by rw [hwA]; exact (Below.refl _ _).alloc (Nat.le_refl _) _
 have hbk : Blk wA w.heap.size 43 #[S n, S su, .slice fA fl fc, .slice mA ml mc] := by rw [hwA]; exact Blk.new _ _ _
 go_enter Tryd.func25, Tryd.ntmps25
 go_upto_region 1 with fail
 rw [← hwA]
 clear hwA
 go_cut [48] (fun v wx => v = .bool (!H) ∧ Below wA.heap.size wA wx)
 case first =>
  have HG1 : Hid (∀ w, Calls Tryd.prog 23 #[.agg #[S n, .bool false]] w (Gives w (.bool (great n)))) := hide (fun w => by simpa [Ty.cls] using class_any n false w)
  have HG2 : Hid (∀ w, Calls Tryd.prog 23 #[.agg #[S su, .bool false]] w (Gives w (.bool (great su)))) := hide (fun w => by simpa [Ty.cls] using class_any su false w)
  obtain ⟨G1, hG1⟩ : ∃ G1, G1 = great n := ⟨_, rfl⟩
  obtain ⟨G2, hG2⟩ : ∃ G2, G2 = great su := ⟨_, rfl⟩
  rw [← hG1] at HG1 HH
  rw [← hG2] at HG2 HH
  have h20 : Hid (su = [] → G2 = false) := hide (fun e => by rw [hG2, e]; rfl)
  clear hG1 hG2
  have c0 : wA.cell? ⟨w.heap.size, 0, none⟩ = some (S n) := hbk.cell 0
  go_wp2_with fail
  refine (of_any n wA).mono ?_
  rintro e w2 ⟨rfl, hb2⟩
  go_wp2_with fail
  refine (HG1.out w2).mono ?_
  rintro e w3 ⟨rfl, hb3⟩
  have hb3' := hb2.trans (hb3.mono hb2.size)
  have hk3 := hbk.below hb3' hbk.lt
  have hl3 := hk3.lt
  have c0 : w3.cell? ⟨w.heap.size, 0, none⟩ = some (S n) := hk3.cell 0
  have c1 : w3.cell? ⟨w.heap.size, 1, none⟩ = some (S su) := hk3.cell 1
  have c2 : w3.cell? ⟨w.heap.size, 2, none⟩ = some (.slice fA fl fc) := hk3.cell 2
  have c3 : w3.cell? ⟨w.heap.size, 3, none⟩ = some (.slice mA ml mc) := hk3.cell 3
  clear hb2 hb3
  cases G1 with
  | false =>
   have HF : Hid (H = false) := hide (by rw [HH.out]; simp)
   clear HH
   go_wp2_with fail
   go_meet
   exact ⟨by rw [HF.out]; rfl, hb3'⟩
  | true =>
   obtain ⟨v1, d1⟩ : ∃ v, decide (200 < (fl : Int)) = v := ⟨_, rfl⟩
   obtain ⟨v2, d2⟩ : ∃ v, decide (200 < (ml : Int)) = v := ⟨_, rfl⟩
   obtain ⟨v3, d3⟩ : ∃ v, decide (40 < (n.length : Int)) = v := ⟨_, rfl⟩
   obtain ⟨v4, d4⟩ : ∃ v, decide (40 < (su.length : Int)) = v := ⟨_, rfl⟩
   have HH2 : Hid (H = ((su == [] || G2) && !v1 && !v2 && !v3 && !v4)) := hide (by
    rw [HH.out, dec_le fl 200, dec_le ml 200, dec_le n.length 40, dec_le su.length 40, ← d1, ← d2, ← d3, ← d4]; rfl)
   clear HH
   by_cases e : su = []
   ·have HX := hide (h20.out e)
    subst e
    obtain rfl : v4 = false := by rw [← d4]; rfl
    clear d4 h20
    cases v1 <;> cases v2 <;> cases v3
    all_goals
     go_wp2_with fail
     go_meet
     exact ⟨by rw [HH2.out] <;> rfl, hb3'⟩
   ·have e' : (su == []) = false := by simpa using e
    clear h20
    go_wp2_with fail
    refine (of_any su w3).mono ?_
    rintro e w4 ⟨rfl, hb4⟩
    go_wp2_with fail
    refine (HG2.out w4).mono ?_
    rintro e w5 ⟨rfl, hb5⟩
    have hb5' := hb3'.trans ((hb4.trans (hb5.mono hb4.size)).mono hb3'.size)
    have hk5 := hbk.below hb5' hbk.lt
    have c0 : w5.cell? ⟨w.heap.size, 0, none⟩ = some (S n) := hk5.cell 0
    have c1 : w5.cell? ⟨w.heap.size, 1, none⟩ = some (S su) := hk5.cell 1
    have c2 : w5.cell? ⟨w.heap.size, 2, none⟩ = some (.slice fA fl fc) := hk5.cell 2
    have c3 : w5.cell? ⟨w.heap.size, 3, none⟩ = some (.slice mA ml mc) := hk5.cell 3
    clear hb4 hb5
    cases G2
    case false =>
     go_wp2_with fail
     go_meet
     exact ⟨by rw [HH2.out, e'] <;> rfl, hb5'⟩
    case true =>
     cases v1 <;> cases v2 <;> cases v3 <;> cases v4
     all_goals
      go_wp2_with fail
      go_meet
      exact ⟨by rw [HH2.out, e'] <;> rfl, hb5'⟩
 case rest =>
  obtain ⟨hv, hbc⟩ := hcut
  subst hv
  have hBc := hB1.trans (hbc.mono hB1.size)
  have hk := hbk.below hbc hbk.lt
  cases H with
  | false =>
   have HF : Hid (R = false) := hide (by rw [HR.out]; simp)
   go_wp2_with fail
   go_ret
   exact ⟨by rw [HF.out] <;> rfl, hBc⟩
  | true =>
   have HR2 : Hid (R = (riseV [] fs && riseM [] ms)) := hide (by rw [HR.out]; simp)
   have c2 : wc.cell? ⟨w.heap.size, 2, none⟩ = some (.slice fA fl fc) := hk.cell 2
   clear HR HH hbc
   go_wp2_with fail
   clear c2
   go_loopw [52, 3] (fun i v wr => ∃ (k : Nat) (lst : List UInt8), k ≤ fl ∧ i = .int .i64 k ∧ v = S lst ∧ Below wc.heap.size wc wr ∧ riseV [] fs = riseV lst (fs.drop k)) (fun i _ _ => fl - (intOf i).toNat)
   case atStart => exact ⟨0, [], Nat.zero_le _, rfl, rfl, Below.refl _ _, rfl⟩
   case round =>
    obtain ⟨k, lst, hk', rfl, rfl, hbr, hrise⟩ := hrel
    have HRS := hide hrise
    have hBr := hBc.trans (hbr.mono hBc.size)
    clear hrise
    by_cases hlt : k < fl
    ·obtain ⟨x, o, rfl, _, _, hcell⟩ := Rd.rec_ (size := 3) (fun _ => rfl) (hf.below hBr) HFL.out k hlt
     have hlk : k < fs.length := by have := HFL.out; omega
     have HD : Hid (fs.drop k = fs[k] :: fs.drop (k + 1)) := hide (List.drop_eq_getElem_cons hlk)
     obtain ⟨v, hv⟩ : ∃ v, v = fs[k] := ⟨_, rfl⟩
     rw [← hv] at hcell HD
     clear hv
     obtain ⟨vn, vt, va⟩ := v
     have q0 : wr.cell? ⟨x, o + k * 3, none⟩ = some (S vn) := hcell 0 _ rfl
     have q1 : wr.cell? ⟨x, o + k * 3 + 1, none⟩ = some (S vt) := hcell 1 _ rfl
     have q2 : wr.cell? ⟨x, o + k * 3 + 2, none⟩ = some (.bool va) := hcell 2 _ rfl
     clear hcell
     have hgo : ∀ w, Calls Tryd.prog 21 #[.agg #[S vt, .bool va]] w (Gives w (.bool (Ty.good ⟨vt, va⟩))) := good_any vt va
     obtain ⟨G, hG⟩ : ∃ G, G = Ty.good ⟨vt, va⟩ := ⟨_, rfl⟩
     rw [← hG] at hgo
     obtain ⟨b1, d1⟩ : ∃ b, Op.bytesLess vn lst = b := ⟨_, rfl⟩
     obtain ⟨b2, d2⟩ : ∃ b, (vn == lst) = b := ⟨_, rfl⟩
     obtain ⟨b3, d3⟩ : ∃ b, decide (40 < (vn.length : Int)) = b := ⟨_, rfl⟩
     have HE : Hid (riseV [] fs = (!(b1 || b2) && !b3 && G && riseV vn (fs.drop (k + 1)))) := hide (by
      rw [HRS.out, HD.out, hG, ← d1, ← d2, ← d3]
      show (!(leqB vn lst) && decide (vn.length ≤ 40) && Ty.good ⟨vt, va⟩ && riseV vn (List.drop (k + 1) fs)) = _
      rw [dec_le vn.length 40]
      rfl)
     have HGO := hide hgo
     clear hgo hG HRS HD
     have hBw : Below w.heap.size w (wr.alloc (.cells #[S vn, S vt, .bool va] 63)) := hBr.alloc hBr.size _
     by_cases e2 : vn = lst
     ·subst e2
      obtain rfl : b2 = true := by rw [← d2]; simp
      clear d2
      have HF : Hid (R = false) := hide (by rw [HR2.out, HE.out]; simp)
      cases b1
      all_goals
       go_wp2_with fail
       go_ret
       exact ⟨by rw [HF.out] <;> rfl, hBw⟩
     ·obtain rfl : b2 = false := by rw [← d2]; simpa using e2
      cases b1
      case true =>
       have HF : Hid (R = false) := hide (by rw [HR2.out, HE.out]; simp)
       go_wp2_with fail
       go_ret
       exact ⟨by rw [HF.out] <;> rfl, hBw⟩
      case false =>
       cases b3
       case true =>
        have HF : Hid (R = false) := hide (by rw [HR2.out, HE.out]; simp)
        go_wp2_with fail
        go_ret
        exact ⟨by rw [HF.out] <;> rfl, hBw⟩
       case false =>
        obtain ⟨w1, hw1⟩ : ∃ w1, w1 = wr.alloc (.cells #[S vn, S vt, .bool va] 63) := ⟨_, rfl⟩
        have hv1 : Blk w1 wr.heap.size 63 #[S vn, S vt, .bool va] := by rw [hw1]; exact Blk.new _ _ _
        have hb1 : Below wc.heap.size wc w1 := by rw [hw1]; exact hbr.alloc hbr.size _
        go_wp2_with fail
        rw [← hw1]
        clear hw1 q0 q1 q2
        refine (HGO.out w1).mono ?_
        rintro e w2 ⟨rfl, hb2⟩
        have hb2' := hb1.trans (hb2.mono hb1.size)
        have hv2 := hv1.below hb2 hv1.lt
        have hB2 := hBc.trans (hb2'.mono hBc.size)
        have c0 : w2.cell? ⟨wr.heap.size, 0, none⟩ = some (S vn) := hv2.cell 0
        clear hb2 hb1 hv1 d1 d2 d3
        cases G
        case false =>
         have HF : Hid (R = false) := hide (by rw [HR2.out, HE.out]; simp)
         go_wp2_with fail
         go_ret
         exact ⟨by rw [HF.out] <;> rfl, hB2⟩
        case true =>
         have HE2 : Hid (riseV [] fs = riseV vn (fs.drop (k + 1))) := hide (by rw [HE.out]; simp)
         clear HE
         go_wp2_with fail
         go_roundw
         case rel => exact ⟨k + 1, vn, by omega, by go_num, rfl, hb2', HE2.out⟩
         case measure => simp [intOf]; omega
    ·have HRF : Hid (R = riseM [] ms) := hide (by
      rw [HR2.out, HRS.out, List.drop_of_length_le (by have := HFL.out; omega)]; simp [riseV])
     clear HRS HR2
     obtain ⟨wB, hwB⟩ : ∃ wB, wB = wr := ⟨_, rfl⟩
     have hkB := hk.below hbr hk.lt
     rw [← hwB]
     rw [← hwB] at hBr hkB
     clear hwB hbr hBc
     have c3 : wB.cell? ⟨w.heap.size, 3, none⟩ = some (.slice mA ml mc) := hkB.cell 3
     go_wp2_with fail
     clear c3
     go_loopw [78, 3] (fun i v wr => ∃ (k : Nat) (lst : List UInt8), k ≤ ml ∧ i = .int .i64 k ∧ v = S lst ∧ Below wB.heap.size wB wr ∧ riseM [] ms = riseM lst (ms.drop k)) (fun i _ _ => ml - (intOf i).toNat)
     case atStart => exact ⟨0, [], Nat.zero_le _, rfl, rfl, Below.refl _ _, rfl⟩
     case round =>
      obtain ⟨k, lst, hk', rfl, rfl, hbr, hrise⟩ := hrel
      have HRS := hide hrise
      have hB2 := hBr.trans (hbr.mono hBr.size)
      clear hrise
      by_cases hlt : k < ml
      ·obtain ⟨x, o, rfl, _, _, hcell⟩ := Rd.rec_ (size := 5) (fun _ => rfl) (hm.below hB2) HML.out k hlt
       have hlk : k < ms.length := by have := HML.out; omega
       have HD : Hid (ms.drop k = ms[k] :: ms.drop (k + 1)) := hide (List.drop_eq_getElem_cons hlk)
       have hmw := HM.out _ (List.getElem_mem hlk)
       obtain ⟨m, hm'⟩ : ∃ m, m = ms[k] := ⟨_, rfl⟩
       rw [← hm'] at hcell HD hmw
       clear hm'
       obtain ⟨sn, sst, sA, sk, sc, sps, srn, sra⟩ := m
       have HPL := hide hmw.2.1
       have hpm := hmw.2.2.1
       simp only at hpm
       have HMW := hide hmw
       clear hmw
       have q0 : wr.cell? ⟨x, o + k * 5, none⟩ = some (S sn) := hcell 0 _ rfl
       have q1 : wr.cell? ⟨x, o + k * 5 + 1, none⟩ = some (.bool sst) := hcell 1 _ rfl
       have q2 : wr.cell? ⟨x, o + k * 5 + 2, none⟩ = some (.slice sA sk sc) := hcell 2 _ rfl
       have q3 : wr.cell? ⟨x, o + k * 5 + 3, none⟩ = some (S srn) := hcell 3 _ rfl
       have q4 : wr.cell? ⟨x, o + k * 5 + 4, none⟩ = some (.bool sra) := hcell 4 _ rfl
       clear hcell
       have hgo : ∀ w, Calls Tryd.prog 21 #[.agg #[S srn, .bool sra]] w (Gives w (.bool (Ty.good ⟨srn, sra⟩))) := good_any srn sra
       have hps : ∀ w', Below w.heap.size w w' → Calls Tryd.prog 45 #[.slice sA sk sc, .func (.func 46) #[] #[]] w' (Gives w' (.bool (sps.any fun t => !t.good))) := fun w' hw' =>
        hasty_any sA sk sc sps (fun t => !t.good) w' ((HMW.out.below hw').1.weak (fun k hk => by have := hw'.size; omega)) HPL.out hpm (fun w'' _ u _ => notgood_any u w'')
       obtain ⟨G, hG⟩ : ∃ G, G = Ty.good ⟨srn, sra⟩ := ⟨_, rfl⟩
       obtain ⟨N, hN⟩ : ∃ N, N = (sps.any fun t => !t.good) := ⟨_, rfl⟩
       rw [← hG] at hgo
       rw [← hN] at hps
       obtain ⟨b1, d1⟩ : ∃ b, Op.bytesLess sn lst = b := ⟨_, rfl⟩
       obtain ⟨b2, d2⟩ : ∃ b, (sn == lst) = b := ⟨_, rfl⟩
       obtain ⟨b3, d3⟩ : ∃ b, decide (40 < (sn.length : Int)) = b := ⟨_, rfl⟩
       obtain ⟨b4, d4⟩ : ∃ b, decide (200 < (sk : Int)) = b := ⟨_, rfl⟩
       have HE : Hid (riseM [] ms = (!(b1 || b2) && !b3 && (G && !b4 && !N) && riseM sn (ms.drop (k + 1)))) := hide (by
        rw [HRS.out, HD.out, hG, hN, ← d1, ← d2, ← d3, ← d4]
        show (!(leqB sn lst) && decide (sn.length ≤ 40) && (Ty.good ⟨srn, sra⟩ && decide (sk ≤ 200) && !(sps.any fun t => !t.good)) && riseM sn (List.drop (k + 1) ms)) = _
        rw [dec_le sn.length 40, dec_le sk 200]
        rfl)
       have HGO := hide hgo
       have HCF := hide hps
       clear hgo hps hG hN HRS HD
       have hBw : Below w.heap.size w (wr.alloc (.cells #[S sn, .bool sst, .slice sA sk sc, S srn, .bool sra] 55)) := hB2.alloc hB2.size _
       by_cases e2 : sn = lst
       ·subst e2
        obtain rfl : b2 = true := by rw [← d2]; simp
        clear d2
        have HF : Hid (R = false) := hide (by rw [HRF.out, HE.out]; simp)
        cases b1
        all_goals
         go_wp2_with fail
         go_ret
         exact ⟨by rw [HF.out] <;> rfl, hBw⟩
       ·obtain rfl : b2 = false := by rw [← d2]; simpa using e2
        cases b1
        case true =>
         have HF : Hid (R = false) := hide (by rw [HRF.out, HE.out]; simp)
         go_wp2_with fail
         go_ret
         exact ⟨by rw [HF.out] <;> rfl, hBw⟩
        case false =>
         cases b3
         case true =>
          have HF : Hid (R = false) := hide (by rw [HRF.out, HE.out]; simp)
          go_wp2_with fail
          go_ret
          exact ⟨by rw [HF.out] <;> rfl, hBw⟩
         case false =>
          obtain ⟨w1, hw1⟩ : ∃ w1, w1 = wr.alloc (.cells #[S sn, .bool sst, .slice sA sk sc, S srn, .bool sra] 55) := ⟨_, rfl⟩
          have hv1 : Blk w1 wr.heap.size 55 #[S sn, .bool sst, .slice sA sk sc, S srn, .bool sra] := by rw [hw1]; exact Blk.new _ _ _
          have hb1 : Below wB.heap.size wB w1 := by rw [hw1]; exact hbr.alloc hbr.size _
          go_wp2_with fail
          rw [← hw1]
          clear hw1 q0 q1 q2 q3 q4
          refine (HGO.out w1).mono ?_
          rintro e w2 ⟨rfl, hb2⟩
          have hb2' := hb1.trans (hb2.mono hb1.size)
          have hv2 := hv1.below hb2 hv1.lt
          have hB2 := hBr.trans (hb2'.mono hBr.size)
          have c0 : w2.cell? ⟨wr.heap.size, 0, none⟩ = some (S sn) := hv2.cell 0
          have c2 : w2.cell? ⟨wr.heap.size, 2, none⟩ = some (.slice sA sk sc) := hv2.cell 2
          clear hb2 hb1 hv1 d1 d2 d3
          cases G
          case false =>
           have HF : Hid (R = false) := hide (by rw [HRF.out, HE.out]; simp)
           go_wp2_with fail
           go_ret
           exact ⟨by rw [HF.out] <;> rfl, hB2⟩
          case true =>
           cases b4
           case true =>
            have HF : Hid (R = false) := hide (by rw [HRF.out, HE.out]; simp)
            go_wp2_with fail
            go_ret
            exact ⟨by rw [HF.out] <;> rfl, hB2⟩
           case false =>
            go_wp2_with fail
            refine (HCF.out w2 hB2).mono ?_
            rintro e w3 ⟨rfl, hb3⟩
            have hb3' := hb2'.trans (hb3.mono hb2'.size)
            have hv3 := hv2.below hb3 hv2.lt
            have hB3 := hBr.trans (hb3'.mono hBr.size)
            have c3 : w3.cell? ⟨wr.heap.size, 0, none⟩ = some (S sn) := hv3.cell 0
            clear hb3 hb2' hv2 d4
            cases N
            case true =>
             have HF : Hid (R = false) := hide (by rw [HRF.out, HE.out]; simp)
             go_wp2_with fail
             go_ret
             exact ⟨by rw [HF.out] <;> rfl, hB3⟩
            case false =>
             have HE2 : Hid (riseM [] ms = riseM sn (ms.drop (k + 1))) := hide (by rw [HE.out]; simp)
             clear HE
             go_wp2_with fail
             go_roundw
             case rel => exact ⟨k + 1, sn, by omega, by go_num, rfl, hb3', HE2.out⟩
             case measure => simp [intOf]; omega
      ·have HY : Hid (R = true) := hide (by
        rw [HRF.out, HRS.out, List.drop_of_length_le (by have := HML.out; omega)]; simp [riseM])
       go_wp2_with fail
       go_ret
       exact ⟨by rw [HY.out] <;> rfl, hB2⟩
end Go.Proofs.YtmbegaobnpoefaaDoor
