/- deps.Reads, walked; no statement of the seat is proved here. -/
import Derived.Test.YthehimjdjgmnjaaDepDig
import Derived.Laws.Tables
namespace Go.Proofs.Ythehimjdjgmnjaa
open Go.RowKit Go.Maps
set_option linter.unusedVariables false

/-- What a name's look-up leaves. -/
def rdOf (T : List Fc) (n : List UInt8) : Rdq := ⟨n, digM T n⟩
set_option maxRecDepth 100000 in
theorem built_rd (n d : List UInt8) (h : d.length = 32) : Try.prog.built 77 [(0, S n), (1, .agg (darr d))] = some (Rdq.cells ⟨n, d⟩).toArray := by
  match d, h with
  | [a0, a1, a2, a3, a4, a5, a6, a7, a8, a9, b0, b1, b2, b3, b4, b5, b6, b7, b8, b9, c0, c1, c2, c3, c4, c5, c6, c7, c8, c9, d0, d1], _ => (show (_ : Option (Array Value)) = _; kernel_rfl)
theorem wpList_readOf {ops : Array Oper} {rest : List Oper} {o : Oper} {a : Act} {w : World} {Q : Exit → Act → World → Prop} (hg : o.guard = none) (x y : Operand) (ho : o.op = .build 77 #[(0, x), (1, y)])
    (n d : List UInt8) (v : Array Value) (hx : a.eval x = S n) (hy : a.eval y = .agg v) (hv : v = darr d) (hl : d.length = 32) (u : Array Value) (hu : u = (Rdq.cells ⟨n, d⟩).toArray)
    (h : wpList Try.prog ops Q rest (a.put o.dst (.agg u)) w) : wpList Try.prog ops Q (o :: rest) a w := by
  have e : Try.prog.built 77 ((#[(0, x), (1, y)] : Array (Nat × Operand)).map fun (i, x) => (i, a.eval x)).toList = some u := by
    simp only [List.map_toArray, List.map_cons, List.map_nil, hx, hy]
    rw [hv, hu]
    exact built_rd n d hl
  refine wpList_build hg 77 #[(0, x), (1, y)] ho (by rw [e]; rfl) ?_
  rw [e]
  exact h

set_option maxRecDepth 100000 in
set_option maxHeartbeats 4000000 in
theorem reads_any (w0 : World) (g m s n : Nat) (T : List Fc) (A : Option Addr) (k c : Nat) (L : List (List UInt8)) (w : World) (h : Tab w g m s T n) (hn : n + k ≤ 1000000) (hk : k ≤ 1000) (hL : L.length = k) (hS : ∀ x ∈ L, short x)
    (hr : Rd w (fun b => b = s ∨ w.heap.size ≤ b) 1 A k (L.map S)) (hT : FcsOk w0 T) (hB0 : Below w0.heap.size w0 w) (hs0 : w0.heap.size ≤ s) :
    Calls Try.prog 9 #[.pointer (some ⟨g, 0, none⟩), .slice A k c] w (fun e w' => ∃ A2 c2, e = .returned (.slice A2 k c2) ∧ w'.ownsRow w.heap.size 77 33 (.slice A2 k c2) k ((L.map (rdOf T)).flatMap Rdq.cells) ∧ Tab w' g m s T (n + k) ∧ Keep (fun b => b = s) w w') := by
  have HLL := hide hL
  have HSS := hide hS
  have HT := hide h
  have HFO := hide hT
  have HBO := hide (And.intro hB0 hs0)
  have HN := hide hn
  have HSL : Hid (s < w.heap.size) := hide h.slt
  have HZC : Hid ((Value.agg ZR).cells.size = 33) := hide rfl
  clear h hn hT hB0 hs0 hL hS
  go_enter Try.func9, Try.ntmps9
  go_wp2_with fail
  go_loopw [5, 10] (fun u i wr => ∃ (t : Nat) (A2 : Option Addr) (c2 : Nat), t ≤ k ∧ u = .slice A2 t c2 ∧ i = .int .i64 t ∧ Hid (wr.ownsRow w.heap.size 77 33 (.slice A2 t c2) t (((L.take t).map (rdOf T)).flatMap Rdq.cells)) ∧ Hid (Tab wr g m s T (n + t)) ∧ Hid (Keep (fun b => b = s) w wr)) (fun _ i _ => k - (intOf i).toNat)
  case atStart => exact ⟨0, none, 0, Nat.zero_le _, rfl, rfl, hide (World.ownsRow_nil _ _ _ _), HT, hide (Keep.refl _ _)⟩
  case round =>
    obtain ⟨t, A2, c2, ht, rfl, rfl, HOW, HTA, HK⟩ := hrel
    by_cases hlt : t < k
    · have hlt2 : t < L.length := by rw [HLL.out]; exact hlt
      obtain ⟨nm, hnm⟩ : ∃ x, x = L[t] := ⟨_, rfl⟩
      have HSN : Hid (short nm) := hide (by rw [hnm]; exact HSS.out _ (List.getElem_mem hlt2))
      have HTK : Hid ((L.take (t + 1)).map (rdOf T) = (L.take t).map (rdOf T) ++ [⟨nm, digM T nm⟩]) := hide (by rw [List.take_add_one, List.getElem?_eq_getElem hlt2, List.map_append, hnm]; rfl)
      have hrr : Rd wr (fun b => b = s ∨ w.heap.size ≤ b) 1 A k (L.map S) := hr.keep ((Keep.refl _ w).trans' HK.out (fun _ _ h => .inl h))
      obtain ⟨x, o, rfl, hx1, _, hcell⟩ := Rd.rec_ (size := 1) (l := L) (f := fun l => [S l]) (fun _ => rfl) (by rw [← List.map_eq_flatMap]; exact hrr) HLL.out t hlt
      have q0 : wr.cell? ⟨x, o + t, none⟩ = some (S nm) := by have := hcell 0 (S nm) (by rw [hnm]; rfl); simpa using this
      clear hcell hrr
      have HDD := hide (ddig_any w0 g m s (n + t) T nm wr HTA.out (by have := HN.out; omega) HSN.out HFO.out (HBO.out.1.trans (HK.out.below (B := w0.heap.size) HBO.out.1.size (fun k hk => by rw [hk]; exact HBO.out.2))) HBO.out.2)
      obtain ⟨dg, hdg⟩ : ∃ d, d = digM T nm := ⟨_, rfl⟩
      rw [← hdg] at HDD HTK
      have HDL : Hid (dg.length = 32) := hide (by rw [hdg, digM_len])
      obtain ⟨dz, hdz⟩ : ∃ d, d = darr dg := ⟨_, rfl⟩
      rw [← hdz] at HDD
      have HDZ : Hid (∀ _ : Unit, dz = darr dg) := hide (fun _ => hdz)
      obtain ⟨xv, hxv⟩ : ∃ v, v = (Rdq.cells ⟨nm, dg⟩).toArray := ⟨_, rfl⟩
      have HXV : Hid (∀ _ : Unit, xv = (Rdq.cells ⟨nm, dg⟩).toArray) := hide (fun _ => hxv)
      have HV' := hide (RdV.mk_ ⟨nm, dg⟩)
      rw [← hxv] at HV'
      clear hdg hdz hxv hnm
      go_upto_region 5 with fail
      go_upto_region 6 with (first
        | (go_at_call 19; refine HDD.out.mono ?_; rintro e w3 ⟨rfl, h31, h32⟩; have HT3 := hide h31; have HK3 := hide h32; have HOW3 := hide (own_keep HOW.out h32 (fun i hi h => by have := own_base HOW.out hi; have := HSL.out; omega)); clear h31 h32)
        | (refine wpList_readOf rfl (.tmp 15) (.tmp 18) rfl nm dg dz rfl rfl (HDZ.out ()) HDL.out xv (HXV.out ()) ?_)
        | (refine wpList_part rfl 37 77 (.tmp 19) rfl 33 xv rfl HV'.out.size (by decide) (by decide) Try.underlying37 rd_info2 ?_)
        | (at_builtin; have e1 := HOW3.out.alloc (.cells xv 77); have e2 : Blk (w3.alloc (.cells xv 77)) w3.heap.size 77 xv.toList.toArray := (by rw [Array.toArray_toList]; exact Blk.new _ _ _); refine wpList_appB rfl (.tmp 14) (.tmp 20) 37 rfl w.heap.size 77 (.agg ZR) 33 48 Try.underlying37 rd_info3 HZC.out (by decide) (.slice A2 t c2) t (((L.take t).map (rdOf T)).flatMap Rdq.cells) ?hs e1 w3.heap.size xv.toList ?hx ?hl e2 ?h1 ?h63 ?hbytes ?hbase ?h; (case hs => exact rfl); (case hx => exact rfl); (case hl => (rw [Array.length_toList]; exact HV'.out.size)); (case h1 => exact all_one HV'.out.one); (case h63 => (unfold maxLen; omega)); (case hbytes => omega); (case hbase => (have := HK.out.size; have := HK3.out.size; simp; omega)); intro A4 c4 w9 hown9 hg9; clear e1 e2; have HOWN9 := hide hown9; have HG9 := hide hg9; clear hown9 hg9))
      have HK9 : Hid (Keep (fun i => some i = (Value.slice A2 t c2).ownBlock) w3 w9) := hide (((Keep.refl _ w3).alloc _).grown HG9.out (fun i hi _ => hi.symm))
      have HON : Hid (w9.ownsRow w.heap.size 77 33 (.slice A4 (t + 1) c4) (t + 1) (((L.take (t + 1)).map (rdOf T)).flatMap Rdq.cells)) := hide (by
        have h0 := HOWN9.out
        rw [HXV.out (), List.toList_toArray] at h0
        rw [HTK.out, List.flatMap_append, List.flatMap_singleton]
        exact h0)
      have HTN : Hid (Tab w9 g m s T (n + (t + 1))) := hide (HT3.out.keep HK9.out (fun h => by have := own_base HOW3.out h.symm; have := HT.out.blk.lt; omega) (fun h => by have := own_base HOW3.out h.symm; have := HT.out.faces.lt; omega) (fun h => by have := own_base HOW3.out h.symm; have := HSL.out; omega))
      have HKN : Hid (Keep (fun b => b = s) w w9) := hide ((HK.out.trans HK3.out).trans' HK9.out (fun i hi h => by have := own_base HOW3.out h.symm; omega))
      clear HK9 HOWN9 HG9 HT3 HK3 HOW3 HOW HTA HK HDD
      go_wp2_with fail
      go_roundw
      · exact ⟨t + 1, A4, c4, by omega, rfl, rfl, HON, HTN, HKN⟩
      · simp [intOf]; omega
    · obtain rfl : t = k := by omega
      clear hlt
      go_wp2_with fail
      go_ret
      refine ⟨A2, c2, rfl, ?_, HTA.out, HK.out⟩
      have h0 := HOW.out
      rwa [List.take_of_length_le (by have := HLL.out; omega)] at h0
end Go.Proofs.Ythehimjdjgmnjaa
