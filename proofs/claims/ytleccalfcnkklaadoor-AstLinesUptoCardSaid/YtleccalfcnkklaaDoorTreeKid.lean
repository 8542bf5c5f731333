/- An expression's parts as text, walked: kid, rest, list; no statement of the seat is proved here. -/
import Derived.Test.YtleccalfcnkklaaDoorTreeLaid
import Derived.Deep.DeepCutAuto
import Derived.BigQuiet
import Derived.Lib.MinMax
namespace Go.Proofs.YtleccalfcnkklaaDoor
open Go.RowKit

theorem name_world {p : World → Prop} {w : World} (h : ∀ w', w' = w → p w') : p w := h w rfl
/-- What is known of the parts: how they lie, and that each one's text is had. -/
structure Had (w : World) (A : Option Addr) (k c : Nat) (ks : List Ex) (f : FuncId) : Prop where
  rd : Rd w (fun b => w.heap.size ≤ b) 11 A k (ks.flatMap Ex.cells)
  len : ks.length = k
  kc : k ≤ c
  cap : c ≤ 9223372036854775807
  tx : ∀ x ∈ ks, ∀ w', Below w.heap.size w w' → Calls Tryd.prog f #[x.val] w' (Gives w' (S x.text))
  bd : (ks.map fun x => x.text.length).sum + 4 * ks.length ≤ 1099511627776
theorem Had.on {w w' : World} {A : Option Addr} {k c : Nat} {ks : List Ex} {f : FuncId} (h : Had w A k c ks f) (hb : Below w.heap.size w w') : Had w' A k c ks f :=
  { h with rd := (h.rd.below hb).weak fun _ _ hk => Nat.le_trans hb.size hk, tx := fun x hx w'' hb' => h.tx x hx w'' (hb.trans (hb'.mono hb.size)) }
theorem Had.one {w : World} {A : Option Addr} {k c : Nat} {ks : List Ex} {f : FuncId} (h : Had w A k c ks f) {x : Ex} (hx : x ∈ ks) : x.text.length ≤ 1099511627776 := by
  have h1 := sum_mem (f := fun x : Ex => x.text.length) hx
  have := h.bd
  omega
set_option maxRecDepth 100000 in
set_option maxHeartbeats 4000000 in
theorem kid_any (kd ln co nu : Int) (n tn : List UInt8) (ta : Bool) (A : Option Addr) (k c : Nat) (on : List UInt8) (oa : Bool) (ow : List UInt8) (ks : List Ex) (i : Nat) (w : World) (h : Had w A k c ks 13) (hi : i ≤ 1) :
    Calls Tryd.prog 35 #[.agg #[.int .i64 kd, .int .i64 ln, .int .i64 co, .int .i64 nu, S n, S tn, .bool ta, .slice A k c, S on, .bool oa, S ow], .int .i64 (i : Int)] w (Gives w (S (kidT (ks.map Ex.text) i))) := by
  have HH := hide h
  have hk64 : k ≤ 9223372036854775807 := Nat.le_trans h.kc h.cap
  obtain ⟨R, hR⟩ : ∃ R, R = kidT (ks.map Ex.text) i := ⟨_, rfl⟩
  rw [← hR]
  by_cases hlt : i < k
  · obtain ⟨b, o, hA, _, hbl, hcs⟩ := Rd.rec_ (f := Ex.cells) Ex.cells_len h.rd h.len i hlt
    have hlk : i < ks.length := by have := h.len; omega
    have HT := hide (fun w' hb => h.tx ks[i] (List.getElem_mem hlk) w' hb)
    have HR : Hid (R = ks[i].text) := hide (by rw [hR, kidT]; simp [List.getD, hlk])
    generalize ks[i] = x at hcs HT HR
    obtain ⟨xd, xl, xo, xu, xn, xt, xa, xA, xk, xc, xs, xm, xb, xw⟩ := x
    subst hA
    obtain ⟨wA, hwA⟩ : ∃ wA, wA = w.alloc (.cells #[.int .i64 kd, .int .i64 ln, .int .i64 co, .int .i64 nu, S n, S tn, .bool ta, .slice (some ⟨b, o, none⟩) k c, S on, .bool oa, S ow] 29) := ⟨_, rfl⟩
    have hbA : Below w.heap.size w wA := by rw [hwA]; exact (Below.refl _ _).alloc (Nat.le_refl _) _
    have HBK : Hid (Blk wA w.heap.size 29 #[.int .i64 kd, .int .i64 ln, .int .i64 co, .int .i64 nu, S n, S tn, .bool ta, .slice (some ⟨b, o, none⟩) k c, S on, .bool oa, S ow]) := hide (by rw [hwA]; exact Blk.new _ _ _)
    have HBA := hide hbA
    have HCS : Hid (∀ j u, (Ex.cells (.mk xd xl xo xu xn xt xa xA xk xc xs xm xb xw))[j]? = some u → wA.cell? ⟨b, o + i * 11 + j, none⟩ = some u) := hide (fun j u hu => (World.cell?_of_block (w := w) (hbA.block b hbl)).trans (hcs j u hu))
    clear hR hcs hbA h
    have p7 := HBK.out.cell 7
    simp at p7
    have q0 := HCS.out 0 (.int .i64 xd) rfl
    have q1 := HCS.out 1 (.int .i64 xl) rfl
    have q2 := HCS.out 2 (.int .i64 xo) rfl
    have q3 := HCS.out 3 (.int .i64 xu) rfl
    have q4 := HCS.out 4 (S xn) rfl
    have q5 := HCS.out 5 (S xt) rfl
    have q6 := HCS.out 6 (.bool xa) rfl
    have q7 := HCS.out 7 (.slice xA xk xc) rfl
    have q8 := HCS.out 8 (S xm) rfl
    have q9 := HCS.out 9 (.bool xb) rfl
    have q10 := HCS.out 10 (S xw) rfl
    simp only [Nat.add_zero] at q0 q1 q2 q3 q4 q5 q6 q7 q8 q9 q10
    have hik : (i : Int) < (k : Int) := by omega
    have hi0 : i ≤ 1 := hi
    clear HBK
    go_enter Tryd.func35, Tryd.ntmps35
    go_upto_region 1 with fail
    rw [← hwA]
    clear hwA
    go_wp2_with fail
    refine (HT.out _ HBA.out).mono ?_
    rintro e w2 ⟨rfl, hb2⟩
    clear q0 q1 q2 q3 q4 q5 q6 q7 q8 q9 q10 p7
    go_wp2_with fail
    go_ret
    exact ⟨by rw [HR.out] <;> rfl, HBA.out.trans (hb2.mono HBA.out.size)⟩
  · have HR : Hid (R = nul) := hide (by rw [hR, kidT]; have := h.len; simp [List.getD, show ks.length ≤ i by omega])
    have hik : ¬ (i : Int) < (k : Int) := by omega
    have hb : ∀ o, Below w.heap.size w (w.alloc o) := fun o => (Below.refl _ _).alloc (Nat.le_refl _) o
    have HB := hide hb
    clear hR hb h
    go_enter Tryd.func35, Tryd.ntmps35
    go_wp2_with fail
    go_ret
    exact ⟨by rw [HR.out] <;> rfl, HB.out _⟩
theorem Had.tail {w : World} {b o k c : Nat} {ks : List Ex} {f : FuncId} (h : Had w (some ⟨b, o, none⟩) (k + 1) c ks f) : Had w (some ⟨b, o + 11, none⟩) k (c - 1) (ks.drop 1) f := by
  have hkc := h.kc
  have hc := h.cap
  have hl := h.len
  refine ⟨⟨?_, fun hk => ?_⟩, by simp; omega, by omega, by omega, fun x hx => h.tx x (List.mem_of_mem_drop hx), ?_⟩
  · rw [flat_len _ 11 Ex.cells_len]; simp; omega
  · obtain ⟨b', o', e, hF, hb, hcell⟩ := h.rd.2 (by omega)
    injection e with e
    injection e with e1 e2
    subst e1 e2
    refine ⟨b, o + 11, rfl, hF, hb, fun j u hu => ?_⟩
    have := hcell (11 + j) u (by
      obtain ⟨x, r, rfl⟩ : ∃ x r, ks = x :: r := by cases ks with | nil => simp at hl | cons x r => exact ⟨x, r, rfl⟩
      rw [List.flatMap_cons, List.getElem?_append_right (by rw [Ex.cells_len]; omega), Ex.cells_len]
      simpa using hu)
    rw [Nat.add_assoc]
    exact this
  · have hb := h.bd
    obtain ⟨x, r, rfl⟩ : ∃ x r, ks = x :: r := by cases ks with | nil => simp at hl | cons x r => exact ⟨x, r, rfl⟩
    simp only [List.map_cons, List.sum_cons, List.length_cons, List.drop_succ_cons, List.drop_zero] at hb ⊢
    omega
theorem Had.nought (w : World) (A' : Option Addr) (c' : Nat) (f : FuncId) {ks : List Ex} (hl : ks.length = 0) (hc : c' ≤ 9223372036854775807) : Had w A' 0 c' ks f := by
  obtain rfl : ks = [] := List.length_eq_zero_iff.1 hl
  exact ⟨⟨rfl, fun h => absurd h (Nat.lt_irrefl 0)⟩, rfl, by omega, hc, (fun x hx => by cases hx), by simp⟩

def rA (A : Option Addr) (k c : Nat) : Option Addr := if k = 0 ∨ c = 1 then A else A.map fun a => ⟨a.block, a.off + 11, none⟩
def rC (k c : Nat) : Nat := if k = 0 then c else c - 1
theorem Had.rest {w : World} {A : Option Addr} {k c : Nat} {ks : List Ex} {f : FuncId} (h : Had w A k c ks f) : Had w (rA A k c) (k - 1) (rC k c) (ks.drop 1) f := by
  have hl := h.len
  have hc := h.cap
  have hkc := h.kc
  rcases k with _ | k
  · exact Had.nought _ _ _ _ (by simp [hl]) (by simp [rC]; omega)
  · by_cases h1 : c = 1
    · obtain rfl : k = 0 := by omega
      exact Had.nought _ _ _ _ (by simp [hl]) (by simp [rC]; omega)
    · obtain ⟨b, o, rfl, _⟩ := h.rd.2 (by omega)
      have e1 : rA (some ⟨b, o, none⟩) (k + 1) c = some ⟨b, o + 11, none⟩ := by simp [rA, h1]
      have e2 : rC (k + 1) c = c - 1 := by simp [rC]
      rw [e1, e2]
      exact h.tail

set_option maxRecDepth 100000 in
set_option maxHeartbeats 4000000 in
theorem rest_any (kd ln co nu : Int) (n tn : List UInt8) (ta : Bool) (A : Option Addr) (k c : Nat) (on : List UInt8) (oa : Bool) (ow : List UInt8) (ks : List Ex) (w : World) (h : Had w A k c ks 13) :
    Calls Tryd.prog 37 #[.agg #[.int .i64 kd, .int .i64 ln, .int .i64 co, .int .i64 nu, S n, S tn, .bool ta, .slice A k c, S on, .bool oa, S ow]] w (Gives w (.slice (rA A k c) (k - 1) (rC k c))) := by
  have hc64 := h.cap
  have hkc := h.kc
  have hb : ∀ o, Below w.heap.size w (w.alloc o) := fun o => (Below.refl _ _).alloc (Nat.le_refl _) o
  have HB := hide hb
  have HRD := hide h.rd
  clear hb h
  rcases k with _ | k
  · have hmn : min (1 : Int) 0 = 0 := by omega
    have e1 : rA A 0 c = A := by simp [rA]
    have e2 : rC 0 c = c := by simp [rC]
    rw [e1, e2]
    go_enter Tryd.func37, Tryd.ntmps37
    go_wp2_with fail
    all_goals
      go_ret
      exact ⟨rfl, HB.out _⟩
  · obtain ⟨b, o, rfl, _⟩ := HRD.out.2 (by omega)
    have hmn : min (1 : Int) (((k + 1 : Nat)) : Int) = 1 := by omega
    have hmn2 : min (1 : Int) ((k : Int) + 1) = 1 := by omega
    have e2 : rC (k + 1) c = c - 1 := by simp [rC]
    rw [e2]
    clear HRD
    by_cases h1 : c = 1
    · obtain rfl : k = 0 := by omega
      subst h1
      have e1 : rA (some ⟨b, o, none⟩) (0 + 1) 1 = some ⟨b, o, none⟩ := by simp [rA]
      rw [e1]
      go_enter Tryd.func37, Tryd.ntmps37
      go_wp2_with fail
      all_goals
        go_ret
        exact ⟨rfl, HB.out _⟩
    · have h1' : ¬ (c : Int) = 1 := by omega
      have e1 : rA (some ⟨b, o, none⟩) (k + 1) c = some ⟨b, o + 11, none⟩ := by simp [rA, h1]
      rw [e1]
      go_enter Tryd.func37, Tryd.ntmps37
      go_wp2_with fail
      all_goals
        go_ret
        exact ⟨rfl, HB.out _⟩
theorem str_info5 : (Tryd.prog.info? 9).map (fun i => (i.zero, i.size, i.bytes)) = some (some (.string { data := #[] }), 1, 16) := by kernel_rfl
theorem own_belowT {w w' : World} {base n size : Nat} {e : TypeId} {v : Value} {xs : List Value} (h : w.ownsRow base e size v n xs) (hb : Below w.heap.size w w') : w'.ownsRow base e size v n xs :=
  own_keep (F := fun _ => False) h (Keep.of_below hb fun k hk hB => by omega) fun _ _ hf => hf
theorem own_baseT {w : World} {base n size : Nat} {e : TypeId} {v : Value} {xs : List Value} (h : w.ownsRow base e size v n xs) {k : Nat} (hk : v.ownBlock = some k) : base ≤ k ∧ k < w.heap.size := by
  rcases h.2 with ⟨rfl, _⟩ | ⟨g, cap, cur, rfl, hb, hh, _⟩
  · cases hk
  · have : g = k := by simpa [Value.ownBlock] using hk
    subst this
    exact ⟨hb, (Array.getElem?_eq_some_iff.1 hh).1⟩
/-- Joined, with a comma and a blank between. -/
theorem join_own {w : World} {B n : Nat} {v : Value} {ts : List (List UInt8)} (h : w.ownsRow B 9 1 v n (ts.map S)) (hl : (ts.map List.length).sum + 4 * ts.length ≤ 1099511627776) :
    Calls Tryd.prog 54 #[v, S [44, 32]] w (Gives w (S (joinC ts))) := by
  have hn : ts.length = n := by have := h.1; simpa using this
  rcases h.2 with ⟨rfl, rfl⟩ | ⟨g, cap, cur, rfl, hb, hh, hnc, hcm, hcs, htk⟩
  · obtain rfl : ts = [] := List.length_eq_zero_iff.1 hn
    refine (Tryd.strings_Join_none none 0 ⟨#[44, 32]⟩ w).mono ?_
    rintro e w' ⟨rfl, rfl⟩
    exact ⟨rfl, Below.refl _ _⟩
  · have hjl := join_len ts [44, 32]
    have hx : (ts.map fun t => (⟨t.toArray⟩ : ByteArray)).length = n := by rw [List.length_map]; exact hn
    have hd : (ts.map fun t => (⟨t.toArray⟩ : ByteArray)).map (·.data.toList) = ts := by
      rw [List.map_map]
      exact (List.map_congr_left fun t _ => rfl).trans (List.map_id _)
    have hJ := Tryd.strings_Join g 0 cap (ts.map fun t => (⟨t.toArray⟩ : ByteArray)) ⟨#[44, 32]⟩ w (fun j x hj => by
      rw [cell_of_row w g (0 + j) cur 9 (0, 0) hh, Nat.zero_add]
      have hj2 : (ts.map S)[j]? = some (.string x) := by
        rw [List.getElem?_map] at hj ⊢
        cases ht : ts[j]? with
        | none => rw [ht] at hj; simp at hj
        | some t => rw [ht] at hj; simp only [Option.map_some, Option.some.injEq] at hj ⊢; rw [← hj]
      rw [← htk] at hj2
      rw [List.getElem?_take] at hj2
      split at hj2
      · simpa using hj2
      · cases hj2) (Array.getElem?_eq_some_iff.1 hh).1 (by rw [hx]; omega) (by rw [hx]; exact hnc) (by rw [hd]; simp at hjl ⊢; omega)
    rw [hd, hx] at hJ
    refine hJ.mono ?_
    rintro e w' ⟨rfl, hb⟩
    exact ⟨rfl, hb⟩

set_option maxRecDepth 100000 in
set_option maxHeartbeats 4000000 in
theorem list_any (A : Option Addr) (k c : Nat) (ks : List Ex) (w : World) (h : Had w A k c ks 13) :
    Calls Tryd.prog 36 #[.slice A k c] w (Gives w (S (joinC (ks.map Ex.text)))) := by
  have HH := hide h
  have hk64 : k ≤ 9223372036854775807 := Nat.le_trans h.kc h.cap
  have hkb : k ≤ 274877906944 := by have h1 := h.bd; have h2 := h.len; omega
  have HBD : Hid (((ks.map Ex.text).map List.length).sum + 4 * (ks.map Ex.text).length ≤ 1099511627776) := hide (by rw [List.map_map, List.length_map]; exact h.bd)
  clear h
  go_enter Tryd.func36, Tryd.ntmps36
  go_wp2_with fail
  go_loopw [3, 8] (fun v i wr => ∃ j : Nat, j ≤ k ∧ i = .int .i64 j ∧ Hid (Below w.heap.size w wr) ∧ ∃ a' c', v = .slice a' j c' ∧ Hid (wr.ownsRow w.heap.size 9 1 (.slice a' j c') j (((ks.take j).map Ex.text).map S))) (fun _ i _ => k - (intOf i).toNat)
  case atStart => exact ⟨0, Nat.zero_le _, rfl, hide (Below.refl _ _), none, 0, rfl, hide ⟨rfl, .inl ⟨rfl, rfl⟩⟩⟩
  case round =>
    obtain ⟨j, hj, rfl, HBR, a', c', rfl, HO⟩ := hrel
    by_cases hlt : j < k
    · obtain ⟨b, o, hA, _, hbl, hcs⟩ := Rd.rec_ (f := Ex.cells) Ex.cells_len (HH.out.on HBR.out).rd HH.out.len j hlt
      have hlk : j < ks.length := by have := HH.out.len; omega
      have HT := hide (fun w' hb => HH.out.tx ks[j] (List.getElem_mem hlk) w' hb)
      have HTK : Hid (((ks.take (j + 1)).map Ex.text).map S = ((ks.take j).map Ex.text).map S ++ [S ks[j].text]) := hide (by rw [List.take_succ_eq_append_getElem hlk, List.map_append, List.map_append]; rfl)
      generalize ks[j] = x at hcs HT HTK
      obtain ⟨xd, xl, xo, xu, xn, xt, xa, xA, xk, xc, xs, xm, xb, xw⟩ := x
      obtain ⟨X, hX⟩ : ∃ X, X = Ex.text (.mk xd xl xo xu xn xt xa xA xk xc xs xm xb xw) := ⟨_, rfl⟩
      rw [← hX] at HT HTK
      clear hX
      obtain ⟨L, hL⟩ : ∃ L, L = ((ks.take j).map Ex.text).map S := ⟨_, rfl⟩
      rw [← hL] at HO HTK
      clear hL
      have q0 := hcs 0 (.int .i64 xd) rfl
      have q1 := hcs 1 (.int .i64 xl) rfl
      have q2 := hcs 2 (.int .i64 xo) rfl
      have q3 := hcs 3 (.int .i64 xu) rfl
      have q4 := hcs 4 (S xn) rfl
      have q5 := hcs 5 (S xt) rfl
      have q6 := hcs 6 (.bool xa) rfl
      have q7 := hcs 7 (.slice xA xk xc) rfl
      have q8 := hcs 8 (S xm) rfl
      have q9 := hcs 9 (.bool xb) rfl
      have q10 := hcs 10 (S xw) rfl
      simp only [Nat.add_zero] at q0 q1 q2 q3 q4 q5 q6 q7 q8 q9 q10
      clear hcs
      rw [hA]
      have hjk : (j : Int) < (k : Int) := by omega
      go_upto_region 5 with fail
      refine name_world ?_
      intro wC hwC
      have HBC : Hid (Below w.heap.size w wC) := hide (by rw [hwC]; exact HBR.out.alloc HBR.out.size _)
      have HBV : Hid (Blk wC wr.heap.size 29 #[.int .i64 xd, .int .i64 xl, .int .i64 xo, .int .i64 xu, S xn, S xt, .bool xa, .slice xA xk xc, S xm, .bool xb, S xw]) := hide (by rw [hwC]; exact Blk.new _ _ _)
      have HOC := hide (show wC.ownsRow w.heap.size 9 1 (.slice a' j c') j L from by rw [hwC]; exact HO.out.alloc _)
      clear hwC HO HBR q0 q1 q2 q3 q4 q5 q6 q7 q8 q9 q10
      generalize wr.heap.size = q1 at HBV ⊢
      have q0 := HBV.out.cell 0
      have q1 := HBV.out.cell 1
      have q2 := HBV.out.cell 2
      have q3 := HBV.out.cell 3
      have q4 := HBV.out.cell 4
      have q5 := HBV.out.cell 5
      have q6 := HBV.out.cell 6
      have q7 := HBV.out.cell 7
      have q8 := HBV.out.cell 8
      have q9 := HBV.out.cell 9
      have q10 := HBV.out.cell 10
      simp at q0 q1 q2 q3 q4 q5 q6 q7 q8 q9 q10
      go_wp2_with fail
      refine (HT.out _ HBC.out).mono ?_
      rintro e w2 ⟨rfl, hb2⟩
      have HO2 := hide (own_belowT HOC.out hb2)
      have HB2 : Hid (Below w.heap.size w w2) := hide (HBC.out.trans (hb2.mono HBC.out.size))
      clear hb2 HOC HBC HBV q0 q1 q2 q3 q4 q5 q6 q7 q8 q9 q10
      go_wp2_with (at_builtin; refine app1 rfl (.tmp 12) (.tmp 15) 66 rfl w.heap.size 9 (.string { data := #[] }) 16 Tryd.underlying66 str_info5 rfl _ j L rfl HO2.out (S X) rfl rfl (by omega) (by omega) HB2.out.size ?_)
      intro a4 c4 w4 hown4 hgrow4 _
      have HO4 := hide (show w4.ownsRow w.heap.size 9 1 (.slice a4 (j + 1) c4) (j + 1) (((ks.take (j + 1)).map Ex.text).map S) from by rw [HTK.out]; exact hown4)
      have HB4 : Hid (Below w.heap.size w w4) := hide (HB2.out.grown hgrow4 HB2.out.size (fun k hk => (own_baseT HO2.out hk).1))
      clear hown4 hgrow4 HO2 HB2
      go_wp2_with fail
      go_roundw
      case rel => first | exact ⟨j + 1, by omega, by go_num, HB4, a4, c4, rfl, HO4⟩ | ((repeat apply Exists.intro); exact ⟨⟨j + 1, by omega, by go_num, HB4, a4, c4, rfl, HO4⟩, rfl⟩)
      case measure => simp [intOf]; omega
    · obtain rfl : j = k := by omega
      have HO2 := hide (show wr.ownsRow w.heap.size 9 1 (.slice a' j c') j ((ks.map Ex.text).map S) from by have := HO.out; rwa [List.take_of_length_le (by rw [HH.out.len]; omega)] at this)
      clear HO
      go_wp2_with (go_at_call 54; refine (join_own HO2.out HBD.out).mono ?_; rintro e w5 ⟨rfl, hb5⟩)
      go_ret
      exact ⟨rfl, HBR.out.trans (hb5.mono HBR.out.size)⟩
    end Go.Proofs.YtleccalfcnkklaaDoor
