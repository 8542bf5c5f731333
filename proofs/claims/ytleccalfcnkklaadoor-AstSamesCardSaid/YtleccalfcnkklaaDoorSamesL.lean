/- Two classes held against each other; small laws of rows; no statement of the seat is proved here. -/
import Derived.Test.YtleccalfcnkklaaDoorKlSame
import Derived.Test.YtleccalfcnkklaaDoorKlFew
import Derived.Test.YtleccalfcnkklaaDoorAppRdK
namespace Go.Proofs.YtleccalfcnkklaaDoor
open Go.RowKit

set_option linter.unusedVariables false
theorem me_info : (Tryd.prog.info? 48).map (fun i => (i.zero, i.size, i.bytes)) = some (some (.agg #[.int .i64 0, .int .i64 0, .string ⟨#[]⟩, .bool false, .slice none 0 0, .string ⟨#[]⟩, .bool false, .slice none 0 0]), 8, 112) := by kernel_rfl
theorem vr_info : (Tryd.prog.info? 50).map (fun i => (i.zero, i.size, i.bytes)) = some (some (.agg #[.string ⟨#[]⟩, .string ⟨#[]⟩, .bool false]), 3, 40) := by kernel_rfl
theorem st_info : (Tryd.prog.info? 53).map (fun i => (i.zero, i.size, i.bytes)) = some (some (.agg #[.int .i64 0, .int .i64 0, .int .i64 0, .string ⟨#[]⟩, .string ⟨#[]⟩, .bool false, .slice none 0 0, .slice none 0 0, .slice none 0 0]), 9, 136) := by kernel_rfl
theorem own_lit (w : World) (B : Nat) (hB : B ≤ w.heap.size) (e : TypeId) (size : Nat) : (w.alloc (.cells #[] e)).ownsRow B e size (.slice (some ⟨w.heap.size, 0, none⟩) 0 0) 0 [] :=
  ⟨by simp, .inr ⟨w.heap.size, 0, #[], rfl, hB, heap_alloc_new w _, Nat.le_refl _, by simp [maxLen], by simp, by simp⟩⟩
theorem rd_lit (w : World) (e : TypeId) (cs : Array Value) (size : Nat) {F : Nat → Prop} (hF : ¬ F w.heap.size) (hc : cs.size = size) : Rd (w.alloc (.cells cs e)) F size (some ⟨w.heap.size, 0, none⟩) 1 cs.toList :=
  ⟨by simp [hc], fun _ => ⟨w.heap.size, 0, rfl, hF, by simp, fun j u hu => by
    have := (Blk.new w e cs).cell j
    rw [Nat.zero_add, this]
    simpa using hu⟩⟩
theorem own_rd {w : World} {B n size : Nat} {e : TypeId} {A : Option Addr} {c : Nat} {xs : List Value} {F : Nat → Prop} (h : w.ownsRow B e size (.slice A n c) n xs) (hF : ∀ k, k < w.heap.size → ¬ F k) : Rd w F size A n xs := by
  refine ⟨h.1, fun hn => ?_⟩
  rcases h.2 with ⟨e1, h0⟩ | ⟨g, cap, cur, e1, hb, hh, _⟩
  · omega
  · injection e1 with e1 _ _
    have hlt : g < w.heap.size := (Array.getElem?_eq_some_iff.1 hh).1
    refine ⟨g, 0, e1, hF g hlt, hlt, fun j u hu => ?_⟩
    have := h.cells (g := g) (by rw [e1]; rfl) j u hu
    simpa [Addr.add_lit] using this
theorem own_cap {w : World} {B n size : Nat} {e : TypeId} {A : Option Addr} {c : Nat} {xs : List Value} (h : w.ownsRow B e size (.slice A n c) n xs) : n ≤ c ∧ c ≤ 9223372036854775807 := by
  rcases h.2 with ⟨e1, h0⟩ | ⟨g, cap, cur, e1, hb, hh, h1, h2, _⟩
  · injection e1 with _ e2 e3; omega
  · injection e1 with _ _ e3; subst e3; exact ⟨h1, by simpa [maxLen] using h2⟩
theorem rd_blk {w : World} {g : Nat} {T : TypeId} {cur : Array Value} {size n : Nat} {xs : List Value} {F : Nat → Prop} (hB : Blk w g T cur) (htk : cur.toList.take (n * size) = xs) (hl : xs.length = n * size) (hF : ¬ F g) : Rd w F size (some ⟨g, 0, none⟩) n xs :=
  ⟨hl, fun _ => ⟨g, 0, rfl, hF, hB.lt, fun j u hu => by
    rw [Nat.zero_add, hB.cell]
    rw [← htk, List.getElem?_take] at hu
    split at hu
    · simpa using hu
    · cases hu⟩⟩
theorem cur_at {cur : Array Value} {N j : Nat} {xs : List Value} (htk : cur.toList.take N = xs) (hj : j < N) : cur[j]? = xs[j]? := by
  rw [← htk, List.getElem?_take, if_pos hj]
  simp
theorem cur_set {cur : Array Value} {N j : Nat} {xs : List Value} (htk : cur.toList.take N = xs) (u : Value) : (cur.setIfInBounds j u).toList.take N = xs.set j u := by
  rw [Array.toList_setIfInBounds, List.take_set, htk]
theorem blk_ne {w : World} {g g' : Nat} {t t' : TypeId} {cs cs' : Array Value} (h : Blk w g t cs) (h' : Blk w g' t' cs') (ht : t ≠ t') : g ≠ g' := by
  intro e
  subst e
  have := Option.some.inj (h.symm.trans h')
  injection this with _ e
  exact ht e

set_option maxRecDepth 100000 in
theorem eqfst_len (A1 : Option Addr) (k1 c1 : Nat) (A2 : Option Addr) (k2 c2 : Nat) (w : World) (h : k1 ≠ k2) : Calls Tryd.prog 44 #[.slice A1 k1 c1, .slice A2 k2 c2, .func (.func 26) #[] #[]] w (Gives w (.bool false)) := by
  have hk2 : ¬ (k1 : Int) = (k2 : Int) := by omega
  go_enter Tryd.func44, Tryd.ntmps44
  go_wp2_with fail
  go_ret
  exact ⟨rfl, Below.refl _ _⟩
/-- Bodies: the same slice, or of unlike length. -/
def alike (m o : Me) : Prop := (m.bA = o.bA ∧ m.bk = o.bk ∧ m.bc = o.bc ∧ m.bs = o.bs) ∨ m.bk ≠ o.bk
theorem body_any {m o : Me} (h : alike m o) (w : World) (hm : m.At w (fun b => w.heap.size ≤ b)) : Calls Tryd.prog 44 #[.slice m.bA m.bk m.bc, .slice o.bA o.bk o.bc, .func (.func 26) #[] #[]] w (Gives w (.bool (decide (m.bk = o.bk)))) := by
  rcases h with ⟨h1, h2, h3, h4⟩ | h
  · rw [← h1, ← h2, ← h3]
    have := eqfst_self m.bA m.bk m.bc m.bs w hm.br hm.bl hm.bm (fun x hx w4 hb4 => ssame_any x w4 ((hm.ba x hx).on hb4))
    simpa using this
  · have := eqfst_len m.bA m.bk m.bc o.bA o.bk o.bc w h
    simpa [h] using this
def pSame (m o : Me) : Bool := mSame m o (decide (m.bk = o.bk))
theorem pair_any (c d : Kl) (w : World) (hc : c.At w (fun b => w.heap.size ≤ b)) (hd : d.At w (fun b => w.heap.size ≤ b)) (hal : ∀ i (a : i < c.ms.length) (b : i < d.ms.length), alike c.ms[i] d.ms[i]) :
    Calls Tryd.prog 24 #[c.val, d.val] w (Gives w (.bool (cSame c d (eqA pSame c.ms d.ms)))) :=
  csame_any c d (eqA pSame c.ms d.ms) w hc.fr hc.fl (Nat.le_trans hc.fm.1 hc.fm.2) hd.fr hd.fl (fun w' hb => by
    have h2 := hc.on hb
    have h3 := hd.on hb
    exact eqfme_any c.mA c.mq c.mc c.ms d.mA d.mq d.mc d.ms pSame w' h2.mr h2.ml (Nat.le_trans h2.mm.1 h2.mm.2) h3.mr h3.ml (Nat.le_trans h3.mm.1 h3.mm.2) (fun i a b w2 hb2 => by
      have h4 := (h2.ma _ (List.getElem_mem a)).on hb2
      have h5 := (h3.ma _ (List.getElem_mem b)).on hb2
      exact msame_any _ _ _ w2 h4 h5 (fun w3 hb3 => body_any (hal i a b) w3 (h4.on hb3))))
theorem alike_refl (m : Me) : alike m m := .inl ⟨rfl, rfl, rfl, rfl⟩
theorem pSame_refl (m : Me) : pSame m m = true := by simp [pSame, mSame]
/-- Two rows of methods, the first turned. -/
theorem alike_cons {m m' : Me} {r : List Me} (h : alike m m') : ∀ i (a : i < (m :: r).length) (b : i < (m' :: r).length), alike (m :: r)[i] (m' :: r)[i]
  | 0, _, _ => h
  | i + 1, _, _ => alike_refl _
theorem alike_same {r : List Me} : ∀ i (a : i < r.length) (b : i < r.length), alike r[i] r[i] := fun _ _ _ => alike_refl _
theorem eqA_head {m m' : Me} {r : List Me} : eqA pSame (m :: r) (m' :: r) = pSame m m' := by
  cases h : pSame m m' with
  | false => exact eqA_no (i := 0) (by simp) (by simp) h
  | true =>
    refine eqA_all rfl fun i a b => ?_
    cases i with
    | zero => exact h
    | succ i => exact pSame_refl _
theorem newst_at (w : World) (F : Nat → Prop) : (St.mk 6 0 0 [] [] false none 0 0 [] none 0 0 [] none 0 0 []).At w F :=
  .mk (Rd.nil _ _ _ _) rfl (by omega) (by omega) (by simp) (Rd.nil _ _ _ _) rfl (by omega) (by omega) (by simp) (Rd.nil _ _ _ _) rfl (by omega) (by omega) (by simp) (by unfold i64B; omega) ⟨by simp, by simp⟩
theorem i64_lowT (p : Nat) (m : Nat) (hp : p < 63) (hm : m = 2 ^ p - 1) (n : Int) : ∃ N : Nat, N ≤ m ∧ bits .and .i64 n (m : Int) = (N : Int) := by
  have hpp : 2 ^ p < 2 ^ 64 := Nat.pow_lt_pow_right (by decide) (by omega)
  have h1 : (BitVec.ofInt 64 (m : Int)).toNat = m := by
    rw [BitVec.toNat_ofInt]
    have : ((m : Int) % ((2 ^ 64 : Nat) : Int)).toNat = m % 2 ^ 64 := by omega
    rw [this, Nat.mod_eq_of_lt (by omega)]
  have h2 : (BitVec.ofInt 64 n &&& BitVec.ofInt 64 (m : Int)).toNat ≤ m := by
    rw [BitVec.toNat_and, h1]
    exact Nat.and_le_right
  have hp2 : 2 ^ p ≤ 2 ^ 62 := Nat.pow_le_pow_right (by decide) (by omega)
  refine ⟨(BitVec.ofInt 64 n &&& BitVec.ofInt 64 (m : Int)).toNat, h2, ?_⟩
  show IntKind.i64.wrap ((BitVec.ofInt 64 n &&& BitVec.ofInt 64 (m : Int)).toNat : Int) = _
  rw [IntWalk.i64_in _ (by omega)]
end Go.Proofs.YtleccalfcnkklaaDoor
