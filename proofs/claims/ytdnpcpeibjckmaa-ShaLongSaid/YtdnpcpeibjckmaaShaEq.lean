/- Digests compared; the plain laws of hex; no statement of the seat is proved here. -/
import Derived.Test.YtdnpcpeibjckmaaShaParse
import Derived.ChangeKeysEq
namespace Go.Proofs.Ytdnpcpeibjckmaa
open Go.RowKit

section
variable {P : Program}
theorem eqItems_bytes (w : World) (d : Nat) {e : TypeId} (he : P.underlying e = some (.int .u8)) (xs ys : List UInt8) : ∀ is : List Nat, (∀ i ∈ is, i < xs.length ∧ i < ys.length) →
    (Op.eqItems (d + 1) e 1 (darr xs) (darr ys) is).run P w = .ok (is.all fun i => xs.getD i 0 == ys.getD i 0) w
  | [], _ => by simp [Op.eqItems]
  | i :: is, h => by
    obtain ⟨h1, h2⟩ := h i (by simp)
    have ih := eqItems_bytes w d he xs ys is fun j hj => h j (by simp [hj])
    have p1 : (Go.part e (darr xs) (i * 1)).run P w = .ok (B8 (xs.getD i 0)) w := by
      simp [Go.part, isAgg, run_underlying he, darr, h1]
    have p2 : (Go.part e (darr ys) (i * 1)).run P w = .ok (B8 (ys.getD i 0)) w := by
      simp [Go.part, isAgg, run_underlying he, darr, h2]
    have p3 : (Op.equalIn (d + 1) e (B8 (xs.getD i 0)) (B8 (ys.getD i 0))).run P w = .ok (xs.getD i 0 == ys.getD i 0) w := by
      rw [run_equalIn_int w d e .u8 .u8 _ _ he]
      congr 1
      generalize xs.getD i 0 = a
      generalize ys.getD i 0 = b
      by_cases hab : a = b
      · subst hab; simp
      · have : a.toNat ≠ b.toNat := fun h => hab (UInt8.toNat_inj.1 h)
        rw [beq_eq_false_iff_ne.2 hab, beq_eq_false_iff_ne]
        omega
    simp only [Op.eqItems, Sem.run_bind, p1, p2, p3, Result.andThen_ok, List.all_cons]
    cases xs.getD i 0 == ys.getD i 0
    · simp
    · simp [ih]
theorem all_eq {a b : List UInt8} (ha : a.length = 32) (hb : b.length = 32) : ((List.range 32).all fun i => a.getD i 0 == b.getD i 0) = (a == b) := by
  rw [Bool.eq_iff_iff, List.all_eq_true, beq_iff_eq]
  constructor
  · intro h
    apply List.ext_getElem (by omega)
    intro i h1 h2
    have := h i (by simp; omega)
    simpa [h1, h2] using this
  · rintro rfl i _
    simp
end
theorem run_equal_darr (a b : List UInt8) (ha : a.length = 32) (hb : b.length = 32) (w : World) : (Op.equal 24 (.agg (darr a)) (.agg (darr b))).run Try.prog w = .ok (a == b) w := by
  obtain ⟨i0, hi, _, hz1, _⟩ := info_parts u8_info
  have hc : Try.prog.cellsOf 5 = 1 := by simp [Program.cellsOf, hi, hz1]
  rw [Op.equal, show Op.maxDepth = 9999 + 1 from rfl, run_equalIn_array w 9999 _ _ Try.underlying24 hi, hc, eqItems_bytes w 9998 Try.underlying5 a b _ (by intro i hi; rw [List.mem_range] at hi; omega), all_eq ha hb]
theorem run_eql_darr (a b : List UInt8) (ha : a.length = 32) (hb : b.length = 32) (w : World) : (binOp .eql 24 (.agg (darr a)) (.agg (darr b))).run Try.prog w = .ok (.bool (a == b)) w := by
  simp [binOp, run_equal_darr a b ha hb w]
theorem run_neq_darr (a b : List UInt8) (ha : a.length = 32) (hb : b.length = 32) (w : World) : (binOp .neq 24 (.agg (darr a)) (.agg (darr b))).run Try.prog w = .ok (.bool (a != b)) w := by
  simp [binOp, run_equal_darr a b ha hb w, bne]

/-! ### Hex and back -/
def byteAt (l : List UInt8) (j : Nat) : UInt8 := nib (nib 0 (l.getD (2 * j) 0)) (l.getD (2 * j + 1) 0)
theorem pd_two (l : List UInt8) (k : Nat) (hk : k < 32) : pd l (2 * (k + 1)) = (pd l (2 * k)).set k (nib (nib ((pd l (2 * k)).getD k 0) (l.getD (2 * k) 0)) (l.getD (2 * k + 1) 0)) := by
  rw [show 2 * (k + 1) = (2 * k + 1) + 1 by omega, pd, pd, show (2 * k) / 2 = k by omega, show (2 * k + 1) / 2 = k by omega]
  have := pd_len l (2 * k)
  simp [this, hk]
theorem pd_map (l : List UInt8) : ∀ k, k ≤ 32 → pd l (2 * k) = (List.range k).map (byteAt l) ++ List.replicate (32 - k) 0
  | 0, _ => by simp [pd]
  | k + 1, h => by
    rw [pd_two l k (by omega), pd_map l k (by omega), List.range_succ, List.map_append]
    have e : List.replicate (32 - k) (0 : UInt8) = 0 :: List.replicate (32 - (k + 1)) 0 := by rw [show 32 - k = (32 - (k + 1)) + 1 by omega, List.replicate_succ]
    rw [e]
    simp [byteAt]
theorem pd_64 (l : List UInt8) : pd l 64 = (List.range 32).map (byteAt l) := by
  have := pd_map l 32 (Nat.le_refl _)
  simpa using this
theorem hdig_good : ∀ c : Fin 256, nib (nib 0 (hdig (c.val / 16))) (hdig (c.val % 16)) = UInt8.ofNat c.val ∧ goodB (hdig (c.val / 16)) = true ∧ goodB (hdig (c.val % 16)) = true := by decide +kernel
theorem hdig_val : ∀ c : Fin 256, goodB (UInt8.ofNat c.val) = true → hdig (valB (UInt8.ofNat c.val)) = UInt8.ofNat c.val := by decide +kernel
theorem hdig_val' (c : UInt8) (h : goodB c = true) : hdig (valB c) = c := by
  have := hdig_val ⟨c.toNat, c.toNat_lt⟩
  simpa using this (by simpa using h)
theorem nib_back (a b : UInt8) (ha : goodB a = true) (hb : goodB b = true) : hex2 (nib (nib 0 a) b) = [a, b] := by
  have h1 := valB_lt ha
  have h2 := valB_lt hb
  have e1 : (nib 0 a).toNat = valB a := by
    unfold nib
    rw [UInt8.toNat_ofNat']
    simp
    omega
  have e2 : (nib (nib 0 a) b).toNat = valB a * 16 + valB b := by
    rw [nib, UInt8.toNat_ofNat', e1, Nat.mod_eq_of_lt h1]
    exact Nat.mod_eq_of_lt (by omega)
  rw [hex2, e2, show (valB a * 16 + valB b) / 16 = valB a by omega, show (valB a * 16 + valB b) % 16 = valB b by omega, hdig_val' a ha, hdig_val' b hb]
theorem hexM_cons (c : UInt8) (d : List UInt8) : hexM (c :: d) = hdig (c.toNat / 16) :: hdig (c.toNat % 16) :: hexM d := by simp [hexM, hex2]
theorem hexM_at : ∀ (d : List UInt8) (j : Nat), j < d.length → (hexM d).getD (2 * j) 0 = hdig ((d.getD j 0).toNat / 16) ∧ (hexM d).getD (2 * j + 1) 0 = hdig ((d.getD j 0).toNat % 16)
  | [], _, h => by simp at h
  | c :: d, 0, _ => by rw [hexM_cons]; simp
  | c :: d, j + 1, h => by
    have := hexM_at d j (by simpa using h)
    rw [hexM_cons]
    rw [show 2 * (j + 1) = (2 * j + 1) + 1 by omega, show 2 * j + 1 + 1 + 1 = (2 * j + 1) + 1 + 1 by omega]
    simpa using this
theorem hexM_good : ∀ d : List UInt8, (hexM d).all goodB = true
  | [] => rfl
  | c :: d => by
    have := hdig_good ⟨c.toNat, c.toNat_lt⟩
    rw [hexM_cons, List.all_cons, List.all_cons, this.2.1, this.2.2, hexM_good d]
    rfl
/-- A digest's digits, read: the digest. -/
theorem parse_hex (d : List UInt8) (hd : d.length = 32) : parseM (hexM d) = (d, true) := by
  rw [parseM, if_pos ⟨by rw [hexM_len, hd], hexM_good d⟩, pd_64]
  congr 1
  apply List.ext_getElem (by simp [hd])
  intro j h1 h2
  simp only [List.getElem_map, List.getElem_range, byteAt]
  obtain ⟨e1, e2⟩ := hexM_at d j h2
  rw [e1, e2]
  have := (hdig_good ⟨(d.getD j 0).toNat, UInt8.toNat_lt _⟩).1
  rw [this]
  simp [h2]
theorem hexM_map : ∀ (f : Nat → UInt8) (n : Nat), hexM ((List.range n).map f) = (List.range n).flatMap fun j => hex2 (f j)
  | f, n => by simp [hexM, List.flatMap_map]
theorem flatMap_same {α β : Type} {f g : α → List β} : ∀ {l : List α}, (∀ x ∈ l, f x = g x) → l.flatMap f = l.flatMap g
  | [], _ => rfl
  | a :: l, h => by rw [List.flatMap_cons, List.flatMap_cons, h a (by simp), flatMap_same fun x hx => h x (by simp [hx])]
theorem pairs : ∀ (n : Nat) (l : List UInt8), l.length = 2 * n → ((List.range n).flatMap fun j => [l.getD (2 * j) 0, l.getD (2 * j + 1) 0]) = l
  | 0, l, h => by simp at h; simp [h]
  | n + 1, a :: b :: l, h => by
    have := pairs n l (by simp at h; omega)
    rw [List.range_succ_eq_map, List.flatMap_cons, List.flatMap_map]
    have e : ∀ j ∈ List.range n, [(a :: b :: l).getD (2 * (j + 1)) 0, (a :: b :: l).getD (2 * (j + 1) + 1) 0] = [l.getD (2 * j) 0, l.getD (2 * j + 1) 0] := fun j _ => by
      rw [show 2 * (j + 1) = 2 * j + 1 + 1 by omega]
      simp
    rw [flatMap_same e, this]
    rfl
  | n + 1, [a], h => by simp at h; omega
  | n + 1, [], h => by simp at h
theorem parse_yes {l : List UInt8} (h : l.length = 64) (hg : l.all goodB = true) : parseM l = ((List.range 32).map (byteAt l), true) := by
  rw [parseM, if_pos ⟨h, hg⟩, pd_64]
theorem parse_no {l : List UInt8} (h : ¬ (l.length = 64 ∧ l.all goodB = true)) : parseM l = (Z32, false) := by
  rw [parseM, if_neg h]
  rfl
/-- What was read, as digits: the text. -/
theorem hex_parse (l : List UInt8) (h : (parseM l).2 = true) : hexM (parseM l).1 = l := by
  by_cases hc : l.length = 64 ∧ l.all goodB = true
  · rw [parse_yes hc.1 hc.2]
    simp only [hexM_map]
    have e : ∀ j ∈ List.range 32, hex2 (byteAt l j) = [l.getD (2 * j) 0, l.getD (2 * j + 1) 0] := fun j hj => by
      rw [List.mem_range] at hj
      have hg := List.all_eq_true.1 hc.2
      refine nib_back _ _ ?_ ?_
      · have hl : 2 * j < l.length := by omega
        simpa [hl] using hg l[2 * j] (List.getElem_mem hl)
      · have hl : 2 * j + 1 < l.length := by omega
        simpa [hl] using hg l[2 * j + 1] (List.getElem_mem hl)
    rw [flatMap_same e]
    exact pairs 32 l hc.1
  · rw [parse_no hc] at h
    cases h
theorem parse_is (l : List UInt8) : (parseM l).2 = (decide (l.length = 64) && l.all goodB) := by
  by_cases hc : l.length = 64 ∧ l.all goodB = true
  · rw [parse_yes hc.1 hc.2, hc.2]
    simp [hc.1]
  · rw [parse_no hc]
    cases h1 : decide (l.length = 64)
    · rfl
    · cases h2 : l.all goodB
      · rfl
      · exact absurd ⟨by simpa using h1, h2⟩ hc
theorem parse_none (l : List UInt8) (h : (parseM l).2 = false) : (parseM l).1 = Z32 := by
  by_cases hc : l.length = 64 ∧ l.all goodB = true
  · rw [parse_yes hc.1 hc.2] at h
    cases h
  · rw [parse_no hc]
theorem parse_len (l : List UInt8) : (parseM l).1.length = 32 := by
  by_cases hc : l.length = 64 ∧ l.all goodB = true
  · rw [parse_yes hc.1 hc.2]
    simp
  · rw [parse_no hc]
    rfl
end Go.Proofs.Ytdnpcpeibjckmaa
