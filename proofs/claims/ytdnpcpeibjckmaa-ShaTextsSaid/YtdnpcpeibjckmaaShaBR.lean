/- A row of bytes that may have come of a string: it grows byte by byte; the law's constants and closure; no statement of the seat is proved here. -/
import Derived.Test.YtdnpcpeibjckmaaShaParts
import Derived.ArgAppend
import Derived.Lib.ConvBytes
namespace Go.Proofs.Ytdnpcpeibjckmaa
open Go.RowKit

/-- The n bytes at A are bs, in a block from base on; what is spare may be written. -/
structure BR (w : World) (base : Nat) (A : Option Addr) (n c : Nat) (bs : List UInt8) : Prop where
  len : bs.length = n
  at_ : ∃ g, A = some ⟨g, 0, none⟩ ∧ base ≤ g ∧ g < w.heap.size ∧ (∀ j b, bs[j]? = some b → w.cell? ⟨g, j, none⟩ = some (B8 b)) ∧
    (∀ j, j < c → (w.cell? ⟨g, j, none⟩).isSome = true ∧ w.frozen? ⟨g, j, none⟩ = false)
  nc : n ≤ c

theorem BR.of_own {w : World} {base : Nat} {A : Option Addr} {n c : Nat} {bs : List UInt8} (h : w.ownsRow base 5 1 (.slice A n c) n (bs.map B8)) (hn : 0 < n) : BR w base A n c bs := by
  obtain ⟨g, cap, hv, hg, hlt⟩ := h.form hn
  have hl := h.1
  injection hv with hA _ hc
  subst hA hc
  refine ⟨by simpa using hl, ⟨g, rfl, hg, hlt, fun j b hj => ?_, fun j hj => ?_⟩, own_cap h⟩
  · have := h.cells (g := g) rfl j (B8 b) (by simp [hj])
    rwa [Addr.add_mid, Nat.zero_add] at this
  · rcases h.2 with ⟨h2, _⟩ | ⟨g', cap', cur, hv, _, hh, _, _, hs, _⟩
    · injection h2 with h2; cases h2
    · injection hv with hv _ hc
      injection hv with hv
      injection hv with hv
      subst hv hc
      rw [cell_of_row _ _ _ _ _ _ hh]
      refine ⟨?_, frozen_of_row _ _ _ _ _ hh⟩
      have : j < cur.size := by omega
      simp [this]

theorem BR.rd {w : World} {base : Nat} {A : Option Addr} {n c : Nat} {bs : List UInt8} {F : Nat → Prop} (h : BR w base A n c bs) (hF : ∀ k, base ≤ k → ¬ F k) : Rd w F 1 A n (bs.map B8) := by
  refine ⟨by simp [h.len], fun hn => ?_⟩
  obtain ⟨g, rfl, hg, hlt, hc, _⟩ := h.at_
  refine ⟨g, 0, rfl, hF g hg, hlt, fun j u hu => ?_⟩
  rw [Nat.zero_add]
  rw [List.getElem?_map] at hu
  cases hb : bs[j]? with
  | none => rw [hb] at hu; cases hu
  | some b => rw [hb] at hu; injection hu with hu; subst hu; exact hc j b hb

theorem BR.keep {w w' : World} {base gb n c : Nat} {bs : List UInt8} {F : Nat → Prop} (h : BR w base (some ⟨gb, 0, none⟩) n c bs) (hk : Keep F w w') (hn : ¬ F gb) : BR w' base (some ⟨gb, 0, none⟩) n c bs := by
  obtain ⟨g, hg, h1, h2, h3, h4⟩ := h.at_
  injection hg with hg
  injection hg with hg
  subst hg
  refine ⟨h.len, ⟨gb, rfl, h1, Nat.lt_of_lt_of_le h2 hk.size, fun j b hb => ?_, fun j hj => ?_⟩, h.nc⟩
  · rw [hk.cell (p := ⟨gb, j, none⟩) h2 hn]; exact h3 j b hb
  · rw [hk.cell (p := ⟨gb, j, none⟩) h2 hn, hk.frozen (p := ⟨gb, j, none⟩) h2 hn]; exact h4 j hj
/-- A text as bytes. -/
theorem BR.of_conv (w : World) (l : List UInt8) : BR (Lib.bytesWorld w 5 ⟨l.toArray⟩) w.heap.size (some ⟨w.heap.size, 0, none⟩) l.length (grownCap w l.length 0 5) l := by
  have hs : (ByteArray.mk l.toArray).size = l.length := rfl
  have hsz := Lib.bytesWorld_size w 5 ⟨l.toArray⟩
  refine ⟨rfl, ⟨w.heap.size, rfl, Nat.le_refl _, by omega, fun j b hj => ?_, fun j hj => ?_⟩, grownCap_ge _ _ _ _⟩
  · have hjl : j < l.length := (List.getElem?_eq_some_iff.1 hj).1
    rw [Lib.bytesWorld_cell w 5 ⟨l.toArray⟩ j hjl]
    simp [List.getD, hj]
  · have hh := Lib.bytesWorld_at_new w 5 ⟨l.toArray⟩
    have hge := grownCap_ge w l.length 0 5
    have hcs : (Lib.bytesCells w 5 ⟨l.toArray⟩).size = grownCap w l.length 0 5 := by
      simp [Lib.bytesCells, hs]
      omega
    rw [cell_of_row _ _ _ _ _ _ hh]
    refine ⟨by simp [hcs, hj], ?_⟩
    simp [World.frozen?, hh, hcs]
    omega
theorem conv_below (w : World) (l : List UInt8) : Below w.heap.size w (Lib.bytesWorld w 5 ⟨l.toArray⟩) := by
  refine ⟨?_, ?_, ?_, by rw [Lib.bytesWorld_size]; omega, fun k hk => Lib.bytesWorld_at_old w _ _ k hk⟩ <;> simp [Lib.bytesWorld, World.freeze, World.alloc, World.drew, -World.alloc_eq, -World.drew_eq]

/-- 'append(v, u)' onto such a row: the byte was laid in a new block just before. -/
theorem appB {w : World} {ops : Array Oper} {rest : List Oper} {o : Oper} {a : Act} {Q : Exit → Act → World → Prop} (hgd : o.guard = none) (s x : Operand)
    (ho : o.op = .call { callee := .builtin .append, args := #[s, x], argTypes := #[31, 31] })
    {base n c : Nat} {A : Option Addr} {bs : List UInt8} (hs : a.eval s = .slice A n c) (hB : BR w base A n c bs) (u : UInt8)
    (hx : a.eval x = .slice (some ⟨w.heap.size, 0, none⟩) 1 1) (hn : n ≤ 140000) (hbase : base ≤ w.heap.size)
    (h : ∀ A' c' w', BR w' base A' (n + 1) c' (bs ++ [u]) → Below base w w' → wpList Try.prog ops Q rest (a.put o.dst (.slice A' (n + 1) c')) w') :
    wpList Try.prog ops Q (o :: rest) a (w.alloc (.cells #[B8 u] 5)) := by
  obtain ⟨i, hi, hz, hz1, hz2⟩ := info_parts u8_info
  obtain ⟨g, rfl, hg, hlt, hc, hsp⟩ := hB.at_
  have hl := hB.len
  have hal : ∀ j, (w.alloc (.cells #[B8 u] 5)).cell? ⟨g, j, none⟩ = w.cell? ⟨g, j, none⟩ := fun j => World.cell?_alloc_lt _ _ _ hlt
  have haf : ∀ j, (w.alloc (.cells #[B8 u] 5)).frozen? ⟨g, j, none⟩ = w.frozen? ⟨g, j, none⟩ := fun j => World.frozen?_alloc_past _ _ _ hlt
  have hb0 : Below base w (w.alloc (.cells #[B8 u] 5)) := ((Below.refl _ _).alloc (Nat.le_refl _) _).mono hbase
  refine wpList_append_arg _ hgd s x 31 ho 5 i (.int .u8 0) 1 1 Try.underlying31 hi hz hz1 hz2 rfl (by decide) g 0 n c (bs.map B8) hs (by simp [hl]) (fun j v hv => ?_) ⟨w.heap.size, 0, none⟩ 1 1 [B8 u] hx rfl (cell_one_new _ _ _) (by simp [Value.oneCell']) (fun hroom j hj => ?_) (by unfold maxLen; omega) (by omega) (fun hroom => ?_) (fun hgrow v' w' hown hgr => ?_)
  · rw [Nat.zero_add, hal]
    rw [List.getElem?_map] at hv
    cases hb : bs[j]? with
    | none => rw [hb] at hv; cases hv
    | some b => rw [hb] at hv; injection hv with hv; subst hv; exact hc j b hb
  · simp at hj
    subst hj
    rw [hal, haf]
    have := hsp (0 + n * 1 + 0) (by omega)
    exact this
  · refine h (some ⟨g, 0, none⟩) c _ ⟨by simp [hl], ⟨g, rfl, hg, ?_, fun j b hj => ?_, fun j hj => ?_⟩, hroom⟩ (bcells hg _ _ hb0)
    · show g < ((w.alloc _).setCell _ _).heap.size
      simp [World.setCell]
      omega
    · show ((w.alloc (.cells #[B8 u] 5)).setCell ⟨g, 0 + n * 1, none⟩ (B8 u)).cell? ⟨g, j, none⟩ = _
      by_cases hjn : j = n
      · subst hjn
        have hb : b = u := by
          rw [List.getElem?_append_right (by omega)] at hj
          simp [hl] at hj
          exact hj.symm
        subst hb
        rw [show 0 + j * 1 = j by omega]
        obtain ⟨v0, hv0⟩ := Option.isSome_iff_exists.1 (hsp j (by omega)).1
        have := (hal j).trans hv0
        exact World.cell?_setCell_same _ _ _ this
      · rw [World.cell?_setCell_other _ _ _ _ (by intro h; injection h with h1 h2; omega), hal]
        have hjl : j < bs.length := by
          have := (List.getElem?_eq_some_iff.1 hj).1
          simp at this
          omega
        rw [List.getElem?_append_left hjl] at hj
        exact hc j b hj
    · have h1 := hsp j hj
      rw [World.frozen?_setCells, haf]
      exact ⟨World.isSome_setCells _ _ _ _ _ (by rw [hal]; exact h1.1), h1.2⟩
  · obtain ⟨A', c', rfl⟩ := own_slice hown
    have hbr := BR.of_own (bs := bs ++ [u]) (by simpa using hown) (by omega)
    refine h A' c' w' ⟨hbr.len, ?_, hbr.nc⟩ (hb0.grown hgr (by simp; omega) (fun k hk => by cases hk))
    obtain ⟨g', e1, e2, e3, e4, e5⟩ := hbr.at_
    exact ⟨g', e1, by have := hb0.size; omega, e3, e4, e5⟩
theorem appBv {w : World} {ops : Array Oper} {rest : List Oper} {o : Oper} {a : Act} {Q : Exit → Act → World → Prop} (hgd : o.guard = none) (s x : Operand)
    (ho : o.op = .call { callee := .builtin .append, args := #[s, x], argTypes := #[31, 31] })
    {base n c : Nat} {A : Option Addr} {bs : List UInt8} (hs : a.eval s = .slice A n c) (hB : BR w base A n c bs) (u : UInt8) {v : Value} (hv : v = B8 u)
    (hx : a.eval x = .slice (some ⟨w.heap.size, 0, none⟩) 1 1) (hn : n ≤ 140000) (hbase : base ≤ w.heap.size)
    (h : ∀ A' c' w', BR w' base A' (n + 1) c' (bs ++ [u]) → Below base w w' → wpList Try.prog ops Q rest (a.put o.dst (.slice A' (n + 1) c')) w') :
    wpList Try.prog ops Q (o :: rest) a (w.alloc (.cells #[v] 5)) := by
  subst hv
  exact appB hgd s x ho hs hB u hx hn hbase h
end Go.Proofs.Ytdnpcpeibjckmaa
