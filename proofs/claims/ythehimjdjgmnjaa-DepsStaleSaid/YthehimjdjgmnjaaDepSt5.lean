/- What stands while the turns are made; no statement of the seat is proved here. -/
import Derived.Test.YthehimjdjgmnjaaDepSt4
import Derived.Laws.OwnMore
import Derived.Deep.AppendLies
namespace Go.Proofs.Ythehimjdjgmnjaa
open Go.RowKit Go.Maps Go.Sort
set_option linter.unusedVariables false

/-- The list, the texts, and the faces as they are now. -/
structure S2 (w : World) (B nb bm g m s : Nat) (T : List Fc) (L : List Enq) (Al : Option Addr) (cl N : Nat) (F : Fd) (An : Option Addr) (n cn : Nat) (U : List Fc) (wr : World) : Prop where
  s1 : S1 w B nb bm g m s T L Al cl 40 N F wr
  now : wr.ownsRow B 47 4 (.slice An n cn) n (U.flatMap Fc.cells)
section
variable {w wr w' : World} {B nb bm g m s : Nat} {T : List Fc} {L : List Enq} {Al : Option Addr} {cl nT N : Nat} {F : Fd} {An : Option Addr} {n cn : Nat} {U : List Fc}
theorem S1.row {e : TypeId} {size k c' : Nat} {A' : Option Addr} {xs : List Value} (h : S1 w B nb bm g m s T L Al cl nT N F wr) (ho : wr.ownsRow B e size (.slice A' k c') k xs) (h1 : 39 ≠ e) (h2 : 77 ≠ e) (h3 : e ≠ 9) (hk : Keep (fun i => some i = (Value.slice A' k c').ownBlock) wr w') : S1 w B nb bm g m s T L Al cl nT N F w' :=
  { h with
    own := own_keep h.own hk (fun k hk e2 => own_own_ne h.own ho h1 k hk e2.symm)
    en := fun x hx => (h.en x hx).keep hk (fun k hk e2 => own_own_ne (h.en x hx).own ho h2 k hk e2.symm)
    tab := h.tab.keep hk (fun e => by have := own_base ho e.symm; have := h.lt; omega) (fun e => by have := own_base ho e.symm; have := h.lt; omega) (fun e => by have := own_base ho e.symm; have := h.lt; omega)
    dg := h.dg.of_block (hk.block bm h.dg.lt (fun e => dg_ne_row h.dg ho e.symm))
    nm := h.nm.keep hk (fun e => own_blk_ne ho h.nm h3 e.symm)
    be := h.be.trans (hk.below h.be.size (fun k hk => by have := own_base ho hk.symm; have := h.lt; omega))
    lt := by have := h.lt; have := hk.size; omega }
theorem S2.below_ (h : S2 w B nb bm g m s T L Al cl N F An n cn U wr) (hb : Below wr.heap.size wr w') : S2 w B nb bm g m s T L Al cl N F An n cn U w' :=
  ⟨h.s1.below_ hb, own_keep h.now (Keep.of_below (F := fun _ => False) hb (fun k h1 h2 => by omega)) (fun _ _ h => h)⟩
theorem S2.upd {N' : Nat} {F' : Fd} (h : S2 w B nb bm g m s T L Al cl N F An n cn U wr) (hk : Keep (fun b => b = bm) wr w') (hd : DgIs w' bm N' F') : S2 w B nb bm g m s T L Al cl N' F' An n cn U w' :=
  ⟨h.s1.upd hk hd, own_keep h.now hk (fun k hk e => dg_ne_row h.s1.dg h.now (by rw [hk, e]))⟩
theorem set_flat : ∀ (U : List Fc) (i : Nat) (hi : i < U.length) (x : List UInt8), (U.flatMap Fc.cells).set (i * 4 + 1) (S x) = (U.set i { U[i] with su := x }).flatMap Fc.cells
  | a :: U, 0, _, x => by simp [Fc.cells]
  | a :: U, i + 1, hi, x => by
    have h := set_flat U i (by simpa using hi) x
    simp only [List.flatMap_cons, List.set_cons_succ, List.getElem_cons_succ]
    rw [← h, List.set_append_right _ _ (by simp [Fc.cells]; omega)]
    congr 2
    simp [Fc.cells]; omega
theorem S2.stored {gn i : Nat} {x : List UInt8} (h : S2 w B nb bm g m s T L Al cl N F (some ⟨gn, 0, none⟩) n cn U wr) (hi : i < U.length) : S2 w B nb bm g m s T L Al cl N F (some ⟨gn, 0, none⟩) n cn (U.set i { U[i] with su := x }) (wr.setCell ⟨gn, i * 4 + 1, none⟩ (S x)) := by
  refine ⟨h.s1.row h.now (by decide) (by decide) (by decide) ((Keep.refl _ wr).setCell (p := ⟨gn, i * 4 + 1, none⟩) (by simp [Value.ownBlock]) _), ?_⟩
  rw [← set_flat U i hi x]
  exact (h.now.stored _ _).1
end
theorem fc_info : (Try.prog.info? 47).map (fun i => (i.zero, i.size, i.bytes)) = some (some (.agg #[.string ⟨#[]⟩, .string ⟨#[]⟩, .slice none 0 0, .slice none 0 0]), 4, 80) := by kernel_rfl
theorem fcs_one (T : List Fc) : ∀ u ∈ T.flatMap Fc.cells, u.oneCell' = true := by
  intro u hu
  obtain ⟨m, _, hu⟩ := List.mem_flatMap.1 hu
  simp [Fc.cells] at hu
  rcases hu with rfl | rfl | rfl | rfl <;> rfl
/-- The first k of the faces are turned. -/
def suK (n : List UInt8) (U : List Fc) (k : Nat) : List Fc := suX n (U.take k) ++ U.drop k
theorem suK_zero (n : List UInt8) (U : List Fc) : suK n U 0 = U := by simp [suK, suX]
theorem suK_all {n : List UInt8} {U : List Fc} {k : Nat} (h : U.length ≤ k) : suK n U k = suX n U := by simp [suK, List.take_of_length_le h, List.drop_of_length_le h]
theorem suK_len (n : List UInt8) (U : List Fc) (k : Nat) : (suK n U k).length = U.length := by simp [suK, suX]; omega
theorem suK_get {n : List UInt8} {U : List Fc} {k : Nat} (h : k < U.length) : (suK n U k)[k]'(by rw [suK_len]; exact h) = U[k] := by
  have h1 : (suX n (U.take k)).length = k := by simp [suX]; omega
  simp only [suK]
  rw [List.getElem_append_right (by omega)]
  simp [h1]
theorem suK_step {n : List UInt8} {U : List Fc} {k : Nat} (h : k < U.length) : suK n U (k + 1) = if U[k].n = n then (suK n U k).set k { U[k] with su := U[k].su ++ [88] } else suK n U k := by
  have h1 : (suX n (U.take k)).length = k := by simp [suX]; omega
  have h2 : U.drop k = U[k] :: U.drop (k + 1) := List.drop_eq_getElem_cons h
  have h3 : U.take (k + 1) = U.take k ++ [U[k]] := by rw [List.take_add_one, List.getElem?_eq_getElem h]; rfl
  have h4 : suX n (U.take (k + 1)) = suX n (U.take k) ++ [if U[k].n = n then { U[k] with su := U[k].su ++ [88] } else U[k]] := by rw [h3, suX, List.map_append]; rfl
  unfold suK
  rw [h4, List.append_assoc, List.singleton_append]
  split
  · rw [List.set_append_right _ _ (by omega), h1, Nat.sub_self, h2, List.set_cons_zero]
  · rw [← h2]
theorem kd_of (x : Trn) : ∃ kd : Nat, wrap64 ((IntKind.u64.wrap x.K).tmod 3) = (kd : Int) ∧ kd < 3 ∧ Hid (x.kd = kd) := by
  have h0 : 0 ≤ IntKind.u64.wrap x.K := by simp [IntKind.wrap, IntKind.signed, IntKind.bits]; omega
  refine ⟨x.kd, ?_, ?_, hide rfl⟩
  · rw [Int.tmod_eq_emod_of_nonneg h0]
    unfold Trn.kd
    have h1 : 0 ≤ IntKind.u64.wrap x.K % 3 := Int.emod_nonneg _ (by decide)
    have h2 : IntKind.u64.wrap x.K % 3 < 3 := Int.emod_lt_of_pos _ (by decide)
    rw [Int.toNat_of_nonneg h1]
    exact IntWalk.wrap64_in _ (by omega)
  · unfold Trn.kd
    omega
def trFs (F : Fd) (X : List Trn) : Fd := X.foldl trF F
def trTs (T : List Fc) (X : List Trn) : List Fc := X.foldl trT T
theorem trFs_snoc (F : Fd) (X : List Trn) (x : Trn) : trFs F (X ++ [x]) = trF (trFs F X) x := by simp [trFs]
theorem trTs_snoc (T : List Fc) (X : List Trn) (x : Trn) : trTs T (X ++ [x]) = trT (trTs T X) x := by simp [trTs]
theorem trTs_len (T : List Fc) : ∀ X : List Trn, (trTs T X).length = T.length := fun X => by
  induction X generalizing T with
  | nil => rfl
  | cons x X ih => show (trTs (trT T x) X).length = _; rw [ih, trT_len]
theorem trTs_lite {w : World} {G : Nat → Prop} {T : List Fc} {j : Nat} (h : Lite w G j T) : ∀ X : List Trn, j + X.length ≤ 100 → Lite w G (j + X.length) (trTs T X) := fun X => by
  induction X generalizing T j with
  | nil => exact fun _ => h
  | cons x X ih =>
    intro hj
    simp only [List.length_cons] at hj ⊢
    have := ih (h.trT (by omega) x) (by omega)
    rw [show j + (X.length + 1) = j + 1 + X.length from by omega]
    exact this
theorem trFs_ok {F : Fd} (h : FdOk F) : ∀ X : List Trn, FdOk (trFs F X) := fun X => by
  induction X generalizing F with
  | nil => exact h
  | cons x X ih => exact ih (trF_ok h x.nm_mem)
end Go.Proofs.Ythehimjdjgmnjaa
