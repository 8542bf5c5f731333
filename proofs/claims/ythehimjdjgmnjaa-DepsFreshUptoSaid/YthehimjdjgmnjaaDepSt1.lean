/- What stands while DepsStale's list is made; no statement of the seat is proved here. -/
import Derived.Test.YthehimjdjgmnjaaDepStM
namespace Go.Proofs.Ythehimjdjgmnjaa
open Go.RowKit Go.Maps Go.Sort
set_option linter.unusedVariables false

theorem dg_ne_row {b N n c B : Nat} {A : Option Addr} {F : Fd} {w : World} {e : TypeId} {size : Nat} {xs : List Value} (ht : DgIs w b N F) (ho : w.ownsRow B e size (.slice A n c) n xs) : (Value.slice A n c).ownBlock ≠ some b := by
  intro e
  rcases ho.2 with ⟨hv, _⟩ | ⟨g', cap, cur, hv, _, hh, _⟩
  · rw [hv] at e; simp [Value.ownBlock] at e
  · rw [hv] at e
    have : g' = b := by simpa [Value.ownBlock] using e
    subst this
    obtain ⟨D, ⟨es, clock, hb, _⟩, _⟩ := ht
    rw [hb] at hh
    cases hh
theorem dg_ne_blk {b N g : Nat} {F : Fd} {w : World} {t : TypeId} {cs : Array Value} (ht : DgIs w b N F) (hb : Blk w g t cs) : g ≠ b := by
  obtain ⟨D, hD, _⟩ := ht
  exact blk_map_ne hb hD
/-- An entry that is the call's own. -/
structure EnOw (w : World) (B : Nat) (e : Enq) : Prop where
  es : e.s.length = 32
  ok : RdsOk e.rs
  rl : e.rs.length = e.k
  rk : e.k ≤ 10
  own : w.ownsRow B 77 33 (.slice e.A e.k e.c) e.k (e.rs.flatMap Rdq.cells)
theorem EnOw.keep {w w' : World} {B : Nat} {e : Enq} {F : Nat → Prop} (h : EnOw w B e) (hk : Keep F w w') (hn : ∀ k, (Value.slice e.A e.k e.c).ownBlock = some k → ¬ F k) : EnOw w' B e := { h with own := own_keep h.own hk hn }
theorem EnOw.en {w : World} {B s : Nat} {e : Enq} (h : EnOw w B e) (hs : s < B) : EnOk w s e := ⟨h.es, h.ok, h.rl, by have := h.rk; omega, Rd.of_own2 h.own (fun k hk => by omega)⟩

structure S1 (w : World) (B nb bm g m s : Nat) (T : List Fc) (L : List Enq) (Al : Option Addr) (cl nT N : Nat) (F : Fd) (wr : World) : Prop where
  own : wr.ownsRow B 39 66 (.slice Al L.length cl) L.length (L.flatMap Enq.cells)
  en : ∀ e ∈ L, EnOw wr B e
  tab : Tab wr g m s T nT
  dg : DgIs wr bm N F
  nm : Blk wr nb 9 #[S [65], S [66], S [67], S [68]]
  be : Below w.heap.size w wr
  lt : g < B ∧ m < B ∧ s < B ∧ w.heap.size ≤ s ∧ w.heap.size ≤ g ∧ w.heap.size ≤ m ∧ B ≤ bm ∧ B ≤ nb ∧ B ≤ wr.heap.size
section
variable {w wr w' : World} {B nb bm g m s : Nat} {T : List Fc} {L : List Enq} {Al : Option Addr} {cl nT N : Nat} {F : Fd}
theorem S1.below_ (h : S1 w B nb bm g m s T L Al cl nT N F wr) (hb : Below wr.heap.size wr w') : S1 w B nb bm g m s T L Al cl nT N F w' :=
  { h with own := own_keep h.own (Keep.of_below (F := fun _ => False) hb (fun k h1 h2 => by omega)) (fun _ _ h => h), en := fun e he => (h.en e he).keep (Keep.of_below (F := fun _ => False) hb (fun k h1 h2 => by omega)) (fun _ _ h => h), tab := h.tab.below hb, dg := h.dg.below hb, nm := h.nm.below hb h.nm.lt, be := h.be.trans (hb.mono h.be.size), lt := by have := h.lt; have := hb.size; omega }
theorem S1.upd {N' : Nat} {F' : Fd} (h : S1 w B nb bm g m s T L Al cl nT N F wr) (hk : Keep (fun b => b = bm) wr w') (hd : DgIs w' bm N' F') : S1 w B nb bm g m s T L Al cl nT N' F' w' :=
  { h with
    own := own_keep h.own hk (fun k hk e => dg_ne_row h.dg h.own (by rw [hk, e]))
    en := fun e he => (h.en e he).keep hk (fun k hk e2 => dg_ne_row h.dg (h.en e he).own (by rw [hk, e2]))
    tab := h.tab.keep hk (by have := h.lt; omega) (by have := h.lt; omega) (by have := h.lt; omega)
    dg := hd
    nm := h.nm.keep hk (dg_ne_blk h.dg h.nm)
    be := h.be.trans (hk.below h.be.size (fun k hk => by rw [hk]; have := h.lt; omega))
    lt := by have := h.lt; have := hk.size; omega }
theorem S1.rds {nT' : Nat} (h : S1 w B nb bm g m s T L Al cl nT N F wr) (hk : Keep (fun b => b = s) wr w') (ht : Tab w' g m s T nT') : S1 w B nb bm g m s T L Al cl nT' N F w' :=
  { h with
    own := own_keep h.own hk (fun k hk e => by have := own_base h.own hk; have := h.lt; omega)
    en := fun e he => (h.en e he).keep hk (fun k hk e2 => by have := own_base (h.en e he).own hk; have := h.lt; omega)
    tab := ht
    dg := h.dg.of_block (hk.block bm h.dg.lt (by have := h.lt; omega))
    nm := h.nm.keep hk (by have := h.lt; omega)
    be := h.be.trans (hk.below h.be.size (fun k hk => by rw [hk]; have := h.lt; omega))
    lt := by have := h.lt; have := hk.size; omega }
theorem S1.app {e : Enq} {A' : Option Addr} {c' : Nat} (h : S1 w B nb bm g m s T L Al cl nT N F wr) (he : EnOw wr B e) (hk : Keep (fun i => some i = (Value.slice Al L.length cl).ownBlock) wr w') (ho : w'.ownsRow B 39 66 (.slice A' (L.length + 1) c') (L.length + 1) (L.flatMap Enq.cells ++ e.cells)) : S1 w B nb bm g m s T (L ++ [e]) A' c' nT N F w' :=
  { h with
    own := by
      have : (L ++ [e]).length = L.length + 1 := by simp
      rw [this, List.flatMap_append, List.flatMap_singleton]
      exact ho
    en := fun x hx => by
      rcases List.mem_append.1 hx with hx | hx
      · exact (h.en x hx).keep hk (fun k hk e2 => own_own_ne (h.en x hx).own h.own (by decide) k hk e2.symm)
      · obtain rfl := List.mem_singleton.1 hx
        exact he.keep hk (fun k hk e2 => own_own_ne he.own h.own (by decide) k hk e2.symm)
    tab := h.tab.keep hk (fun e => by have := own_base h.own e.symm; have := h.lt; omega) (fun e => by have := own_base h.own e.symm; have := h.lt; omega) (fun e => by have := own_base h.own e.symm; have := h.lt; omega)
    dg := h.dg.of_block (hk.block bm h.dg.lt (fun e => dg_ne_row h.dg h.own e.symm))
    nm := h.nm.keep hk (fun e => own_blk_ne h.own h.nm (by decide) e.symm)
    be := h.be.trans (hk.below h.be.size (fun k hk => by have := own_base h.own hk.symm; have := h.lt; omega))
    lt := by have := h.lt; have := hk.size; omega }
end
theorem nm_cell {w : World} {nb t : Nat} (h : Blk w nb 9 #[S [65], S [66], S [67], S [68]]) (ht : t < 4) : w.cell? ⟨nb, t, none⟩ = some (S (nmG t)) := by
  rw [h.cell t]
  match t, ht with
  | 0, _ => rfl
  | 1, _ => rfl
  | 2, _ => rfl
  | 3, _ => rfl
theorem nmG_short (t : Nat) : (nmG t).length ≤ 1 := by
  unfold nmG nmA
  match t with
  | 0 => simp
  | 1 => simp
  | 2 => simp
  | 3 => simp
  | n + 4 => simp
end Go.Proofs.Ythehimjdjgmnjaa
