/- A disk in plain words: what each of its functions answers and leaves; no statement of the seat is proved here. -/
import Derived.Test.YtclgiapmbmbknaaMRepIter
namespace Go.Proofs.Ytclgiapmbmbknaa
open Go.RowKit Go.Maps
set_option linter.unusedVariables false

/-- What is safe, what was done since, when the power fails, whether it has. -/
structure Ds where
  F : Fl
  cs : List Ch
  fall : Int
  dn : Bool
def Ds.R (s : Ds) : Fl := s.cs.foldl chDo s.F
def Ds.dead (s : Ds) : Ds := { s with dn := true }
/-- A turn that went on. -/
def Ds.tick (s : Ds) (cs : List Ch) : Ds := ⟨s.F, cs, if 0 < s.fall then s.fall - 1 else s.fall, false⟩
/-- No turn may go on. -/
def Ds.stop (s : Ds) : Prop := s.dn = true ∨ s.fall = 0
def DAt (w : World) (B g room M : Nat) (s : Ds) : Prop := ∃ b N n c A, Dk w B g b N n c A s.cs room s.fall s.dn s.F ∧ N + n ≤ M ∧ s.fall ≤ 9223372036854775807
/-- What the disk's functions leave alone. -/
structure Fr (B : Nat) (w w' : World) : Prop where
  bel : Below B w w'
  far : ∀ (q : Nat) (t : TypeId) (cs : Array Value), t ≠ 66 → t ≠ 80 → Blk w q t cs → Blk w' q t cs
theorem Fr.trans {B : Nat} {a b c : World} (h : Fr B a b) (k : Fr B b c) : Fr B a c := ⟨h.bel.trans k.bel, fun q t cs h1 h2 hb => k.far q t cs h1 h2 (h.far q t cs h1 h2 hb)⟩
theorem Fr.below {B : Nat} {w w' : World} (h : Below w.heap.size w w') (hB : B ≤ w.heap.size) : Fr B w w' := ⟨h.mono hB, fun _ _ _ _ _ hb => hb.below h hb.lt⟩
theorem Fr.size {B : Nat} {w w' : World} (h : Fr B w w') : w.heap.size ≤ w'.heap.size := h.bel.size
theorem Fr.own {B base n size : Nat} {w w' : World} {e : TypeId} {v : Value} {xs : List Value} (h : Fr B w w') (ho : w.ownsRow base e size v n xs) (h1 : e ≠ 66) (h2 : e ≠ 80) : w'.ownsRow base e size v n xs := by
  refine ⟨ho.1, ?_⟩
  rcases ho.2 with h3 | ⟨g, cap, cur, hv, hb, hg, hr⟩
  · exact .inl h3
  · exact .inr ⟨g, cap, cur, hv, hb, h.far g e cur h1 h2 hg, hr⟩
section
variable {w w' : World} {B g room M : Nat} {s : Ds}
theorem DAt.mono (h : DAt w B g room M s) {M' : Nat} (hm : M ≤ M') : DAt w B g room M' s := by
  obtain ⟨b, N, n, c, A, h1, h2, h3⟩ := h
  exact ⟨b, N, n, c, A, h1, by omega, h3⟩
theorem DAt.below (h : DAt w B g room M s) (hb : Below w.heap.size w w') : DAt w' B g room M s := by
  obtain ⟨b, N, n, c, A, h1, h2, h3⟩ := h
  exact ⟨b, N, n, c, A, h1.below hb, h2, h3⟩
theorem DAt.lt (h : DAt w B g room M s) : g < w.heap.size ∧ B ≤ g := by
  obtain ⟨b, N, n, c, A, h1, h2, h3⟩ := h
  exact ⟨h1.blk.lt, h1.gB⟩
/-- New blocks, and stores into the call's own of them, are far from a disk. -/
theorem Dk.frg {b N n c : Nat} {A : Option Addr} {cs : List Ch} {fall : Int} {dn : Bool} {F : Fl} (h : Dk w B g b N n c A cs room fall dn F) (hk : Keep (fun k => k = g ∨ (Value.slice A n c).ownBlock = some k) w w') : Fr B w w' := by
  refine ⟨hk.below (by have := h.blk.lt; have := h.gB; omega) (fun k hk => ?_), fun q t cs h1 h2 hb => hb.keep hk (fun hq => ?_)⟩
  · rcases hk with rfl | hk
    · exact h.gB
    · exact (own_base' h.own hk).1
  · rcases hq with rfl | hq
    · exact hb.ne_ h.blk h1 rfl
    · exact own_blk_ne h.own hb (fun e => h2 e.symm) hq
theorem Dk.frg' {b N n c : Nat} {A : Option Addr} {cs : List Ch} {fall : Int} {dn : Bool} {F : Fl} (h : Dk w B g b N n c A cs room fall dn F) (hk : Keep (fun k => k = g) w w') : Fr B w w' :=
  h.frg ((Keep.refl _ w).trans' hk (fun k _ hk => .inl hk))
end

theorem new_ds (room : Nat) (hr : room ≤ 4194304) (w : World) :
    Calls Try.prog 7 #[.int .i64 room] w (fun e w' => ∃ g, e = .returned (.pointer (some ⟨g, 0, none⟩)) ∧ DAt w' w.heap.size g room 0 ⟨fun _ => none, [], -1, false⟩ ∧ Below w.heap.size w w') := by
  refine (new_dk room hr w).mono ?_
  rintro e w' ⟨g, b, rfl, h, hb⟩
  exact ⟨g, rfl, ⟨b, 0, 0, 0, none, h, Nat.le_refl _, by show (-1 : Int) ≤ _; omega⟩, hb⟩
section
variable (B g room M : Nat) (s : Ds) (w : World) (h : DAt w B g room M s)
include h
theorem write_ds (nm t : List UInt8) (hM : M ≤ 80000) (hr : room ≤ 4194304) (tot : Nat) (hT : Tot s.R tot) (ht : tot ≤ 1000000) (hm1 : nm ≠ []) (hm2 : nm.length ≤ 80) (htl : t.length ≤ 1000000) :
    Calls Try.prog 12 #[.pointer (some ⟨g, 0, none⟩), S nm, S t] w (fun e w' => ∃ (s' : Ds) (x : Int), e = .returned (.int .i64 x) ∧ DAt w' B g room (M + 1) s' ∧ Fr B w w' ∧
      ((x = 8 ∧ s' = s.dead ∧ s.stop) ∨ (¬ s.stop ∧ ((x = 0 ∧ s' = s.tick (s.cs ++ [⟨0, nm, t⟩])) ∨ (x = 7 ∧ s' = s.tick s.cs ∧ (room : Int) < tot + t.length))))) := by
  obtain ⟨b, N, n, c, A, h1, h2, h3⟩ := h
  by_cases hs : s.stop
  · refine (write_stop B g b N n c A s.cs room s.fall s.dn s.F nm t w h1 hs).mono ?_
    rintro e w' ⟨rfl, hd, hk⟩
    exact ⟨s.dead, 8, rfl, ⟨b, N, n, c, A, hd, by omega, h3⟩, h1.frg' hk, .inl ⟨rfl, rfl, hs⟩⟩
  · have hdn : s.dn = false := by cases hd : s.dn with | false => rfl | true => exact absurd (.inl hd) hs
    have hf : s.fall ≠ 0 := fun e => hs (.inr e)
    have hf3 : (if 0 < s.fall then s.fall - 1 else s.fall) ≤ 9223372036854775807 := by split <;> omega
    rw [hdn] at h1
    by_cases hfit : (t.length : Int) ≤ room - tot + (((s.R nm).getD []).length : Int)
    · refine (write_ok B g b N n c A s.cs room s.fall s.F s.R tot nm t w h1 hf h3 (by omega) (by omega) rfl hT (by omega) hr hm1 hm2 htl hfit).mono ?_
      rintro e w' ⟨rfl, ⟨q, cap, hd⟩, hk⟩
      exact ⟨s.tick (s.cs ++ [⟨0, nm, t⟩]), 0, rfl, ⟨b, N, n + 1, cap, _, hd, by omega, hf3⟩, h1.frg hk, .inr ⟨hs, .inl ⟨rfl, rfl⟩⟩⟩
    · refine (write_full B g b N n c A s.cs room s.fall s.F s.R tot nm t w h1 hf h3 (by omega) (by omega) rfl hT (by omega) hr hm1 hm2 (by omega)).mono ?_
      rintro e w' ⟨rfl, hd, hk⟩
      exact ⟨s.tick s.cs, 7, rfl, ⟨b, N, n, c, A, hd, by omega, hf3⟩, h1.frg' hk, .inr ⟨hs, .inr ⟨rfl, rfl, by omega⟩⟩⟩
theorem remove_ds (nm : List UInt8) (hM : M ≤ 80000) (hsn : short nm) :
    Calls Try.prog 13 #[.pointer (some ⟨g, 0, none⟩), S nm] w (fun e w' => ∃ (s' : Ds) (x : Int), e = .returned (.int .i64 x) ∧ DAt w' B g room (M + 1) s' ∧ Fr B w w' ∧
      ((x = 8 ∧ s' = s.dead ∧ s.stop) ∨ (¬ s.stop ∧ ((x = 0 ∧ (s.R nm).isSome = true ∧ s' = s.tick (s.cs ++ [⟨2, nm, []⟩])) ∨ (x = 5 ∧ s.R nm = none ∧ s' = s.tick s.cs))))) := by
  obtain ⟨b, N, n, c, A, h1, h2, h3⟩ := h
  by_cases hs : s.stop
  · refine (remove_stop B g b N n c A s.cs room s.fall s.dn s.F nm w h1 hs).mono ?_
    rintro e w' ⟨rfl, hd, hk⟩
    exact ⟨s.dead, 8, rfl, ⟨b, N, n, c, A, hd, by omega, h3⟩, h1.frg' hk, .inl ⟨rfl, rfl, hs⟩⟩
  · have hdn : s.dn = false := by cases hd : s.dn with | false => rfl | true => exact absurd (.inl hd) hs
    have hf : s.fall ≠ 0 := fun e => hs (.inr e)
    have hf3 : (if 0 < s.fall then s.fall - 1 else s.fall) ≤ 9223372036854775807 := by split <;> omega
    rw [hdn] at h1
    cases hR : s.R nm with
    | some v =>
      refine (remove_ok B g b N n c A s.cs room s.fall s.F s.R nm w h1 hf h3 (by omega) (by omega) rfl hsn (by rw [hR]; rfl)).mono ?_
      rintro e w' ⟨rfl, ⟨q, cap, hd⟩, hk⟩
      exact ⟨s.tick (s.cs ++ [⟨2, nm, []⟩]), 0, rfl, ⟨b, N, n + 1, cap, _, hd, by omega, hf3⟩, h1.frg hk, .inr ⟨hs, .inl ⟨rfl, rfl, rfl⟩⟩⟩
    | none =>
      refine (remove_none B g b N n c A s.cs room s.fall s.F s.R nm w h1 hf h3 (by omega) (by omega) rfl hsn hR).mono ?_
      rintro e w' ⟨rfl, hd, hk⟩
      exact ⟨s.tick s.cs, 5, rfl, ⟨b, N, n, c, A, hd, by omega, hf3⟩, h1.frg' hk, .inr ⟨hs, .inr ⟨rfl, rfl, rfl⟩⟩⟩
theorem rename_ds (nm to : List UInt8) (hM : M ≤ 80000) (hsn : short nm) (hm1 : to ≠ []) (hm2 : to.length ≤ 80) (hR : (s.R nm).isSome = true) :
    Calls Try.prog 26 #[.pointer (some ⟨g, 0, none⟩), S nm, S to] w (fun e w' => ∃ (s' : Ds) (x : Int), e = .returned (.int .i64 x) ∧ DAt w' B g room (M + 1) s' ∧ Fr B w w' ∧
      ((x = 8 ∧ s' = s.dead ∧ s.stop) ∨ (¬ s.stop ∧ x = 0 ∧ s' = s.tick (s.cs ++ [⟨1, nm, to⟩])))) := by
  obtain ⟨b, N, n, c, A, h1, h2, h3⟩ := h
  by_cases hs : s.stop
  · refine (rename_stop B g b N n c A s.cs room s.fall s.dn s.F nm to w h1 hs).mono ?_
    rintro e w' ⟨rfl, hd, hk⟩
    exact ⟨s.dead, 8, rfl, ⟨b, N, n, c, A, hd, by omega, h3⟩, h1.frg' hk, .inl ⟨rfl, rfl, hs⟩⟩
  · have hdn : s.dn = false := by cases hd : s.dn with | false => rfl | true => exact absurd (.inl hd) hs
    have hf : s.fall ≠ 0 := fun e => hs (.inr e)
    have hf3 : (if 0 < s.fall then s.fall - 1 else s.fall) ≤ 9223372036854775807 := by split <;> omega
    rw [hdn] at h1
    refine (rename_ok B g b N n c A s.cs room s.fall s.F s.R nm to w h1 hf h3 (by omega) (by omega) rfl hsn hm1 hm2 hR).mono ?_
    rintro e w' ⟨rfl, ⟨q, cap, hd⟩, hk⟩
    exact ⟨s.tick (s.cs ++ [⟨1, nm, to⟩]), 0, rfl, ⟨b, N, n + 1, cap, _, hd, by omega, hf3⟩, h1.frg hk, .inr ⟨hs, rfl, rfl⟩⟩
theorem sync_ds (hM : M ≤ 80000) :
    Calls Try.prog 27 #[.pointer (some ⟨g, 0, none⟩)] w (fun e w' => ∃ (s' : Ds) (x : Int), e = .returned (.int .i64 x) ∧ DAt w' B g room (M + 1) s' ∧ Fr B w w' ∧
      ((x = 8 ∧ s' = s.dead ∧ s.stop) ∨ (¬ s.stop ∧ x = 0 ∧ s' = { s.tick [] with F := s.R }))) := by
  obtain ⟨b, N, n, c, A, h1, h2, h3⟩ := h
  by_cases hs : s.stop
  · refine (sync_stop B g b N n c A s.cs room s.fall s.dn s.F w h1 hs).mono ?_
    rintro e w' ⟨rfl, hd, hk⟩
    exact ⟨s.dead, 8, rfl, ⟨b, N, n, c, A, hd, by omega, h3⟩, h1.frg' hk, .inl ⟨rfl, rfl, hs⟩⟩
  · have hdn : s.dn = false := by cases hd : s.dn with | false => rfl | true => exact absurd (.inl hd) hs
    have hf : s.fall ≠ 0 := fun e => hs (.inr e)
    have hf3 : (if 0 < s.fall then s.fall - 1 else s.fall) ≤ 9223372036854775807 := by split <;> omega
    rw [hdn] at h1
    refine (sync_dk B g b N n c A s.cs room s.fall s.F s.R w h1 hf h3 (by omega) (by omega) rfl).mono ?_
    rintro e w' ⟨rfl, ⟨b', hd, _⟩, hk⟩
    exact ⟨_, 0, rfl, ⟨b', N + n, 0, 0, none, hd, by omega, hf3⟩, h1.frg' hk, .inr ⟨hs, rfl, rfl⟩⟩
theorem read_ds (k : List UInt8) (hM : M ≤ 80000) (hk : short k) (hu : s.dn = false) :
    Calls Try.prog 34 #[.pointer (some ⟨g, 0, none⟩), S k] w (fun e w' => e = .returned (.tuple #[S ((s.R k).getD []), .int .i64 (if (s.R k).isSome then 0 else 5)]) ∧ Below w.heap.size w w') := by
  obtain ⟨b, N, n, c, A, h1, h2, h3⟩ := h
  rw [hu] at h1
  exact read_dk B g b N n c A s.cs room s.fall s.F s.R k hk w h1 (by omega) (by omega) rfl
theorem names_ds (hM : M ≤ 80000) (hu : s.dn = false) :
    Calls Try.prog 37 #[.pointer (some ⟨g, 0, none⟩)] w (fun e w' => ∃ A' c' l, e = .returned (.slice A' l.length c') ∧ IsNames s.R l ∧ Rd w' (fun k => k < w.heap.size) 1 A' l.length (l.map S) ∧ Below w.heap.size w w') := by
  obtain ⟨b, N, n, c, A, h1, h2, h3⟩ := h
  rw [hu] at h1
  exact names_dk B g b N n c A s.cs room s.fall s.F s.R w h1 (by omega) (by omega) rfl
theorem fall_ds (x : Int) (hx : x ≤ 9223372036854775807) :
    Calls Try.prog 19 #[.pointer (some ⟨g, 0, none⟩), .int .i64 x] w (fun e w' => e = .returned (.tuple #[]) ∧ DAt w' B g room M { s with fall := max x 0 } ∧ Fr B w w') := by
  obtain ⟨b, N, n, c, A, h1, h2, h3⟩ := h
  refine (fall_dk B g b N n c A s.cs room s.fall s.dn s.F x w h1).mono ?_
  rintro e w' ⟨rfl, hd, hk⟩
  exact ⟨rfl, ⟨b, N, n, c, A, hd, h2, by show max x 0 ≤ _; omega⟩, h1.frg' hk⟩
theorem down_ds : Calls Try.prog 20 #[.pointer (some ⟨g, 0, none⟩)] w (fun e w' => e = .returned (.bool s.dn) ∧ w' = w) := by
  obtain ⟨b, N, n, c, A, h1, h2, h3⟩ := h
  cases hd : s.dn with
  | true => rw [hd] at h1; exact down_yes g b n c A room s.fall w h1.blk
  | false => rw [hd] at h1; exact down_no g b n c A room s.fall w h1.blk
theorem crash_ds (KA : Option Addr) (kn kc : Nat) (ks : List Bool) (hM : M ≤ 80000) (hr : room ≤ 4194304) (hk : Rd w (fun k => w.heap.size ≤ k) 1 KA kn (ks.map .bool)) (hkl : ks.length = kn) :
    Calls Try.prog 17 #[.pointer (some ⟨g, 0, none⟩), .slice KA kn kc] w (fun e w' => ∃ g', e = .returned (.pointer (some ⟨g', 0, none⟩)) ∧ DAt w' w.heap.size g' room M ⟨(kept ks s.cs).foldl chDo s.F, [], -1, false⟩ ∧ Below w.heap.size w w') := by
  obtain ⟨b, N, n, c, A, h1, h2, h3⟩ := h
  refine (crash_dk B g b N n c kn kc A KA s.cs ks room s.fall s.dn s.F _ w h1 hr (by omega) (by omega) rfl hk hkl).mono ?_
  rintro e w' ⟨g', b', rfl, hd, hb⟩
  exact ⟨g', rfl, ⟨b', N + n, 0, 0, none, hd, by omega, by show (-1 : Int) ≤ _; omega⟩, hb⟩
end
end Go.Proofs.Ytclgiapmbmbknaa
