/- What RepoCommits' calls answer; no statement of the seat is proved here. (Written by gen/repcommits.py.) -/
import Derived.Test.YtclgiapmbmbknaaMRepStep
namespace Go.Proofs.Ytclgiapmbmbknaa
open Go.RowKit Go.Maps
set_option linter.unusedVariables false
set_option linter.unusedSimpArgs false

theorem bit1 (n : Int) : bits .and .i64 n 1 = 0 ∨ bits .and .i64 n 1 = 1 := by
  obtain ⟨j, h1, h2⟩ := i64_low' 1 1 (by omega) rfl n
  replace h2 : bits .and .i64 n 1 = (j : Int) := h2
  rw [h2]
  omega
/-- A list of the law's at hand. -/
def LiX (w : World) (B0 : Nat) (O : List (Nat × Nat)) (A : Option Addr) (n c : Nat) : Prop := ∃ L : List Enq, L.map Enq.pl = O.map entX ∧ L.length = n ∧ LiOwn w B0 A n c L
theorem LiX.mk_ {w : World} {B0 : Nat} {O : List (Nat × Nat)} {A : Option Addr} {c : Nat} {L : List Enq} (h : L.map Enq.pl = O.map entX) (hl : LiOwn w B0 A L.length c L) : LiX w B0 O A L.length c := ⟨L, h, rfl, hl⟩
theorem LiX.onb {w w' : World} {B0 : Nat} {O : List (Nat × Nat)} {A : Option Addr} {n c : Nat} (h : LiX w B0 O A n c) (hb : Below w.heap.size w w') : LiX w' B0 O A n c := by
  obtain ⟨L, h1, h2, h3⟩ := h
  exact ⟨L, h1, h2, h3.onb hb⟩
theorem LiX.fr {w w' : World} {B B0 : Nat} {O : List (Nat × Nat)} {A : Option Addr} {n c : Nat} (h : LiX w B0 O A n c) (hb : Fr B w w') : LiX w' B0 O A n c := by
  obtain ⟨L, h1, h2, h3⟩ := h
  exact ⟨L, h1, h2, h3.fr hb⟩
theorem LiX.base {w : World} {B0 B1 : Nat} {O : List (Nat × Nat)} {A : Option Addr} {n c : Nat} (h : LiX w B0 O A n c) (hb : B1 ≤ B0) : LiX w B1 O A n c := by
  obtain ⟨L, h1, h2, h3⟩ := h
  exact ⟨L, h1, h2, h3.base hb⟩
theorem LiX.store {w w' : World} {B0 q : Nat} {O : List (Nat × Nat)} {A : Option Addr} {n c : Nat} {t : TypeId} {cs : Array Value} (h : LiX w B0 O A n c) (hq : Blk w q t cs) (h1 : t ≠ 44) (h2 : t ≠ 87) (hk : Keep (fun k => k = q) w w') : LiX w' B0 O A n c := by
  obtain ⟨L, l1, l2, l3⟩ := h
  exact ⟨L, l1, l2, ⟨own_keep l3.own hk (fun k hk' e => own_blk_ne l3.own hq (fun e2 => h1 e2.symm) (e ▸ hk')), fun e he => (l3.en e he).keep hk (fun k hk' e2 => own_blk_ne (l3.en e he).own hq (fun e3 => h2 e3.symm) (e2 ▸ hk')), l3.ll⟩⟩
theorem same_x {w : World} {P O : List (Nat × Nat)} {B1 B2 n1 n2 c1 c2 : Nat} {A1 A2 : Option Addr} (hP : OkX P) (hO : OkX O) (h1 : LiX w B1 P A1 n1 c1) (h2 : LiX w B2 O A2 n2 c2) :
    Calls Try.prog 18 #[.slice A1 n1 c1, .slice A2 n2 c2] w (Gives w (.bool (decide (P = O)))) := by
  obtain ⟨L1, a1, rfl, l1⟩ := h1
  obtain ⟨L2, a2, rfl, l2⟩ := h2
  exact same_any P O hP hO w B1 A1 c1 L1 a1 l1 B2 A2 c2 L2 a2 l2
theorem whole_x {w : World} {B g room M : Nat} {P : List (Nat × Nat)} {s : Ds} (h : Calm w B g room M P s) (hM : M ≤ 79000) {B0 n c : Nat} {A : Option Addr} (hl : LiX w B0 P A n c) :
    Calls Try.prog 16 #[.pointer (some ⟨g, 0, none⟩), .slice A n c] w (fun e w' => e = .returned (.bool true) ∧ Below w.heap.size w w') := by
  obtain ⟨L, a, rfl, l⟩ := hl
  exact whole_ok h hM B0 A c L a l
theorem whole_y {w : World} {B g room M : Nat} {P : List (Nat × Nat)} {s : Ds} (h : DAt w B g room M s) (hP : OkX P) (hu : s.dn = false) (hc : s.cs = []) (he : Exact P s.F) (hM : M ≤ 79000) {B0 n c : Nat} {A : Option Addr} (hl : LiX w B0 P A n c) :
    Calls Try.prog 16 #[.pointer (some ⟨g, 0, none⟩), .slice A n c] w (fun e w' => e = .returned (.bool true) ∧ Below w.heap.size w w') := by
  obtain ⟨L, a, rfl, l⟩ := hl
  exact whole_ds P hP B g room M s w h hM hu (by rw [Ds.R_nil hc]; exact he) B0 A c L a l
/-- A disk that is up, on which what was done since does a list no harm. -/
structure Up (w : World) (B g room M : Nat) (Q : List (Nat × Nat)) (s : Ds) : Prop where
  dat : DAt w B g room M s
  ok : OkX Q
  dn : s.dn = false
  hs : Hs Q s
theorem Up.below {w w' : World} {B g room M : Nat} {O : List (Nat × Nat)} {s : Ds} (h : Up w B g room M O s) (hb : Below w.heap.size w w') : Up w' B g room M O s := { h with dat := h.dat.below hb }
theorem Calm.up {w : World} {B g room M : Nat} {O : List (Nat × Nat)} {s : Ds} (h : Calm w B g room M O s) : Up w B g room M O s := ⟨h.dat, h.ok, h.dn, h.ex.hs h.cs⟩
/-- What Commit leaves. -/
def Left (O P : List (Nat × Nat)) (x : Int) (fb : Bool) (s : Ds) : Prop :=
  (x = 8 ∧ s.dn = true ∧ Either O P s) ∨ (x = 7 ∧ s.dn = false ∧ s.cs = [] ∧ Exact O s.F ∧ (fb = false → s.fall < 0)) ∨ (x = 0 ∧ s.dn = false ∧ s.cs = [] ∧ Exact P s.F ∧ (fb = false → s.fall < 0))
theorem commit_x {w : World} {B g room M : Nat} {O P : List (Nat × Nat)} {s : Ds} {fb : Bool} (h : DAt w B g room M s) (hO : OkX O) (hP : OkX P) (hu : s.dn = false) (hc : s.cs = []) (he : Exact O s.F) (hf : fb = false → s.fall < 0) (hM : M ≤ 77000) (hr : room ≤ 4194304)
    {B0 n c : Nat} {A : Option Addr} (hl : LiX w B0 P A n c) {B1 n1 c1 : Nat} {A1 : Option Addr} (hx : w.ownsRow B1 9 1 (.slice A1 n1 c1) n1 ((P.map txt).map S)) (hn1 : n1 = P.length) :
    Calls Try.prog 9 #[.agg #[.pointer (some ⟨g, 0, none⟩)], .slice A n c, .slice A1 n1 c1] w (fun e w' => ∃ (s' : Ds) (x : Int), e = .returned (.int .i64 x) ∧ DAt w' B g room (M + 100) s' ∧ Fr B w w' ∧ Left O P x fb s') := by
  obtain ⟨L, a, rfl, l⟩ := hl
  refine (commit_ds O P hO hP B g room M s w h hM hr hu (he.hs hc) B0 A c L a l B1 A1 n1 c1 hx hn1).mono ?_
  rintro e w' ⟨s', x, rfl, hd, hfr, ⟨r1, r2, _, r3⟩ | ⟨r1, r2, r3, r4, _, r5⟩ | ⟨r1, r2, r3, r4, r5⟩⟩
  · exact ⟨s', x, rfl, hd, hfr, .inl ⟨r1, r2, r3⟩⟩
  · exact ⟨s', x, rfl, hd, hfr, .inr (.inl ⟨r1, r2, r3, r4, fun e => by rw [r5 (hf e)]; exact hf e⟩)⟩
  · exact ⟨s', x, rfl, hd, hfr, .inr (.inr ⟨r1, r2, r3, r4, fun e => by rw [r5 (hf e)]; exact hf e⟩)⟩
/-- The power fails: what was kept does a list no harm. -/
theorem crash_x {w : World} {B g room M : Nat} {s : Ds} (h : DAt w B g room M s) {Q : List (Nat × Nat)} (hQ : OkX Q) (ks : List Bool) (hg : Good Q ((kept ks s.cs).foldl chDo s.F)) (hM : M ≤ 80000) (hr : room ≤ 4194304) {KA : Option Addr} {kn kc : Nat} (hk : Rd w (fun k => w.heap.size ≤ k) 1 KA kn (ks.map Value.bool)) (hkl : ks.length = kn) :
    Calls Try.prog 17 #[.pointer (some ⟨g, 0, none⟩), .slice KA kn kc] w (fun e w' => ∃ g' s', e = .returned (.pointer (some ⟨g', 0, none⟩)) ∧ Up w' w.heap.size g' room M Q s' ∧ s'.cs = [] ∧ s'.fall < 0 ∧ Below w.heap.size w w') := by
  refine (crash_ds B g room M s w h KA kn kc ks hM hr hk hkl).mono ?_
  rintro e w' ⟨g', rfl, hd, hb⟩
  exact ⟨g', _, rfl, ⟨hd, hQ, rfl, ⟨hg, fun c hm => by cases hm⟩⟩, rfl, by show (-1 : Int) < 0; omega, hb⟩
/-- Recovery, whatever falls. -/
theorem recov_x {w : World} {B g room M : Nat} {Q : List (Nat × Nat)} {s : Ds} (h : Up w B g room M Q s) (hM : M ≤ 78000) :
    Calls Try.prog 10 #[.agg #[.pointer (some ⟨g, 0, none⟩)]] w (fun e w' => ∃ (s' : Ds) (x : Int) (A : Option Addr) (n c : Nat), e = .returned (.tuple #[.slice A n c, .int .i64 x]) ∧ (x = 8 ∨ x = 0) ∧ LiX w' w.heap.size Q A n c ∧ DAt w' B g room (M + 60) s' ∧ Fr B w w' ∧ Hs Q s' ∧ (s.fall < 0 → x = 0 ∧ Calm w' B g room (M + 60) Q s')) := by
  refine (recov_ds Q h.ok B g room M s w h.dat hM h.dn h.hs).mono ?_
  rintro e w' ⟨s', x, A, c, L, rfl, hpl, hli, hd, hf, hh, ⟨rfl, _, h8⟩ | ⟨rfl, h1, h2, h3, h4⟩⟩
  · exact ⟨s', 8, A, L.length, c, rfl, .inl rfl, LiX.mk_ hpl hli, hd, hf, hh, fun h0 => absurd h8 (by omega)⟩
  · exact ⟨s', 0, A, L.length, c, rfl, .inr rfl, LiX.mk_ hpl hli, hd, hf, hh, fun h0 => ⟨rfl, hd, h.ok, h1, h2, h3, by rw [h4 h0]; exact h0⟩⟩
end Go.Proofs.Ytclgiapmbmbknaa
