/- A disk and the page's model side by side: an act of both, both held against each other; no statement of the seat is proved here. -/
import Derived.Test.YtkgljicibjlabaaDiskDoM
import Derived.Test.YtkgljicibjlabaaDiskSame
namespace Go.Proofs.Ytkgljicibjlabaa
open Go.RowKit Go.Maps

section
variable {w w' : World} {B g b N n c : Nat} {A : Option Addr} {cs : List Ch} {room : Nat} {fall : Int} {dn : Bool} {F : Fl}
  {B2 h bm Nm nm cm : Nat} {Am : Option Addr} {ac : List Ac} {size : Nat} {falls : Int} {dnm : Bool} {Fm : Fl}

theorem map_ne_row {b N n c B : Nat} {A : Option Addr} {F : Fl} {w : World} {e : TypeId} {size : Nat} {xs : List Value} (ht : TxtIs w b N F) (ho : w.ownsRow B e size (.slice A n c) n xs) : (Value.slice A n c).ownBlock ≠ some b := by
  intro e
  rcases ho.2 with ⟨hv, _⟩ | ⟨g', cap, cur, hv, _, hh, _⟩
  · rw [hv] at e; simp [Value.ownBlock] at e
  · rw [hv] at e
    have : g' = b := by simpa [Value.ownBlock] using e
    subst this
    obtain ⟨D, ⟨es, clock, hb, _⟩, _⟩ := ht
    rw [hb] at hh
    cases hh
theorem map_ne_blk {b N g : Nat} {F : Fl} {w : World} {t : TypeId} {cs : Array Value} (ht : TxtIs w b N F) (hb : Blk w g t cs) : b ≠ g := by
  rintro rfl
  obtain ⟨D, ⟨es, clock, h, _⟩, _⟩ := ht
  unfold Blk at hb
  rw [hb] at h
  cases h
theorem row_ne_row {n c n' c' B B' : Nat} {A A' : Option Addr} {w : World} {e e' : TypeId} {size size' : Nat} {xs xs' : List Value} (h : w.ownsRow B e size (.slice A n c) n xs) (h' : w.ownsRow B' e' size' (.slice A' n' c') n' xs') (hne : e ≠ e') {k : Nat}
    (hk : (Value.slice A n c).ownBlock = some k) : (Value.slice A' n' c').ownBlock ≠ some k := by
  rcases h.2 with ⟨hv, _⟩ | ⟨g1, cap, cur, hv, _, hh, _⟩
  · rw [hv] at hk; simp [Value.ownBlock] at hk
  · rw [hv] at hk
    have : g1 = k := by simpa [Value.ownBlock] using hk
    subst this
    exact own_blk_ne h' hh hne.symm

theorem Md.keepD (m : Md w B2 h bm Nm nm cm Am ac size falls dnm Fm) (d : Dk w B g b N n c A cs room fall dn F) (hk : Keep (fun k => k = g ∨ (Value.slice A n c).ownBlock = some k) w w') : Md w' B2 h bm Nm nm cm Am ac size falls dnm Fm := by
  refine m.keep hk ?_ ?_ ?_
  · rintro (e | e)
    · exact Blk.ne_ m.blk d.blk (by decide) e
    · exact own_blk_ne d.own m.blk (by decide) e
  · rintro (e | e)
    · exact map_ne_blk m.txt d.blk e
    · exact map_ne_row m.txt d.own e
  · rintro k hk' (e | e)
    · subst e; exact own_blk_ne m.own d.blk (by decide) hk'
    · exact row_ne_row m.own d.own (by decide) hk' e
theorem Dk.keepM (d : Dk w B g b N n c A cs room fall dn F) (m : Md w B2 h bm Nm nm cm Am ac size falls dnm Fm) (hk : Keep (fun k => k = h ∨ (Value.slice Am nm cm).ownBlock = some k) w w') : Dk w' B g b N n c A cs room fall dn F := by
  refine d.keep hk ?_ ?_ ?_
  · rintro (e | e)
    · exact Blk.ne_ d.blk m.blk (by decide) e
    · exact own_blk_ne m.own d.blk (by decide) e
  · rintro (e | e)
    · exact map_ne_blk d.txt m.blk e
    · exact map_ne_row d.txt m.own e
  · rintro k hk' (e | e)
    · subst e; exact own_blk_ne d.own m.blk (by decide) hk'
    · exact row_ne_row d.own m.own (by decide) hk' e
end

theorem St.R_app (s : St) (c : Ch) (f : Int) (d : Bool) : St.R ⟨s.F, s.cs ++ [c], f, d⟩ = chDo s.R c := by
  show (s.cs ++ [c]).foldl chDo s.F = _
  rw [List.foldl_append]
  rfl
theorem nxt_tot {s : St} {tot : Nat} (h : Tot s.R tot) (free : Int) (a : Ac) (ha : a.tx.length ≤ 100) : ∃ tot', Tot (s.nxt free a).R tot' ∧ tot' ≤ tot + 100 := by
  have same : ∀ t : St, t.R = s.R → ∃ tot', Tot t.R tot' ∧ tot' ≤ tot + 100 := fun t e => ⟨tot, e ▸ h, by omega⟩
  unfold St.nxt
  split
  · exact same _ rfl
  · split
    · exact same _ rfl
    · split
      · exact same _ rfl
      · split
        · exact same _ rfl
        · rw [St.R_app]
          unfold chOf chDo
          by_cases h1 : a.kap ≤ 1
          · rw [if_pos h1]
            obtain ⟨m, h2, h3⟩ := h.set a.nm a.tx
            exact ⟨m, by simpa using h2, by omega⟩
          · by_cases h2 : a.kap = 2
            · rw [if_neg h1, if_pos h2]
              cases hR : s.R a.nm with
              | none => exact ⟨tot, by simpa [hR] using h, by omega⟩
              | some o =>
                obtain ⟨m, h3, h4⟩ := h.del a.nm
                obtain ⟨m2, h5, h6⟩ := h3.set a.to o
                rw [hR] at h4
                have h4 : m + o.length = tot := h4
                exact ⟨m2, by simpa [hR] using h5, by omega⟩
            · rw [if_neg h1, if_neg h2]
              obtain ⟨m, h3, h4⟩ := h.del a.nm
              exact ⟨m, by simpa using h3, by omega⟩
theorem wf_i64 {x : Int} (h : (Lit.int .i64 x).wf = true) : -9223372036854775808 ≤ x ∧ x ≤ 9223372036854775807 := by
  have h2 : (decide (IntKind.i64.min ≤ x) && decide (x ≤ IntKind.i64.max)) = true := h
  rw [Bool.and_eq_true, decide_eq_true_eq, decide_eq_true_eq] at h2
  have e1 : IntKind.i64.min = -9223372036854775808 := by decide
  have e2 : IntKind.i64.max = 9223372036854775807 := by decide
  omega
theorem nxt_fall {s : St} (h : -1 ≤ s.fall ∧ s.fall ≤ 9223372036854775807) (free : Int) (a : Ac) (ha : a.ok) : -1 ≤ (s.nxt free a).fall ∧ (s.nxt free a).fall ≤ 9223372036854775807 := by
  have hw := wf_i64 ha.2.1
  have hs : -1 ≤ fallS s.fall ∧ fallS s.fall ≤ 9223372036854775807 := by unfold fallS; split <;> omega
  unfold St.nxt
  split
  · show -1 ≤ max a.n 0 ∧ max a.n 0 ≤ _; omega
  · split
    · exact h
    · split
      · exact hs
      · split <;> exact hs

/-- A disk and a model side by side, and the act's own copy. -/
structure Bo (pre : Bool) (w : World) (g h room k1 k2 : Nat) (s1 s2 : St) (x : Nat) (a : Ac) (w' : World) : Prop where
  d : ∃ b N n c A, Dk w' w.heap.size g b N n c A s1.cs room s1.fall s1.dn s1.F ∧ N + n ≤ k1
  m : ∃ b N n c A ac, MdS w' w.heap.size h b N n c A ac room s2 ∧ N + n ≤ k2 ∧ (pre = true → (Value.slice A n c).ownBlock ≠ some x)
  x : Blk w' x 49 #[.int .i64 a.k, .int .i64 a.n, S a.nm, S a.to, S a.tx]
  b : Below w.heap.size w w'

section
variable {pre : Bool} {w w' w'' : World} {g h room k1 k2 : Nat} {s1 s2 : St} {x : Nat} {a : Ac}
theorem Bo.cells (i : Bo pre w g h room k1 k2 s1 s2 x a w') : w'.cell? ⟨x, 0, none⟩ = some (.int .i64 a.k) ∧ w'.cell? ⟨x, 1, none⟩ = some (.int .i64 a.n) ∧ w'.cell? ⟨x, 2, none⟩ = some (S a.nm) ∧ w'.cell? ⟨x, 3, none⟩ = some (S a.to) ∧ w'.cell? ⟨x, 4, none⟩ = some (S a.tx) :=
  ⟨i.x.cell 0, i.x.cell 1, i.x.cell 2, i.x.cell 3, i.x.cell 4⟩
theorem Bo.below (i : Bo pre w g h room k1 k2 s1 s2 x a w') (hb : Below w'.heap.size w' w'') : Bo pre w g h room k1 k2 s1 s2 x a w'' := by
  obtain ⟨⟨b, N, n, c, A, hd, hn⟩, ⟨bm, Nm, nm, cm, Am, ac, hm, hnm, hx⟩, hbx, hbb⟩ := i
  exact ⟨⟨b, N, n, c, A, hd.below hb, hn⟩, ⟨bm, Nm, nm, cm, Am, ac, ⟨hm.1.below hb, hm.2⟩, hnm, hx⟩, hbx.below hb hbx.lt, hbb.trans (hb.mono hbb.size)⟩
theorem Bo.drew (i : Bo pre w g h room k1 k2 s1 s2 x a w') : Bo pre w g h room k1 k2 s1 s2 x a w'.drew := i.below (Below.refl _ _).drew

theorem play_both (i : Bo pre w g h room k1 k2 s1 s2 x a w') (ha : a.ok) (htl : a.tx.length ≤ 1000000) (hf : s1.fall ≤ 9223372036854775807) {tot : Nat} (hT : Tot s1.R tot) (ht : tot ≤ 1000000000000) (hr : room ≤ 4194304) (hk : k1 ≤ 80000) :
    Calls Try.prog 25 #[.pointer (some ⟨g, 0, none⟩), a.val] w' (fun e w'' => e = .returned (.int .i64 (s1.err ((room : Int) - tot) a : Nat)) ∧ Bo pre w g h room (k1 + 1) k2 (s1.nxt ((room : Int) - tot) a) s2 x a w'') := by
  obtain ⟨⟨b, N, n, c, A, hd, hn⟩, ⟨bm, Nm, nm, cm, Am, ac, hm, hnm, hx⟩, hbx, hbb⟩ := i
  refine (play_any w.heap.size g b N n c A room s1 a tot w' hd ha hf (by omega) (by omega) hT ht hr htl).mono ?_
  rintro e w'' ⟨rfl, ⟨b', N', n', c', A', hd', hn'⟩, hk'⟩
  refine ⟨rfl, ⟨b', N', n', c', A', hd', by omega⟩, ⟨bm, Nm, nm, cm, Am, ac, ⟨hm.1.keepD hd hk', hm.2⟩, hnm, hx⟩, hbx.keep hk' ?_, ?_⟩
  · rintro (e | e)
    · exact Blk.ne_ hbx hd.blk (by decide) e
    · exact own_blk_ne hd.own hbx (by decide) e
  · exact hbb.trans (hk'.below hbb.size (fun k hk => by
      rcases hk with rfl | e
      · exact hd.gB
      · exact (own_base' hd.own e).1))

theorem do_both (i : Bo true w g h room k1 k2 s1 s2 x a w') (ha : a.ok) (htl : a.tx.length ≤ 1000000) (hf : -1 ≤ s2.fall ∧ s2.fall ≤ 9223372036854775807) {tot : Nat} (hT : Tot s2.R tot) (ht : tot ≤ 1000000000000) (hr : room ≤ 4194304) (hk : k2 ≤ 80000) :
    Calls Try.prog 26 #[.pointer (some ⟨h, 0, none⟩), a.val] w' (fun e w'' => e = .returned (.int .i64 (s2.err ((room : Int) - tot) a : Nat)) ∧ Bo false w g h room k1 (k2 + 1) s1 (s2.nxt ((room : Int) - tot) a) x a w'') := by
  obtain ⟨⟨b, N, n, c, A, hd, hn⟩, ⟨bm, Nm, nm, cm, Am, ac, hm, hnm, hx⟩, hbx, hbb⟩ := i
  refine (dom_any w.heap.size h bm Nm nm cm Am ac room s2 a tot w' hm ha hf.2 hf.1 (by omega) (by omega) hT ht hr htl).mono ?_
  rintro e w'' ⟨rfl, ⟨b', N', n', c', A', ac', hm', hn'⟩, hk'⟩
  refine ⟨rfl, ⟨b, N, n, c, A, hd.keepM hm.1 hk', hn⟩, ⟨b', N', n', c', A', ac', hm', by omega, by simp⟩, hbx.keep hk' ?_, ?_⟩
  · rintro (e | e)
    · exact Blk.ne_ hbx hm.1.blk (by decide) e
    · exact hx rfl e
  · exact hbb.trans (hk'.below hbb.size (fun k hk => by
      rcases hk with rfl | e
      · exact hm.1.hB
      · exact (own_base' hm.1.own e).1))

theorem same_both {s : St} (i : Bo pre w g h room k1 k2 s s x a w') {tot : Nat} (hT : Tot s.R tot) (ht : tot ≤ 1000000000000) (hr : room ≤ 4194304) (hk1 : k1 ≤ 80000) (hk2 : k2 ≤ 80000) :
    Calls Try.prog 27 #[.pointer (some ⟨g, 0, none⟩), .pointer (some ⟨h, 0, none⟩)] w' (fun e w'' => e = .returned (.bool true) ∧ Bo pre w g h room k1 k2 s s x a w'') := by
  have i0 := i
  obtain ⟨⟨b, N, n, c, A, hd, hn⟩, ⟨bm, Nm, nm, cm, Am, ac, hm, hnm, hx⟩, hbx, hbb⟩ := i
  refine (same_any w.heap.size g b N n c A s.cs w.heap.size h bm Nm nm cm Am ac room s.fall s.fall s.dn s.F s.F s.R tot w' hd hm.1 rfl (by rw [fold_eq ac _ hm.2.2, hm.2.1]; rfl) (by omega) (by omega) (by omega) (by omega) hT ht hr).mono ?_
  rintro e w'' ⟨rfl, hb⟩
  exact ⟨rfl, i0.below hb⟩
end
end Go.Proofs.Ytkgljicibjlabaa
