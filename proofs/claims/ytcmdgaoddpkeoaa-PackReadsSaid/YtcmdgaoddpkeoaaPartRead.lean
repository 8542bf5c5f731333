/- The laws' own 'read' of a part, walked. -/
import Derived.Test.YtcmdgaoddpkeoaaParts
namespace Go.Proofs.Ytcmdgaoddpkeoaa
open Go.RowKit

/-- What a part of a kind is read as, and what is left. -/
def readP (k : Int) (st : Option (List UInt8)) : (Int × List UInt8) × Option (List UInt8) :=
  if k % 4 = 0 then ((((numR 9223372036854775807 st).1 : Nat), []), (numR 9223372036854775807 st).2)
  else if k % 4 = 1 then ((0, (textR 1000 st).1), (textR 1000 st).2)
  else if k % 4 = 2 then ((if (flagR st).1 then 1 else 0, []), (flagR st).2)
  else (((intR st).1, []), (intR st).2)

/-- The three boxes that 'read' lays: its argument's, its result's, its own part's. -/
def boxes (w : World) (kk nn K : Int) (s : List UInt8) : World :=
  ((w.alloc (.cells #[.int .i64 kk, .int .i64 nn, S s] 49)).alloc (.cells #[.int .i64 0, .int .i64 0, .string { data := #[] }] 49)).alloc (.cells #[.int .i64 K, .int .i64 0, .string { data := #[] }] 49)

theorem boxes_facts {w w2 : World} {g : Nat} {kk nn K : Int} {s : List UInt8} (hg : g < w.heap.size) (hk : Keep (fun k => k = g) (boxes w kk nn K s) w2) :
    (w2.cell? ⟨w.heap.size + 1 + 1, 0, none⟩ = some (.int .i64 K) ∧ w2.cell? ⟨w.heap.size + 1 + 1, 1, none⟩ = some (.int .i64 0) ∧ w2.cell? ⟨w.heap.size + 1 + 1, 2, none⟩ = some (.string { data := #[] })) ∧
    (w2.cell? ⟨w.heap.size + 1, 0, none⟩ = some (.int .i64 0) ∧ w2.cell? ⟨w.heap.size + 1, 1, none⟩ = some (.int .i64 0) ∧ w2.cell? ⟨w.heap.size + 1, 2, none⟩ = some (.string { data := #[] })) ∧
    (∀ i, w2.frozen? ⟨w.heap.size + 1 + 1, i, none⟩ = false) ∧ (∀ i, w2.frozen? ⟨w.heap.size + 1, i, none⟩ = false) ∧ Keep (fun k => k = g) w w2 ∧ w.heap.size + 3 ≤ w2.heap.size := by
  have b1 : Blk (boxes w kk nn K s) (w.heap.size + 1) 49 #[.int .i64 0, .int .i64 0, .string { data := #[] }] := by
    have := (Blk.new (w.alloc (.cells #[.int .i64 kk, .int .i64 nn, S s] 49)) 49 #[.int .i64 0, .int .i64 0, .string { data := #[] }]).alloc (.cells #[.int .i64 K, .int .i64 0, .string { data := #[] }] 49)
    rwa [World.size_alloc] at this
  have b2 : Blk (boxes w kk nn K s) (w.heap.size + 1 + 1) 49 #[.int .i64 K, .int .i64 0, .string { data := #[] }] := by
    have := Blk.new ((w.alloc (.cells #[.int .i64 kk, .int .i64 nn, S s] 49)).alloc (.cells #[.int .i64 0, .int .i64 0, .string { data := #[] }] 49)) 49 #[.int .i64 K, .int .i64 0, .string { data := #[] }]
    rwa [World.size_alloc, World.size_alloc] at this
  have d1 := b1.keep hk (by omega)
  have d2 := b2.keep hk (by omega)
  have hsz : (boxes w kk nn K s).heap.size = w.heap.size + 3 := by simp [boxes]
  refine ⟨⟨d2.cell 0, d2.cell 1, d2.cell 2⟩, ⟨d1.cell 0, d1.cell 1, d1.cell 2⟩, fun i => d2.frozen i, fun i => d1.frozen i, ?_, ?_⟩
  · exact ((((Keep.refl _ w).alloc _).alloc _).alloc _).trans hk
  · have := hk.size
    omega

theorem set_reads {w w2 : World} {g : Nat} {st : Option (List UInt8)} (hg : g < w.heap.size) (h : Rl w2 g st ∧ Keep (fun k => k = g) w w2) {p : Addr} (hp : w.heap.size ≤ p.block) (u : Value) :
    Rl (w2.setCell p u) g st ∧ Keep (fun k => k = g) w (w2.setCell p u) :=
  ⟨h.1.keep ((Keep.refl (fun k => k = p.block) w2).setCell (fun _ => rfl) u) (by omega), h.2.setCell (fun h => by omega) u⟩

set_option maxRecDepth 100000 in
set_option maxHeartbeats 2000000 in
theorem read_any (g : Nat) (st : Option (List UInt8)) (kk nn : Int) (s : List UInt8) (w : World) (h : Rl w g st) :
    Calls Try.prog 25 #[.pointer (some ⟨g, 0, none⟩), .agg #[.int .i64 kk, .int .i64 nn, S s]] w
      (ReadsTo g (.agg #[.int .i64 (kk % 4), .int .i64 (readP kk st).1.1, S (readP kk st).1.2]) (readP kk st).2 w) := by
  obtain ⟨R, hR⟩ : ∃ R, R = readP kk st := ⟨_, rfl⟩
  rw [← hR]
  obtain ⟨K, hK⟩ : ∃ K, K = kk % 4 := ⟨_, rfl⟩
  rw [← hK]
  have e3 : bits .and .i64 kk 3 = K := by rw [hK]; exact i64_and3 kk
  unfold readP at hR
  rw [← hK] at hR
  have HR := hide hR
  have hg := h.lt
  have hcase : K = 0 ∨ K = 1 ∨ K = 2 ∨ K = 3 := by omega
  clear hR hK
  have hA : ∀ K, Rl (boxes w kk nn K s) g st := fun K => ((h.alloc _).alloc _).alloc _
  go_enter Try.func25, Try.ntmps25
  rcases hcase with rfl | rfl | rfl | rfl
  · have HS : Hid (R = ((((numR 9223372036854775807 st).1 : Int), []), (numR 9223372036854775807 st).2)) := HR.out
    clear HR
    go_wp2_with fail
    refine (rnum_any g 9223372036854775807 st _ (hA 0) (by omega)).mono ?_
    rintro e w2 ⟨rfl, h2, k2⟩
    rw [show (9223372036854775807 : Int).toNat = 9223372036854775807 from rfl] at *
    obtain ⟨⟨c1, c2, c3⟩, ⟨d1, d2, d3⟩, f1, f2, kk2, hs2⟩ := boxes_facts hg k2
    generalize (numR 9223372036854775807 st).1 = x at *
    generalize (numR 9223372036854775807 st).2 = s2 at *
    have HE := hide (And.intro h2 kk2)
    clear k2 hA h2 kk2
    all_goals
      go_wp2
      refine bodyPost_ret (v := .agg #[.int .i64 0, .int .i64 R.1.1, S R.1.2]) ?_ rfl ?_
      · rw [HS.out]
        simp [results, Try.results25, go_sem, d1, d2, d3]
      · rw [HS.out]
        exact ⟨rfl, set_reads hg (set_reads hg (set_reads hg (set_reads hg HE.out (by simp; omega) _) (by simp) _) (by simp) _) (by simp) _⟩
  · have HS : Hid (R = ((0, (textR 1000 st).1), (textR 1000 st).2)) := HR.out
    clear HR
    go_wp2_with fail
    refine (rtext_any g 1000 st _ (hA 1) (by omega)).mono ?_
    rintro e w2 ⟨rfl, h2, k2⟩
    rw [show (1000 : Int).toNat = 1000 from rfl] at *
    obtain ⟨⟨c1, c2, c3⟩, ⟨d1, d2, d3⟩, f1, f2, kk2, hs2⟩ := boxes_facts hg k2
    generalize (textR 1000 st).1 = x at *
    generalize (textR 1000 st).2 = s2 at *
    have HE := hide (And.intro h2 kk2)
    clear k2 hA h2 kk2
    all_goals
      go_wp2
      refine bodyPost_ret (v := .agg #[.int .i64 1, .int .i64 R.1.1, S R.1.2]) ?_ rfl ?_
      · rw [HS.out]
        simp [results, Try.results25, go_sem, d1, d2, d3]
      · rw [HS.out]
        exact ⟨rfl, set_reads hg (set_reads hg (set_reads hg (set_reads hg HE.out (by simp; omega) _) (by simp) _) (by simp) _) (by simp) _⟩
  · have HS : Hid (R = ((if (flagR st).1 then 1 else 0, []), (flagR st).2)) := HR.out
    clear HR
    go_wp2_with fail
    refine (rflag_any g st _ (hA 2)).mono ?_
    rintro e w2 ⟨rfl, h2, k2⟩
    obtain ⟨⟨c1, c2, c3⟩, ⟨d1, d2, d3⟩, f1, f2, kk2, hs2⟩ := boxes_facts hg k2
    generalize (flagR st).1 = x at *
    generalize (flagR st).2 = s2 at *
    have HE := hide (And.intro h2 kk2)
    clear k2 hA h2 kk2
    cases x
    · go_wp2
      refine bodyPost_ret (v := .agg #[.int .i64 2, .int .i64 R.1.1, S R.1.2]) ?_ rfl ?_
      · rw [HS.out]
        simp [results, Try.results25, go_sem, d1, d2, d3]
      · rw [HS.out]
        exact ⟨rfl, set_reads hg (set_reads hg (set_reads hg HE.out (by simp) _) (by simp) _) (by simp) _⟩
    · go_wp2
      refine bodyPost_ret (v := .agg #[.int .i64 2, .int .i64 R.1.1, S R.1.2]) ?_ rfl ?_
      · rw [HS.out]
        simp [results, Try.results25, go_sem, d1, d2, d3]
      · rw [HS.out]
        exact ⟨rfl, set_reads hg (set_reads hg (set_reads hg (set_reads hg HE.out (by simp; omega) _) (by simp) _) (by simp) _) (by simp) _⟩
  · have HS : Hid (R = (((intR st).1, []), (intR st).2)) := HR.out
    clear HR
    go_wp2_with fail
    refine (rint_any g st _ (hA 3)).mono ?_
    rintro e w2 ⟨rfl, h2, k2⟩
    obtain ⟨⟨c1, c2, c3⟩, ⟨d1, d2, d3⟩, f1, f2, kk2, hs2⟩ := boxes_facts hg k2
    generalize (intR st).1 = x at *
    generalize (intR st).2 = s2 at *
    have HE := hide (And.intro h2 kk2)
    clear k2 hA h2 kk2
    all_goals
      go_wp2
      refine bodyPost_ret (v := .agg #[.int .i64 3, .int .i64 R.1.1, S R.1.2]) ?_ rfl ?_
      · rw [HS.out]
        simp [results, Try.results25, go_sem, d1, d2, d3]
      · rw [HS.out]
        exact ⟨rfl, set_reads hg (set_reads hg (set_reads hg (set_reads hg HE.out (by simp; omega) _) (by simp) _) (by simp) _) (by simp) _⟩

end Go.Proofs.Ytcmdgaoddpkeoaa
