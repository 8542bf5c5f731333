/- Repo.Load, walked; no statement of the seat is proved here. -/
import Derived.Test.YtclgiapmbmbknaaMRepW2
namespace Go.Proofs.Ytclgiapmbmbknaa
open Go.RowKit Go.Maps
set_option linter.unusedVariables false
set_option linter.unusedSimpArgs false

theorem LiOwn.fr {w w' : World} {B0 B n c : Nat} {A : Option Addr} {L : List Enq} (h : LiOwn w B0 A n c L) (hf : Fr B w w') : LiOwn w' B0 A n c L :=
  ⟨hf.own h.own (by decide) (by decide), fun e he => { h.en e he with own := hf.own (h.en e he).own (by decide) (by decide) }, h.ll⟩
theorem LiOwn.base {w : World} {B0 B1 n c : Nat} {A : Option Addr} {L : List Enq} (h : LiOwn w B0 A n c L) (hb : B1 ≤ B0) : LiOwn w B1 A n c L :=
  ⟨own_base_mono h.own hb, fun e he => { h.en e he with own := own_base_mono (h.en e he).own hb }, h.ll⟩
theorem LiOwn.nil (w : World) (B0 : Nat) : LiOwn w B0 none 0 0 [] := ⟨World.ownsRow_nil _ _ _ _, by simp, rfl⟩
set_option maxRecDepth 100000 in
set_option maxHeartbeats 2000000 in
theorem load_some (B g room M : Nat) (s : Ds) (w : World) (h : DAt w B g room M s) (hM : M ≤ 80000) (hu : s.dn = false) (t : List UInt8) (hR : s.R nList = some t) (ht : t.length ≤ 1000) :
    Calls Try.prog 14 #[.agg #[.pointer (some ⟨g, 0, none⟩)]] w (DecDone t w) := by
  obtain ⟨qb, hqb⟩ : ∃ q, q = w.heap.size := ⟨_, rfl⟩
  obtain ⟨wA, hwA⟩ : ∃ wE, wE = w.alloc (.cells #[.pointer (some ⟨g, 0, none⟩)] 34) := ⟨_, rfl⟩
  have HBA : Hid (Below w.heap.size w wA) := hide (by rw [hwA]; exact (Below.refl _ w).alloc (Nat.le_refl _) _)
  have q0 : wA.cell? ⟨qb, 0, none⟩ = some (.pointer (some ⟨g, 0, none⟩)) := by rw [hwA, hqb]; exact (Blk.new _ _ _).cell 0
  have HRD := hide (read_ds B g room M s wA (h.below HBA.out) nList hM (by unfold short nList; simp) hu)
  rw [hR] at HRD
  simp only [Option.getD_some, Option.isSome_some, if_true] at HRD
  have HDE : Hid (∀ W, Calls Try.prog 22 #[S t] W (DecDone t W)) := hide (fun W => dec_any t W (by omega))
  clear h hR
  unfold nList at HRD
  go_enter Try.func14, Try.ntmps14
  go_upto_region 1 with fail
  rw [← hwA, ← hqb]
  clear hwA hqb
  go_upto_region 6 with (go_at_call 34; refine HRD.out.mono ?_; rintro e w1 ⟨rfl, hb⟩; have HB1 := hide (HBA.out.trans (hb.mono HBA.out.size)); clear hb)
  go_wp2_with fail
  refine (HDE.out w1).mono ?_
  rintro e w2 ⟨hb2, hd⟩
  have HB2 := hide (HB1.out.trans (hb2.mono HB1.out.size))
  have HBW : Hid (w.heap.size ≤ w1.heap.size) := hide HB1.out.size
  clear hb2 HDE HRD
  rcases hd with ⟨hn, rfl⟩ | ⟨A, c, L, rfl, hs, hl⟩
  · have HN := hide hn
    clear hn
    go_wp2_with fail
    go_ret2
    exact ⟨HB2.out, .inl ⟨HN.out, rfl⟩⟩
  · have HN := hide (And.intro hs hl)
    clear hs hl
    go_wp2_with fail
    go_ret2
    exact ⟨HB2.out, .inr ⟨A, c, L, rfl, HN.out.1, HN.out.2.base HBW.out⟩⟩
set_option maxRecDepth 100000 in
set_option maxHeartbeats 2000000 in
theorem load_none (B g room M : Nat) (s : Ds) (w : World) (h : DAt w B g room M s) (hM : M ≤ 80000) (hu : s.dn = false) (hR : s.R nList = none) :
    Calls Try.prog 14 #[.agg #[.pointer (some ⟨g, 0, none⟩)]] w (fun e w' => e = .returned (.tuple #[.slice none 0 0, .int .i64 0]) ∧ Below w.heap.size w w') := by
  obtain ⟨qb, hqb⟩ : ∃ q, q = w.heap.size := ⟨_, rfl⟩
  obtain ⟨wA, hwA⟩ : ∃ wE, wE = w.alloc (.cells #[.pointer (some ⟨g, 0, none⟩)] 34) := ⟨_, rfl⟩
  have HBA : Hid (Below w.heap.size w wA) := hide (by rw [hwA]; exact (Below.refl _ w).alloc (Nat.le_refl _) _)
  have q0 : wA.cell? ⟨qb, 0, none⟩ = some (.pointer (some ⟨g, 0, none⟩)) := by rw [hwA, hqb]; exact (Blk.new _ _ _).cell 0
  have HRD := hide (read_ds B g room M s wA (h.below HBA.out) nList hM (by unfold short nList; simp) hu)
  rw [hR] at HRD
  simp only [Option.getD_none, Option.isSome_none, Bool.false_eq_true, if_false] at HRD
  clear h hR
  unfold nList at HRD
  go_enter Try.func14, Try.ntmps14
  go_upto_region 1 with fail
  rw [← hwA, ← hqb]
  clear hwA hqb
  go_wp2_with (go_at_call 34; refine HRD.out.mono ?_; rintro e w1 ⟨rfl, hb⟩; have HB1 := hide (HBA.out.trans (hb.mono HBA.out.size)); clear hb)
  go_ret2
  exact ⟨rfl, HB1.out⟩
/-- The list that there is. -/
theorem load_ds (O : List (Nat × Nat)) (hO : OkX O) (B g room M : Nat) (s : Ds) (w : World) (h : DAt w B g room M s) (hM : M ≤ 80000) (hu : s.dn = false) (hg : s.R nList = some (encX O) ∨ (s.R nList = none ∧ O = [])) :
    Calls Try.prog 14 #[.agg #[.pointer (some ⟨g, 0, none⟩)]] w (fun e w' => ∃ (A : Option Addr) (c : Nat) (L : List Enq), e = .returned (.tuple #[.slice A L.length c, .int .i64 0]) ∧ L.map Enq.pl = O.map entX ∧ LiOwn w' w.heap.size A L.length c L ∧ Below w.heap.size w w') := by
  rcases hg with hl | ⟨hl, rfl⟩
  · refine (load_some B g room M s w h hM hu _ hl (by have := encX_len hO; omega)).mono ?_
    rintro e w' ⟨hb, ⟨hn, _⟩ | ⟨A, c, L, rfl, hs, ho⟩⟩
    · rw [dec_encX hO] at hn; cases hn
    · rw [dec_encX hO] at hs
      injection hs with hs
      exact ⟨A, c, L, rfl, hs.symm, ho, hb⟩
  · refine (load_none B g room M s w h hM hu hl).mono ?_
    rintro e w' ⟨rfl, hb⟩
    exact ⟨none, 0, [], rfl, rfl, LiOwn.nil _ _, hb⟩
end Go.Proofs.Ytclgiapmbmbknaa
