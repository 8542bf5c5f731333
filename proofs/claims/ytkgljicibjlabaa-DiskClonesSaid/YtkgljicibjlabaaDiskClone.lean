/- A disk apart from one: the contracts of slices.Clone at changes and of Disk.Clone; no statement of the seat is proved here. -/
import Derived.Test.YtkgljicibjlabaaDiskPlay2
import Derived.Test.YtkgljicibjlabaaDiskApp
import Derived.Test.YtkgljicibjlabaaDiskFar
import Derived.Lib.SliceRun
import Derived.Deep.RegionHeld3
namespace Go.Proofs.Ytkgljicibjlabaa
open Go.RowKit Go.Maps

set_option maxRecDepth 100000 in
set_option maxHeartbeats 2000000 in
theorem sclone_any (B n c : Nat) (A : Option Addr) (cs : List Ch) (w : World) (h : w.ownsRow B 71 3 (.slice A n c) n (cs.flatMap Ch.cells)) (hn : n ≤ 100000) :
    Calls Try.prog 37 #[.slice A n c] w (fun e w' => ∃ A' c', e = .returned (.slice A' n c') ∧ w'.ownsRow w.heap.size 71 3 (.slice A' n c') n (cs.flatMap Ch.cells) ∧ Below w.heap.size w w') := by
  have q66 : ∀ (w : World) (a : Option Addr) (n c n' c' : Nat), (binOp .eql 66 (.slice a n c) (.slice none n' c')).run Try.prog w = .ok (.bool a.isNone) w := fun w a n c n' c' => Lib.run_eql_slice_nil w _ _ a n c n' c' Try.underlying66
  rcases h.2 with ⟨hv, h0⟩ | ⟨g', cap, cur, hv, _, _, _⟩
  · injection hv with hA hnn hc
    subst hA hnn hc
    have hl := h.1
    have hnil : cs.flatMap Ch.cells = [] := List.eq_nil_of_length_eq_zero (by simpa using hl)
    have HF := hide (show w.ownsRow w.heap.size 71 3 (.slice none 0 0) 0 (cs.flatMap Ch.cells) ∧ Below w.heap.size w w from ⟨by rw [hnil]; exact World.ownsRow_nil _ _ _ _, Below.refl _ _⟩)
    clear h hl hnil h0
    go_enter Try.func37, Try.ntmps37
    go_wp2_with fail
    go_ret
    exact ⟨none, 0, rfl, HF.out.1, HF.out.2⟩
  · have hrd : Rd w (fun k => w.heap.size ≤ k) 3 A n (cs.flatMap Ch.cells) := by
      refine ⟨h.1, fun hn => ?_⟩
      obtain ⟨q, cap', hv', hb', hlt⟩ := h.form hn
      injection hv' with hA _ hc
      subst hA hc
      refine ⟨q, 0, rfl, by omega, hlt, fun j u hu => ?_⟩
      have := h.cells (g := q) rfl j u hu
      simpa [Addr.add_lit] using this
    injection hv with hA _ hc
    subst hA hc
    have hrd1 := hrd.alloc (.cells #[] 71)
    have hown : (w.alloc (.cells #[] 71)).ownsRow w.heap.size 71 3 (.slice (some ⟨w.heap.size, 0, none⟩) 0 0) 0 [] := World.ownsRow_made (base := w.heap.size) (e := 71) (size := 3) w #[] 0 (Nat.le_refl _) (by unfold maxLen; omega) rfl
    have h1c : ∀ u ∈ cs.flatMap Ch.cells, u.oneCell' = true := by
      intro u hu
      obtain ⟨ch, _, hu'⟩ := List.mem_flatMap.1 hu
      simp only [Ch.cells, List.mem_cons, List.not_mem_nil, or_false] at hu'
      rcases hu' with rfl | rfl | rfl <;> rfl
    have hb0 := (Below.refl w.heap.size w).alloc (Nat.le_refl _) (.cells #[] 71)
    have HB0 := hide hb0
    have HC := hide h1c
    clear hrd h h1c hb0
    go_enter Try.func37, Try.ntmps37
    go_wp2_with (at_builtin; refine app_rd rfl (.tmp 5) (.tmp 6) 66 rfl w.heap.size 71 _ 3 40 Try.underlying66 chg_info rfl (by decide) (.slice (some ⟨w.heap.size, 0, none⟩) 0 0) 0 [] rfl hown (some ⟨g', 0, none⟩) n c (cs.flatMap Ch.cells) rfl hrd1 HC.out (by unfold maxLen; omega) (by omega) (by simp) ?_; intro A5 c5 w5 hown5 hgrow5 hat5)
    have hb5 := below_grown HB0.out (by simp) hgrow5 (fun j hj => by have : w.heap.size = j := (by simpa [Value.ownBlock] using hj); omega)
    rw [Nat.zero_add, List.nil_append] at hown5
    go_ret
    exact ⟨A5, c5, rfl, hown5, hb5⟩

/-- What holds while a disk is cloned. -/
structure Cl (w : World) (b N n c : Nat) (A : Option Addr) (cs : List Ch) (F : Fl) (x : Nat) (room : Nat) (fall : Int) (dn : Bool) (w' : World) : Prop where
  txt : TxtIs w' b N F
  own : ∃ B, w'.ownsRow B 71 3 (.slice A n c) n (cs.flatMap Ch.cells)
  x : Blk w' x 68 #[.map (some b), .slice A n c, .int .i64 room, .int .i64 fall, .bool dn]
  b : Below w.heap.size w w'
theorem Cl.below {w w' w'' : World} {b N n c : Nat} {A : Option Addr} {cs : List Ch} {F : Fl} {x : Nat} {room : Nat} {fall : Int} {dn : Bool} (i : Cl w b N n c A cs F x room fall dn w') (h : Below w'.heap.size w' w'') : Cl w b N n c A cs F x room fall dn w'' := by
  obtain ⟨h1, ⟨B, h2⟩, h3, h4⟩ := i
  exact ⟨h1.of_block (h.block b h1.lt), ⟨B, own_keep h2 (Keep.of_below (F := fun k => w'.heap.size ≤ k) h fun _ _ h => h) (fun q hq => by have := (own_base' h2 hq).2; omega)⟩, h3.below h h3.lt, h4.trans (h.mono h4.size)⟩

theorem two_far {w : World} {g : Nat} {p : Addr} {u v0 v1 : Value} (hne : g ≠ p.block) (h : w.cell? ⟨g, 0, none⟩ = some v0 ∧ w.cell? ⟨g, 1, none⟩ = some v1) : (w.setCell p u).cell? ⟨g, 0, none⟩ = some v0 ∧ (w.setCell p u).cell? ⟨g, 1, none⟩ = some v1 :=
  ⟨(World.cell?_of_block (Below.heap_setCell w p u g hne)).trans h.1, (World.cell?_of_block (Below.heap_setCell w p u g hne)).trans h.2⟩

set_option maxRecDepth 100000 in
set_option maxHeartbeats 4000000 in
theorem clone_dk (B g b N n c : Nat) (A : Option Addr) (cs : List Ch) (room : Nat) (fall : Int) (dn : Bool) (F : Fl) (w : World) (h : Dk w B g b N n c A cs room fall dn F) (hn : n ≤ 100000) :
    Calls Try.prog 30 #[.pointer (some ⟨g, 0, none⟩)] w (fun e w' => ∃ g' b' c' A', e = .returned (.pointer (some ⟨g', 0, none⟩)) ∧ Dk w' w.heap.size g' b' N n c' A' cs room fall dn F ∧ Below w.heap.size w w') := by
  have hg := h.blk
  have g0 : w.cell? ⟨g, 0, none⟩ = some (.map (some b)) := hg.cell 0
  have g1 : w.cell? ⟨g, 1, none⟩ = some (.slice A n c) := hg.cell 1
  have g2 : w.cell? ⟨g, 2, none⟩ = some (.int .i64 room) := hg.cell 2
  have g3 : w.cell? ⟨g, 3, none⟩ = some (.int .i64 fall) := hg.cell 3
  have g4 : w.cell? ⟨g, 4, none⟩ = some (.bool dn) := hg.cell 4
  have hgl := hg.lt
  have hne : g ≠ w.heap.size := by omega
  have hb1 := (Below.refl w.heap.size w).alloc (Nat.le_refl _) (.cells #[.map (some b), .slice A n c, .int .i64 room, .int .i64 fall, .bool dn] 68)
  have h1 := h.below hb1
  have i1 : Cl w b N n c A cs F w.heap.size room fall dn (w.alloc (.cells #[.map (some b), .slice A n c, .int .i64 room, .int .i64 fall, .bool dn] 68)) := ⟨h1.txt, ⟨B, h1.own⟩, Blk.new _ _ _, hb1⟩
  obtain ⟨wA, hwA⟩ : ∃ wA, wA = w.alloc (.cells #[.map (some b), .slice A n c, .int .i64 room, .int .i64 fall, .bool dn] 68) := ⟨_, rfl⟩
  rw [← hwA] at i1 h1
  have i2 : Cl w b N n c A cs F w.heap.size room fall dn wA.drew := i1.below (Below.refl _ _).drew
  have hS : wA.cell? ⟨g, 0, none⟩ = some (.map (some b)) ∧ wA.cell? ⟨g, 1, none⟩ = some (.slice A n c) := ⟨h1.blk.cell 0, h1.blk.cell 1⟩
  have HOK := hide h.ok
  have HMC : Hid (∀ w', Cl w b N n c A cs F w.heap.size room fall dn w' → Calls Try.prog 33 #[.map (some b)] w' (fun e w'' => ∃ b', e = .returned (.map (some b')) ∧ TxtIs w'' b' N F ∧ w.heap.size ≤ b' ∧ Cl w b N n c A cs F w.heap.size room fall dn w'')) := hide (fun w' i => by
    refine (clone_any b N F w' i.txt).mono ?_
    rintro e w'' ⟨rfl, h1, h2⟩
    exact ⟨_, rfl, h1, i.b.size, i.below h2⟩)
  have HSC : Hid (∀ w', Cl w b N n c A cs F w.heap.size room fall dn w' → Calls Try.prog 37 #[.slice A n c] w' (fun e w'' => ∃ A' c', e = .returned (.slice A' n c') ∧ w''.ownsRow w.heap.size 71 3 (.slice A' n c') n (cs.flatMap Ch.cells) ∧ Below w'.heap.size w' w'' ∧ Cl w b N n c A cs F w.heap.size room fall dn w'')) := hide (fun w' i => by
    obtain ⟨B', hB'⟩ := i.own
    refine (sclone_any B' n c A cs w' hB' hn).mono ?_
    rintro e w'' ⟨A', c', rfl, h1, h2⟩
    exact ⟨A', c', rfl, ⟨h1.1, h1.2.imp id (fun ⟨q, cap, cur, e1, e2, e3⟩ => ⟨q, cap, cur, e1, Nat.le_trans i.b.size e2, e3⟩)⟩, h2, i.below h2⟩)
  clear h hg hb1 h1 i1
  go_enter Try.func30, Try.ntmps30
  go_wp2_with fail
  rw [← hwA]
  clear hwA
  go_region_held3 (fun w' => w'.cell? ⟨g, 0, none⟩ = some (.map (some b)) ∧ w'.cell? ⟨g, 1, none⟩ = some (.slice A n c)) (first | exact hS | assumption | exact s5 | exact s6 | exact two_far hne s6 | exact two_far hne (two_far hne s6) | go_keep | fail)
    (first
      | (go_at_call 33; (with_reducible refine (HMC.out _ i2).mono ?_); rintro e w5 ⟨b5, rfl, ht5, hb5, i5⟩; have s5 : w5.cell? ⟨g, 0, none⟩ = some (.map (some b)) ∧ w5.cell? ⟨g, 1, none⟩ = some (.slice A n c) := ⟨(World.cell?_of_block (i5.b.block g hgl)).trans g0, (World.cell?_of_block (i5.b.block g hgl)).trans g1⟩)
      | (go_at_call 37; (with_reducible refine (HSC.out _ i5).mono ?_); rintro e w6 ⟨A6, c6, rfl, ho6, hb6, i6⟩; have s6 : w6.cell? ⟨g, 0, none⟩ = some (.map (some b)) ∧ w6.cell? ⟨g, 1, none⟩ = some (.slice A n c) := ⟨(World.cell?_of_block (i6.b.block g hgl)).trans g0, (World.cell?_of_block (i6.b.block g hgl)).trans g1⟩; have f6 := i6.x.frozen 0; have f6' := i6.x.frozen 1; have p6 : w6.cell? ⟨w.heap.size, 0, none⟩ = some (.map (some b)) := i6.x.cell 0; have p6' : w6.cell? ⟨w.heap.size, 1, none⟩ = some (.slice A n c) := i6.x.cell 1)
      | fail)
  have hk := ((Keep.refl (fun q => q = w.heap.size) w6).setCell (p := ⟨w.heap.size, 0, none⟩) (fun _ => rfl) (.map (some b5))).setCell (p := ⟨w.heap.size, 1, none⟩) (fun _ => rfl) (.slice A6 n c6)
  have hx := (i6.x.set_ 0 (.map (some b5))).set_ 1 (.slice A6 n c6)
  have hbx : b5 ≠ w.heap.size := fun e => map_ne_blk ht5 i5.x e
  have ht6 := ht5.of_block (hb6.block b5 ht5.lt)
  have HF := hide (show Dk ((w6.setCell ⟨w.heap.size, 0, none⟩ (.map (some b5))).setCell ⟨w.heap.size, 1, none⟩ (.slice A6 n c6)) w.heap.size w.heap.size b5 N n c6 A6 cs room fall dn F from
    ⟨hx, ht6.of_block (hk.block b5 ht6.lt hbx), own_keep ho6 hk (fun q hq e => own_blk_ne ho6 i6.x (by decide) (e ▸ hq)), HOK.out, hb5, Nat.le_refl _⟩)
  have HB := hide (i6.b.trans (hk.below (B := w.heap.size) i6.b.size (fun q hq => by omega)))
  clear hk hx ht6 hbx
  go_wp2_with fail
  go_ret
  exact ⟨_, b5, c6, A6, rfl, HF.out, HB.out⟩
end Go.Proofs.Ytkgljicibjlabaa
