/- The page's model as it stands: made new, its files; no statement of the seat is proved here. -/
import Derived.Test.YtkgljicibjlabaaDiskActL
import Derived.Test.YtkgljicibjlabaaRecs
namespace Go.Proofs.Ytkgljicibjlabaa
open Go.RowKit Go.Maps

/-- A model: its block h, its map b, its acts a row of the call's own. -/
structure Md (w : World) (B h b N n c : Nat) (A : Option Addr) (ac : List Ac) (size : Nat) (falls : Int) (dn : Bool) (F : Fl) : Prop where
  blk : Blk w h 57 #[.map (some b), .slice A n c, .int .i64 size, .int .i64 falls, .bool dn]
  txt : TxtIs w b N F
  own : w.ownsRow B 49 5 (.slice A n c) n (ac.flatMap Ac.cells)
  ok : ∀ a ∈ ac, a.ok
  bB : B ≤ b
  hB : B ≤ h

section
variable {w w' : World} {B h b N n c : Nat} {A : Option Addr} {ac : List Ac} {size : Nat} {falls : Int} {dn : Bool} {F : Fl}
theorem Md.bh (m : Md w B h b N n c A ac size falls dn F) : b ≠ h := by
  rintro rfl
  obtain ⟨D, ⟨es, clock, hb, _⟩, _⟩ := m.txt
  have := m.blk
  unfold Blk at this
  rw [this] at hb
  cases hb
theorem Md.oh (m : Md w B h b N n c A ac size falls dn F) : (Value.slice A n c).ownBlock ≠ some h := own_blk_ne m.own m.blk (by decide)
theorem Md.ob (m : Md w B h b N n c A ac size falls dn F) : (Value.slice A n c).ownBlock ≠ some b := by
  intro e
  rcases m.own.2 with ⟨hv, _⟩ | ⟨g', cap, cur, hv, _, hh, _⟩
  · rw [hv] at e; simp [Value.ownBlock] at e
  · rw [hv] at e
    have : g' = b := by simpa [Value.ownBlock] using e
    subst this
    obtain ⟨D, ⟨es, clock, hb, _⟩, _⟩ := m.txt
    rw [hb] at hh
    cases hh
theorem Md.len (m : Md w B h b N n c A ac size falls dn F) : ac.length = n := by
  have := m.own.1
  rw [flat_len Ac.cells 5 (fun _ => rfl)] at this
  omega
theorem Md.rd (m : Md w B h b N n c A ac size falls dn F) : Rd w (fun k => w.heap.size ≤ k) 5 A n (ac.flatMap Ac.cells) := by
  refine ⟨m.own.1, fun hn => ?_⟩
  obtain ⟨q, cap, hv, hb, hlt⟩ := m.own.form hn
  injection hv with hA _ hc
  subst hA hc
  refine ⟨q, 0, rfl, by omega, hlt, fun j u hu => ?_⟩
  have := m.own.cells (g := q) rfl j u hu
  simpa [Addr.add_lit] using this
theorem Md.keep {S : Nat → Prop} (m : Md w B h b N n c A ac size falls dn F) (hk : Keep S w w') (h1 : ¬ S h) (h2 : ¬ S b) (h3 : ∀ k, (Value.slice A n c).ownBlock = some k → ¬ S k) : Md w' B h b N n c A ac size falls dn F :=
  ⟨m.blk.keep hk h1, m.txt.of_block (hk.block b m.txt.lt h2), own_keep m.own hk h3, m.ok, m.bB, m.hB⟩
theorem Md.below (m : Md w B h b N n c A ac size falls dn F) (hb : Below w.heap.size w w') : Md w' B h b N n c A ac size falls dn F :=
  m.keep (Keep.of_below (F := fun k => w.heap.size ≤ k) hb fun _ _ h => h) (by have := m.blk.lt; omega) (by have := m.txt.lt; omega) (fun k hk => by have := (own_base' m.own hk).2; omega)
/-- Its own block turned, and that is all. -/
theorem Md.turned {falls' : Int} {dn' : Bool} (m : Md w B h b N n c A ac size falls dn F) (hk : Keep (fun k => k = h) w w')
    (hb : Blk w' h 57 #[.map (some b), .slice A n c, .int .i64 size, .int .i64 falls', .bool dn']) : Md w' B h b N n c A ac size falls' dn' F :=
  ⟨hb, m.txt.of_block (hk.block b m.txt.lt m.bh), own_keep m.own hk (fun _ hk e => m.oh (e ▸ hk)), m.ok, m.bB, m.hB⟩
end

set_option maxRecDepth 100000 in
set_option maxHeartbeats 2000000 in
theorem mnew_any (x : Int) (room : Nat) (hr : min (max x 0) 4194304 = (room : Int)) (w : World) :
    Calls Try.prog 24 #[.int .i64 x] w (fun e w' => ∃ h b, e = .returned (.pointer (some ⟨h, 0, none⟩)) ∧ Md w' w.heap.size h b 0 0 0 none [] room (-1) false (fun _ => none) ∧ Below w.heap.size w w') := by
  have hmm := @run_makeMap Try.prog
  have h1 := TxtIs.made w
  have h2 := Blk.new (w.alloc (.map #[] 0)) 57 #[.map (some w.heap.size), .slice none 0 0, .int .i64 room, .int .i64 (-1), .bool false]
  rw [World.size_alloc] at h2
  have hf := show Md ((w.alloc (.map #[] 0)).alloc (.cells #[.map (some w.heap.size), .slice none 0 0, .int .i64 room, .int .i64 (-1), .bool false] 57)) w.heap.size (w.heap.size + 1) w.heap.size 0 0 0 none [] room (-1) false (fun _ => none) from
    ⟨h2, h1.of_block (Below.heap_alloc _ _ _ (by simp)), by simpa using World.ownsRow_nil _ w.heap.size 49 5, by simp, Nat.le_refl _, by omega⟩
  have HF := hide hf
  have HB := hide (((Below.refl _ w).alloc (Nat.le_refl _) (.map #[] 0)).alloc (by simp) (.cells #[.map (some w.heap.size), .slice none 0 0, .int .i64 room, .int .i64 (-1), .bool false] 57))
  clear hf h1 h2
  go_enter Try.func24, Try.ntmps24
  go_wp2_with fail
  go_ret
  exact ⟨_, _, rfl, HF.out, HB.out⟩

set_option maxRecDepth 100000 in
set_option maxHeartbeats 2000000 in
theorem mfiles_any (B h b N n c : Nat) (A : Option Addr) (ac : List Ac) (size : Nat) (falls : Int) (dn : Bool) (F : Fl) (w : World) (m : Md w B h b N n c A ac size falls dn F) (hn : n ≤ 100000) (hN : N ≤ 100000) :
    Calls Try.prog 28 #[.pointer (some ⟨h, 0, none⟩)] w
      (fun e w' => ∃ b', e = .returned (.map (some b')) ∧ TxtIs w' b' (N + n) (ac.foldl actDo F) ∧ Below w.heap.size w w' ∧ B ≤ b') := by
  have hl := m.len
  have hs := m.rd
  have hok := m.ok
  have hbk := m.blk
  have c0 : w.cell? ⟨h, 0, none⟩ = some (.map (some b)) := hbk.cell 0
  have c1 : w.cell? ⟨h, 1, none⟩ = some (.slice A n c) := hbk.cell 1
  have HT := hide m.txt
  have hbB := m.bB
  have hBw : B ≤ w.heap.size := by have := m.txt.lt; omega
  clear m hbk
  go_enter Try.func28, Try.ntmps28
  go_wp2_with fail
  go_loopw [3, 15] (fun v i wr => ∃ k b', k ≤ n ∧ i = .int .i64 k ∧ v = .map (some b') ∧ TxtIs wr b' (N + k) ((ac.take k).foldl actDo F) ∧ Below w.heap.size w wr ∧ B ≤ b') (fun _ i _ => n - (intOf i).toNat)
  case atStart => exact ⟨0, b, Nat.zero_le _, rfl, rfl, HT.out, Below.refl _ _, hbB⟩
  case round =>
    obtain ⟨k, b', hk, rfl, rfl, htr, hBr, hB'⟩ := hrel
    have HTR := hide htr
    have HBR := hide hBr
    clear htr hBr
    by_cases hlt : k < n
    · obtain ⟨x, o, rfl, _, _, hcell⟩ := Rd.rec_ (size := 5) (fun _ => rfl) (hs.below HBR.out) hl k hlt
      have hlk : k < ac.length := by omega
      have hck := hok _ (List.getElem_mem hlk)
      have HF : Hid ((ac.take (k + 1)).foldl actDo F = actDo ((ac.take k).foldl actDo F) ac[k]) := hide (by rw [List.take_add_one, List.getElem?_eq_getElem hlk, List.foldl_append]; rfl)
      obtain ⟨d, hd⟩ : ∃ d, d = ac[k] := ⟨_, rfl⟩
      rw [← hd] at hcell hck HF
      clear hd
      obtain ⟨dk, dn', dm, dt, dx⟩ := d
      have q0 : wr.cell? ⟨x, o + k * 5, none⟩ = some (.int .i64 dk) := hcell 0 _ rfl
      have q1 : wr.cell? ⟨x, o + k * 5 + 1, none⟩ = some (.int .i64 dn') := hcell 1 _ rfl
      have q2 : wr.cell? ⟨x, o + k * 5 + 2, none⟩ = some (S dm) := hcell 2 _ rfl
      have q3 : wr.cell? ⟨x, o + k * 5 + 3, none⟩ = some (S dt) := hcell 3 _ rfl
      have q4 : wr.cell? ⟨x, o + k * 5 + 4, none⟩ = some (S dx) := hcell 4 _ rfl
      have HDO := hide (trn_any ⟨dk, dn', dm, dt, dx⟩ hck b' (N + k) _ (wr.alloc (.cells #[.int .i64 dk, .int .i64 dn', S dm, S dt, S dx] 49)) (HTR.out.of_block (Below.heap_alloc _ _ _ HTR.out.lt)) (by omega))
      clear hcell
      go_wp2_with fail
      refine HDO.out.mono ?_
      rintro e w5 ⟨b5, rfl, ht5, hk5, hb5⟩
      have hB5 := (HBR.out.alloc HBR.out.size (.cells #[.int .i64 dk, .int .i64 dn', S dm, S dt, S dx] 49)).trans (hk5.mono (by have := HBR.out.size; simp; omega))
      have hb6 : B ≤ b5 := by have := HBR.out.size; simp at hb5; omega
      have HT5 := hide ht5
      clear ht5 hk5 HDO hb5
      go_wp2_with fail
      go_roundw
      case rel => exact ⟨k + 1, b5, by omega, by go_num, rfl, by rw [HF.out]; exact HT5.out, hB5, hb6⟩
      case measure => simp [intOf]; omega
    · have HE : Hid (ac.take k = ac) := hide (List.take_of_length_le (by omega))
      have HN : Hid (k = n) := hide (by omega)
      go_wp2_with fail
      go_ret
      refine ⟨b', rfl, ?_, HBR.out, hB'⟩
      have := HTR.out
      rwa [HE.out, HN.out] at this
end Go.Proofs.Ytkgljicibjlabaa
