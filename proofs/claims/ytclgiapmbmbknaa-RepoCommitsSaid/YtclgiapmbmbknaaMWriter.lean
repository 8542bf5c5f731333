/- Contracts of package pack's Writer: what each method lays behind what was laid. -/
import Derived.Test.YtclgiapmbmbknaaMBase
import Derived.Test.YtclgiapmbmbknaaMVarint
import Derived.Test.YtclgiapmbmbknaaProg
namespace Go.Proofs.Ytclgiapmbmbknaa
open Go.RowKit

/-- A writer behind block g, whose slice is v, that has laid bs. -/
structure Wr (w : World) (g : Nat) (v : Value) (bs : List UInt8) : Prop where
  blk : Blk w g 93 #[v]
  own : w.ownsRow 0 5 1 v bs.length (bs.map B8)

theorem u8_info : (Try.prog.info? 5).map (fun i => (i.zero, i.size, i.bytes)) = some (some (.int .u8 0), 1, 1) := by kernel_rfl

def Same (g : Nat) (v : Value) (k : Nat) : Prop := k = g ∨ some k = v.ownBlock
/-- A writer that has gone on from w: it has laid bs, in its own row or a new one. -/
def Wrote (g : Nat) (v : Value) (w : World) (bs : List UInt8) (v' : Value) (w' : World) : Prop :=
  Wr w' g v' bs ∧ Keep (Same g v) w w' ∧ (v'.ownBlock = v.ownBlock ∨ ∃ k, v'.ownBlock = some k ∧ w.heap.size ≤ k)

theorem Wrote.steps {g : Nat} {v v1 v2 : Value} {w w1 w3 : World} {bs ds : List UInt8} (h : Wrote g v w bs v1 w1)
    (ho : w3.ownsRow 0 5 1 v2 (bs.length + ds.length) (bs.map B8 ++ ds.map B8)) (hg : w1.grownBy w3 v1.ownBlock) (ha : v2.ownBlock = v1.ownBlock ∨ ∃ k, v2.ownBlock = some k ∧ w1.heap.size ≤ k) :
    Blk w3 g 93 #[v1] ∧ Wrote g v w (bs ++ ds) v2 (w3.setCell ⟨g, 0, none⟩ v2) := by
  obtain ⟨⟨hb, hown⟩, hk, hv⟩ := h
  have hne := own_blk_ne hown hb (by decide)
  have hb3 : Blk w3 g 93 #[v1] := hb.grown hg (fun e => hne e.symm)
  have hne2 := own_blk_ne ho hb3 (by decide)
  refine ⟨hb3, ⟨hb3.set_ 0 v2, ?_⟩, ?_, ?_⟩
  · have := own_keep (F := fun k => k = g) ho ((Keep.refl (fun k => k = g) _).setCell (p := ⟨g, 0, none⟩) (fun _ => rfl) v2) (fun k hk e => hne2 (by rw [hk, e]))
    rw [List.length_append, List.map_append]
    exact this
  · refine ((hk.grown hg ?_)).setCell (fun _ => .inl rfl) v2
    intro k hk1 hlt
    rcases hv with hv | ⟨k', hv, hge⟩
    · exact .inr (by rw [← hv, hk1])
    · rw [hv] at hk1; injection hk1 with hk1; omega
  · rcases ha with ha | ⟨r, ha, hr⟩
    · rw [ha]; exact hv
    · refine .inr ⟨_, ha, ?_⟩
      have := hk.size
      omega

theorem Wrote.step {g : Nat} {v v1 v2 : Value} {w w1 w3 : World} {bs : List UInt8} {b : UInt8} {x : Value} (h : Wrote g v w bs v1 w1) (hb : x = B8 b)
    (ho : w3.ownsRow 0 5 1 v2 (bs.length + 1) (bs.map B8 ++ [x])) (hg : w1.grownBy w3 v1.ownBlock) (ha : v2.ownBlock = v1.ownBlock ∨ v2.ownBlock = some (w1.heap.size + 1)) :
    Blk w3 g 93 #[v1] ∧ Wrote g v w (bs ++ [b]) v2 (w3.setCell ⟨g, 0, none⟩ v2) := by
  subst hb
  exact h.steps (ds := [b]) ho hg (ha.imp id fun e => ⟨_, e, by omega⟩)

def NumDone (g : Nat) (v : Value) (bs : List UInt8) (w : World) (e : Ending) (w' : World) : Prop :=
  ∃ v', e = .returned (.pointer (some ⟨g, 0, none⟩)) ∧ Wrote g v w bs v' w'

set_option maxRecDepth 100000 in
set_option maxHeartbeats 1000000 in
theorem num_any (g : Nat) (v : Value) (bs : List UInt8) (A : Option Addr) (n c : Nat) (l : List Int) (w : World)
    (hw : Wr w g v bs) (hl : Rd w (Same g v) 1 A n (l.map (Value.int .i64))) (hwf : ∀ x ∈ l, x ≤ 9223372036854775807) (hb : bs.length + 10 * n ≤ 140737488355328) :
    Calls Try.prog 40 #[.pointer (some ⟨g, 0, none⟩), .slice A n c] w (NumDone g v (bs ++ visAll l) w) := by
  have hnl : l.length = n := by have := hl.1; simpa using this
  have HNL := hide hnl
  clear hnl
  go_enter Try.func40, Try.ntmps40
  go_wp2_with fail
  go_loopw [10] (fun i wr => ∃ (k : Nat) (v' : Value), k ≤ n ∧ i = .int .i64 k ∧ Wrote g v w (bs ++ visTo l k) v' wr)
    (fun i _ => n - (intOf i).toNat)
  case atStart => exact ⟨0, v, Nat.zero_le _, rfl, by simpa [visTo_zero] using hw, Keep.refl _ _, .inl rfl⟩
  case round =>
    obtain ⟨k, v', hk, rfl, hwr⟩ := hrel
    by_cases hlt : k < n
    · obtain ⟨b, o, u, rfl, hu, hc⟩ := (hl.keep hwr.2.1).at_ k hlt
      have hlk : k < l.length := by have := HNL.out; omega
      obtain rfl : Value.int .i64 l[k] = u := by simpa [hlk] using hu
      clear hu
      have HT : Hid (visTo l (k + 1) = visTo l k ++ vi l[k].toNat) := visTo_succ l k hlk
      have hz := hwf l[k] (List.getElem_mem hlk)
      have hdl : (bs ++ visTo l k).length ≤ bs.length + 10 * k := by
        rw [List.length_append]
        have := visTo_len l k hwf
        omega
      generalize l[k] = z at *
      obtain ⟨D, hD⟩ : ∃ D, D = bs ++ visTo l k := ⟨_, rfl⟩
      rw [← hD] at hwr hdl
      have HD := hide hD
      clear hD
      obtain ⟨X, HX, hXz⟩ : ∃ X : Nat, Hid (z.toNat = X) ∧ X ≤ 9223372036854775807 := ⟨z.toNat, rfl, by omega⟩
      have hvl : (vi X).length ≤ 10 := vi_len_10 X (by omega)
      obtain ⟨wo, rfl⟩ : ∃ wo : World, wo = wr := ⟨_, rfl⟩
      have hz0 : (z < 0 ∧ Hid (X = 0)) ∨ z = (X : Int) := by
        have := HX.out
        rcases Int.lt_or_le z 0 with h | h
        · exact .inl ⟨h, by unfold Hid; omega⟩
        · exact .inr (by omega)
      rcases hz0 with ⟨hs, HX0⟩ | rfl
      all_goals
        go_wp2_with fail
        go_loopw [7] (fun x wi => ∃ (m : Nat) (ds : List UInt8) (v2 : Value), x = .int .u64 m ∧ m ≤ 9223372036854775807 ∧ ds.length + (vi m).length ≤ 10 ∧ Hid (ds ++ vi m = vi X) ∧ Wrote g v w (D ++ ds) v2 wi)
          (fun x _ => (intOf x).toNat)
        case atStart => first | exact ⟨X, [], v', rfl, by omega, by simpa using hvl, rfl, by simpa using hwr⟩ | exact ⟨0, [], v', rfl, by omega, by rw [vi_small (by omega)]; simp, by rw [HX0.out]; rfl, by simpa using hwr⟩
        case round =>
          obtain ⟨m, ds, v2, rfl, hm, hdm, HE, hwi⟩ := hrel
          have hdl2 : (D ++ ds).length ≤ bs.length + 10 * k + ds.length := by rw [List.length_append]; omega
          have hvp := vi_pos m
          have hcell : wr.cell? ⟨g, 0, none⟩ = some v2 := hwi.1.blk.cell 0
          have hor := u8_or_128 m
          obtain ⟨E, hE⟩ : ∃ E, E = D ++ ds := ⟨_, rfl⟩
          rw [← hE] at hwi hdl2
          have HE2 := hide hE
          clear hE
          have hown := hwi.1.own
          by_cases h128 : 128 ≤ m
          · go_wp2_with (at_builtin; refine app1 rfl (.tmp 25) (.tmp 29) 67 rfl 0 5 (.int .u8 0) 1 Try.underlying67 u8_info rfl v2 E.length (E.map B8) rfl hown (.int .u8 ((m : Int) % 128 + 128)) rfl rfl (by omega) (by omega) (by omega) ?_)
            intro a3 c3 w3 hown3 hg3 hat3
            obtain ⟨hb3, HW3⟩ := Wrote.step (b := UInt8.ofNat (m % 128 + 128)) hwi (by rw [B8, toNat_ofNat_u8 (by omega)]; simp) hown3 hg3 hat3
            have hc3 : w3.cell? ⟨g, 0, none⟩ = some v2 := hb3.cell 0
            have hf3 := hb3.frozen 0
            clear hown3 hg3 hat3 hb3 hcell hown
            go_wp2
            go_roundw
            case rel => exact ⟨m / 128, ds ++ [UInt8.ofNat (m % 128 + 128)], _, by go_num, by omega, by have := congrArg List.length (vi_big (n := m) (by omega)); simp at this ⊢; omega, by have := HE.out; rw [vi_big (n := m) (by omega)] at this; unfold Hid; simpa using this, by rw [← List.append_assoc, ← HE2.out]; exact HW3⟩
            case measure => simp [intOf]; omega
          · go_wp2_with (at_builtin; refine app1 rfl (.tmp 37) (.tmp 40) 67 rfl 0 5 (.int .u8 0) 1 Try.underlying67 u8_info rfl v2 E.length (E.map B8) rfl hown (.int .u8 (m : Int)) rfl rfl (by omega) (by omega) (by omega) ?_)
            intro a3 c3 w3 hown3 hg3 hat3
            obtain ⟨hb3, HW3⟩ := Wrote.step (b := UInt8.ofNat m) hwi (by rw [B8, toNat_ofNat_u8 (by omega)]) hown3 hg3 hat3
            have hc3 : w3.cell? ⟨g, 0, none⟩ = some v2 := hb3.cell 0
            have hf3 := hb3.frozen 0
            clear hown3 hg3 hat3 hb3 hcell hown
            go_wp2
            go_roundw
            case rel => exact ⟨k + 1, _, by omega, by go_num, by rw [HT.out, ← List.append_assoc, ← HD.out]; rw [HX.out, ← HE.out, vi_small (by omega), ← List.append_assoc, ← HE2.out]; exact HW3⟩
            case measure => simp [intOf]; omega
    · go_wp2
      go_ret
      exact ⟨v', rfl, by rw [← visTo_all l k (by have := HNL.out; omega)]; exact hwr⟩

theorem Wr.keep {w w' : World} {g : Nat} {v : Value} {bs : List UInt8} {F : Nat → Prop} (h : Wr w g v bs) (hk : Keep F w w') (hg : ¬ F g) (hv : ∀ k, v.ownBlock = some k → ¬ F k) : Wr w' g v bs :=
  ⟨h.blk.keep hk hg, own_keep h.own hk hv⟩
theorem Wr.alloc {w : World} {g : Nat} {v : Value} {bs : List UInt8} (h : Wr w g v bs) (o : Obj) : Wr (w.alloc o) g v bs := ⟨h.blk.alloc o, h.own.alloc o⟩
theorem Wr.drewN {w : World} {g : Nat} {v : Value} {bs : List UInt8} (h : Wr w g v bs) (n : Nat) : Wr (w.drewN n) g v bs := ⟨h.blk.drewN n, h.own⟩
theorem Wr.gt {w : World} {g : Nat} {v : Value} {bs : List UInt8} (h : Wr w g v bs) : g < w.heap.size := h.blk.lt
theorem Wr.row {w : World} {g : Nat} {v : Value} {bs : List UInt8} (h : Wr w g v bs) {k : Nat} (hk : v.ownBlock = some k) : k < w.heap.size := (h.own.lt k hk).2
theorem Wrote.refl {w : World} {g : Nat} {v : Value} {bs : List UInt8} (h : Wr w g v bs) : Wrote g v w bs v w := ⟨h, Keep.refl _ _, .inl rfl⟩
theorem Wrote.trans {w w1 w2 : World} {g : Nat} {v v1 v2 : Value} {bs bs1 : List UInt8} (h : Wrote g v w bs v1 w1) (k : Wrote g v1 w1 bs1 v2 w2) : Wrote g v w bs1 v2 w2 := by
  obtain ⟨_, hk, hv⟩ := h
  obtain ⟨hw2, hk2, hv2⟩ := k
  refine ⟨hw2, hk.trans' hk2 ?_, ?_⟩
  · rintro i hi (e | e)
    · exact .inl e
    · rcases hv with hv | ⟨r, hv, hr⟩
      · exact .inr (by rw [e, hv])
      · rw [hv] at e; injection e with e; omega
  · rcases hv2 with hv2 | ⟨r, hv2, hr⟩
    · rw [hv2]; exact hv
    · exact .inr ⟨r, hv2, Nat.le_trans hk.size hr⟩
/-- What went before, of blocks that are not the writer's, is the writer's own start. -/
theorem Wrote.pre {w w1 w2 : World} {g : Nat} {v v2 : Value} {bs : List UInt8} (hk : Keep (Same g v) w w1) (k : Wrote g v w1 bs v2 w2) : Wrote g v w bs v2 w2 := by
  obtain ⟨hw2, hk2, hv2⟩ := k
  refine ⟨hw2, hk.trans hk2, hv2.imp id ?_⟩
  rintro ⟨r, e, hr⟩
  exact ⟨r, e, Nat.le_trans hk.size hr⟩
/-- Of a writer that the call made itself nothing that was there before it has turned. -/
theorem Wrote.below {B : Nat} {w w1 : World} {g : Nat} {v v1 : Value} {bs : List UInt8} (h : Wrote g v w bs v1 w1) (hB : B ≤ w.heap.size) (hg : B ≤ g) (hv : ∀ k, v.ownBlock = some k → B ≤ k) : Below B w w1 :=
  h.2.1.below hB fun k hk => by
    rcases hk with rfl | hk
    · exact hg
    · exact hv k hk.symm

theorem Rd.one (w : World) (F : Nat → Prop) (u : Value) (e : TypeId) (h : ¬ F w.heap.size) : Rd (w.alloc (.cells #[u] e)) F 1 (some ⟨w.heap.size, 0, none⟩) 1 [u] :=
  ⟨rfl, fun _ => ⟨w.heap.size, 0, rfl, h, by simp, fun j x hx => by
    match j, hx with
    | 0, hx => simp at hx; subst hx; simp⟩⟩

theorem Wr.notNew {w : World} {g : Nat} {v : Value} {bs : List UInt8} (h : Wr w g v bs) : ¬ Same g v w.heap.size := by
  rintro (e | e)
  · have := h.gt; omega
  · have := h.row e.symm; omega

/-- One number, as the caller's literal slice hands it. -/
theorem num_one (g : Nat) (v : Value) (bs : List UInt8) (z : Int) (w : World) (r : Nat) (hr : r = w.heap.size) (hw : Wr w g v bs) (hz : z ≤ 9223372036854775807) (hb : bs.length + 10 ≤ 140737488355328) :
    Calls Try.prog 40 #[.pointer (some ⟨g, 0, none⟩), .slice (some ⟨r, 0, none⟩) 1 1] (w.alloc (.cells #[.int .i64 z] 3)) (NumDone g v (bs ++ vi z.toNat) w) := by
  subst hr
  refine (num_any g v bs _ 1 1 [z] _ (hw.alloc _) (Rd.one w _ _ _ hw.notNew) (by simpa using hz) (by omega)).mono ?_
  rintro e w' ⟨v', rfl, h⟩
  refine ⟨v', rfl, ?_⟩
  have := Wrote.pre ((Keep.refl (Same g v) w).alloc _) h
  simpa [visAll, vis] using this

/-- Two numbers at once. -/
theorem num_two (g : Nat) (v : Value) (bs : List UInt8) (y z : Int) (w : World) (r : Nat) (hr : r = w.heap.size) (hw : Wr w g v bs) (hy : y ≤ 9223372036854775807) (hz : z ≤ 9223372036854775807) (hb : bs.length + 20 ≤ 140737488355328) :
    Calls Try.prog 40 #[.pointer (some ⟨g, 0, none⟩), .slice (some ⟨r, 0, none⟩) 2 2] (w.alloc (.cells #[.int .i64 y, .int .i64 z] 3)) (NumDone g v (bs ++ (vi y.toNat ++ vi z.toNat)) w) := by
  subst hr
  have hrd : Rd (w.alloc (.cells #[.int .i64 y, .int .i64 z] 3)) (Same g v) 1 (some ⟨w.heap.size, 0, none⟩) 2 ([y, z].map (Value.int .i64)) :=
    ⟨rfl, fun _ => ⟨w.heap.size, 0, rfl, hw.notNew, by simp, fun j x hx => by
      match j, hx with
      | 0, hx => simp at hx; subst hx; simp
      | 1, hx => simp at hx; subst hx; simp⟩⟩
  refine (num_any g v bs _ 2 2 [y, z] _ (hw.alloc _) hrd (by intro x hx; simp at hx; rcases hx with rfl | rfl <;> assumption) (by omega)).mono ?_
  rintro e w' ⟨v', rfl, h⟩
  refine ⟨v', rfl, ?_⟩
  have := Wrote.pre ((Keep.refl (Same g v) w).alloc _) h
  simpa [visAll, vis] using this

/-- What was laid, as a string. -/
theorem string_any (g : Nat) (v : Value) (bs : List UInt8) (w : World) (hw : Wr w g v bs) :
    Calls Try.prog 42 #[.pointer (some ⟨g, 0, none⟩)] w fun e w' => e = .returned (S bs) ∧ w = w' := by
  have hcell : w.cell? ⟨g, 0, none⟩ = some v := hw.blk.cell 0
  have hconv := conv_own (P := Try.prog) Try.underlying67 Try.underlying5 Try.underlying9 hw.own
  go_enter Try.func42, Try.ntmps42
  go_wp2
  go_ret
  exact ⟨rfl, rfl⟩

/-- A writer that is none has laid nothing. -/
theorem string_nil (w : World) : Calls Try.prog 42 #[.pointer none] w fun e w' => e = .returned (S []) ∧ w = w' := by
  go_enter Try.func42, Try.ntmps42
  go_wp2
  go_ret
  exact ⟨rfl, rfl⟩

/-- A new writer. -/
theorem wr_new (w : World) : Wr (w.alloc (.cells #[.slice none 0 0] 93)) w.heap.size (.slice none 0 0) [] :=
  ⟨Blk.new _ _ _, World.ownsRow_nil _ _ _ _⟩

end Go.Proofs.Ytclgiapmbmbknaa
/- Contracts of package pack's Writer, more: texts, flags, numbers with signs. -/
namespace Go.Proofs.Ytclgiapmbmbknaa
open Go.RowKit

theorem u64_xor_ones (a : Nat) (h : a < 18446744073709551616) : a ^^^ 18446744073709551615 = 18446744073709551615 - a := by
  have e : (BitVec.ofNat 64 a ^^^ BitVec.allOnes 64).toNat = a ^^^ 18446744073709551615 := by
    rw [BitVec.toNat_xor, BitVec.toNat_ofNat, BitVec.toNat_allOnes, Nat.mod_eq_of_lt (by simpa using h)]
  rw [← e, BitVec.xor_allOnes, BitVec.toNat_not, BitVec.toNat_ofNat, Nat.mod_eq_of_lt (by simpa using h)]

/-- What the two shifts come to. -/
theorem zz_bits_pos (z : Nat) (h : z ≤ 9223372036854775807) : bits .xor .u64 ((z : Int) * 2) ((z : Int) / 9223372036854775808) = (zz z : Int) := by
  rw [show (z : Int) / 9223372036854775808 = ((0 : Nat) : Int) by omega, show (z : Int) * 2 = ((z * 2 : Nat) : Int) by omega, u64_xor_nat _ _ (by omega) (by omega), Nat.xor_zero]
  unfold zz
  rw [if_pos (by omega)]
  omega
theorem zz_bits_neg (z : Int) (h1 : z < 0) (h2 : -9223372036854775808 ≤ z) :
    bits .xor .u64 (IntKind.u64.wrap (IntKind.u64.wrap z * 2)) (IntKind.u64.wrap (z / 9223372036854775808)) = (zz z : Int) := by
  rw [show z / 9223372036854775808 = -1 by omega, IntKind.wrap_u64, IntKind.wrap_u64, IntKind.wrap_u64]
  rw [show (-1 : Int) % 18446744073709551616 = ((18446744073709551615 : Nat) : Int) by decide]
  obtain ⟨m, hm⟩ : ∃ m : Nat, z % 18446744073709551616 * 2 % 18446744073709551616 = (m : Int) := ⟨(z % 18446744073709551616 * 2 % 18446744073709551616).toNat, by omega⟩
  rw [hm, u64_xor_nat _ _ (by omega) (by omega), u64_xor_ones m (by omega)]
  unfold zz
  rw [if_neg (by omega)]
  omega

theorem zz_lt (z : Int) (h1 : -9223372036854775808 ≤ z) (h2 : z ≤ 9223372036854775807) : zz z ≤ 18446744073709551615 := by
  unfold zz
  split <;> omega

theorem u64_mask32 (a : Nat) (h : a ≤ 18446744073709551615) : bits .and .u64 (a : Int) 4294967295 = ((a % 4294967296 : Nat) : Int) := by
  have e := u64_and_nat a 4294967295 (by omega) (by omega)
  rw [show ((4294967295 : Nat) : Int) = (4294967295 : Int) from rfl] at e
  rw [e]
  congr 1
  exact Nat.and_two_pow_sub_one_eq_mod a 32

theorem vi_fl (b : Bool) : vi (if b then 1 else 0) = fl b := by
  cases b
  · rw [if_neg (by decide), vi_small (by omega)]; rfl
  · rw [if_pos rfl, vi_small (by omega)]; rfl

theorem catAll_fl (l : List Bool) : (catAll fl l).length = l.length := by
  induction l with
  | nil => rfl
  | cons b l ih => rw [catAll_cons, List.length_append, ih, List.length_cons]; simp [fl]; omega

set_option maxRecDepth 100000 in
set_option maxHeartbeats 1000000 in
theorem text_any (g : Nat) (v : Value) (bs : List UInt8) (A : Option Addr) (n c : Nat) (l : List (List UInt8)) (w : World)
    (hw : Wr w g v bs) (hl : Rd w (Same g v) 1 A n (l.map S)) (hn : n ≤ 9223372036854775807) (hb : bs.length + (catAll tx l).length + 20 ≤ 140737488355328) :
    Calls Try.prog 41 #[.pointer (some ⟨g, 0, none⟩), .slice A n c] w (NumDone g v (bs ++ catAll tx l) w) := by
  have hnl : l.length = n := by have := hl.1; simpa using this
  have HNL := hide hnl
  clear hnl
  go_enter Try.func41, Try.ntmps41
  go_wp2_with fail
  go_loopw [9] (fun i wr => ∃ (k : Nat) (v' : Value), k ≤ n ∧ i = .int .i64 k ∧ Wrote g v w (bs ++ catTo tx l k) v' wr)
    (fun i _ => n - (intOf i).toNat)
  case atStart => exact ⟨0, v, Nat.zero_le _, rfl, by simpa [catTo_zero] using hw, Keep.refl _ _, .inl rfl⟩
  case round =>
    obtain ⟨k, v', hk, rfl, hwr⟩ := hrel
    by_cases hlt : k < n
    · obtain ⟨b, o, u, rfl, hu, hc⟩ := (hl.keep hwr.2.1).at_ k hlt
      have hlk : k < l.length := by have := HNL.out; omega
      obtain rfl : S l[k] = u := by simpa [hlk] using hu
      clear hu
      have HT : Hid (catTo tx l (k + 1) = catTo tx l k ++ tx l[k]) := catTo_succ tx l k hlk
      have hdl := catTo_le tx l k hlk
      generalize l[k] = s at *
      have hsl : (tx s).length = (vi s.length).length + s.length := by simp [tx]
      obtain ⟨D, hD⟩ : ∃ D, D = bs ++ catTo tx l k := ⟨_, rfl⟩
      have hDl : D.length + (vi s.length).length + s.length + 20 ≤ 140737488355328 := by rw [hD, List.length_append]; omega
      rw [← hD] at hwr
      have HD := hide hD
      clear hD hdl hsl
      go_wp2_with fail
      refine (num_one g v' D _ wr wr.heap.size rfl hwr.1 (by omega) (by omega)).mono ?_
      rintro e w1 ⟨v1, rfl, h1⟩
      rw [Int.toNat_natCast] at h1
      have h2 := hwr.trans h1
      obtain ⟨E, hE⟩ : ∃ E, E = D ++ vi s.length := ⟨_, rfl⟩
      have hEl : E.length + s.length ≤ 140737488355328 := by rw [hE, List.length_append]; omega
      rw [← hE] at h2
      have HE := hide hE
      clear h1 hwr hE
      have hown := h2.1.own
      have hc1 : w1.cell? ⟨g, 0, none⟩ = some v1 := h2.1.blk.cell 0
      go_wp2_with (at_builtin; refine app_str rfl (.tmp 22) (.tmp 23) 67 9 rfl 0 5 Try.underlying67 Try.underlying9 u8_info v1 E.length (E.map B8) rfl hown s rfl (by omega) (by omega) ?_)
      intro a3 c3 w3 hown3 hg3 hat3
      obtain ⟨hb3, HW3⟩ := h2.steps hown3 hg3 (hat3.imp id fun e => ⟨_, e, Nat.le_refl _⟩)
      have hc3 : w3.cell? ⟨g, 0, none⟩ = some v1 := hb3.cell 0
      have hf3 := hb3.frozen 0
      clear hown3 hg3 hat3 hb3 hc1 hown h2
      go_wp2
      go_roundw
      case rel => exact ⟨k + 1, _, by omega, by go_num, by rw [HT.out, tx, ← List.append_assoc, ← List.append_assoc, ← HD.out, ← HE.out]; exact HW3⟩
      case measure => simp [intOf]; omega
    · go_wp2
      go_ret
      exact ⟨v', rfl, by rw [← catTo_all tx l k (by have := HNL.out; omega)]; exact hwr⟩

/-- One text. -/
theorem text_one (g : Nat) (v : Value) (bs : List UInt8) (z : List UInt8) (w : World) (r : Nat) (hr : r = w.heap.size) (hw : Wr w g v bs) (hb : bs.length + z.length + 40 ≤ 140737488355328) :
    Calls Try.prog 41 #[.pointer (some ⟨g, 0, none⟩), .slice (some ⟨r, 0, none⟩) 1 1] (w.alloc (.cells #[S z] 9)) (NumDone g v (bs ++ tx z) w) := by
  subst hr
  have e0 : catAll tx [z] = tx z := by simp [catAll]
  have hl := vi_len_10 z.length (by omega)
  refine (text_any g v bs _ 1 1 [z] _ (hw.alloc _) (Rd.one w _ _ _ hw.notNew) (by omega) (by rw [e0, tx, List.length_append]; omega)).mono ?_
  rintro e w' ⟨v', rfl, h⟩
  refine ⟨v', rfl, ?_⟩
  rw [e0] at h
  exact Wrote.pre ((Keep.refl (Same g v) w).alloc _) h

end Go.Proofs.Ytclgiapmbmbknaa
