/- DiskRooms, walked: it returns true for every input. -/
import Derived.Test.YtkgljicibjlabaaDiskMore
import Derived.Test.YtkgljicibjlabaaDiskHead
import Derived.Laws.Bits128
import Derived.Lib.MinMax
namespace Go.Proofs.Ytkgljicibjlabaa
open Go.RowKit Go.Maps

theorem i64_and_low (p : Nat) (m : Nat) (hp : p < 63) (hm : m = 2 ^ p - 1) (n : Int) : bits .and .i64 n (m : Int) = n % ((2 ^ p : Nat) : Int) := by
  have h1 : (2 ^ p : Nat) < 2 ^ 63 := Nat.pow_lt_pow_right (by decide) hp
  have h0 : 0 < 2 ^ p := Nat.two_pow_pos p
  have hq : (BitVec.ofInt 64 (m : Int)).toNat = 2 ^ p - 1 := by
    rw [BitVec.toNat_ofInt]
    omega
  have key : (BitVec.ofInt 64 n &&& BitVec.ofInt 64 (m : Int)).toNat = (n % ((2 ^ 64 : Nat) : Int)).toNat % 2 ^ p := by
    rw [BitVec.toNat_and, BitVec.toNat_ofInt, hq, Nat.and_two_pow_sub_one_eq_mod]
  show IntKind.i64.wrap ((BitVec.ofInt 64 n &&& BitVec.ofInt 64 (m : Int)).toNat : Nat) = n % ((2 ^ p : Nat) : Int)
  rw [key, IntKind.wrap_i64]
  have hd : ((2 ^ p : Nat) : Int) ∣ ((2 ^ 64 : Nat) : Int) := Int.natCast_dvd_natCast.2 (Nat.pow_dvd_pow 2 (by omega))
  have hlt : (n % ((2 ^ 64 : Nat) : Int)).toNat % 2 ^ p < 2 ^ p := Nat.mod_lt _ h0
  have hnn : 0 ≤ n % ((2 ^ 64 : Nat) : Int) := Int.emod_nonneg _ (by decide)
  have : (((n % ((2 ^ 64 : Nat) : Int)).toNat % 2 ^ p : Nat) : Int) = n % ((2 ^ p : Nat) : Int) := by
    rw [Int.natCast_emod, Int.toNat_of_nonneg hnn, Int.emod_emod_of_dvd _ hd]
  rw [this]
  have h2 := Int.emod_nonneg n (b := ((2 ^ p : Nat) : Int)) (by omega)
  have h3 := Int.emod_lt_of_pos n (b := ((2 ^ p : Nat) : Int)) (by omega)
  omega

/-- The lengths that the four names have. -/
def hv (R : Fl) (j : Nat) : Int := match R [UInt8.ofNat (97 + j)] with | some t => t.length | none => -1
def hasA (h : Nat → Int) : Array Value := #[.int .i64 (h 0), .int .i64 (h 1), .int .i64 (h 2), .int .i64 (h 3)]
theorem hasA_get (h : Nat → Int) {j : Nat} (hj : j < 4) : (hasA h)[j]? = some (.int .i64 (h j)) := by
  obtain rfl | rfl | rfl | rfl : j = 0 ∨ j = 1 ∨ j = 2 ∨ j = 3 := by omega
  all_goals rfl
theorem hasA_set (h : Nat → Int) {j : Nat} (hj : j < 4) (x : Int) : (hasA h).setIfInBounds j (.int .i64 x) = hasA (fun i => if i = j then x else h i) := by
  obtain rfl | rfl | rfl | rfl : j = 0 ∨ j = 1 ∨ j = 2 ∨ j = 3 := by omega
  all_goals rfl
theorem hasA_congr {h h' : Nat → Int} (e : ∀ j, j < 4 → h j = h' j) : hasA h = hasA h' := by
  unfold hasA
  rw [e 0 (by omega), e 1 (by omega), e 2 (by omega), e 3 (by omega)]
theorem nm_inj {i j : Nat} (hi : i < 4) (hj : j < 4) (e : UInt8.ofNat (97 + i) = UInt8.ofNat (97 + j)) : i = j := by
  have := congrArg UInt8.toNat e
  simp only [UInt8.toNat_ofNat'] at this
  omega
theorem hv_set (R : Fl) {j : Nat} (hj : j < 4) (t : List UInt8) : hasA (hv (R.set [UInt8.ofNat (97 + j)] t)) = (hasA (hv R)).setIfInBounds j (.int .i64 (t.length : Int)) := by
  rw [hasA_set _ hj]
  refine hasA_congr fun i hi => ?_
  unfold hv Fl.set
  by_cases e : i = j
  · subst e; simp
  · have : ¬ ([UInt8.ofNat (97 + i)] = [UInt8.ofNat (97 + j)]) := fun h => e (nm_inj hi hj (by simpa using h))
    rw [if_neg this, if_neg e]
theorem hv_del (R : Fl) {j : Nat} (hj : j < 4) : hasA (hv (R.del [UInt8.ofNat (97 + j)])) = (hasA (hv R)).setIfInBounds j (.int .i64 (-1)) := by
  rw [hasA_set _ hj]
  refine hasA_congr fun i hi => ?_
  unfold hv Fl.del
  by_cases e : i = j
  · subst e; simp
  · have : ¬ ([UInt8.ofNat (97 + i)] = [UInt8.ofNat (97 + j)]) := fun h => e (nm_inj hi hj (by simpa using h))
    rw [if_neg this, if_neg e]
theorem hv_max (R : Fl) (j : Nat) : max (hv R j) 0 = (((R [UInt8.ofNat (97 + j)]).getD []).length : Int) := by
  unfold hv
  cases R [UInt8.ofNat (97 + j)] with
  | none => rfl
  | some t => show max (t.length : Int) 0 = t.length; omega

theorem u8_info : (Try.prog.info? 5).map (fun i => (i.zero, i.size, i.bytes)) = some (some (.int .u8 0), 1, 1) := by kernel_rfl
theorem conv_one (w : World) (v : Nat) (hv : v < 256) : (convert 34 9 (.slice (some ⟨w.heap.size, 0, none⟩) 1 1)).run Try.prog (w.alloc (.cells #[.int .u8 v] 5)) = .ok (S [UInt8.ofNat v]) (w.alloc (.cells #[.int .u8 v] 5)) := by
  refine run_convert_bytes_back _ 34 9 5 ⟨w.heap.size, 0, none⟩ 1 [UInt8.ofNat v] Try.underlying34 Try.underlying5 Try.underlying9 fun j hj => ?_
  obtain rfl : j = 0 := by simpa using hj
  have := (Blk.new w 5 #[.int .u8 v]).cell 0
  simp [Addr.add, Nat.mod_eq_of_lt hv, this]

theorem zeros_made (n : Nat) : (madeCells (Value.int .u8 0).cells (n * 1)).toList = (List.replicate n (0 : UInt8)).map B8 := by
  rw [Nat.mul_one]
  unfold madeCells
  apply List.ext_getElem
  · simp
  · intro i h1 h2
    simp [Value.cells, Nat.mod_one, B8]

theorem conv_made {w : World} {base n : Nat} {v : Value} (h : w.ownsRow base 5 1 v n (madeCells (Value.int .u8 0).cells (n * 1)).toList) : (convert 34 9 v).run Try.prog w = .ok (S (List.replicate n 0)) w := by
  rw [zeros_made] at h
  refine conv_own Try.underlying34 Try.underlying5 Try.underlying9 (base := base) ?_
  simpa using h

set_option maxRecDepth 100000 in
set_option maxHeartbeats 4000000 in
theorem rooms_law (x : Int) (A : Option Addr) (n c : Nat) (xs : List Int) (w : World) (hx : Rd w (fun k => w.heap.size ≤ k) 1 A n (xs.map (Value.int .i64))) :
    Calls Try.prog 4 #[.int .i64 x, .slice A n c] w (Gives w (.bool true)) := by
  have hxl : xs.length = n := by simpa using hx.1
  have HX := hide hx
  clear hx
  go_enter Try.func4, Try.ntmps4
  go_wp2_with fail
  refine (head_any w).mono ?_
  rintro e w1 ⟨rfl, hb1⟩
  by_cases hn : 40 < n
  · have d0 : decide (40 < (n : Int)) = true := by simp; omega
    go_wp2_with fail
    go_ret
    exact ⟨rfl, hb1⟩
  have d0 : decide (40 < (n : Int)) = false := by simp; omega
  have hrm := i64_and_low 10 1023 (by decide) (by decide) x
  obtain ⟨rm, hrm2⟩ : ∃ rm : Nat, x % ((2 ^ 10 : Nat) : Int) = rm := ⟨(x % 1024).toNat, by omega⟩
  rw [hrm2] at hrm
  have hrm3 : rm ≤ 1023 := by omega
  have hrm : bits .and .i64 x 1023 = (rm : Int) := hrm
  clear hrm2
  go_wp2_with fail
  refine (new_dk rm (by omega) w1).mono ?_
  rintro e w2 ⟨g, b, rfl, h2, hb2⟩
  have hB2 : Below w.heap.size w w2 := hb1.trans (hb2.mono hb1.size)
  have H2 : Dk w2 w.heap.size g b 0 0 0 none [] rm (-1) false F0 := ⟨h2.blk, h2.txt, by simpa using World.ownsRow_nil w2 w.heap.size 71 3, h2.ok, Nat.le_trans hb1.size h2.bB, Nat.le_trans hb1.size h2.gB⟩
  have hb3 : Below w2.heap.size w2 (w2.alloc (.cells #[.int .i64 (-1), .int .i64 (-1), .int .i64 (-1), .int .i64 (-1)] 3)) := (Below.refl _ _).alloc (Nat.le_refl _) _
  have H3 := hide (H2.below hb3)
  have HB3 := hide (hB2.trans (hb3.mono hB2.size))
  have HH3 := hide (Blk.new w2 3 (hasA (hv F0)))
  have hsz2 : w.heap.size ≤ w2.heap.size := hB2.size
  clear h2 hb2 d0 H2 hb3 hb1 hB2
  go_wp2_with fail
  go_loopw [7, 27] (fun v7 i wr => ∃ (k m q : Nat) (A' : Option Addr) (cs : List Ch) (R : Fl) (tot : Nat), k ≤ n ∧ i = .int .i64 k ∧ v7 = .int .i64 ((rm : Int) - tot) ∧ Dk wr w.heap.size g b 0 m q A' cs rm (-1) false F0 ∧
      cs.foldl chDo F0 = R ∧ Tot R tot ∧ tot ≤ rm ∧ m ≤ 2 * k ∧ Blk wr w2.heap.size 3 (hasA (hv R)) ∧ Below w.heap.size w wr) (fun _ i _ => n - (intOf i).toNat)
  case atStart => exact ⟨0, 0, 0, none, [], F0, 0, Nat.zero_le _, rfl, by simp, H3.out, rfl, Tot.none, Nat.zero_le _, by omega, HH3.out, HB3.out⟩
  case round =>
    obtain ⟨k, m, q, A', cs, R, tot, hkn, rfl, rfl, hd, hR, hT, hle, hm, hh, hBr⟩ := hrel
    have HD := hide hd
    have HR := hide hR
    have HT := hide hT
    have HH := hide hh
    have HLE := hide hle
    have HB := hide hBr
    clear hd hR hT hh hle hBr H3 HB3 HH3
    by_cases hlt : k < n
    · have hlk : k < xs.length := by omega
      obtain ⟨y0, o, u, rfl, hu, hcu⟩ := (HX.out.below HB.out).at_ k hlt
      obtain rfl : Value.int .i64 xs[k] = u := by simpa [hlk] using hu
      obtain ⟨y, hy⟩ : ∃ y, y = xs[k] := ⟨_, rfl⟩
      rw [← hy] at hcu
      clear hy hu
      have ha := i64_and_low 8 255 (by decide) (by decide) y
      obtain ⟨nn, hnn⟩ : ∃ nn : Nat, y % ((2 ^ 8 : Nat) : Int) = nn := ⟨(y % 256).toNat, by omega⟩
      rw [hnn] at ha
      have hnn3 : nn ≤ 255 := by omega
      have ha : bits .and .i64 y 255 = (nn : Int) := ha
      have hj := i64_and_low 2 3 (by decide) (by decide) (k : Int)
      obtain ⟨j, hj2⟩ : ∃ j : Nat, (k : Int) % ((2 ^ 2 : Nat) : Int) = j := ⟨k % 4, by omega⟩
      rw [hj2] at hj
      have hj4 : j < 4 := by omega
      have hj : bits .and .i64 (k : Int) 3 = (j : Int) := hj
      clear hnn hj2
      have hcv := conv_one wr (97 + j) (by omega)
      rw [show (((97 + j : Nat)) : Int) = 97 + (j : Int) by omega] at hcv
      obtain ⟨nm, hnm⟩ : ∃ nm, nm = [UInt8.ofNat (97 + j)] := ⟨_, rfl⟩
      rw [← hnm] at hcv
      have hvm := hv_max R j
      rw [← hnm] at hvm
      have HSET := hide (hv_set R hj4)
      have HDEL := hide (fun R => hv_del R hj4)
      have HHV : Hid (∀ R : Fl, hv R j = match R nm with | some t => (t.length : Int) | none => -1) := hide (fun R => by rw [hnm]; rfl)
      rw [← hnm] at HSET HDEL
      have HNL : Hid (nm.length = 1) := hide (by rw [hnm]; rfl)
      have hn0 : nm ≠ [] := by rw [hnm]; simp
      have HN0 := hide hn0
      clear hnm hn0
      have hbB : Below wr.heap.size wr (wr.alloc (.cells #[.int .u8 (97 + (j : Int))] 5)) := (Below.refl _ _).alloc (Nat.le_refl _) _
      have HBB := hide hbB
      clear hbB
      obtain ⟨i0, hi0, hz0, hz1, hz2⟩ := info_parts u8_info
      go_wp2_with (at_make; refine wpList_make_full _ rfl _ _ 34 rfl wr.heap.size 5 i0 _ 1 Try.underlying34 hi0 hz0 hz1 .i64 .i64 _ _ nn rfl rfl rfl rfl (by rw [hz2]; omega) (by unfold maxLen; omega) (by simp) ?_; intro w3 hown3 hgrow3; have hcv3 := conv_made hown3; rw [World.size_alloc] at hcv3; clear hown3)
      have hb3 := below_grown HBB.out HBB.out.size hgrow3 (fun k hk => by cases hk)
      have H3 := hide (HD.out.below hb3)
      have HH3 := hide (HH.out.below hb3 HH.out.lt)
      have HB3 := hide (HB.out.trans (hb3.mono HB.out.size))
      clear hb3 hgrow3 hcv hcv3 HBB HD HH
      have HRN : Hid ((List.replicate nn (0 : UInt8)).length = nn) := hide (by simp)
      obtain ⟨tx, htx⟩ : ∃ tx, tx = List.replicate nn (0 : UInt8) := ⟨_, rfl⟩
      rw [← htx] at HRN ⊢
      clear htx
      obtain ⟨o', ho'⟩ : ∃ o' : Nat, o' = ((R nm).getD []).length := ⟨_, rfl⟩
      have HO := hide ho'
      rw [← ho'] at hvm
      have hole : o' ≤ tot := by rw [ho']; exact HT.out.le nm
      clear ho'
      have HOL := hide hole
      clear hole
      have hgh : g ≠ w2.heap.size := H3.out.blk.ne_ HH3.out (by decide)
      have hoh : (Value.slice A' m q).ownBlock ≠ some w2.heap.size := own_blk_ne H3.out.own HH3.out (by decide)
      have HGH := hide hgh
      have HOH := hide hoh
      clear hgh hoh
      have e53 : wrap64 ((rm : Int) - tot + o') = rm - tot + o' := by have := HOL.out; have := HLE.out; unfold wrap64; omega
      by_cases hfit : (nn : Int) ≤ rm - tot + o'
      · have HLE2 := HLE.out
        have d3 : decide ((nn : Int) ≤ rm - tot + o') = true := by simp; omega
        have HF := hide (write_ok w.heap.size g b 0 m q A' cs rm (-1) F0 R tot nm tx w3 H3.out (by omega) (by omega) (by omega) (by omega) HR.out HT.out (by omega) (by omega) HN0.out (by have := HNL.out; omega) (by have := HRN.out; omega) (by rw [← HO.out, HRN.out]; omega))
        obtain ⟨tot4, ht4, hs4⟩ := HT.out.set nm tx
        rw [← HO.out, HRN.out] at hs4
        have HT4 := hide ht4
        clear ht4
        have HOL2 := HOL.out
        have e76 : wrap64 ((o' : Int) - nn) = o' - nn := by unfold wrap64; omega
        have e77 : wrap64 ((rm : Int) - tot + ((o' : Int) - nn)) = rm - tot4 := by unfold wrap64; omega
        have c3 : w3.cell? ⟨w2.heap.size, j, none⟩ = some (.int .i64 (hv R j)) := by rw [HH3.out.cell j, hasA_get _ hj4]
        go_wp2_with fail
        refine HF.out.mono ?_
        rintro e w4 ⟨rfl, ⟨q4, c4, h4⟩, hk4⟩
        have h4 : Dk w4 w.heap.size g b 0 (m + 1) c4 (some ⟨q4, 0, none⟩) (cs ++ [⟨0, nm, tx⟩]) rm (-1) false F0 := h4
        have hh4 := HH3.out.keep hk4 (fun e => by
          rcases e with e | e
          · exact HGH.out e.symm
          · exact HOH.out e)
        have hb4 := H3.out.frame HB3.out hk4
        have r4 : w4.cell? ⟨w2.heap.size, j, none⟩ = some (.int .i64 (hv R j)) := by rw [hh4.cell j, hasA_get _ hj4]
        have r4' : w4.cell? ⟨w2.heap.size, 0 + j, none⟩ = some (.int .i64 (hv R j)) := by rw [Nat.zero_add]; exact r4
        have f4 := hh4.frozen j
        have f4' : w4.frozen? ⟨w2.heap.size, 0 + j, none⟩ = false := by rw [Nat.zero_add]; exact f4
        have hh5 : Blk (w4.setCell ⟨w2.heap.size, j, none⟩ (.int .i64 (nn : Int))) w2.heap.size 3 (hasA (hv (R.set nm tx))) := by rw [HSET.out, HRN.out]; exact hh4.set_ j _
        have hk5 := (Keep.refl (fun k => k = w2.heap.size) w4).setCell (p := ⟨w2.heap.size, j, none⟩) (fun _ => rfl) (.int .i64 (nn : Int))
        have h5 := h4.keep hk5 HGH.out (fun e => by have := h4.txt; obtain ⟨D, ⟨es, ck, hb, _⟩, _⟩ := this; have h2 := hh4; unfold Blk at h2; rw [← e, hb] at h2; cases h2) (fun k hk e => own_blk_ne h4.own hh4 (by decide) (e ▸ hk))
        have hb5 := hb4.trans (hk5.below (B := w.heap.size) (by have := hb4.size; omega) (fun k hk => by omega))
        have HR5 : Hid (List.foldl chDo F0 (cs ++ [⟨0, nm, tx⟩]) = R.set nm tx) := hide (by rw [List.foldl_append, HR.out]; simp [chDo])
        have HSOME : Hid (R.set nm tx nm = some tx) := hide (by simp [Fl.set])
        have r5 : (w4.setCell ⟨w2.heap.size, j, none⟩ (.int .i64 (nn : Int))).cell? ⟨w2.heap.size, j, none⟩ = some (.int .i64 (nn : Int)) := by rw [hh5.cell j, hasA_get _ hj4, HHV.out, HSOME.out]; simp [HRN.out]
        have HH5 := hide hh5
        have H5 := hide h5
        have HB5 := hide hb5
        clear hh5 h5 hb5 hk5 h4 hk4 hh4 hb4 HF H3 HH3 HB3
        have d6 : decide ((0 : Int) ≤ (nn : Int)) = true := by simp
        by_cases hk5 : (k : Int) % 5 = 4
        · have d5 : ((k : Int) % 5 == 4) = true := by simpa using hk5
          go_wp2_with fail
          obtain ⟨tot7, ht7, hs7⟩ := HT4.out.del nm
          rw [HSOME.out] at hs7
          have hs7 : tot7 + nn = tot4 := by rw [← hs7, ← HRN.out]; rfl
          have HT7 := hide ht7
          clear ht7
          have e101 : wrap64 ((rm : Int) - tot4 + (nn : Nat)) = rm - tot7 := by unfold wrap64; omega
          refine (remove_ok w.heap.size g b 0 (m + 1) c4 (some ⟨q4, 0, none⟩) (cs ++ [⟨0, nm, tx⟩]) rm (-1) F0 (R.set nm tx) nm _ H5.out (by omega) (by omega) (by omega) (by omega) HR5.out (by have := HNL.out; unfold short; omega) (by rw [HSOME.out]; rfl)).mono ?_
          rintro e w6 ⟨rfl, ⟨q6, c6, h6⟩, hk6⟩
          have h6 : Dk w6 w.heap.size g b 0 ((m + 1) + 1) c6 (some ⟨q6, 0, none⟩) ((cs ++ [⟨0, nm, tx⟩]) ++ [⟨2, nm, []⟩]) rm (-1) false F0 := h6
          have hgh : g ≠ w2.heap.size := H5.out.blk.ne_ HH5.out (by decide)
          have hoh := own_blk_ne H5.out.own HH5.out (by decide)
          have hh6 := HH5.out.keep hk6 (fun e => by
            rcases e with e | e
            · exact hgh e.symm
            · exact hoh e)
          have HB6 := hide (H5.out.frame HB5.out hk6)
          have r6 : w6.cell? ⟨w2.heap.size, j, none⟩ = some (.int .i64 (nn : Nat)) := by rw [hh6.cell j, hasA_get _ hj4, HHV.out, HSOME.out]; simp [HRN.out]
          have r6' : w6.cell? ⟨w2.heap.size, 0 + j, none⟩ = some (.int .i64 (nn : Nat)) := by rw [Nat.zero_add]; exact r6
          have f6 := hh6.frozen j
          have f6' : w6.frozen? ⟨w2.heap.size, 0 + j, none⟩ = false := by rw [Nat.zero_add]; exact f6
          have hh7 : Blk (w6.setCell ⟨w2.heap.size, j, none⟩ (.int .i64 (-1))) w2.heap.size 3 (hasA (hv ((R.set nm tx).del nm))) := by rw [HDEL.out]; exact hh6.set_ j _
          have hk7 := (Keep.refl (fun k => k = w2.heap.size) w6).setCell (p := ⟨w2.heap.size, j, none⟩) (fun _ => rfl) (.int .i64 (-1))
          have h7 := h6.keep hk7 hgh (fun e => by have := h6.txt; obtain ⟨D, ⟨es, ck, hb, _⟩, _⟩ := this; have h2 := hh6; unfold Blk at h2; rw [← e, hb] at h2; cases h2) (fun k hk e => own_blk_ne h6.own hh6 (by decide) (e ▸ hk))
          have hb7 := HB6.out.trans (hk7.below (B := w.heap.size) (by have := HB6.out.size; omega) (fun k hk => by omega))
          have HR7 : Hid (List.foldl chDo F0 ((cs ++ [⟨0, nm, tx⟩]) ++ [⟨2, nm, []⟩]) = (R.set nm tx).del nm) := hide (by rw [List.foldl_append, HR5.out]; simp [chDo])
          have HH7 := hide hh7
          have H7 := hide h7
          have HB7 := hide hb7
          clear hh7 h7 hb7 hk7 h6 hk6 hh6 hgh hoh
          go_wp2_with fail
          refine (room_any g b 0 ((m + 1) + 1) c6 ((cs ++ [⟨0, nm, tx⟩]) ++ [⟨2, nm, []⟩]) (some ⟨q6, 0, none⟩) rm (-1) false F0 ((R.set nm tx).del nm) tot7 _ H7.out.blk H7.out.txt H7.out.rd H7.out.len (by omega) (by omega) H7.out.ok HR7.out HT7.out (by omega) (by omega)).mono ?_
          rintro e w9 ⟨rfl, hb9⟩
          have H9 := hide (H7.out.below hb9)
          have HH9 := hide (HH7.out.below hb9 HH7.out.lt)
          have HB9 := hide (HB7.out.trans (hb9.mono HB7.out.size))
          clear hb9
          go_wp2_with fail
          go_roundw
          case rel => exact ⟨k + 1, ((m + 1) + 1), c6, (some ⟨q6, 0, none⟩), ((cs ++ [⟨0, nm, tx⟩]) ++ [⟨2, nm, []⟩]), ((R.set nm tx).del nm), tot7, by omega, by go_num, by first | rfl | (congr 1; omega), H9.out, HR7.out, HT7.out, by omega, by omega, HH9.out, HB9.out⟩
          case measure => simp [intOf]; omega
        · have d5 : ((k : Int) % 5 == 4) = false := by simpa using hk5
          go_wp2_with fail
          refine (room_any g b 0 (m + 1) c4 (cs ++ [⟨0, nm, tx⟩]) (some ⟨q4, 0, none⟩) rm (-1) false F0 (R.set nm tx) tot4 _ H5.out.blk H5.out.txt H5.out.rd H5.out.len (by omega) (by omega) H5.out.ok HR5.out HT4.out (by omega) (by omega)).mono ?_
          rintro e w9 ⟨rfl, hb9⟩
          have H9 := hide (H5.out.below hb9)
          have HH9 := hide (HH5.out.below hb9 HH5.out.lt)
          have HB9 := hide (HB5.out.trans (hb9.mono HB5.out.size))
          clear hb9
          go_wp2_with fail
          go_roundw
          case rel => exact ⟨k + 1, (m + 1), c4, (some ⟨q4, 0, none⟩), (cs ++ [⟨0, nm, tx⟩]), (R.set nm tx), tot4, by omega, by go_num, by first | rfl | (congr 1; omega), H9.out, HR5.out, HT4.out, by omega, by omega, HH9.out, HB9.out⟩
          case measure => simp [intOf]; omega
      · have HLE2 := HLE.out
        have HOL2 := HOL.out
        have d3 : decide ((nn : Int) ≤ rm - tot + o') = false := by simp; omega
        have HF := hide (write_full w.heap.size g b 0 m q A' cs rm (-1) F0 R tot nm tx w3 H3.out (by omega) (by omega) (by omega) (by omega) HR.out HT.out (by omega) (by omega) HN0.out (by have := HNL.out; omega) (by rw [← HO.out, HRN.out]; omega))
        go_wp2_with fail
        refine HF.out.mono ?_
        rintro e w4 ⟨rfl, h4, hk4⟩
        have h4 : Dk w4 w.heap.size g b 0 m q A' cs rm (-1) false F0 := h4
        have hh4 := HH3.out.keep hk4 (fun e => HGH.out e.symm)
        have HB4 := hide (H3.out.frame1 HB3.out hk4)
        have H4 := hide h4
        have HH4 := hide hh4
        have c4 : w4.cell? ⟨w2.heap.size, j, none⟩ = some (.int .i64 (hv R j)) := by rw [hh4.cell j, hasA_get _ hj4]
        have c4' : w4.cell? ⟨w2.heap.size, 0 + j, none⟩ = some (.int .i64 (hv R j)) := by rw [Nat.zero_add]; exact c4
        clear hh4 h4 hk4 HF H3 HH3 HB3
        by_cases hk5 : (k : Int) % 5 = 4
        · have d5 : ((k : Int) % 5 == 4) = true := by simpa using hk5
          cases hrn : R nm with
          | none =>
            have hvj : hv R j = -1 := by rw [HHV.out, hrn]
            rw [hvj] at c4 c4' hvm
            clear hvj
            go_wp2_with fail
            refine (room_any g b 0 m q cs A' rm (-1) false F0 R tot w4 H4.out.blk H4.out.txt H4.out.rd H4.out.len (by omega) (by omega) H4.out.ok HR.out HT.out (by omega) (by omega)).mono ?_
            rintro e w9 ⟨rfl, hb9⟩
            have H9 := hide (H4.out.below hb9)
            have HH9 := hide (HH4.out.below hb9 HH4.out.lt)
            have HB9 := hide (HB4.out.trans (hb9.mono HB4.out.size))
            clear hb9
            go_wp2_with fail
            go_roundw
            case rel => exact ⟨k + 1, m, q, A', cs, R, tot, by omega, by go_num, by first | rfl | (congr 1; omega), H9.out, HR.out, HT.out, by omega, by omega, HH9.out, HB9.out⟩
            case measure => simp [intOf]; omega
          | some t =>
            have hvj : hv R j = (t.length : Int) := by rw [HHV.out, hrn]
            rw [hvj] at c4 c4' hvm
            clear hvj
            have HSOME := hide hrn
            clear hrn
            have d6 : decide ((0 : Int) ≤ (t.length : Int)) = true := by simp
            go_wp2_with fail
            obtain ⟨tot7, ht7, hs7⟩ := HT.out.del nm
            rw [HSOME.out] at hs7
            have hs7 : tot7 + t.length = tot := hs7
            have HT7 := hide ht7
            clear ht7
            have e101 : wrap64 ((rm : Int) - tot + (t.length : Nat)) = rm - tot7 := by unfold wrap64; omega
            refine (remove_ok w.heap.size g b 0 m q A' cs rm (-1) F0 R nm w4 H4.out (by omega) (by omega) (by omega) (by omega) HR.out (by have := HNL.out; unfold short; omega) (by rw [HSOME.out]; rfl)).mono ?_
            rintro e w6 ⟨rfl, ⟨q6, c6, h6⟩, hk6⟩
            have h6 : Dk w6 w.heap.size g b 0 (m + 1) c6 (some ⟨q6, 0, none⟩) (cs ++ [⟨2, nm, []⟩]) rm (-1) false F0 := h6
            have hgh : g ≠ w2.heap.size := H4.out.blk.ne_ HH4.out (by decide)
            have hoh := own_blk_ne H4.out.own HH4.out (by decide)
            have hh6 := HH4.out.keep hk6 (fun e => by
              rcases e with e | e
              · exact hgh e.symm
              · exact hoh e)
            have HB6 := hide (H4.out.frame HB4.out hk6)
            have r6 : w6.cell? ⟨w2.heap.size, j, none⟩ = some (.int .i64 (t.length : Nat)) := by rw [hh6.cell j, hasA_get _ hj4, HHV.out, HSOME.out]; all_goals rfl
            have r6' : w6.cell? ⟨w2.heap.size, 0 + j, none⟩ = some (.int .i64 (t.length : Nat)) := by rw [Nat.zero_add]; exact r6
            have f6 := hh6.frozen j
            have f6' : w6.frozen? ⟨w2.heap.size, 0 + j, none⟩ = false := by rw [Nat.zero_add]; exact f6
            have hh7 : Blk (w6.setCell ⟨w2.heap.size, j, none⟩ (.int .i64 (-1))) w2.heap.size 3 (hasA (hv (R.del nm))) := by rw [HDEL.out]; exact hh6.set_ j _
            have hk7 := (Keep.refl (fun k => k = w2.heap.size) w6).setCell (p := ⟨w2.heap.size, j, none⟩) (fun _ => rfl) (.int .i64 (-1))
            have h7 := h6.keep hk7 hgh (fun e => by have := h6.txt; obtain ⟨D, ⟨es, ck, hb, _⟩, _⟩ := this; have h2 := hh6; unfold Blk at h2; rw [← e, hb] at h2; cases h2) (fun k hk e => own_blk_ne h6.own hh6 (by decide) (e ▸ hk))
            have hb7 := HB6.out.trans (hk7.below (B := w.heap.size) (by have := HB6.out.size; omega) (fun k hk => by omega))
            have HR7 : Hid (List.foldl chDo F0 (cs ++ [⟨2, nm, []⟩]) = R.del nm) := hide (by rw [List.foldl_append, HR.out]; simp [chDo])
            have HH7 := hide hh7
            have H7 := hide h7
            have HB7 := hide hb7
            clear hh7 h7 hb7 hk7 h6 hk6 hh6 hgh hoh
            go_wp2_with fail
            refine (room_any g b 0 (m + 1) c6 (cs ++ [⟨2, nm, []⟩]) (some ⟨q6, 0, none⟩) rm (-1) false F0 (R.del nm) tot7 _ H7.out.blk H7.out.txt H7.out.rd H7.out.len (by omega) (by omega) H7.out.ok HR7.out HT7.out (by omega) (by omega)).mono ?_
            rintro e w9 ⟨rfl, hb9⟩
            have H9 := hide (H7.out.below hb9)
            have HH9 := hide (HH7.out.below hb9 HH7.out.lt)
            have HB9 := hide (HB7.out.trans (hb9.mono HB7.out.size))
            clear hb9
            go_wp2_with fail
            go_roundw
            case rel => exact ⟨k + 1, (m + 1), c6, (some ⟨q6, 0, none⟩), (cs ++ [⟨2, nm, []⟩]), (R.del nm), tot7, by omega, by go_num, by first | rfl | (congr 1; omega), H9.out, HR7.out, HT7.out, by omega, by omega, HH9.out, HB9.out⟩
            case measure => simp [intOf]; omega
        · have d5 : ((k : Int) % 5 == 4) = false := by simpa using hk5
          go_wp2_with fail
          refine (room_any g b 0 m q cs A' rm (-1) false F0 R tot w4 H4.out.blk H4.out.txt H4.out.rd H4.out.len (by omega) (by omega) H4.out.ok HR.out HT.out (by omega) (by omega)).mono ?_
          rintro e w9 ⟨rfl, hb9⟩
          have H9 := hide (H4.out.below hb9)
          have HH9 := hide (HH4.out.below hb9 HH4.out.lt)
          have HB9 := hide (HB4.out.trans (hb9.mono HB4.out.size))
          clear hb9
          go_wp2_with fail
          go_roundw
          case rel => exact ⟨k + 1, m, q, A', cs, R, tot, by omega, by go_num, by first | rfl | (congr 1; omega), H9.out, HR.out, HT.out, by omega, by omega, HH9.out, HB9.out⟩
          case measure => simp [intOf]; omega
    · go_wp2_with fail
      go_ret
      exact ⟨rfl, HB.out⟩
end Go.Proofs.Ytkgljicibjlabaa
