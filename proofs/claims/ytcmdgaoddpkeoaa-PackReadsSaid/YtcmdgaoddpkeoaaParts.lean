/- The laws' own 'few', 'lay', 'read' over parts, walked. -/
import Derived.Test.YtcmdgaoddpkeoaaPackMosts
namespace Go.Proofs.Ytcmdgaoddpkeoaa
open Go.RowKit

/-- A part: its kind, its number, its text. -/
structure Part where
  k : Int
  n : Int
  s : List UInt8
instance : Inhabited Part := ⟨⟨0, 0, []⟩⟩
def pcells (p : Part) : List Value := [.int .i64 p.k, .int .i64 p.n, S p.s]
def Part.ok (p : Part) : Prop := -9223372036854775808 ≤ p.k ∧ p.k ≤ 9223372036854775807 ∧ -9223372036854775808 ≤ p.n ∧ p.n ≤ 9223372036854775807 ∧ p.s.length ≤ 9223372036854775807

theorem flat_at {α : Type} (f : α → List Value) (size : Nat) (hf : ∀ x, (f x).length = size) : ∀ (l : List α) (k : Nat) (hk : k < l.length) (j : Nat), j < size → (l.flatMap f)[k * size + j]? = (f l[k])[j]?
  | x :: l, 0, _, j, hj => by
    rw [List.flatMap_cons, List.getElem?_append_left (by rw [hf]; omega)]
    simp
  | x :: l, k + 1, hk, j, hj => by
    rw [List.flatMap_cons, List.getElem?_append_right (by rw [hf, Nat.add_mul]; omega), hf, show (k + 1) * size + j - size = k * size + j by rw [Nat.add_mul]; omega]
    exact flat_at f size hf l k (by simpa using hk) j hj

theorem Rd.rec_ {α : Type} {f : α → List Value} {size : Nat} (hf : ∀ x, (f x).length = size) {w : World} {F : Nat → Prop} {A : Option Addr} {n : Nat} {l : List α} (h : Rd w F size A n (l.flatMap f)) (hl : l.length = n) (k : Nat) (hk : k < n) :
    ∃ b o, A = some ⟨b, o, none⟩ ∧ b < w.heap.size ∧ ¬ F b ∧ ∀ j u, (f (l[k]'(by omega)))[j]? = some u → w.cell? ⟨b, o + k * size + j, none⟩ = some u := by
  obtain ⟨b, o, e, hF, hlt, hc⟩ := h.2 (by omega)
  refine ⟨b, o, e, hlt, hF, fun j u hu => ?_⟩
  have hj : j < size := by
    have := (List.getElem?_eq_some_iff.1 hu).1
    rwa [hf] at this
  rw [Nat.add_assoc]
  exact hc _ u (by rw [flat_at f size hf l k (by omega) j hj]; exact hu)

/-- Are there few? -/
def fewP (ps : List Part) : Bool := ps.all (fun p => decide (p.s.length ≤ 300)) && decide (ps.length ≤ 20)

set_option maxRecDepth 100000 in
theorem few_any (A : Option Addr) (n c : Nat) (ps : List Part) (w : World) (hl : Rd w (fun _ => False) 3 A n (ps.flatMap pcells)) (hn : ps.length = n) (hm : n ≤ 9223372036854775807) :
    Calls Try.prog 27 #[.slice A n c] w (Gives w (.bool (fewP ps))) := by
  have ha1 := hl.old
  have HN := hide hn
  clear hl hn
  go_enter Try.func27, Try.ntmps27
  go_wp2_with fail
  go_loopw [7] (fun i wr => ∃ k : Nat, k ≤ n ∧ i = .int .i64 k ∧ Below w.heap.size w wr ∧ ∀ p ∈ ps.take k, p.s.length ≤ 300) (fun i _ => n - (intOf i).toNat)
  case atStart => exact ⟨0, Nat.zero_le _, rfl, Below.refl _ _, by simp⟩
  case round =>
    obtain ⟨k, hk, rfl, hb, hall⟩ := hrel
    by_cases hlt : k < n
    · obtain ⟨x, o, rfl, hx1, _, hcell⟩ := Rd.rec_ (size := 3) (fun _ => rfl) (ha1.below hb) HN.out k hlt
      have hlk : k < ps.length := by have := HN.out; omega
      have HP : Hid (∀ q ∈ ps.take (k + 1), q ∈ ps.take k ∨ q = ps[k]) := by
        unfold Hid
        rw [List.take_succ_eq_append_getElem hlk]
        intro q hq
        rcases List.mem_append.1 hq with h | h
        · exact .inl h
        · exact .inr (List.mem_singleton.1 h)
      have HQ : Hid (ps[k] ∈ ps) := List.getElem_mem hlk
      generalize ps[k] = p at *
      have c0 : wr.cell? ⟨x, o + k * 3, none⟩ = some (.int .i64 p.k) := hcell 0 _ rfl
      have c1 : wr.cell? ⟨x, o + k * 3 + 1, none⟩ = some (.int .i64 p.n) := hcell 1 _ rfl
      have c2 : wr.cell? ⟨x, o + k * 3 + 2, none⟩ = some (S p.s) := hcell 2 _ rfl
      clear hcell
      by_cases h3 : 300 < p.s.length
      · have HF : Hid (fewP ps = false) := by
          unfold Hid fewP
          rw [Bool.and_eq_false_iff]
          left
          rw [List.all_eq_false]
          exact ⟨p, HQ.out, by simp; omega⟩
        go_wp2
        go_ret
        exact ⟨by rw [HF.out] <;> rfl, hb.alloc hb.size _⟩
      · go_wp2
        go_roundw
        case rel => exact ⟨k + 1, by omega, by go_num, hb.alloc hb.size _, fun q hq => by
          rcases HP.out q hq with h | rfl
          · exact hall q h
          · omega⟩
        case measure => simp [intOf]; omega
    · have HF : Hid (fewP ps = decide ((n : Int) ≤ 20)) := by
        unfold Hid fewP
        have e20 : decide (ps.length ≤ 20) = decide ((n : Int) ≤ 20) := by rw [HN.out, decide_eq_decide]; omega
        rw [e20, Bool.and_eq_right_iff_imp]
        intro _
        rw [List.all_eq_true]
        intro p hp
        have := hall p (by rw [List.take_of_length_le (by have := HN.out; omega)]; exact hp)
        simpa using this
      clear hall ha1
      go_wp2
      go_ret
      exact ⟨by rw [HF.out] <;> rfl, hb⟩

theorem i64_low (n : Int) (j : Nat) (hj : j < 63) : bits .and .i64 n ((2 ^ j - 1 : Nat) : Int) = n % (2 ^ j : Nat) := by
  show IntKind.i64.wrap ((BitVec.ofInt 64 n &&& BitVec.ofInt 64 ((2 ^ j - 1 : Nat) : Int)).toNat : Int) = _
  have hp : 2 ^ j ≤ 2 ^ 62 := Nat.pow_le_pow_right (by decide) (by omega)
  have hp0 : 0 < 2 ^ j := Nat.pow_pos (by decide)
  have h62 : (2 : Nat) ^ 62 = 4611686018427387904 := by decide
  rw [BitVec.toNat_and, BitVec.ofInt_natCast, BitVec.toNat_ofNat, Nat.mod_eq_of_lt (a := 2 ^ j - 1) (by simp; omega), Nat.and_two_pow_sub_one_eq_mod, BitVec.toNat_ofInt, IntKind.wrap_i64]
  have hlt : (n % ((2 ^ 64 : Nat) : Int)).toNat % 2 ^ j < 2 ^ j := Nat.mod_lt _ hp0
  have e : (((n % ((2 ^ 64 : Nat) : Int)).toNat % 2 ^ j : Nat) : Int) = n % (2 ^ j : Nat) := by
    have hnn : 0 ≤ n % ((2 ^ 64 : Nat) : Int) := Int.emod_nonneg _ (by decide)
    rw [Int.natCast_emod, Int.toNat_of_nonneg hnn]
    refine Int.emod_emod_of_dvd n ?_
    refine Int.natCast_dvd_natCast.2 ?_
    exact Nat.pow_dvd_pow 2 (by omega)
  omega
theorem i64_and3 (n : Int) : bits .and .i64 n 3 = n % 4 := i64_low n 2 (by omega)
theorem i64_and1 (n : Int) : bits .and .i64 n 1 = n % 2 := i64_low n 1 (by omega)

/-- A part as bytes. -/
def pb (p : Part) : List UInt8 :=
  if p.k % 4 = 0 then vi p.n.toNat else if p.k % 4 = 1 then tx p.s else if p.k % 4 = 2 then vi (p.n % 2).toNat else zi p.n

theorem pb_len (p : Part) (hp : p.ok) : (pb p).length ≤ 20 + p.s.length := by
  obtain ⟨h1, h2, h3, h4, h5⟩ := hp
  unfold pb
  split
  · have := vi_len_10 p.n.toNat (by omega); omega
  · split
    · unfold tx
      have := vi_len_10 p.s.length (by omega)
      rw [List.length_append]; omega
    · split
      · have := vi_len_10 (p.n % 2).toNat (by omega); omega
      · have hz := zz_le p.n h3 h4
        unfold zi
        have e1 := vi_len_10 (zz p.n / 4294967296) (by omega)
        have e2 := vi_len_10 (zz p.n % 4294967296) (by omega)
        rw [List.length_append]; omega

/-- What the law's own shifting comes to. -/
theorem zz_law_neg (z : Int) (h1 : z < 0) (h2 : -9223372036854775808 ≤ z) : IntKind.u64.wrap (IntKind.u64.wrap (IntKind.u64.wrap (-IntKind.u64.wrap z) * 2) - 1) = (zz z : Int) := by
  rw [IntKind.wrap_u64, IntKind.wrap_u64, IntKind.wrap_u64, IntKind.wrap_u64]
  unfold zz
  rw [if_neg (by omega)]
  omega
theorem zz_law_pos (z : Nat) (h : z ≤ 9223372036854775807) : (z : Int) * 2 = (zz z : Int) := by
  unfold zz
  rw [if_pos (by omega)]
  omega

set_option maxRecDepth 100000 in
set_option maxHeartbeats 2000000 in
theorem lay_any (A : Option Addr) (n c : Nat) (ps : List Part) (w : World) (hl : Rd w (fun _ => False) 3 A n (ps.flatMap pcells)) (hn : ps.length = n) (hm : n ≤ 9223372036854775807) (hok : ∀ p ∈ ps, p.ok) (hb : (catAll pb ps).length ≤ 1000000000) :
    Calls Try.prog 26 #[.slice A n c] w (Gives w (S (catAll pb ps))) := by
  have ha1 := hl.old
  have HN := hide hn
  clear hl hn
  go_enter Try.func26, Try.ntmps26
  go_wp2_with fail
  go_loopw [3, 9] (fun s i wr => ∃ k : Nat, k ≤ n ∧ i = .int .i64 k ∧ s = S (catTo pb ps k) ∧ Below w.heap.size w wr) (fun _ i _ => n - (intOf i).toNat)
  case atStart => exact ⟨0, Nat.zero_le _, rfl, rfl, Below.refl _ _⟩
  case round =>
    obtain ⟨k, hk, rfl, rfl, hbr⟩ := hrel
    by_cases hlt : k < n
    · obtain ⟨x, o, rfl, hx1, _, hcell⟩ := Rd.rec_ (size := 3) (fun _ => rfl) (ha1.below hbr) HN.out k hlt
      have hlk : k < ps.length := by have := HN.out; omega
      have HT : Hid (catTo pb ps (k + 1) = catTo pb ps k ++ pb ps[k]) := catTo_succ pb ps k hlk
      have hle := catTo_le pb ps k hlk
      have hpok := hok ps[k] (List.getElem_mem hlk)
      generalize ps[k] = p at *
      have hpl := pb_len p hpok
      have hpb : (pb p).length ≤ 1000000000 := by omega
      obtain ⟨D, hD⟩ : ∃ D, D = catTo pb ps k := ⟨_, rfl⟩
      have hDl : D.length ≤ 1000000000 := by rw [hD]; omega
      rw [← hD]
      rw [← hD] at HT
      have HD := hide hD
      clear hD hle
      have c0 : wr.cell? ⟨x, o + k * 3, none⟩ = some (.int .i64 p.k) := hcell 0 _ rfl
      have c1 : wr.cell? ⟨x, o + k * 3 + 1, none⟩ = some (.int .i64 p.n) := hcell 1 _ rfl
      have c2 : wr.cell? ⟨x, o + k * 3 + 2, none⟩ = some (S p.s) := hcell 2 _ rfl
      clear hcell
      obtain ⟨kk, nn, s⟩ := p
      obtain ⟨h1, h2, h3, h4, h5⟩ := hpok
      simp only at c0 c1 c2 h1 h2 h3 h4 h5
      have e3 := i64_and3 kk
      have e1 := i64_and1 nn
      have hcase : kk % 4 = 0 ∨ kk % 4 = 1 ∨ kk % 4 = 2 ∨ kk % 4 = 3 := by omega
      have hbA := hbr.alloc hbr.size (.cells #[.int .i64 kk, .int .i64 nn, S s] 49)
      rcases hcase with hc | hc | hc | hc
      · have HB : Hid (pb ⟨kk, nn, s⟩ = vi nn.toNat) := by unfold Hid pb; simp only; rw [if_pos hc]
        rw [HB.out] at HT hpb
        rw [hc] at e3
        clear hc hpl e1
        go_wp2_with fail
        refine (lawnum_any _ _ (by omega)).mono ?_
        rintro e w2 ⟨rfl, hb2⟩
        have hb3 := hbA.trans (hb2.mono hbA.size)
        obtain ⟨V, hV⟩ : ∃ V, V = vi nn.toNat := ⟨_, rfl⟩
        rw [← hV] at HT hpb
        rw [← hV]
        clear hb2 c0 c1 c2 hV HB
        go_wp2
        go_roundw
        case rel => exact ⟨k + 1, by omega, by go_num, by rw [HT.out], hb3⟩
        case measure => simp [intOf]; omega
      · have HB : Hid (pb ⟨kk, nn, s⟩ = tx s) := by unfold Hid pb; simp only; rw [if_neg (by omega), if_pos hc]
        rw [HB.out] at HT hpb
        rw [hc] at e3
        clear hc hpl e1
        unfold tx at HT hpb
        rw [List.length_append] at hpb
        have hq : ∀ t : After (wr.alloc (.cells #[.int .i64 kk, .int .i64 nn, S s] 49)), t.val.cell? ⟨wr.heap.size, 2, none⟩ = some (S s) := fun t => (t.prop.cell (by simp)).trans (by simp [World.cell?_alloc_new])
        have hvi : (vi s.length).length ≤ 1000000000 := by omega
        go_wp2_with fail
        refine region_after (by kernel_rfl) (by kernel_rfl) ?_
        repeat (go_big_quiet_step ((go_at_call 13; refine call_after (lawnum_any _ _ (by omega)))))
        refine wpQuiet_nil ?_
        rintro _ ⟨t, rfl⟩
        have hb3 := hbA.trans (t.prop.mono hbA.size)
        go_wp2
        go_roundw
        case rel => exact ⟨k + 1, by omega, by go_num, by rw [HT.out] <;> simp, hb3⟩
        case measure => simp [intOf]; omega
      · have HB : Hid (pb ⟨kk, nn, s⟩ = vi (nn % 2).toNat) := by unfold Hid pb; simp only; rw [if_neg (by omega), if_neg (by omega), if_pos hc]
        rw [HB.out] at HT hpb
        rw [hc] at e3
        clear hc hpl
        go_wp2_with fail
        refine (lawnum_any _ _ (by omega)).mono ?_
        rintro e w2 ⟨rfl, hb2⟩
        have hb3 := hbA.trans (hb2.mono hbA.size)
        obtain ⟨V, hV⟩ : ∃ V, V = vi (nn % 2).toNat := ⟨_, rfl⟩
        rw [← hV] at HT hpb
        rw [← hV]
        clear hb2 c0 c1 c2 hV HB
        go_wp2
        go_roundw
        case rel => exact ⟨k + 1, by omega, by go_num, by rw [HT.out], hb3⟩
        case measure => simp [intOf]; omega
      · obtain ⟨Z, hZ⟩ : ∃ Z, Z = zz nn := ⟨_, rfl⟩
        have hZl : Z ≤ 18446744073709551615 := by rw [hZ]; exact zz_le nn h3 h4
        have HB : Hid (pb ⟨kk, nn, s⟩ = vi (Z / 4294967296) ++ vi (Z % 4294967296)) := by unfold Hid pb; simp only; rw [if_neg (by omega), if_neg (by omega), if_neg (by omega), hZ]; rfl
        rw [HB.out] at HT hpb
        rw [List.length_append] at hpb
        rw [hc] at e3
        clear hc hpl e1
        have hm32 := u64_mask32 Z hZl
        rw [show ((Z % 4294967296 : Nat) : Int) = (Z : Int) % 4294967296 by omega] at hm32
        have hz0 : nn < 0 ∨ ∃ m : Nat, nn = m := by
          rcases Int.lt_or_le nn 0 with h | h
          · exact .inl h
          · exact .inr (Int.eq_ofNat_of_zero_le h)
        rcases hz0 with h | ⟨m, rfl⟩
        all_goals
          first
            | have hx := zz_law_neg nn h h3
            | have hx := zz_law_pos m (by omega)
          rw [← hZ] at hx
          clear hZ
          go_wp2_with fail
          refine (lawnum_any _ _ (by omega)).mono ?_
          rintro e w2 ⟨rfl, hb2⟩
          rw [show ((Z : Int) / 4294967296).toNat = Z / 4294967296 by omega]
          have hb3 := hbA.trans (hb2.mono hbA.size)
          have hlA : (vi (Z / 4294967296)).length ≤ 1000000000 := by omega
          have hlB : (vi (Z % 4294967296)).length ≤ 1000000000 := by omega
          clear hb2 c0 c1 c2 HB hx
          go_wp2_with fail
          refine (lawnum_any _ _ (by omega)).mono ?_
          rintro e w4 ⟨rfl, hb4⟩
          rw [show ((Z : Int) % 4294967296).toNat = Z % 4294967296 by omega]
          have hb5 := hb3.trans (hb4.mono hb3.size)
          clear hb4 hb3
          go_wp2
          go_roundw
          case rel => exact ⟨k + 1, by omega, by go_num, by rw [HT.out] <;> simp, hb5⟩
          case measure => simp [intOf]; omega
    · go_wp2
      go_ret
      exact ⟨by rw [catTo_all pb ps k (by have := HN.out; omega)] <;> rfl, hbr⟩

end Go.Proofs.Ytcmdgaoddpkeoaa
