/- PackLays, walked: it returns true for every input. -/
import Derived.Test.YtcmdgaoddpkeoaaPackReads
namespace Go.Proofs.Ytcmdgaoddpkeoaa
open Go.RowKit

theorem fl_mod (n : Int) : fl (n % 2 == 1) = vi (n % 2).toNat := by
  have h : n % 2 = 0 ∨ n % 2 = 1 := by omega
  rcases h with h | h <;> rw [h, vi_small (by decide)] <;> rfl

theorem pb_ok_len (p : Part) (hp : p.ok) (h : p.s.length ≤ 300) : (pb p).length ≤ 320 := by
  have := pb_len p hp
  omega

/-- A part that was laid is read again. -/
def backN (p : Part) : Int := if p.k % 4 = 0 then (p.n.toNat : Int) else if p.k % 4 = 1 then 0 else if p.k % 4 = 2 then p.n % 2 else p.n
def backS (p : Part) : List UInt8 := if p.k % 4 = 1 then p.s else []
theorem readP_pb (p : Part) (hp : p.ok) (h : p.s.length ≤ 300) (r : List UInt8) : readP p.k (some (pb p ++ r)) = ((backN p, backS p), some r) := by
  obtain ⟨h1, h2, h3, h4, h5⟩ := hp
  have hk : p.k % 4 = 0 ∨ p.k % 4 = 1 ∨ p.k % 4 = 2 ∨ p.k % 4 = 3 := by omega
  have n01 : ¬ (1 : Int) = 0 := by decide
  have n20 : ¬ (2 : Int) = 0 := by decide
  have n21 : ¬ (2 : Int) = 1 := by decide
  have n30 : ¬ (3 : Int) = 0 := by decide
  have n31 : ¬ (3 : Int) = 1 := by decide
  have n32 : ¬ (3 : Int) = 2 := by decide
  have n02 : ¬ (0 : Int) = 1 := by decide
  unfold readP pb backN backS
  rcases hk with hk | hk | hk | hk
  · rw [hk]
    simp only [if_true, n02, if_false]
    rw [numR_vi r (by omega) (by omega)]
  · rw [hk]
    simp only [n01, if_true, if_false]
    rw [textR_tx p.s r (by omega) (by omega)]
  · rw [hk]
    simp only [n20, n21, if_true, if_false]
    rw [← fl_mod, flagR_fl]
    have h : p.n % 2 = 0 ∨ p.n % 2 = 1 := by omega
    rcases h with h | h <;> rw [h] <;> rfl
  · rw [hk]
    simp only [n30, n31, n32, if_false]
    rw [intR_zi p.n r h3 h4]

set_option maxRecDepth 100000 in
set_option maxHeartbeats 4000000 in
theorem lays_main (A : Option Addr) (n c : Nat) (ps : List Part) (w : World) (hl : Rd w (fun _ => False) 3 A n (ps.flatMap pcells)) (hn : ps.length = n) (hm : n ≤ 20) (hok : ∀ p ∈ ps, p.ok) (hs : ∀ p ∈ ps, p.s.length ≤ 300) (hf : fewP ps = true) :
    Calls Try.prog 9 #[.slice A n c] w (Gives w (.bool true)) := by
  have ha1 := hl.old
  have HN := hide hn
  have HX := hide (catAll_len pb ps 320 (fun p hp => pb_ok_len p (hok p hp) (hs p hp)))
  clear hn
  go_enter Try.func9, Try.ntmps9
  go_wp2_with (go_at_call 10; refine (head_any _).mono ?_; rintro e w1 ⟨rfl, hb1⟩)
  refine (few_any A n c ps w1 ((hl.old.below hb1).weak (fun _ _ h => h.elim)) HN.out (by omega)).mono ?_
  rintro e w2 ⟨rfl, hb2⟩
  rw [hf]
  have hB2 := hb1.trans (hb2.mono hb1.size)
  have hB3 := hB2.alloc hB2.size (.cells #[.slice none 0 0] 27)
  have hW3 := wr_new w2
  have hg := hB2.size
  clear hb1 hb2 hl hB2
  go_wp2_with fail
  generalize w2.alloc (.cells #[.slice none 0 0] 27) = w3 at *
  generalize w2.heap.size = g at *
  go_loopw [21] (fun i wr => ∃ (k : Nat) (v' : Value), k ≤ n ∧ i = .int .i64 k ∧ Wrote g (.slice none 0 0) w3 (catTo pb ps k) v' wr ∧ Below w.heap.size w wr) (fun i _ => n - (intOf i).toNat)
  case atStart => exact ⟨0, _, Nat.zero_le _, rfl, Wrote.refl hW3, hB3⟩
  case round =>
    obtain ⟨k, v', hk, rfl, hwr, hb⟩ := hrel
    by_cases hlt : k < n
    · obtain ⟨x, o, rfl, hx1, _, hcell⟩ := Rd.rec_ (size := 3) (fun _ => rfl) (ha1.below hb) HN.out k hlt
      have hlk : k < ps.length := by have := HN.out; omega
      have HT : Hid (catTo pb ps (k + 1) = catTo pb ps k ++ pb ps[k]) := catTo_succ pb ps k hlk
      have hle := catTo_le pb ps k hlk
      have hpok := hok ps[k] (List.getElem_mem hlk)
      have hps := hs ps[k] (List.getElem_mem hlk)
      generalize ps[k] = p at *
      obtain ⟨D, hD⟩ : ∃ D, D = catTo pb ps k := ⟨_, rfl⟩
      have hDl : D.length ≤ 6400 := by
        have := HX.out
        rw [hD, HN.out] at *
        omega
      rw [← hD] at HT hwr
      have HD := hide hD
      clear hD hle
      have c0 : wr.cell? ⟨x, o + k * 3, none⟩ = some (.int .i64 p.k) := hcell 0 _ rfl
      have c1 : wr.cell? ⟨x, o + k * 3 + 1, none⟩ = some (.int .i64 p.n) := hcell 1 _ rfl
      have c2 : wr.cell? ⟨x, o + k * 3 + 2, none⟩ = some (S p.s) := hcell 2 _ rfl
      clear hcell
      obtain ⟨kk, nn, s⟩ := p
      obtain ⟨h1, h2, h3, h4, h5⟩ := hpok
      simp only at c0 c1 c2 h1 h2 h3 h4 h5 hps
      have e3 := i64_and3 kk
      have e1 := i64_and1 nn
      have hcase : kk % 4 = 0 ∨ kk % 4 = 1 ∨ kk % 4 = 2 ∨ kk % 4 = 3 := by omega
      have hbA := hb.alloc hb.size (.cells #[.int .i64 kk, .int .i64 nn, S s] 49)
      have hWA := hwr.1.alloc (.cells #[.int .i64 kk, .int .i64 nn, S s] 49)
      have hKA : Keep (Same g v') wr (wr.alloc (.cells #[.int .i64 kk, .int .i64 nn, S s] 49)) := (Keep.refl _ wr).alloc _
      rcases hcase with hc | hc | hc | hc
      · have HB : Hid (pb ⟨kk, nn, s⟩ = vi nn.toNat) := by
          unfold Hid pb
          simp only
          rw [if_pos hc]
        rw [HB.out] at HT
        rw [hc] at e3
        clear hc e1
        go_wp2_with fail
        refine (num_one g v' D nn _ (wr.heap.size + 1) (by simp) hWA (by omega) (by omega)).mono ?_
        rintro e w4 ⟨v4, rfl, k4⟩
        have hW4 := hwr.trans (Wrote.pre hKA k4)
        have hB4 := hbA.trans (k4.below (B := w.heap.size) hbA.size (by have := hwr.1.gt; omega) (fun q hq => by
          rcases hwr.2.2 with h | ⟨r, h, hr⟩
          · rw [h] at hq; simp [Value.ownBlock] at hq
          · rw [h] at hq; injection hq with hq; have := hB3.size; omega))
        clear k4 hWA hKA hwr hbA
        go_wp2
        go_roundw
        case rel => exact ⟨k + 1, v4, by omega, by go_num, by rw [HT.out]; exact hW4, hB4⟩
        case measure => simp [intOf]; omega
      · have HB : Hid (pb ⟨kk, nn, s⟩ = tx s) := by
          unfold Hid pb
          simp only
          rw [if_neg (by omega), if_pos hc]
        rw [HB.out] at HT
        rw [hc] at e3
        clear hc e1
        go_wp2_with fail
        refine (text_one g v' D s _ (wr.heap.size + 1) (by simp) hWA (by omega)).mono ?_
        rintro e w4 ⟨v4, rfl, k4⟩
        have hW4 := hwr.trans (Wrote.pre hKA k4)
        have hB4 := hbA.trans (k4.below (B := w.heap.size) hbA.size (by have := hwr.1.gt; omega) (fun q hq => by
          rcases hwr.2.2 with h | ⟨r, h, hr⟩
          · rw [h] at hq; simp [Value.ownBlock] at hq
          · rw [h] at hq; injection hq with hq; have := hB3.size; omega))
        clear k4 hWA hKA hwr hbA
        go_wp2
        go_roundw
        case rel => exact ⟨k + 1, v4, by omega, by go_num, by rw [HT.out]; exact hW4, hB4⟩
        case measure => simp [intOf]; omega
      · have HB : Hid (pb ⟨kk, nn, s⟩ = fl (nn % 2 == 1)) := by
          unfold Hid pb
          simp only
          rw [if_neg (by omega), if_neg (by omega), if_pos hc, ← fl_mod]
        rw [HB.out] at HT
        rw [hc] at e3
        clear hc
        go_wp2_with fail
        refine (flag_one g v' D (nn % 2 == 1) _ (wr.heap.size + 1) (by simp) hWA (by omega)).mono ?_
        rintro e w4 ⟨v4, rfl, k4⟩
        have hW4 := hwr.trans (Wrote.pre hKA k4)
        have hB4 := hbA.trans (k4.below (B := w.heap.size) hbA.size (by have := hwr.1.gt; omega) (fun q hq => by
          rcases hwr.2.2 with h | ⟨r, h, hr⟩
          · rw [h] at hq; simp [Value.ownBlock] at hq
          · rw [h] at hq; injection hq with hq; have := hB3.size; omega))
        clear k4 hWA hKA hwr hbA
        go_wp2
        go_roundw
        case rel => exact ⟨k + 1, v4, by omega, by go_num, by rw [HT.out]; exact hW4, hB4⟩
        case measure => simp [intOf]; omega
      · have HB : Hid (pb ⟨kk, nn, s⟩ = zi nn) := by
          unfold Hid pb
          simp only
          rw [if_neg (by omega), if_neg (by omega), if_neg (by omega)]
        rw [HB.out] at HT
        rw [hc] at e3
        clear hc e1
        go_wp2_with fail
        refine (int_one g v' D nn _ (wr.heap.size + 1) (by simp) hWA h3 h4 (by omega)).mono ?_
        rintro e w4 ⟨v4, rfl, k4⟩
        have hW4 := hwr.trans (Wrote.pre hKA k4)
        have hB4 := hbA.trans (k4.below (B := w.heap.size) hbA.size (by have := hwr.1.gt; omega) (fun q hq => by
          rcases hwr.2.2 with h | ⟨r, h, hr⟩
          · rw [h] at hq; simp [Value.ownBlock] at hq
          · rw [h] at hq; injection hq with hq; have := hB3.size; omega))
        clear k4 hWA hKA hwr hbA
        go_wp2
        go_roundw
        case rel => exact ⟨k + 1, v4, by omega, by go_num, by rw [HT.out]; exact hW4, hB4⟩
        case measure => simp [intOf]; omega
    · have hall : catTo pb ps k = catAll pb ps := catTo_all pb ps k (by have := HN.out; omega)
      rw [hall] at hwr
      have hXl : (catAll pb ps).length ≤ 6400 := by have := HX.out; rw [HN.out] at this; omega
      have hgB : w.heap.size ≤ g := hg
      have hgk := hwr.1.gt
      clear hall
      go_wp2_with fail
      refine (string_any _ _ _ _ hwr.1).mono ?_
      rintro e w4 ⟨rfl, rfl⟩
      go_wp2_with fail
      refine (lay_any A n c ps wr ((ha1.below hb).weak (fun _ _ h => h.elim)) HN.out (by omega) hok (by omega)).mono ?_
      rintro e w5 ⟨rfl, hb5⟩
      have hB5 := hb.trans (hb5.mono hb.size)
      obtain ⟨X, hX⟩ : ∃ X, X = catAll pb ps := ⟨_, rfl⟩
      rw [← hX] at hXl
      rw [← hX]
      have HXX := hide hX
      clear hX hb5 hwr hb hgk
      go_wp2_with fail
      refine (pread_any X _).mono ?_
      rintro e w6 ⟨rfl, rfl⟩
      have hR6 := Rl.new w5 X (by omega)
      have hB6 := hB5.alloc hB5.size (.cells #[S X, .bool false] 58)
      have hg6 := hB5.size
      clear hB5
      go_wp2_with fail
      have hR7 : Rl (w5.alloc (.cells #[S X, .bool false] 58)) w5.heap.size (some (catAll pb (ps.drop 0))) := by rw [List.drop_zero, ← HXX.out]; exact hR6
      clear hR6
      generalize w5.alloc (.cells #[S X, .bool false] 58) = w7 at *
      generalize w5.heap.size = g7 at *
      go_loopw [67] (fun i wr => ∃ k : Nat, k ≤ n ∧ i = .int .i64 k ∧ Rl wr g7 (some (catAll pb (ps.drop k))) ∧ Below w.heap.size w wr) (fun i _ => n - (intOf i).toNat)
      case atStart => exact ⟨0, Nat.zero_le _, rfl, hR7, hB6⟩
      case round =>
        clear hR7 hB6 hW3 hB3
        obtain ⟨k, hk, rfl, hr, hb⟩ := hrel
        by_cases hlt : k < n
        · obtain ⟨x, o, rfl, hx1, _, hcell⟩ := Rd.rec_ (size := 3) (fun _ => rfl) (ha1.below hb) HN.out k hlt
          have hlk : k < ps.length := by have := HN.out; omega
          have hpok := hok ps[k] (List.getElem_mem hlk)
          have hps := hs ps[k] (List.getElem_mem hlk)
          have HD : Hid (catAll pb (ps.drop k) = pb ps[k] ++ catAll pb (ps.drop (k + 1))) := by
            unfold Hid
            rw [List.drop_eq_getElem_cons hlk, catAll_cons]
          have HRP : Hid (readP ps[k].k (some (pb ps[k] ++ catAll pb (ps.drop (k + 1)))) = ((backN ps[k], backS ps[k]), some (catAll pb (ps.drop (k + 1))))) := readP_pb _ hpok hps _
          generalize ps[k] = p at *
          have c0 : wr.cell? ⟨x, o + k * 3, none⟩ = some (.int .i64 p.k) := hcell 0 _ rfl
          have c1 : wr.cell? ⟨x, o + k * 3 + 1, none⟩ = some (.int .i64 p.n) := hcell 1 _ rfl
          have c2 : wr.cell? ⟨x, o + k * 3 + 2, none⟩ = some (S p.s) := hcell 2 _ rfl
          clear hcell
          rw [HD.out] at hr
          obtain ⟨kk, nn, s⟩ := p
          obtain ⟨h1, h2, h3, h4, h5⟩ := hpok
          simp only at c0 c1 c2 h1 h2 h3 h4 h5 hps HRP
          have e3 := i64_and3 kk
          have e1 := i64_and1 nn
          have hrA := hr.alloc (.cells #[.int .i64 kk, .int .i64 nn, S s] 49)
          have hbA := hb.alloc hb.size (.cells #[.int .i64 kk, .int .i64 nn, S s] 49)
          have hBk := Blk.new wr 49 #[.int .i64 kk, .int .i64 nn, S s]
          have hgr := hr.lt
          go_wp2_with fail
          refine (read_any g7 _ kk nn s _ hrA).mono ?_
          rintro e w8 ⟨rfl, h8, k8⟩
          rw [HRP.out] at h8
          rw [HRP.out]
          have hB8 := hbA.trans (k8.below (B := w.heap.size) hbA.size (fun q hq => by omega))
          have hB9 := hBk.keep k8 (by omega)
          have d0 : w8.cell? ⟨wr.heap.size, 0, none⟩ = some (.int .i64 kk) := hB9.cell 0
          have d1 : w8.cell? ⟨wr.heap.size, 1, none⟩ = some (.int .i64 nn) := hB9.cell 1
          have d2 : w8.cell? ⟨wr.heap.size, 2, none⟩ = some (S s) := hB9.cell 2
          have hz8 : wr.heap.size < w8.heap.size := hB9.lt
          clear k8 hBk hB9 hrA hbA c0 c1 c2 hr hb HRP
          have hcase : kk % 4 = 0 ∨ kk % 4 = 1 ∨ kk % 4 = 2 ∨ kk % 4 = 3 := by omega
          simp only
          have HN1 : Hid (backN ⟨kk, nn, s⟩ = if kk % 4 = 0 then (nn.toNat : Int) else if kk % 4 = 1 then 0 else if kk % 4 = 2 then nn % 2 else nn) := rfl
          have HN2 : Hid (backS ⟨kk, nn, s⟩ = if kk % 4 = 1 then s else []) := rfl
          rw [HN1.out, HN2.out]
          clear HN1 HN2 hgr HD h1 h2
          rcases hcase with hc | hc | hc | hc
          · rw [if_pos hc, if_neg (by omega), hc]
            rw [hc] at e3
            clear hc
            have hz0 : (nn < 0 ∧ nn.toNat = 0) ∨ ∃ m : Nat, nn = m := by
              rcases Int.lt_or_le nn 0 with h | h
              · exact .inl ⟨h, by omega⟩
              · exact .inr (Int.eq_ofNat_of_zero_le h)
            rcases hz0 with ⟨h, h'⟩ | ⟨m, rfl⟩
            · rw [h']
              clear h'
              go_wp2_with fail
              refine (rok_any g7 _ _ ((h8.alloc _).alloc _)).mono ?_
              rintro e w9 ⟨rfl, rfl⟩
              go_wp2
              go_roundw
              case rel => exact ⟨k + 1, by omega, by go_num, (h8.alloc _).alloc _, (hB8.alloc hB8.size _).alloc (by have := hB8.size; simp; omega) _⟩
              case measure => simp [intOf]; omega
            · rw [Int.toNat_natCast]
              go_wp2_with fail
              refine (rok_any g7 _ _ ((h8.alloc _).alloc _)).mono ?_
              rintro e w9 ⟨rfl, rfl⟩
              go_wp2
              go_roundw
              case rel => exact ⟨k + 1, by omega, by go_num, (h8.alloc _).alloc _, (hB8.alloc hB8.size _).alloc (by have := hB8.size; simp; omega) _⟩
              case measure => simp [intOf]; omega
          · rw [if_neg (by omega), if_pos hc, if_pos hc, hc]
            rw [hc] at e3
            clear hc
            go_wp2_with fail
            refine (rok_any g7 _ _ ((h8.alloc _).alloc _)).mono ?_
            rintro e w9 ⟨rfl, rfl⟩
            go_wp2
            go_roundw
            case rel => exact ⟨k + 1, by omega, by go_num, (h8.alloc _).alloc _, (hB8.alloc hB8.size _).alloc (by have := hB8.size; simp; omega) _⟩
            case measure => simp [intOf]; omega
          · rw [if_neg (by omega), if_neg (by omega), if_pos hc, if_neg (by omega), hc]
            rw [hc] at e3
            clear hc
            go_wp2_with fail
            refine (rok_any g7 _ _ ((h8.alloc _).alloc _)).mono ?_
            rintro e w9 ⟨rfl, rfl⟩
            go_wp2
            go_roundw
            case rel => exact ⟨k + 1, by omega, by go_num, (h8.alloc _).alloc _, (hB8.alloc hB8.size _).alloc (by have := hB8.size; simp; omega) _⟩
            case measure => simp [intOf]; omega
          · rw [if_neg (by omega), if_neg (by omega), if_neg (by omega), if_neg (by omega), hc]
            rw [hc] at e3
            clear hc
            go_wp2_with fail
            refine (rok_any g7 _ _ ((h8.alloc _).alloc _)).mono ?_
            rintro e w9 ⟨rfl, rfl⟩
            go_wp2
            go_roundw
            case rel => exact ⟨k + 1, by omega, by go_num, (h8.alloc _).alloc _, (hB8.alloc hB8.size _).alloc (by have := hB8.size; simp; omega) _⟩
            case measure => simp [intOf]; omega
        · have hnil : ps.drop k = [] := List.drop_of_length_le (by have := HN.out; omega)
          rw [hnil] at hr
          go_wp2_with fail
          refine (rdone_any g7 _ _ hr).mono ?_
          rintro e w8 ⟨rfl, rfl⟩
          rw [show doneR (some (catAll pb [])) = 0 from rfl]
          go_wp2
          go_ret
          exact ⟨rfl, hb⟩

theorem lays_any (A : Option Addr) (n c : Nat) (ps : List Part) (w : World) (hl : Rd w (fun _ => False) 3 A n (ps.flatMap pcells)) (hn : ps.length = n) (hm : n ≤ 9223372036854775807) (hok : ∀ p ∈ ps, p.ok) :
    Calls Try.prog 9 #[.slice A n c] w (Gives w (.bool true)) := by
  cases hf : fewP ps
  · go_enter Try.func9, Try.ntmps9
    go_wp2_with (go_at_call 10; refine (head_any _).mono ?_; rintro e w1 ⟨rfl, hb1⟩)
    refine (few_any A n c ps w1 ((hl.old.below hb1).weak (fun _ _ h => h.elim)) hn hm).mono ?_
    rintro e w2 ⟨rfl, hb2⟩
    rw [hf]
    go_wp2
    go_ret
    exact ⟨rfl, hb1.trans (hb2.mono hb1.size)⟩
  · have h2 := hf
    unfold fewP at h2
    rw [Bool.and_eq_true, List.all_eq_true] at h2
    exact lays_main A n c ps w hl hn (by have := h2.2; simp at this; omega) hok (fun p hp => by have := h2.1 p hp; simpa using this) hf

end Go.Proofs.Ytcmdgaoddpkeoaa
