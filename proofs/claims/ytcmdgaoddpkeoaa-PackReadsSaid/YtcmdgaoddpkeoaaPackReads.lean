/- PackReads, walked: it returns true for every input. -/
import Derived.Test.YtcmdgaoddpkeoaaPartRead
namespace Go.Proofs.Ytcmdgaoddpkeoaa
open Go.RowKit

theorem textR_inv {m : Nat} {l t r : List UInt8} (h : textR m (some l) = (t, some r)) : l = tx t ++ r ∧ t.length ≤ m := by
  unfold textR at h
  rcases numR_cases m (some l) with h' | ⟨l', x, r', e, h1, h2⟩
  · rw [h'] at h; cases h
  · cases e
    rw [h2] at h
    simp only at h
    obtain ⟨rfl, hx⟩ := rdNum_inv h1
    by_cases hl : r'.length < x
    · rw [if_pos hl] at h; cases h
    · rw [if_neg hl] at h
      simp only [Prod.mk.injEq, Option.some.injEq] at h
      obtain ⟨rfl, rfl⟩ := h
      have e : (List.take x r').length = x := by simp; omega
      refine ⟨?_, by omega⟩
      unfold tx
      rw [e, List.append_assoc, List.take_append_drop]

theorem zz_unzz (a b : Nat) (ha : a ≤ 4294967295) (hb : b ≤ 4294967295) : zz (unzz a b) = a * 4294967296 + b ∧ -9223372036854775808 ≤ unzz a b ∧ unzz a b ≤ 9223372036854775807 := by
  unfold zz unzz
  split <;> split <;> omega

theorem intR_inv {l r : List UInt8} {n : Int} (h : intR (some l) = (n, some r)) : l = zi n ++ r ∧ -9223372036854775808 ≤ n ∧ n ≤ 9223372036854775807 := by
  unfold intR at h
  rcases numR_cases 4294967295 (some l) with h' | ⟨l', a, r', e, h1, h2⟩
  · rw [h'] at h; cases h
  · cases e
    rw [h2] at h
    obtain ⟨rfl, ha⟩ := rdNum_inv h1
    simp only at h
    rcases numR_cases 4294967295 (some r') with h' | ⟨l', b, r2, e, h3, h4⟩
    · rw [h'] at h; cases h
    · cases e
      rw [h4] at h
      obtain ⟨rfl, hb⟩ := rdNum_inv h3
      simp only [Prod.mk.injEq, Option.some.injEq] at h
      obtain ⟨rfl, rfl⟩ := h
      obtain ⟨e1, e2, e3⟩ := zz_unzz a b ha hb
      refine ⟨?_, e2, e3⟩
      unfold zi
      rw [e1, show (a * 4294967296 + b) / 4294967296 = a by omega, show (a * 4294967296 + b) % 4294967296 = b by omega, List.append_assoc]

/-- Where there was no error what was read stands there, in its one form. -/
theorem readP_inv {k n : Int} {t l r : List UInt8} (h : readP k (some l) = ((n, t), some r)) : l = pb ⟨k % 4, n, t⟩ ++ r ∧ (Part.mk (k % 4) n t).ok := by
  unfold readP at h
  unfold pb
  simp only [Int.emod_emod]
  have hk : k % 4 = 0 ∨ k % 4 = 1 ∨ k % 4 = 2 ∨ k % 4 = 3 := by omega
  rcases hk with hk | hk | hk | hk
  · rw [if_pos hk] at h ⊢
    rcases numR_cases 9223372036854775807 (some l) with h' | ⟨l', x, r', e, h1, h2⟩
    · rw [h'] at h; cases h
    · cases e
      rw [h2] at h
      obtain ⟨rfl, hx⟩ := rdNum_inv h1
      simp only [Prod.mk.injEq, Option.some.injEq] at h
      obtain ⟨⟨rfl, rfl⟩, rfl⟩ := h
      exact ⟨by simp, by simp [Part.ok]; omega⟩
  · rw [if_neg (by omega), if_pos hk] at h ⊢
    have h0 : textR 1000 (some l) = (t, some r) := by
      simp only [Prod.mk.injEq] at h
      exact Prod.ext h.1.2 h.2
    simp only [Prod.mk.injEq] at h
    obtain ⟨e1, e2⟩ := textR_inv h0
    refine ⟨e1, ?_⟩
    have hn := h.1.1
    subst hn
    simp [Part.ok]
    omega
  · rw [if_neg (by omega), if_neg (by omega), if_pos hk] at h ⊢
    unfold flagR at h
    rcases numR_cases 1 (some l) with h' | ⟨l', x, r', e, h1, h2⟩
    · rw [h'] at h; cases h
    · cases e
      rw [h2] at h
      obtain ⟨rfl, hx⟩ := rdNum_inv h1
      simp only [Prod.mk.injEq, Option.some.injEq] at h
      obtain ⟨⟨rfl, rfl⟩, rfl⟩ := h
      have hx2 : x = 0 ∨ x = 1 := by omega
      rcases hx2 with rfl | rfl
      · exact ⟨by simp, by simp [Part.ok]; omega⟩
      · exact ⟨by simp, by simp [Part.ok]; omega⟩
  · rw [if_neg (by omega), if_neg (by omega), if_neg (by omega)] at h ⊢
    have h0 : intR (some l) = (n, some r) := by
      simp only [Prod.mk.injEq] at h
      exact Prod.ext h.1.1 h.2
    simp only [Prod.mk.injEq] at h
    obtain ⟨e1, e2, e3⟩ := intR_inv h0
    refine ⟨e1, ?_⟩
    have ht := h.1.2
    subst ht
    simp [Part.ok]
    omega

theorem Rd.part (w : World) (r : Nat) (hr : r = w.heap.size) (k n : Int) (s : List UInt8) :
    Rd (w.alloc (.cells #[.int .i64 k, .int .i64 n, S s] 49)) (fun _ => False) 3 (some ⟨r, 0, none⟩) 1 ([Part.mk k n s].flatMap pcells) := by
  subst hr
  exact ⟨rfl, fun _ => ⟨w.heap.size, 0, rfl, fun h => h, by simp, fun j x hx => by
    match j, hx with
    | 0, hx => simp [pcells] at hx; subst hx; simp
    | 1, hx => simp [pcells] at hx; subst hx; simp
    | 2, hx => simp [pcells] at hx; subst hx; simp⟩⟩

set_option maxRecDepth 100000 in
set_option maxHeartbeats 2000000 in
theorem reads_main (s : List UInt8) (A : Option Addr) (n c : Nat) (l : List Int) (w : World) (hl : Rd w (fun _ => False) 1 A n (l.map (Value.int .i64))) (hs : s.length ≤ 100) (hn : n ≤ 20) :
    Calls Try.prog 8 #[S s, .slice A n c] w (Gives w (.bool true)) := by
  have hd1 : decide (100 < (s.length : Int)) = false := by simp; omega
  have hd2 : decide (20 < (n : Int)) = false := by simp; omega
  have ha1 := hl.old
  have hnl : l.length = n := by have := hl.1; simpa using this
  have HN := hide hnl
  clear hl hnl
  go_enter Try.func8, Try.ntmps8
  go_wp2_with (go_at_call 10; refine (head_any _).mono ?_; rintro e w1 ⟨rfl, hb1⟩)
  refine (pread_any s _).mono ?_
  rintro e w2 ⟨rfl, rfl⟩
  have hR := Rl.new w1 s (by omega)
  have hB := hb1.alloc hb1.size (.cells #[S s, .bool false] 58)
  have hg := hb1.size
  clear hb1
  generalize w1.alloc (.cells #[S s, .bool false] 58) = w2 at *
  generalize w1.heap.size = g at *
  go_wp2_with fail
  go_loopw [6, 25] (fun a i wr => ∃ k m : Nat, k ≤ n ∧ i = .int .i64 k ∧ m ≤ s.length ∧ a = .int .i64 m ∧ Rl wr g (some (s.drop m)) ∧ Below w.heap.size w wr) (fun _ i _ => n - (intOf i).toNat)
  case atStart => exact ⟨0, 0, Nat.zero_le _, rfl, Nat.zero_le _, rfl, hR, hB⟩
  case round =>
    obtain ⟨k, m, hk, rfl, hm, rfl, hr, hb⟩ := hrel
    by_cases hlt : k < n
    · obtain ⟨x, o, u, rfl, hu, hc⟩ := (ha1.below hb).at_ k hlt
      have hlk : k < l.length := by have := HN.out; omega
      obtain rfl : Value.int .i64 l[k] = u := by simpa [hlk] using hu
      clear hu
      generalize l[k] = z at *
      go_wp2_with fail
      refine (read_any g _ z 0 [] wr hr).mono ?_
      rintro e w3 ⟨rfl, h3, k3⟩
      have hb3 := hb.trans (k3.below (B := w.heap.size) hb.size (fun k hk => by omega))
      have HI := hide (fun n t r h => readP_inv (k := z) (l := s.drop m) (n := n) (t := t) (r := r) h)
      obtain ⟨RR, hRR⟩ : ∃ RR, RR = readP z (some (s.drop m)) := ⟨_, rfl⟩
      rw [← hRR] at h3 HI
      rw [← hRR]
      clear hRR k3 hr
      obtain ⟨⟨zn, zt⟩, zs⟩ := RR
      simp only at h3
      simp only
      cases zs with
      | none =>
        have hA3 := h3.alloc (.cells #[.int .i64 (z % 4), .int .i64 zn, S zt] 49)
        have hB3 := hb3.alloc hb3.size (.cells #[.int .i64 (z % 4), .int .i64 zn, S zt] 49)
        clear h3 hb3 hb
        go_wp2_with fail
        refine (rok_any g none _ hA3).mono ?_
        rintro e w4 ⟨rfl, rfl⟩
        generalize w3.alloc (.cells #[.int .i64 (z % 4), .int .i64 zn, S zt] 49) = w4 at *
        clear HI
        go_wp2_with fail
        refine (rdone_any g none _ hA3).mono ?_
        rintro e w5 ⟨rfl, rfl⟩
        rw [show doneR none = 2 from rfl]
        go_wp2_with fail
        refine (rnum_any g 9 none _ hA3 (by omega)).mono ?_
        rintro e w5 ⟨rfl, h5, k5⟩
        rw [show numR (9 : Int).toNat none = (0, none) from rfl] at h5
        rw [show numR (9 : Int).toNat none = (0, none) from rfl]
        have hb5 := hB3.trans (k5.below (B := w.heap.size) hB3.size (fun k hk => by omega))
        go_wp2_with fail
        refine (rtext_any g 9 none _ h5 (by omega)).mono ?_
        rintro e w6 ⟨rfl, h6, k6⟩
        rw [show textR (9 : Int).toNat none = ([], none) from rfl] at h6
        rw [show textR (9 : Int).toNat none = ([], none) from rfl]
        have hb6 := hb5.trans (k6.below (B := w.heap.size) hb5.size (fun k hk => by omega))
        go_wp2_with fail
        refine (rflag_any g none _ h6).mono ?_
        rintro e w7 ⟨rfl, h7, k7⟩
        rw [show flagR none = (false, none) from rfl] at h7
        rw [show flagR none = (false, none) from rfl]
        have hb7 := hb6.trans (k7.below (B := w.heap.size) hb6.size (fun k hk => by omega))
        go_wp2_with fail
        refine (rint_any g none _ h7).mono ?_
        rintro e w8 ⟨rfl, h8, k8⟩
        rw [show intR none = (0, none) from rfl] at h8
        rw [show intR none = (0, none) from rfl]
        have hb8 := hb7.trans (k8.below (B := w.heap.size) hb7.size (fun k hk => by omega))
        go_wp2_with fail
        refine (rmany_any g 5 none _ h8 (by omega)).mono ?_
        rintro e w9 ⟨rfl, h9, k9⟩
        rw [show manyR (5 : Int).toNat none = (0, none) from rfl]
        have hb9 := hb8.trans (k9.below (B := w.heap.size) hb8.size (fun k hk => by omega))
        clear k5 k6 k7 k8 k9
        go_wp2
        go_ret
        exact ⟨rfl, hb9⟩
      | some r =>
        have hA3 := h3.alloc (.cells #[.int .i64 (z % 4), .int .i64 zn, S zt] 49)
        have hB3 := hb3.alloc hb3.size (.cells #[.int .i64 (z % 4), .int .i64 zn, S zt] 49)
        obtain ⟨hd, hok⟩ := HI.out zn zt r rfl
        clear h3 hb3 hb HI
        have hcl : catAll pb [Part.mk (z % 4) zn zt] = pb ⟨z % 4, zn, zt⟩ := by simp [catAll]
        obtain ⟨X, hX⟩ : ∃ X, X = pb ⟨z % 4, zn, zt⟩ := ⟨_, rfl⟩
        rw [← hX] at hd hcl
        have hXl : m + X.length + r.length = s.length := by
          have := congrArg List.length hd
          rw [List.length_drop, List.length_append] at this
          omega
        have hXm : m + X.length ≤ s.length := by omega
        have ht : List.take X.length (List.drop m s) = X := by rw [hd, List.take_left]
        have HD : Hid (s.drop (m + X.length) = r) := by
          unfold Hid
          rw [← List.drop_drop, hd, List.drop_left]
        have HL := hide (lay_any (some ⟨w3.heap.size + 1, 0, none⟩) 1 1 [Part.mk (z % 4) zn zt] _ (Rd.part (w3.alloc (.cells #[.int .i64 (z % 4), .int .i64 zn, S zt] 49)) (w3.heap.size + 1) (by simp) (z % 4) zn zt) rfl (by omega) (by intro p hp; simp at hp; subst hp; exact hok) (by rw [hcl]; omega))
        rw [hcl] at HL
        have HT := hide ht
        have HXl := hide hXl
        clear hd hcl hX hok ht hXl
        go_wp2_with fail
        refine (rok_any g (some r) _ hA3).mono ?_
        rintro e w4 ⟨rfl, rfl⟩
        go_wp2_with fail
        refine (unhide HL).mono ?_
        rintro e w5 ⟨rfl, hb5⟩
        have hR5 := (hA3.alloc (.cells #[.int .i64 (z % 4), .int .i64 zn, S zt] 49)).keep (Keep.of_below (F := fun k => w3.heap.size + 2 ≤ k) hb5 (fun k _ h => by simpa using h)) (by have := hA3.lt; simp at this; omega)
        have hB5 := (hB3.alloc hB3.size (.cells #[.int .i64 (z % 4), .int .i64 zn, S zt] 49)).trans (hb5.mono (by have := hB3.size; simp at this; simp; omega))
        clear hb5 HL hA3 hB3
        have ht := HT.out
        have htt : (X != X) = false := by simp
        have hsub : (s.length : Int) - (m : Int) < (X.length : Int) ↔ False := by
          simp only [iff_false]
          omega
        go_wp2
        go_roundw
        case rel => exact ⟨k + 1, m + X.length, by omega, by go_num, hXm, by go_num, by rw [HD.out]; exact hR5, hB5⟩
        case measure => simp [intOf]; omega
    · go_wp2_with fail
      refine (rdone_any g _ _ hr).mono ?_
      rintro e w3 ⟨rfl, rfl⟩
      by_cases hme : m < s.length
      · have e1 : doneR (some (s.drop m)) = 2 := by
          unfold doneR
          rw [if_neg]
          intro h
          simp only [Option.some.injEq, List.drop_eq_nil_iff] at h
          omega
        rw [e1]
        have e2 : ((m : Int) == (s.length : Int)) = false := by simp; omega
        go_wp2
        go_ret
        exact ⟨rfl, hb⟩
      · have e1 : doneR (some (s.drop m)) = 0 := by
          unfold doneR
          rw [if_pos]
          simp only [Option.some.injEq, List.drop_eq_nil_iff]
          omega
        rw [e1]
        have e2 : ((m : Int) == (s.length : Int)) = true := by simp; omega
        go_wp2
        go_ret
        exact ⟨rfl, hb⟩

theorem reads_any (s : List UInt8) (A : Option Addr) (n c : Nat) (l : List Int) (w : World) (hl : Rd w (fun _ => False) 1 A n (l.map (Value.int .i64))) :
    Calls Try.prog 8 #[S s, .slice A n c] w (Gives w (.bool true)) := by
  by_cases h : s.length ≤ 100 ∧ n ≤ 20
  · exact reads_main s A n c l w hl h.1 h.2
  · have ht : decide (100 < (s.length : Int)) = true ∨ decide (100 < (s.length : Int)) = false ∧ decide (20 < (n : Int)) = true := by
      simp only [decide_eq_true_eq, decide_eq_false_iff_not]
      omega
    clear hl h
    rcases ht with h1 | ⟨h1, h2⟩
    all_goals
      go_enter Try.func8, Try.ntmps8
      go_wp2_with (go_at_call 10; refine (head_any _).mono ?_; rintro e w1 ⟨rfl, hb1⟩)
      go_ret
      exact ⟨rfl, hb1⟩

end Go.Proofs.Ytcmdgaoddpkeoaa
