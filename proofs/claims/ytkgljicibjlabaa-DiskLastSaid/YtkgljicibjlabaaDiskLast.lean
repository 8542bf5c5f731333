/- DiskLast, walked: it returns true for every input. -/
import Derived.Test.YtkgljicibjlabaaDiskHead
namespace Go.Proofs.Ytkgljicibjlabaa
open Go.RowKit Go.Maps

/-- The texts written to one file. -/
def wrs (xs : List (List UInt8)) : List Ch := xs.map fun t => ⟨0, [102], t⟩
/-- What the file has, of the writes that were kept. -/
def lastF (ks : List Bool) (xs : List (List UInt8)) : Option (List UInt8) := ((kept ks (wrs xs)).foldl chDo F0) [102]

theorem wrs_take (xs : List (List UInt8)) {k : Nat} (hk : k < xs.length) : wrs (xs.take (k + 1)) = wrs (xs.take k) ++ [⟨0, [102], xs[k]⟩] := by
  unfold wrs
  rw [takeS hk, List.map_append]
  rfl
theorem lastF_succ (ks : List Bool) (xs : List (List UInt8)) {k : Nat} (hk : k < xs.length) : lastF ks (xs.take (k + 1)) = if ks.getD k false then some xs[k] else lastF ks (xs.take k) := by
  have h := kept_succ ks (wrs xs) (k := k) (by simp [wrs]; exact hk)
  have e : ∀ j, (wrs xs).take j = wrs (xs.take j) := fun j => by simp [wrs, List.map_take]
  rw [e, e] at h
  have e2 : (wrs xs)[k]'(by simp [wrs]; exact hk) = ⟨0, [102], xs[k]⟩ := by simp [wrs]
  rw [e2] at h
  unfold lastF
  rw [h, List.foldl_append]
  cases ks.getD k false <;> simp [chDo, Fl.set]
theorem wrs_tot (xs : List (List UInt8)) (h : ∀ x ∈ xs, x.length ≤ 100) : ∃ tot, Tot ((wrs xs).foldl chDo F0) tot ∧ tot ≤ xs.length * 100 := by
  have : ∀ (xs : List (List UInt8)) (F : Fl) (t : Nat), (∀ x ∈ xs, x.length ≤ 100) → Tot F t → ∃ tot, Tot ((wrs xs).foldl chDo F) tot ∧ tot ≤ t + xs.length * 100 := by
    intro xs
    induction xs with
    | nil => intro F t _ h; exact ⟨t, h, by simp⟩
    | cons x xs ih =>
      intro F t hx h
      obtain ⟨m, h1, h2⟩ := h.set [102] x
      have := hx x (by simp)
      obtain ⟨tot, h3, h4⟩ := ih (F.set [102] x) m (fun y hy => hx y (by simp [hy])) h1
      exact ⟨tot, by simpa [wrs, chDo] using h3, by simp only [List.length_cons]; omega⟩
  obtain ⟨tot, h1, h2⟩ := this xs F0 0 h Tot.none
  exact ⟨tot, h1, by omega⟩

set_option maxRecDepth 100000 in
set_option maxHeartbeats 4000000 in
theorem last_law (A : Option Addr) (n c : Nat) (xs : List (List UInt8)) (KA : Option Addr) (kn kc : Nat) (ks : List Bool) (w : World)
    (hx : Rd w (fun k => w.heap.size ≤ k) 1 A n (xs.map S)) (hks : Rd w (fun k => w.heap.size ≤ k) 1 KA kn (ks.map .bool)) :
    Calls Try.prog 3 #[.slice A n c, .slice KA kn kc] w (Gives w (.bool true)) := by
  have hxl : xs.length = n := by simpa using hx.1
  have hkl : ks.length = kn := by simpa using hks.1
  have HX := hide hx
  have HKS := hide hks
  clear hx hks
  go_enter Try.func3, Try.ntmps3
  go_wp2_with fail
  refine (head_any w).mono ?_
  rintro e w1 ⟨rfl, hb1⟩
  by_cases hn : 30 < n
  · have d0 : decide (30 < (n : Int)) = true := by simp; omega
    go_wp2_with fail
    go_ret
    exact ⟨rfl, hb1⟩
  have d0 : decide (30 < (n : Int)) = false := by simp; omega
  by_cases hkn : 60 < kn
  · have d1 : decide (60 < (kn : Int)) = true := by simp; omega
    go_wp2_with fail
    go_ret
    exact ⟨rfl, hb1⟩
  have d1 : decide (60 < (kn : Int)) = false := by simp; omega
  go_wp2_with fail
  refine (new_dk 1048576 (by omega) w1).mono ?_
  rintro e w2 ⟨g, b, rfl, h2, hb2⟩
  have hB2 : Below w.heap.size w w2 := hb1.trans (hb2.mono hb1.size)
  have H2 : Hid (Dk w2 w.heap.size g b 0 0 0 none [] 1048576 (-1) false F0) := hide ⟨h2.blk, h2.txt, by simpa using World.ownsRow_nil w2 w.heap.size 71 3, h2.ok, Nat.le_trans hb1.size h2.bB, Nat.le_trans hb1.size h2.gB⟩
  clear h2 hb2 d0 d1
  go_wp2_with fail
  go_loopw [6, 7, 25] (fun v6 v7 i wr => ∃ k q A', k ≤ n ∧ i = .int .i64 k ∧ v6 = S ((lastF ks (xs.take k)).getD []) ∧ v7 = .bool (lastF ks (xs.take k)).isSome ∧ (∀ x ∈ xs.take k, x.length ≤ 100) ∧
      Dk wr w.heap.size g b 0 k q A' (wrs (xs.take k)) 1048576 (-1) false F0 ∧ Below w.heap.size w wr) (fun _ _ i _ => n - (intOf i).toNat)
  case atStart => exact ⟨0, 0, none, Nat.zero_le _, rfl, rfl, rfl, by simp, H2.out, hB2⟩
  case round =>
    obtain ⟨k, q, A', hkn', rfl, rfl, rfl, hle, hd, hBr⟩ := hrel
    have HD := hide hd
    have HLE := hide hle
    clear hd hle H2
    by_cases hlt : k < n
    · have hlk : k < xs.length := by omega
      obtain ⟨x, o, u, rfl, hu, hcu⟩ := (HX.out.below hBr).at_ k hlt
      obtain rfl : S xs[k] = u := by simpa [hlk] using hu
      have HS := hide (lastF_succ ks xs hlk)
      have HW := hide (wrs_take xs hlk)
      have HT := hide (takeS hlk)
      obtain ⟨t, ht⟩ : ∃ t, t = xs[k] := ⟨_, rfl⟩
      rw [← ht] at hcu HS HW HT
      clear ht hu
      by_cases ht : 100 < t.length
      · have d2 : decide (100 < (t.length : Int)) = true := by simp; omega
        go_wp2_with fail
        go_ret
        exact ⟨rfl, hBr⟩
      have d2 : decide (100 < (t.length : Int)) = false := by simp; omega
      have HLE2 : Hid (∀ x ∈ xs.take (k + 1), x.length ≤ 100) := hide (by
        rw [HT.out]
        intro y hy
        rcases List.mem_append.1 hy with h' | h'
        · exact HLE.out y h'
        · rw [List.mem_singleton] at h'; subst h'; omega)
      go_wp2_with fail
      obtain ⟨tot, htot, htl⟩ := wrs_tot (xs.take k) HLE.out
      rw [List.length_take] at htl
      have HTO := hide htot
      have HTL := hide htl
      clear htot htl
      refine (write_ok w.heap.size g b 0 k q A' _ 1048576 (-1) F0 _ tot [102] t wr HD.out (by omega) (by omega) (by omega) (by omega) rfl HTO.out (by have := HTL.out; omega) (by omega) (by simp) (by simp) (by omega) (by have := HTL.out; omega)).mono ?_
      rintro e w3 ⟨rfl, ⟨q3, c3, h3⟩, hk3⟩
      have HB3 := hide (HD.out.frame hBr hk3)
      rw [← HW.out] at h3
      have H3 := hide h3
      clear h3 hk3 HTO HTL HD
      by_cases hkk : k < kn
      · obtain ⟨x2, o2, u2, rfl, hu2, hcu2⟩ := (HKS.out.below HB3.out).at_ k hkk
        have hlk2 : k < ks.length := by omega
        obtain rfl : Value.bool ks[k] = u2 := by simpa [hlk2] using hu2
        have hgd : ks.getD k false = ks[k] := by simp [hlk2]
        obtain ⟨B, hB⟩ : ∃ B, B = ks[k] := ⟨_, rfl⟩
        rw [hgd, ← hB] at HS
        rw [← hB] at hcu2
        clear hu2 hgd hB
        cases B
        case false =>
          have hS := HS.out
          rw [if_neg (by simp)] at hS
          have HS2 := hide hS
          clear hS
          go_wp2_with fail
          go_roundw
          case rel => exact ⟨k + 1, c3, _, by omega, by go_num, by rw [HS2.out], by rw [HS2.out], HLE2.out, H3.out, HB3.out⟩
          case measure => simp [intOf]; omega
        case true =>
          have hS := HS.out
          rw [if_pos rfl] at hS
          have HS2 := hide hS
          clear hS
          go_wp2_with fail
          go_roundw
          case rel => exact ⟨k + 1, c3, _, by omega, by go_num, by rw [HS2.out]; rfl, by rw [HS2.out]; rfl, HLE2.out, H3.out, HB3.out⟩
          case measure => simp [intOf]; omega
      · have hS := HS.out
        rw [show ks.getD k false = false by simp [List.getD_eq_getElem?_getD, List.getElem?_eq_none (show ks.length ≤ k by omega)], if_neg (by simp)] at hS
        have HS2 := hide hS
        clear hS
        go_wp2_with fail
        go_roundw
        case rel => exact ⟨k + 1, c3, _, by omega, by go_num, by rw [HS2.out], by rw [HS2.out], HLE2.out, H3.out, HB3.out⟩
        case measure => simp [intOf]; omega
    · obtain rfl : k = n := by omega
      have hta : xs.take k = xs := List.take_of_length_le (by omega)
      rw [hta] at HD
      rw [hta]
      obtain ⟨L, hL⟩ : ∃ L, L = lastF ks xs := ⟨_, rfl⟩
      rw [← hL]
      have HL := hide hL
      clear hL hta HLE
      go_wp2_with fail
      refine (crash_dk w.heap.size g b 0 k q kn kc A' KA (wrs xs) ks 1048576 (-1) false F0 _ wr HD.out (by omega) (by omega) (by omega) rfl ((HKS.out.below hBr).weak (fun k hk => by have := hBr.size; omega)) hkl).mono ?_
      rintro e w4 ⟨g4, b4, rfl, h4, hb4⟩
      have HB4 := hide (hBr.trans (hb4.mono hBr.size))
      have H4 := hide h4
      clear h4 hb4
      go_wp2_with fail
      refine (read_dk wr.heap.size g4 b4 (0 + k) 0 0 none [] 1048576 (-1) _ _ [102] (by simp [short]) w4 H4.out (by omega) (by omega) rfl).mono ?_
      rintro e w5 ⟨rfl, hb5⟩
      have HB5 := hide (HB4.out.trans (hb5.mono HB4.out.size))
      rw [show ((List.foldl chDo (List.foldl chDo F0 (kept ks (wrs xs))) []) [102]) = L from HL.out.symm]
      clear hb5 HL
      cases L with
      | none =>
        go_wp2_with fail
        go_ret
        exact ⟨rfl, HB5.out⟩
      | some o =>
        go_wp2_with fail
        go_ret
        exact ⟨rfl, HB5.out⟩
end Go.Proofs.Ytkgljicibjlabaa
