/- HierChecks, walked: it returns true for every input. -/
import Derived.Test.YtmhnfilingebfaaHierCheckP
import Derived.Test.YtmhnfilingebfaaHierHead
import Derived.Deep.RegionHeld3
namespace Go.Proofs.Ytmhnfilingebfaa
open Go.RowKit

set_option maxRecDepth 100000 in
set_option maxHeartbeats 8000000 in
theorem checks_law (A : Option Addr) (n c : Nat) (T : List Fc) (x : List UInt8) (w : World) (h : FcsAt w (fun k => w.heap.size ≤ k) A n T) (hx : short x) :
    Calls Try.prog 7 #[.slice A n c, S x] w (Gives w (.bool true)) := by
  have HF := hide h
  clear h
  go_enter Try.func7, Try.ntmps7
  go_wp2_with fail
  refine (head_any w).mono ?_
  rintro e w1 ⟨rfl, hb1⟩
  go_wp2_with fail
  refine (fewlist_any A n c T w1 ((HF.out.below hb1).weak (fun k hk => by have := hb1.size; omega))).mono ?_
  rintro e w2 ⟨R, rfl, hb2, hR⟩
  have HR := hide hR
  have hB2 := hb1.trans (hb2.mono hb1.size)
  clear hR hb1 hb2
  cases R with
  | false =>
    go_wp2_with fail
    go_ret
    exact ⟨rfl, hB2⟩
  | true =>
    have hR8 := HR.out rfl
    clear HR
    obtain ⟨hn8, hfew⟩ := hR8
    have HFEW := hide hfew
    have hTl : T.length ≤ 8 := by have := HF.out.2.1; omega
    have hsu : ∀ f ∈ T, short f.su := fun f hf => (HF.out.2.2.2 f hf).2.2.2
    have hnn : ∀ f ∈ T, short f.n := fun f hf => (HF.out.2.2.2 f hf).2.2.1
    have HS := hide hsu
    have HNN := hide hnn
    clear hsu hnn hfew
    by_cases g1 : 60 < (x.length : Int)
    · have d : decide (60 < (x.length : Int)) = true := by simpa using g1
      go_wp2_with fail
      go_ret
      exact ⟨rfl, hB2⟩
    have d1 : decide (60 < (x.length : Int)) = false := by simpa using g1
    go_wp2_with fail
    clear d1 g1
    refine (new_any A n c T w2 ((HF.out.below hB2).weak (fun k hk => by have := hB2.size; omega)) (by omega)).mono ?_
    rintro e w3 ⟨g, m, s, rfl, ht, hb3, hg, hm, hs⟩
    have hB3 := hB2.trans (hb3.mono hB2.size)
    have hsw := hB2.size
    have hchk : ∀ (y : List UInt8) (ww : World) (nn : Nat), short y → Tab ww g m s T nn → nn ≤ 700000 → Below w.heap.size w ww → Calls Try.prog 29 #[.pointer (some ⟨g, 0, none⟩), S y] ww (fun e w' => e = .returned (.int .i64 (chk T y)) ∧ Tab w' g m s T (nn + 3000) ∧ Keep (fun b => b = s) ww w') := fun y ww nn h1 h2 h3 h4 =>
      check_any g m s nn w.heap.size T y ww h2 h3 hTl HS.out h1 (fun f hf => (HF.out.2.2.2 f hf).below h4) (by omega) h4.size HFEW.out
    have hpag : ∀ (y : List UInt8) (ww : World), short y → Below w.heap.size w ww → Calls Try.prog 30 #[.slice A n c, S y] ww (Gives ww (.int .i64 (chk T y))) := fun y ww h1 h4 =>
      pcheck_any A n c T y ww ((HF.out.below h4).weak (fun k hk => by have := h4.size; omega)) hTl h1
    have HCHK := hide hchk
    have HPAG := hide hpag
    have hsB : w.heap.size ≤ s := by omega
    clear hchk hpag hb3 hB2 hg hm hs hsw
    go_wp2_with fail
    go_loopw [22] (fun i wr => ∃ k : Nat, k ≤ n ∧ i = .int .i64 k ∧ Tab wr g m s T (3000 * k) ∧ Below w.heap.size w wr) (fun i _ => n - (intOf i).toNat)
    case atStart => exact ⟨0, Nat.zero_le _, rfl, ht.mono (by omega), hB3⟩
    case round =>
      obtain ⟨k, hk, rfl, htr, hBr⟩ := hrel
      have HTR := hide htr
      clear htr
      by_cases hlt : k < n
      · obtain ⟨b, o, rfl, _, _, hcell⟩ := Rd.rec_ (size := 4) (fun _ => rfl) (HF.out.1.below hBr) HF.out.2.1 k hlt
        have hlk : k < T.length := by have := HF.out.2.1; omega
        have hfn := HNN.out _ (List.getElem_mem hlk)
        obtain ⟨f, hf⟩ : ∃ f, f = T[k] := ⟨_, rfl⟩
        rw [← hf] at hcell hfn
        clear hf
        have q0 : wr.cell? ⟨b, o + k * 4, none⟩ = some (S f.n) := hcell 0 _ rfl
        have q1 : wr.cell? ⟨b, o + k * 4 + 1, none⟩ = some (S f.su) := hcell 1 _ rfl
        have q2 : wr.cell? ⟨b, o + k * 4 + 2, none⟩ = some (.slice f.fA f.fl f.fc) := hcell 2 _ rfl
        have q3 : wr.cell? ⟨b, o + k * 4 + 3, none⟩ = some (.slice f.mA f.ml f.mc) := hcell 3 _ rfl
        clear hcell
        obtain ⟨w4, hw4⟩ : ∃ w4, w4 = wr.alloc (.cells f.arr 38) := ⟨_, rfl⟩
        have ht4 : Tab w4 g m s T (3000 * k) := by rw [hw4]; exact HTR.out.alloc _
        have hB4 : Below w.heap.size w w4 := by rw [hw4]; exact hBr.alloc hBr.size _
        have kf : Blk w4 wr.heap.size 38 f.arr := by rw [hw4]; exact Blk.new _ _ _
        have hsl := HTR.out.slt
        have HT4 := hide ht4
        go_wp2_with fail
        rw [← hw4]
        clear hw4 q0 q1 q2 q3 ht4
        obtain ⟨E, hE⟩ : ∃ E, E = chk T f.n := ⟨_, rfl⟩
        have hc1 : ∀ ww nn, Iv w ww g m s T nn → nn ≤ 700000 → Calls Try.prog 29 #[.pointer (some ⟨g, 0, none⟩), S f.n] ww (fun e w' => e = .returned (.int .i64 E) ∧ Iv w w' g m s T (nn + 3000) ∧ Keep (fun b => b = s) ww w') := fun ww nn h2 h3 => by
          rw [hE]
          exact (HCHK.out f.n ww nn hfn h2.tab h3 h2.bel).mono fun _ _ ⟨a1, a2, a3⟩ => ⟨a1, ⟨a2, h2.bel.trans (a3.below h2.bel.size (fun k hk => by omega))⟩, a3⟩
        have hp1 : ∀ ww nn, Iv w ww g m s T nn → Calls Try.prog 30 #[.slice (some ⟨b, o, none⟩) n c, S f.n] ww (fun e w' => e = .returned (.int .i64 E) ∧ Iv w w' g m s T nn ∧ Keep (fun b => b = s) ww w') := fun ww nn h2 => by
          rw [hE]
          exact (HPAG.out f.n ww hfn h2.bel).mono fun _ _ ⟨a1, a2⟩ => ⟨a1, ⟨h2.tab.below a2, h2.bel.trans (a2.mono h2.bel.size)⟩, keep_s2 a2⟩
        have i4 : Iv w w4.drew g m s T (3000 * k) := Iv.drew ⟨HT4.out, hB4⟩
        have hS : w4.cell? ⟨wr.heap.size, 0, none⟩ = some (S f.n) := kf.cell 0
        have hkp : ∀ (u v : World), Keep (fun b => b = s) u v → u.cell? ⟨wr.heap.size, 0, none⟩ = some (S f.n) → v.cell? ⟨wr.heap.size, 0, none⟩ = some (S f.n) := fun u v h1 h2 => (h1.cell (p := ⟨wr.heap.size, 0, none⟩) (World.block_lt_of_cell? _ _ h2) (by simp; omega)).trans h2
        have HC1 := hide hc1
        have HP1 := hide hp1
        have HKP := hide hkp
        clear hc1 hp1 hE HT4 kf hkp
        first | (go_region_held3 (fun w' => w'.cell? ⟨wr.heap.size, 0, none⟩ = some (S f.n))
          (first | exact hS | assumption | exact HKP.out _ _ k5 (by assumption) | exact HKP.out _ _ k6 (by assumption) | fail)
          (first
            | (go_at_call 29; (with_reducible refine (HC1.out _ _ i4 ?_).mono ?_); omega; rintro e w5 ⟨rfl, i5, k5⟩)
            | (go_at_call 30; (with_reducible refine (HP1.out _ _ i5).mono ?_); rintro e w6 ⟨rfl, i6, k6⟩)
            | fail)) | fail
        have I6 := hide i6
        clear i4 i5 i6 k5 k6 hS HC1 HP1 HKP
        go_wp2_with fail
        go_roundw
        case rel => exact ⟨k + 1, by omega, by go_num, I6.out.tab.mono (by omega), I6.out.bel⟩
        case measure => simp [intOf]; omega
      · have HC1 := hide (fun ww nn h2 h3 h4 => HCHK.out x ww nn hx h2 h3 h4)
        have HP1 := hide (fun ww h4 => HPAG.out x ww hx h4)
        go_wp2_with fail
        refine (HC1.out wr _ HTR.out (by omega) hBr).mono ?_
        rintro e w4 ⟨rfl, ht4, hk4⟩
        have hB4 := hBr.trans (hk4.below (B := w.heap.size) hBr.size (fun k hk => by omega))
        clear ht4 hk4
        go_wp2_with fail
        refine (HP1.out w4 hB4).mono ?_
        rintro e w5 ⟨rfl, hb5⟩
        have hB5 := hB4.trans (hb5.mono hB4.size)
        go_wp2_with fail
        go_ret
        exact ⟨by simp, hB5⟩
end Go.Proofs.Ytmhnfilingebfaa
