/- ClassMany returns true for every input: the walk. The condition: the listed package-level variable holds what the program's text lays. -/
import Derived.Test.YtkldfbacagnhoaaDoorClsArc
import Derived.Test.YtkldfbacagnhoaaDoorClsHead
namespace Go.Proofs.YtkldfbacagnhoaaDoor
open Go.RowKit

theorem i64_mask255 (n : Int) : ∃ N : Nat, N ≤ 255 ∧ bits .and .i64 n 255 = (N : Int) := by
  refine ⟨(BitVec.ofInt 64 n &&& 255).toNat, ?_, ?_⟩
  · rw [BitVec.toNat_and]
    exact Nat.le_trans Nat.and_le_right (by decide)
  · show IntKind.i64.wrap ((BitVec.ofInt 64 n &&& BitVec.ofInt 64 255).toNat : Int) = _
    rw [show BitVec.ofInt 64 255 = 255 by decide]
    have h : (BitVec.ofInt 64 n &&& 255).toNat ≤ 255 := by
      rw [BitVec.toNat_and]
      exact Nat.le_trans Nat.and_le_right (by decide)
    rw [IntKind.wrap_i64]
    omega

/-- A class without members. -/
def zA : Fl := ⟨⟨[65], [], none, 0, 0, [], none, 0, 0, []⟩, none, 0, 0, [], none, 0, 0, [], none, 0, 0, [], none, 0, 0, [], none, 0, 0, [], none, 0, 0, []⟩
theorem Rd.none_ (w : World) (F : Nat → Prop) (size : Nat) : Rd w F size none 0 [] := ⟨by simp, fun h => absurd h (Nat.lt_irrefl 0)⟩
theorem zA_at (w : World) (F : Nat → Prop) : zA.at_ w F :=
  { fa := ⟨⟨Rd.none_ _ _ _, rfl, Nat.zero_le _, (fun _ h => by cases h)⟩, ⟨Rd.none_ _ _ _, rfl, Nat.zero_le _, (fun _ h => by cases h)⟩, by show 1 ≤ 9223372036854775807; omega, by show 0 ≤ 9223372036854775807; omega⟩
    po := { nr := Rd.none_ _ _ _, nL := rfl, nB := Nat.zero_le _, nW := (fun _ h => by cases h), cr := Rd.none_ _ _ _, cL := rfl, cB := Nat.zero_le _, cW := (fun _ h => by cases h), tr := Rd.none_ _ _ _, tL := rfl, tB := Nat.zero_le _, tW := (fun _ h => by cases h), dr := Rd.none_ _ _ _, dL := rfl, dB := Nat.zero_le _, dW := (fun _ h => by cases h), mr := Rd.none_ _ _ _, mL := rfl, mB := Nat.zero_le _, mW := (fun _ h => by cases h) }
    br := Rd.none_ _ _ _, bL := rfl, bB := Nat.zero_le _, bW := fun _ h => by cases h }
theorem zA_right : zA.pl.right = true := by decide +kernel
theorem zA_nok : zA.pl.nok := fun _ h => by cases h

set_option maxRecDepth 100000 in
set_option maxHeartbeats 4000000 in
theorem many_walk (x : Int) (w : World) (hm : Laid w) : Calls Tryd.prog 4 #[.int .i64 x] w (Gives w (.bool true)) := by
  have HLD := hide hm
  clear hm
  obtain ⟨n, hn, hx⟩ := i64_mask255 x
  have HH := hide (head_any w)
  go_enter Tryd.func4, Tryd.ntmps4
  go_upto_region 5 with (go_at_call 9; refine HH.out.mono ?_; rintro e w1 ⟨rfl, hb1⟩)
  clear hx HH
  refine name_world ?_
  intro wo hwo
  have HB : Hid (Below w.heap.size w wo) := hide (by rw [hwo]; exact hb1.alloc hb1.size _)
  have HE : Hid (Blk wo w1.heap.size 36 #[]) := hide (by rw [hwo]; exact Blk.new _ _ _)
  have HS : Hid (w.heap.size ≤ w1.heap.size) := hide hb1.size
  clear hwo hb1
  have HO : Hid (wo.ownsRow w.heap.size 36 10 (.slice (some ⟨w1.heap.size, 0, none⟩) 0 0) 0 []) := hide ⟨by simp, .inr ⟨w1.heap.size, 0, #[], rfl, HS.out, HE.out, Nat.le_refl _, by decide, by simp, by simp⟩⟩
  go_wp2_with fail
  go_loopw [3, 4] (fun v i wr => ∃ (k : Nat) (A : Option Addr) (c : Nat), k ≤ n ∧ v = .slice A k c ∧ i = .int .i64 k ∧ Hid (wr.ownsRow w.heap.size 36 10 (.slice A k c) k ((List.replicate k zA).flatMap Fl.cells)) ∧ Hid (Below w.heap.size w wr)) (fun _ i _ => n - (intOf i).toNat)
  case atStart => exact ⟨0, _, _, Nat.zero_le _, rfl, rfl, HO, HB⟩
  case round =>
    obtain ⟨k, A, c, hk, rfl, rfl, HOW, HBR⟩ := hrel
    clear HO HE HB
    by_cases hlt : k < n
    · go_wp2_with (at_builtin; refine wpList_appC rfl (.tmp 19) (.tmp 22) 42 rfl w.heap.size 36 (.agg #[S [], S [], .slice none 0 0, .slice none 0 0, .slice none 0 0, .slice none 0 0, .slice none 0 0, .slice none 0 0, .slice none 0 0, .slice none 0 0]) 10 224 Tryd.underlying42 fl_info rfl (by decide) (.slice A k c) k ((List.replicate k zA).flatMap Fl.cells) rfl (HOW.out.alloc _) wr.heap.size zA.cells rfl rfl (Blk.new _ _ _) (by intro u hu; simp only [Fl.cells, List.mem_cons, List.not_mem_nil, or_false] at hu; rcases hu with rfl | rfl | rfl | rfl | rfl | rfl | rfl | rfl | rfl | rfl <;> rfl) (by unfold maxLen; omega) (by omega) (by have := HBR.out.size; simp; omega) ?_)
      intro A4 c4 w9 hown9 hg9 hat9
      have HO9 : Hid (w9.ownsRow w.heap.size 36 10 (.slice A4 (k + 1) c4) (k + 1) ((List.replicate (k + 1) zA).flatMap Fl.cells)) := hide (by rw [List.replicate_succ', List.flatMap_append, List.flatMap_singleton]; exact hown9)
      have HB9 : Hid (Below w.heap.size w w9) := hide (((Keep.of_below (F := fun i => w.heap.size ≤ i) HBR.out (fun i _ h => h)).alloc _ |>.grown hg9 (fun i hi _ => own_base HOW.out hi)).below (Nat.le_refl _) (fun i hi => hi))
      clear hown9 hg9 hat9 HOW HBR
      go_wp2_with fail
      go_roundw
      case rel => first | exact ⟨k + 1, A4, c4, by omega, rfl, by go_num, HO9, HB9⟩ | ((repeat apply Exists.intro); exact ⟨⟨k + 1, A4, c4, by omega, rfl, by go_num, HO9, HB9⟩, rfl⟩)
      case measure => simp [intOf]; omega
    · obtain rfl : n = k := by omega
      have HF : Hid (FlsAt wr (fun k => wr.heap.size ≤ k) A n (List.replicate n zA)) := hide ⟨(Rd.of_ownB HOW.out).weak (fun i hi h => by omega), by simp, by omega, fun f hf => by rw [List.eq_of_mem_replicate hf]; exact zA_at _ _⟩
      have H1 := hide (arc_any _ A n c wr (HLD.out.below HBR.out (Nat.le_refl _)) HF.out)
      have hall : ∀ F ∈ (List.replicate n zA).map Fl.pl, F.right = true ∧ F.nok := by
        intro F hF
        obtain ⟨f, hf, rfl⟩ := List.mem_map.1 hF
        rw [List.eq_of_mem_replicate hf]
        exact ⟨zA_right, zA_nok⟩
      have hlen : ((List.replicate n zA).map Fl.pl).length = n := by simp
      by_cases hgt : n ≤ 200
      · have hb : decide (200 < (n : Int)) = false := by simp; omega
        have hv : arcV ((List.replicate n zA).map Fl.pl) = .tuple #[S (arcL ((List.replicate n zA).map Fl.pl)), .int .i64 0] := by
          rw [arcV, if_pos (by rw [hlen]; exact hgt), if_pos (by rw [List.all_eq_true]; exact fun F hF => (hall F hF).1)]
        rw [hv] at H1
        have hbd : (arcL ((List.replicate n zA).map Fl.pl)).length ≤ 60000000000 + 2010 := by
          have h1 := vi_len_10 n (by omega)
          have h2 := catAll_bd (f := arL) (l := (List.replicate n zA).map Fl.pl) (B := 300000010) (n := 200) (fun F hF => arL_bd (hall F hF).2 (hall F hF).1) (by rw [hlen]; exact hgt)
          rw [arcL, List.length_append, hlen]; omega
        obtain ⟨hu1, hu2⟩ := unp_ok (by rw [hlen]; exact hgt) hall (by omega)
        generalize arcL ((List.replicate n zA).map Fl.pl) = bs at H1 hbd hu1 hu2
        have HU := hide (And.intro hu1 (And.intro hu2 hlen))
        clear hu1 hu2 hlen hall hv HF HOW
        go_wp2_with (first | fail)
        refine H1.out.mono ?_
        rintro e w5 ⟨rfl, hb5⟩
        have HB5 : Hid (Below w.heap.size w w5) := hide (HBR.out.trans (hb5.mono HBR.out.size))
        have H2 := hide (unp_any bs w5 (by omega) (HLD.out.below HB5.out (Nat.le_refl _)))
        clear hb5 H1
        go_wp2_with (first | fail)
        refine H2.out.mono ?_
        clear H2
        rintro e w6 ⟨hb6, ⟨_, A2, n2, c2, Gs, rfl, hGp, hGa⟩ | ⟨hu, rfl⟩⟩
        · have hn2 : n2 = n := by
            have h1 := HU.out.2.1
            have h2 := HU.out.2.2
            rw [← h1, ← hGp, List.length_map] at h2
            rw [← hGa.2.1]
            exact h2
          subst hn2
          have HB6 : Hid (Below w.heap.size w w6) := hide (HB5.out.trans (hb6.mono HB5.out.size))
          clear hb6 hGp hGa
          go_wp2_with fail
          go_ret
          exact ⟨by simp, HB6.out⟩
        · rw [HU.out.1] at hu
          cases hu
      · have hb : decide (200 < (n : Int)) = true := by simp; omega
        have hv : arcV ((List.replicate n zA).map Fl.pl) = .tuple #[S [], .int .i64 4] := by
          rw [arcV, if_neg (by rw [hlen]; exact hgt)]
        rw [hv] at H1
        clear hv hlen hall HF HOW
        go_wp2_with (go_at_call 14; refine H1.out.mono ?_; rintro e w5 ⟨rfl, hb5⟩)
        go_ret
        exact ⟨by simp, HBR.out.trans (hb5.mono HBR.out.size)⟩
end Go.Proofs.YtkldfbacagnhoaaDoor
