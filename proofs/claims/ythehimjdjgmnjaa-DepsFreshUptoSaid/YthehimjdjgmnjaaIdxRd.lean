/- slices.IndexFunc and slices.ContainsFunc at reads, of deps.Fresh's closure; deps.Fresh; walked; no statement of the seat is proved here. -/
import Derived.Test.YthehimjdjgmnjaaFreshC
namespace Go.Proofs.Ythehimjdjgmnjaa
open Go.RowKit Go.Maps
set_option linter.unusedVariables false

/-- The first place at which p holds; -1: it holds nowhere. -/
def IdxIs {α : Type} (l : List α) (p : α → Bool) (z : Int) : Prop := (z = -1 ∧ ∀ x ∈ l, p x = false) ∨ ∃ k, ∃ hk : k < l.length, z = (k : Int) ∧ p l[k] = true ∧ ∀ i (hi : i < l.length), i < k → p l[i] = false
theorem IdxIs.any {α : Type} {l : List α} {p : α → Bool} {z : Int} (h : IdxIs l p z) : decide (0 ≤ z) = l.any p := by
  rcases h with ⟨rfl, h⟩ | ⟨k, hk, rfl, h, _⟩
  · have : l.any p = false := by rw [List.any_eq_false]; intro x hx; rw [h x hx]; simp
    rw [this]; decide
  · have : l.any p = true := List.any_eq_true.2 ⟨l[k], List.getElem_mem hk, h⟩
    rw [this]; simp
/-- Reads that can be looked at. -/
def RdsOk (rs : List Rdq) : Prop := ∀ r ∈ rs, short r.n ∧ r.d.length = 32
/-- A read's face is another one. -/
def othr (T : List Fc) (r : Rdq) : Bool := digM T r.n != r.d

set_option maxRecDepth 100000 in
set_option maxHeartbeats 4000000 in
theorem idxrd_any (w0 : World) (g m s n bx : Nat) (T : List Fc) (A : Option Addr) (k c : Nat) (rs : List Rdq) (w : World) (h : Tab w g m s T n) (hn : n + k ≤ 1000000) (hrk : rs.length = k) (hok : RdsOk rs)
    (hr : Rd w (fun b => b = s) 33 A k (rs.flatMap Rdq.cells)) (hT : FcsOk w0 T) (hB0 : Below w0.heap.size w0 w) (hs0 : w0.heap.size ≤ s) (hbx : Blk w bx 28 #[.pointer (some ⟨g, 0, none⟩)]) :
    Calls Try.prog 35 #[.slice A k c, .func (.func 24) #[] #[.pointer (some ⟨bx, 0, none⟩)]] w (fun e w' => ∃ z : Int, e = .returned (.int .i64 z) ∧ Tab w' g m s T (n + k) ∧ Keep (fun b => b = s) w w' ∧ IdxIs rs (othr T) z) := by
  have HL := hide hrk
  have HOK := hide hok
  have HT := hide h
  have HFO := hide hT
  have HBO := hide (And.intro hB0 hs0)
  have HBX := hide hbx
  have HN := hide hn
  have hk9 : k ≤ 9223372036854775807 := by omega
  clear h hok hrk hT hB0 hs0 hbx hn
  go_enter Try.func35, Try.ntmps35
  go_wp2_with fail
  go_loopw [8] (fun i wr => ∃ t : Nat, t ≤ k ∧ i = .int .i64 t ∧ Hid (Tab wr g m s T (n + t)) ∧ Hid (Keep (fun b => b = s) w wr) ∧ Hid (∀ i (hi : i < rs.length), i < t → othr T rs[i] = false)) (fun i _ => k - (intOf i).toNat)
  case atStart => exact ⟨0, Nat.zero_le _, rfl, HT, hide (Keep.refl _ _), hide (by omega)⟩
  case round =>
    obtain ⟨t, ht, rfl, HTA, HK, HA⟩ := hrel
    by_cases hlt : t < k
    · obtain ⟨x, o, rfl, hxs, hxl, hcell⟩ := Rd.rec_ (f := Rdq.cells) (size := 33) Rdq.cells_len (hr.keep HK.out) HL.out t hlt
      have hlk : t < rs.length := by have := HL.out; omega
      have hro := HOK.out _ (List.getElem_mem hlk)
      obtain ⟨R, hR⟩ : ∃ b, b = othr T rs[t] := ⟨_, rfl⟩
      have HR := hide hR
      obtain ⟨xv, hxv⟩ : ∃ v, v = (rs[t]).cells.toArray := ⟨_, rfl⟩
      have HV' := hide (RdV.mk_ rs[t])
      rw [← hxv] at HV'
      have HRG : Hid (wr.rangeAt x (o + t * 33) xv.toList) := hide (fun i v hv => hcell i v (by rw [hxv] at hv; simpa using hv))
      have HFC := hide (frc_any w0 g m s (n + t) bx T rs[t] wr HTA.out (by have := HN.out; omega) hro.1 hro.2 HFO.out (HBO.out.1.trans (HK.out.below (B := w0.heap.size) HBO.out.1.size (fun k hk => by rw [hk]; exact HBO.out.2))) HBO.out.2 (HBX.out.keep HK.out (by obtain ⟨D, hD⟩ := HT.out.seen; exact blk_map_ne HBX.out hD)) xv hxv)
      rw [show (digM T (rs[t]).n != (rs[t]).d) = R from hR.symm] at HFC
      clear hro hR hxv hcell
      go_upto_region 4 with fail
      go_wp2_with (first
        | (refine wpList_load_mid rfl 77 (.tmp 14) rfl x (o + t * 33) rfl xv.toList _ HRG.out Try.underlying77 rfl (by rw [Array.length_toList, HV'.out.size]; exact rd_info) ?_; rw [Array.toArray_toList]))
      refine HFC.out.mono ?_
      rintro e w2 ⟨rfl, ht2, hk2⟩
      have HT2 := hide ht2
      have HK2 := hide hk2
      clear ht2 hk2
      have HKN : Hid (Keep (fun b => b = s) w w2) := hide (HK.out.trans HK2.out)
      cases R with
      | true =>
        have HI : Hid (IdxIs rs (othr T) (t : Int)) := hide (.inr ⟨t, hlk, rfl, HR.out.symm, HA.out⟩)
        go_wp2_with fail
        go_ret
        exact ⟨_, rfl, HT2.out.mono (by omega), HKN.out, HI.out⟩
      | false =>
        have HAN : Hid (∀ i (hi : i < rs.length), i < t + 1 → othr T rs[i] = false) := hide (fun i hi h1 => by
          by_cases h2 : i < t
          · exact HA.out i hi h2
          · obtain rfl : i = t := by omega
            exact HR.out.symm)
        go_wp2_with fail
        go_roundw
        · exact ⟨t + 1, by omega, by go_num, HT2, HKN, HAN⟩
        · simp [intOf]; omega
    · obtain rfl : t = k := by omega
      have HI : Hid (IdxIs rs (othr T) (-1)) := hide (.inl ⟨rfl, fun x hx => by
        obtain ⟨i, hi, rfl⟩ := List.getElem_of_mem hx
        exact HA.out i hi (by rw [← HL.out]; exact hi)⟩)
      clear hlt
      go_wp2_with fail
      go_ret
      exact ⟨_, rfl, HTA.out, HK.out, HI.out⟩

set_option maxRecDepth 100000 in
theorem hasrd_any (w0 : World) (g m s n bx : Nat) (T : List Fc) (A : Option Addr) (k c : Nat) (rs : List Rdq) (w : World) (h : Tab w g m s T n) (hn : n + k ≤ 1000000) (hrk : rs.length = k) (hok : RdsOk rs)
    (hr : Rd w (fun b => b = s) 33 A k (rs.flatMap Rdq.cells)) (hT : FcsOk w0 T) (hB0 : Below w0.heap.size w0 w) (hs0 : w0.heap.size ≤ s) (hbx : Blk w bx 28 #[.pointer (some ⟨g, 0, none⟩)]) :
    Calls Try.prog 23 #[.slice A k c, .func (.func 24) #[] #[.pointer (some ⟨bx, 0, none⟩)]] w (fun e w' => e = .returned (.bool (rs.any (othr T))) ∧ Tab w' g m s T (n + k) ∧ Keep (fun b => b = s) w w') := by
  have HI := hide (idxrd_any w0 g m s n bx T A k c rs w h hn hrk hok hr hT hB0 hs0 hbx)
  clear h hr hrk hok hT hB0 hbx
  obtain ⟨R, hR⟩ : ∃ R, R = rs.any (othr T) := ⟨_, rfl⟩
  rw [← hR]
  have HR := hide hR
  clear hR
  go_enter Try.func23, Try.ntmps23
  go_wp2_with fail
  refine HI.out.mono ?_
  rintro e w2 ⟨z, rfl, ht2, hk2, hz⟩
  have HZ : Hid (decide (0 ≤ z) = R) := hide (by rw [HR.out]; exact hz.any)
  have HT2 := hide ht2
  have HK2 := hide hk2
  clear hz ht2 hk2
  go_wp2_with fail
  go_ret
  exact ⟨by rw [← HZ.out]; rfl, HT2.out, HK2.out⟩
end Go.Proofs.Ythehimjdjgmnjaa
