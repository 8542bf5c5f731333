/- Whether an instruction is right, over the page's closure, walked; no statement of the seat is proved here. -/
import Derived.Test.YtfahcpncofjnjaaDoorOpFind
namespace Go.Proofs.YtfahcpncofjnjaaDoor
open Go.RowKit

def kindsL : List UInt8 := [110, 108, 102, 99, 116, 109, 106, 98]
/-- How many there are of a kind. -/
def ofv : List UInt8 → List Int → Int → Int
  | x :: xs, y :: ys, p => if (x.toNat : Int) == p then y else ofv xs ys p
  | [], _, _ => 0
  | _ :: _, [], _ => 0

theorem ofv_step {Q : List UInt8} {l : List Int} {p : Int} {k : Nat} (h1 : k < Q.length) (h2 : k < l.length) : ofv (Q.drop k) (l.drop k) p = if (Q[k].toNat : Int) == p then l[k] else ofv (Q.drop (k + 1)) (l.drop (k + 1)) p := by
  rw [List.drop_eq_getElem_cons h1, List.drop_eq_getElem_cons h2]
  rfl
theorem ofv_end {Q : List UInt8} {l : List Int} {p : Int} {k : Nat} (h : Q.length ≤ k ∨ l.length ≤ k) : ofv (Q.drop k) (l.drop k) p = 0 := by
  rcases h with h | h
  · rw [List.drop_of_length_le h]; unfold ofv; rfl
  · rw [List.drop_of_length_le h]
    cases Q.drop k <;> rfl
theorem rune_wrap (x : UInt8) : wrap32 (x.toNat : Int) = (x.toNat : Int) := by
  have := x.toNat_lt
  unfold wrap32
  omega

set_option maxRecDepth 100000 in
set_option maxHeartbeats 2000000 in
theorem of_any (p : Int) (g1 g2 : Nat) (A : Option Addr) (n c : Nat) (l : List Int) (Q : List UInt8) (w : World) (b1 : Blk w g1 9 #[S Q]) (b2 : Blk w g2 37 #[.slice A n c]) {F : Nat → Prop} (h : Rd w F 1 A n (l.map (Value.int .i64))) (hq : Q.length ≤ 100) :
    Calls Tryd.prog 16 #[.int .i32 p, .pointer (some ⟨g1, 0, none⟩), .pointer (some ⟨g2, 0, none⟩)] w fun e w' => e = .returned (.int .i64 (ofv Q l p)) ∧ w' = w := by
  have HL : Hid (l.length = n) := hide (by have := h.1; simpa using this)
  obtain ⟨V, hV⟩ : ∃ V, V = ofv Q l p := ⟨_, rfl⟩
  rw [← hV]
  have HV := hide hV
  clear hV
  go_enter Tryd.func16, Tryd.ntmps16
  go_wp2_with fail
  go_loopw [5] (fun i wr => ∃ k : Nat, k ≤ n ∧ k ≤ Q.length ∧ i = .int .i64 k ∧ wr = w ∧ V = ofv (Q.drop k) (l.drop k) p) (fun i _ => n - (intOf i).toNat)
  case atStart => exact ⟨0, Nat.zero_le _, Nat.zero_le _, rfl, rfl, HV.out⟩
  case round =>
    obtain ⟨k, hk, hkq, rfl, hw, hall⟩ := hrel
    have h' : Rd wr F 1 A n (l.map (Value.int .i64)) := by rw [hw]; exact h
    have c1 : wr.cell? ⟨g1, 0, none⟩ = some (S Q) := by rw [hw]; exact b1.cell 0
    have c2 : wr.cell? ⟨g2, 0, none⟩ = some (.slice A n c) := by rw [hw]; exact b2.cell 0
    have HW := hide hw
    have HA := hide hall
    clear hw hall
    by_cases hlq : k < Q.length
    · have d1 : decide ((k : Int) < (Q.length : Int)) = true := decide_eq_true (by omega)
      by_cases hlt : k < n
      · obtain ⟨b, o, u, rfl, hu, hc⟩ := h'.at_ k hlt
        have hlk : k < l.length := by have := HL.out; omega
        obtain rfl : Value.int .i64 l[k] = u := by simpa [hlk] using hu
        clear hu
        obtain ⟨y, hy⟩ : ∃ y, y = l[k] := ⟨_, rfl⟩
        rw [← hy] at hc
        have HS := hide (ofv_step (p := p) hlq hlk)
        rw [← hy] at HS
        clear hy
        have hr := rune_wrap Q[k]
        obtain ⟨z, hz⟩ : ∃ z, z = ((Q[k].toNat : Int) == p) := ⟨_, rfl⟩
        rw [← hz] at HS
        have hz' : ((Q[k].toNat : Int) == p) = z := hz.symm
        clear hz
        cases z with
        | true =>
          go_wp2_with fail
          go_ret
          exact ⟨by rw [HA.out, HS.out]; rfl, HW.out⟩
        | false =>
          go_wp2_with fail
          go_roundw
          case rel => exact ⟨k + 1, by omega, by omega, by go_num, HW.out, by rw [HA.out, HS.out]; rfl⟩
          case measure => simp [intOf]; omega
      · have HE := hide (ofv_end (Q := Q) (l := l) (p := p) (k := k) (.inr (by have := HL.out; omega)))
        go_wp2_with fail
        go_ret
        exact ⟨by rw [HA.out, HE.out]; rfl, HW.out⟩
    · have HE := hide (ofv_end (Q := Q) (l := l) (p := p) (k := k) (.inl (by omega)))
      have d1 : decide ((k : Int) < (Q.length : Int)) = false := decide_eq_false (by omega)
      go_wp2_with fail
      go_ret
      exact ⟨by rw [HA.out, HE.out]; rfl, HW.out⟩

/-- Is an instruction right, where there are v of its kind? -/
def rt (c a v : Int) : Bool := kn c && (if pl c == 0 then a == 0 else decide (0 ≤ a) && decide (a < v))
theorem pl_kn {c : Int} (h : kn c = false) : pl c = 0 := by unfold pl; rw [h]; rfl

set_option maxRecDepth 100000 in
set_option maxHeartbeats 4000000 in
theorem right_any (c a v : Int) (p1 p2 : Value) (w : World) (h : Laid w) (hc : ∀ w', Below w.heap.size w w' → Calls Tryd.prog 16 #[.int .i32 (pl c), p1, p2] w' fun e w'' => e = .returned (.int .i64 v) ∧ w'' = w') :
    Calls Tryd.prog 18 #[.agg #[.int .i64 c, .int .i64 a], .func (.func 16) #[] #[p1, p2]] w (Gives w (.bool (rt c a v))) := by
  obtain ⟨wB, hwB⟩ : ∃ wB, wB = w.alloc (.cells #[.int .i64 c, .int .i64 a] 26) := ⟨_, rfl⟩
  have hB : Below w.heap.size w wB := by rw [hwB]; exact (Below.refl _ _).alloc (Nat.le_refl _) _
  have hL : Laid wB := h.below hB (Nat.le_refl _)
  have hblk : Blk wB w.heap.size 26 #[.int .i64 c, .int .i64 a] := by rw [hwB]; exact Blk.new _ _ _
  have c0 : wB.cell? ⟨w.heap.size, 0, none⟩ = some (.int .i64 c) := hblk.cell 0
  have c1 : wB.cell? ⟨w.heap.size, 1, none⟩ = some (.int .i64 a) := hblk.cell 1
  have qt1 : ∀ t : After wB, t.val.cell? ⟨w.heap.size, 1, none⟩ = some (.int .i64 a) := fun t => (hblk.below t.prop hblk.lt).cell 1
  have HCT : Hid (∀ t : After wB, Calls Tryd.prog 16 #[.int .i32 (pl c), p1, p2] t.val (Gives t.val (.int .i64 v))) := hide (fun t => (hc t.val (hB.trans (t.prop.mono hB.size))).mono (by rintro e w' ⟨rfl, rfl⟩; exact ⟨rfl, Below.refl _ _⟩))
  have HK := hide (known_any c wB)
  have HP := hide (pool_any c wB hL)
  have HB := hide hB
  obtain ⟨R, hR⟩ : ∃ R, R = rt c a v := ⟨_, rfl⟩
  rw [← hR]
  unfold rt at hR
  have hpk : kn c = false → pl c = 0 := pl_kn
  obtain ⟨kk, hkk⟩ : ∃ kk, kk = kn c := ⟨_, rfl⟩
  rw [← hkk] at hR HK hpk
  obtain ⟨p, hp⟩ : ∃ p, p = pl c := ⟨_, rfl⟩
  rw [← hp] at hR HP HCT hpk
  clear hp hkk h hB hL hblk hc
  cases kk with
  | false =>
    have HR : Hid (R = false) := hide (by rw [hR]; rfl)
    clear hR hpk
    go_enter Tryd.func18, Tryd.ntmps18
    go_wp2_with fail
    rw [← hwB]
    clear hwB
    refine HK.out.mono ?_
    rintro e w' ⟨rfl, hw'⟩
    subst w'
    go_wp2_with fail
    go_ret
    exact ⟨by rw [HR.out]; rfl, HB.out⟩
  | true =>
    clear hpk
    cases hz : (p == 0) with
    | true =>
      have HR : Hid (R = (a == 0)) := hide (by rw [hR, hz]; rfl)
      clear hR
      go_enter Tryd.func18, Tryd.ntmps18
      go_wp2_with fail
      rw [← hwB]
      clear hwB
      refine HK.out.mono ?_
      rintro e w' ⟨rfl, hw'⟩
      subst w'
      go_wp2_with fail
      refine HP.out.mono ?_
      rintro e w' ⟨rfl, hw'⟩
      subst w'
      go_wp2_with fail
      go_ret
      exact ⟨by rw [HR.out]; rfl, HB.out⟩
    | false =>
      cases ha : decide (0 ≤ a) with
      | false =>
        have HR : Hid (R = false) := hide (by rw [hR, hz, ha]; rfl)
        clear hR
        go_enter Tryd.func18, Tryd.ntmps18
        go_wp2_with fail
        rw [← hwB]
        clear hwB
        refine HK.out.mono ?_
        rintro e w' ⟨rfl, hw'⟩
        subst w'
        go_wp2_with fail
        refine HP.out.mono ?_
        rintro e w' ⟨rfl, hw'⟩
        subst w'
        go_wp2_with fail
        refine region_after (by kernel_rfl) (by kernel_rfl) ?_
        repeat (go_big_quiet_step (fail))
        refine wpQuiet_nil ?_
        rintro _ ⟨t, rfl⟩
        have HB2 := hide (HB.out.trans (t.prop.mono HB.out.size))
        clear qt1 HCT
        go_wp2_with fail
        go_ret
        exact ⟨by rw [HR.out]; rfl, HB2.out⟩
      | true =>
        have HR : Hid (R = decide (a < v)) := hide (by rw [hR, hz, ha]; simp)
        clear hR
        go_enter Tryd.func18, Tryd.ntmps18
        go_wp2_with fail
        rw [← hwB]
        clear hwB
        refine HK.out.mono ?_
        rintro e w' ⟨rfl, hw'⟩
        subst w'
        go_wp2_with fail
        refine HP.out.mono ?_
        rintro e w' ⟨rfl, hw'⟩
        subst w'
        go_wp2_with fail
        refine region_after (by kernel_rfl) (by kernel_rfl) ?_
        repeat (go_big_quiet_step ((refine call_after (HCT.out _))))
        refine wpQuiet_nil ?_
        rintro _ ⟨t, rfl⟩
        have HB2 := hide (HB.out.trans (t.prop.mono HB.out.size))
        clear qt1 HCT
        go_wp2_with fail
        go_ret
        exact ⟨by rw [HR.out]; rfl, HB2.out⟩
end Go.Proofs.YtfahcpncofjnjaaDoor
