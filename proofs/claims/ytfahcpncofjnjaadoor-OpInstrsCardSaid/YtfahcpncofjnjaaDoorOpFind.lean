/- The document's example, the page's lists, a code found by its name, walked; no statement of the seat is proved here. -/
import Derived.Test.YtfahcpncofjnjaaDoorOpText
namespace Go.Proofs.YtfahcpncofjnjaaDoor
open Go.RowKit

theorem itoa_two : Lib.itoa 2 = [50] := by
  unfold Lib.itoa
  rw [if_neg (by decide)]
  unfold Lib.decDigits
  rw [dif_pos (by decide)]
  rfl
theorem tx_head : tx 3 2 = [108, 111, 99, 97, 108, 32, 50] := by
  unfold tx
  rw [itoa_two]
  decide

set_option maxRecDepth 100000 in
theorem head_any (w : World) (h : Laid w) : Calls Tryd.prog 7 #[] w (Gives w (.bool true)) := by
  have HT := hide (text_any 3 2 (by decide) (by decide) w h)
  rw [tx_head] at HT
  go_enter Tryd.func7, Tryd.ntmps7
  go_wp2_with fail
  refine HT.out.mono ?_
  rintro e w' ⟨rfl, hb⟩
  go_wp2_with fail
  go_ret
  exact ⟨rfl, hb⟩

def poolsL : List UInt8 := [110, 46, 108, 108, 46, 46, 46, 46, 46, 46, 46, 46, 46, 46, 46, 102, 102, 99, 116, 116, 116, 46, 99, 99, 109, 109, 106, 106, 46, 46, 46, 98]
set_option maxRecDepth 100000 in
theorem pools_any (w : World) : Calls Tryd.prog 15 #[] w fun e w' => e = .returned (S poolsL) ∧ w' = w := by
  go_enter Tryd.func15, Tryd.ntmps15
  go_wp2_with fail
  go_ret
  exact ⟨rfl, rfl⟩

def namesV : Array Value := ((shapes.drop 1).map fun z => S z.1).toArray
set_option maxRecDepth 100000 in
set_option maxHeartbeats 2000000 in
theorem names_any (w : World) (r : Nat) (hr : r = w.heap.size) : Calls Tryd.prog 11 #[] w fun e w' => e = .returned (.slice (some ⟨r, 0, none⟩) 32 32) ∧ Below w.heap.size w w' ∧ Blk w' r 9 namesV ∧ r < w'.heap.size := by
  subst hr
  have hb : Below w.heap.size w (w.alloc (.cells namesV 9)) := (Below.refl _ _).alloc (Nat.le_refl _) _
  go_enter Tryd.func11, Tryd.ntmps11
  go_wp2_with fail
  go_ret
  exact ⟨rfl, hb, Blk.new _ _ _, by simp⟩

/-- A name's place among the codes. -/
theorem nm_at (i : Nat) (hi : i < 32) : namesV[i]? = some (S (nm ((i + 1 : Nat) : Int))) := by
  have : ∀ i : Fin 32, ((shapes.drop 1).map Prod.fst)[i.val]? = some (shapes.getD (i.val + 1) ([], 0)).1 := by decide
  have h2 := this ⟨i, hi⟩
  unfold nm
  rw [if_pos (kn_nat (by omega) (by omega)), Int.toNat_natCast, show namesV = (((shapes.drop 1).map Prod.fst).map S).toArray by simp only [namesV, List.map_map]; rfl, List.getElem?_toArray, List.getElem?_map, h2]
  rfl

/-- The code of a name, as the list has it. -/
def fnd (l : List UInt8) (v : Value) : Prop := (∃ n : Nat, 1 ≤ n ∧ n ≤ 32 ∧ nm n = l ∧ (∀ m : Nat, 1 ≤ m → m < n → nm m ≠ l) ∧ v = .tuple #[.int .i64 n, .int .i64 0]) ∨ ((∀ m : Nat, 1 ≤ m → m ≤ 32 → nm m ≠ l) ∧ v = .tuple #[.int .i64 0, .int .i64 23])

set_option maxRecDepth 100000 in
theorem find_any (l : List UInt8) (w : World) (h : Laid w) : Calls Tryd.prog 10 #[S l] w fun e w' => (∃ v, e = .returned v ∧ fnd l v) ∧ w' = w := by
  go_enter Tryd.func10, Tryd.ntmps10
  go_wp2_with fail
  go_loopw [4] (fun i wr => ∃ k : Nat, 1 ≤ k ∧ k ≤ 33 ∧ i = .int .i64 k ∧ wr = w ∧ (∀ m : Nat, 1 ≤ m → m < k → nm m ≠ l)) (fun i _ => 33 - (intOf i).toNat)
  case atStart => exact ⟨1, by omega, by omega, rfl, rfl, by omega⟩
  case round =>
    obtain ⟨k, hk1, hk, rfl, hw, hall⟩ := hrel
    have HW := hide hw
    have HN : Hid (Calls Tryd.prog 13 #[.int .i64 k] wr fun e w' => e = .returned (S (nm k)) ∧ w' = wr) := hide (name_any k wr (by rw [hw]; exact h))
    have HA := hide hall
    clear hw hall h
    by_cases hlt : k ≤ 32
    · obtain ⟨y, hy⟩ : ∃ y, y = nm k := ⟨_, rfl⟩
      rw [← hy] at HN
      have HY := hide hy
      clear hy
      by_cases e : y = l
      · subst e
        go_wp2_with (go_at_call 13; refine HN.out.mono ?_; rintro e w' ⟨rfl, hw'⟩; subst hw')
        go_ret2
        exact ⟨⟨_, rfl, .inl ⟨k, hk1, hlt, HY.out.symm, HA.out, rfl⟩⟩, HW.out⟩
      · have d : (y == l) = false := by simpa using e
        go_wp2_with (go_at_call 13; refine HN.out.mono ?_; rintro e w' ⟨rfl, hw'⟩; subst hw')
        go_roundw
        case rel => exact ⟨k + 1, by omega, by omega, by go_num, HW.out, fun m h1 h2 => by
          rcases Nat.lt_or_ge m k with h3 | h3
          · exact HA.out m h1 h3
          · obtain rfl : m = k := by omega
            rw [← HY.out]; exact e⟩
        case measure => simp [intOf]; omega
    · go_wp2_with fail
      go_ret2
      exact ⟨⟨_, rfl, .inr ⟨fun m h1 h2 => HA.out m h1 (by omega), rfl⟩⟩, HW.out⟩
end Go.Proofs.YtfahcpncofjnjaaDoor
