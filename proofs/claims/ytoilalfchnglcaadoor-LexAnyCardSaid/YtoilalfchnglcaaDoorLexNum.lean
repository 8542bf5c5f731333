/- The lexer's number, walked; no statement of the seat is proved here. -/
import Derived.Test.YtoilalfchnglcaaDoorLexRun
import Derived.Lib.ConvBytes
namespace Go.Proofs.YtoilalfchnglcaaDoor
open Go.RowKit

theorem conv_below (w : World) (l : List UInt8) : Below w.heap.size w (Lib.bytesWorld w 5 ⟨l.toArray⟩) := by
  refine ⟨?_, ?_, ?_, by rw [Lib.bytesWorld_size]; omega, fun k hk => Lib.bytesWorld_at_old w _ _ k hk⟩ <;> simp [Lib.bytesWorld, World.freeze, World.alloc, World.drew, -World.alloc_eq, -World.drew_eq]

/-- What number answers. -/
def numV : Option Nat → Value
  | none => .tuple #[.int .i64 0, .bool false]
  | some n => .tuple #[.int .i64 (n : Nat), .bool true]
theorem num_step (n : Nat) (l : List UInt8) (k : Nat) (c : UInt8) (hc : l[k]? = some c) : numGo n (l.drop k) = if 288230376151711744 < n * 10 + (c.toNat - 48) then none else numGo (n * 10 + (c.toNat - 48)) (l.drop (k + 1)) := by
  have hk := (List.getElem?_eq_some_iff.1 hc).1
  rw [List.drop_eq_getElem_cons hk, (List.getElem?_eq_some_iff.1 hc).2]
  rfl

set_option maxRecDepth 100000 in
set_option maxHeartbeats 2000000 in
theorem number_any (w : World) (l : List UInt8) (hd : l.all digitB = true) (hl : l.length ≤ 1000000) :
    Calls Tryd.prog 27 #[S l] w fun e w' => e = .returned (numV (numGo 0 l)) ∧ Below w.heap.size w w' := by
  have hcv := Lib.run_convert_string_bytes (P := Tryd.prog) w 9 39 5 ⟨l.toArray⟩ Tryd.underlying9 Tryd.underlying39 Tryd.underlying5
  have HC := fun j hj => hide (Lib.bytesWorld_cell w 5 ⟨l.toArray⟩ j hj)
  have HB := hide (conv_below w l)
  have HD := hide hd
  clear hd
  rw [show (ByteArray.mk l.toArray).size = l.length from rfl] at hcv
  change ∀ j, j < l.length → _ at HC
  generalize Lib.bytesWorld w 5 ⟨l.toArray⟩ = W at hcv HC HB
  generalize grownCap w l.length 0 5 = cp at hcv
  obtain ⟨b, hb⟩ : ∃ b, b = w.heap.size := ⟨_, rfl⟩
  rw [← hb] at hcv HC HB
  have hb' := hide hb
  clear hb
  have HT := hide (show numGo 0 l = numGo 0 (l.drop 0) from rfl)
  go_enter Tryd.func27, Tryd.ntmps27
  go_wp2_with fail
  go_loopw [4, 10] (fun v i wr => ∃ n k : Nat, k ≤ l.length ∧ n ≤ 288230376151711744 ∧ v = .int .i64 (n : Nat) ∧ i = .int .i64 (k : Nat) ∧ wr = W ∧ Hid (numGo 0 l = numGo n (l.drop k))) (fun _ i _ => l.length - (intOf i).toNat)
  case atStart => exact ⟨0, 0, by omega, by omega, rfl, rfl, rfl, HT⟩
  case round =>
    obtain ⟨n, k, hk, hn, rfl, rfl, hw, hrl⟩ := hrel
    subst hw
    clear hcv HT
    by_cases hlt : k < l.length
    · obtain ⟨c, hc⟩ : ∃ c, l[k]? = some c := ⟨_, List.getElem?_eq_getElem hlt⟩
      have hcell : wr.cell? ⟨b, k, none⟩ = some (B8 c) := by
        rw [(HC k hlt).out]
        show some (Value.int .u8 (((l.getD k 0).toNat : Nat) : Int)) = _
        rw [List.getD_eq_getElem?_getD, hc]
        rfl
      have hdc : digitB c = true := List.all_eq_true.1 HD.out c (List.mem_of_getElem? hc)
      have h48 : 48 ≤ c.toNat ∧ c.toNat ≤ 57 := by simpa [digitB] using hdc
      obtain ⟨h48, h57⟩ := h48
      have HS := hide (num_step n l k c hc)
      clear hc hdc HC
      by_cases hg : 288230376151711744 < n * 10 + (c.toNat - 48)
      · have HR : Hid (numGo 0 l = none) := hide (by rw [hrl.out, HS.out, if_pos hg])
        clear HS hrl
        go_wp2_with fail
        go_ret2
        exact ⟨by rw [HR.out]; rfl, by rw [hb'.out] at HB; exact HB.out⟩
      · have HR : Hid (numGo 0 l = numGo (n * 10 + (c.toNat - 48)) (l.drop (k + 1))) := hide (by rw [hrl.out, HS.out, if_neg hg])
        clear HS hrl
        go_wp2_with fail
        go_roundw
        case rel => exact ⟨n * 10 + (c.toNat - 48), k + 1, by omega, by omega, by congr 1; omega, by go_num, by first | rfl | trivial, HR⟩
        case measure => simp [intOf]; omega
    · have HR : Hid (numGo 0 l = some n) := hide (by rw [hrl.out, List.drop_of_length_le (by omega)]; rfl)
      go_wp2_with fail
      go_ret2
      exact ⟨by rw [HR.out]; rfl, by rw [hb'.out] at HB; exact HB.out⟩
end Go.Proofs.YtoilalfchnglcaaDoor
