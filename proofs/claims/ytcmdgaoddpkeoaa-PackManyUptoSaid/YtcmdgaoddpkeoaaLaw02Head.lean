/- The law's 'head': the document's example; it is true. -/
import Derived.Test.YtcmdgaoddpkeoaaWriter
import Derived.Test.YtcmdgaoddpkeoaaLaw02Num
namespace Go.Proofs.Ytcmdgaoddpkeoaa
open Go.RowKit

theorem vi300 : vi 300 = [172, 2] := by
  rw [vi_big (by omega), vi_small (by omega)]
  decide

set_option maxRecDepth 100000 in
theorem head_any (w : World) : Calls Try.prog 10 #[] w (Gives w (.bool true)) := by
  have H1 := hide (num_one w.heap.size (.slice none 0 0) [] 300 _ (w.heap.size + 1) (by simp) (wr_new w) (by omega) (by simp))
  go_enter Try.func10, Try.ntmps10
  go_wp2_with fail
  refine (unhide H1).mono ?_
  rintro e w1 ⟨v1, rfl, h1⟩
  rw [List.nil_append, show (300 : Int).toNat = 300 from rfl, vi300] at h1
  go_wp2_with fail
  refine (string_any _ _ _ _ h1.1).mono ?_
  rintro e w2 ⟨rfl, rfl⟩
  go_wp2
  go_ret
  exact ⟨rfl, ((Below.refl _ _).alloc (Nat.le_refl _) _).trans (h1.below (by simp) (Nat.le_refl _) (by simp [Value.ownBlock]))⟩

end Go.Proofs.Ytcmdgaoddpkeoaa
