/- The lexer's words, walked; no statement of the seat is proved here. -/
import Derived.Test.YtoilalfchnglcaaDoorLexRun
namespace Go.Proofs.YtoilalfchnglcaaDoor
open Go.RowKit

theorem wordsL_not {l : List UInt8} (h : wordsL.contains l = false) : ∀ x ∈ wordsL, (l == x) = false := by
  intro x hx
  by_cases e : l = x
  · subst e
    rw [List.contains_iff_mem.2 hx] at h
    cases h
  · simpa using e

set_option maxRecDepth 100000 in
set_option maxHeartbeats 2000000 in
theorem words_any (l : List UInt8) (w : World) : Calls Tryd.prog 25 #[S l] w fun e w' => e = .returned (.bool (wordsL.contains l)) ∧ w' = w := by
  cases h : wordsL.contains l
  · have hn := wordsL_not h
    simp only [wordsL, List.forall_mem_cons] at hn
    obtain ⟨h0, h1, h2, h3, h4, h5, h6, h7, h8, h9, h10, h11, h12, h13, h14, h15, h16, h17, h18, h19, h20, -⟩ := hn
    have H := hide h
    clear h
    go_enter Tryd.func25, Tryd.ntmps25
    go_wp2_with fail
    go_ret
    exact ⟨rfl, rfl⟩
  · have hm := List.contains_iff_mem.1 h
    clear h
    simp only [wordsL, List.mem_cons, List.not_mem_nil, or_false] at hm
    rcases hm with rfl | rfl | rfl | rfl | rfl | rfl | rfl | rfl | rfl | rfl | rfl | rfl | rfl | rfl | rfl | rfl | rfl | rfl | rfl | rfl | rfl
    all_goals
      go_enter Tryd.func25, Tryd.ntmps25
      go_wp2_with fail
      go_ret
      exact ⟨rfl, rfl⟩
end Go.Proofs.YtoilalfchnglcaaDoor
