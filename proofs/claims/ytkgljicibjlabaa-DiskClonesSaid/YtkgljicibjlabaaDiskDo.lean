/- A change done to files: the contract of change.do; no statement of the seat is proved here. -/
import Derived.Test.YtkgljicibjlabaaDiskMap
import Derived.Test.YtkgljicibjlabaaChecked
import Derived.StillTailTactics
namespace Go.Proofs.Ytkgljicibjlabaa
open Go.RowKit Go.Maps

set_option maxRecDepth 100000 in
set_option maxHeartbeats 2000000 in
theorem do_any (c : Ch) (hc : c.ok) (hk : c.k ≤ 2) (b N : Nat) (F : Fl) (w : World) (h : TxtIs w b N F) (hN : N ≤ 1000000) :
    Calls Try.prog 34 #[c.val, .map (some b)] w
      (fun e w' => e = .returned (.tuple #[]) ∧ TxtIs w' b (N + 1) (chDo F c) ∧ Keep (fun k => k = b) w w') := by
  obtain ⟨k, n, t⟩ := c
  obtain ⟨hn, ht⟩ := hc
  obtain ⟨D, hD, hR⟩ := h
  have hkn := key_S hn
  have hkt := key_S ht
  have hB := (hR.2 n).1
  have hV := (hR.2 n).2 (S [])
  have HR := hide hR
  have hkp : Keep (fun k => k = b) w (w.alloc (.cells #[.int .i64 k, S n, S t] 71)) := (Keep.refl _ w).alloc _
  have hDa : (w.alloc (.cells #[.int .i64 k, S n, S t] 71)).ownsMap Try.prog 9 heldR b N D := hD.alloc _
  have HK := hide hkp
  have hbl : b < w.heap.size := hD.lt
  have kb := Blk.new w 71 #[.int .i64 k, S n, S t]
  clear hD hR hn ht hkp
  cases hF : F n with
  | none =>
    rw [hF] at hB hV
    simp only [Option.isSome_none, Option.map_none, Option.getD_none] at hB hV
    rcases k with _ | _ | _ | k
    · go_enter Try.func34, Try.ntmps34
      go_wp2_with (first | (at_lookup; refine lookup_held2 _ rfl _ _ 54 rfl 9 9 klaw Try.underlying54 (zero_str _) b _ D rfl hDa _ _ rfl hkn (S []) false hV hB ?_) | (at_mapUpdate; refine wpList_mapUpdate_own _ rfl _ _ _ 54 rfl 9 9 klaw Try.underlying54 _ b N D rfl hDa (by unfold maxLen; omega) _ _ _ rfl rfl hkn _ [] (show heldR (S t) = some (.held (S t), []) from rfl) ?_; intro w2 hown2 hgrow2))
      refine bodyPost_end (v := .tuple #[]) ?_ rfl ?_
      · simp [results, Try.results34, go_sem]
      exact ⟨rfl, ⟨_, hown2, HR.out.set n t⟩, HK.out.grown hgrow2 (fun k hk _ => by injection hk with hk; exact hk.symm)⟩
    · have he : chDo F ⟨1, n, t⟩ = F := by simp [chDo, hF]
      have HE := hide he
      clear he
      go_enter Try.func34, Try.ntmps34
      go_wp2_with (at_lookup; refine lookup_held2 _ rfl _ _ 54 rfl 9 9 klaw Try.underlying54 (zero_str _) b _ D rfl hDa _ _ rfl hkn (S []) false hV hB ?_)
      refine bodyPost_end (v := .tuple #[]) ?_ rfl ?_
      · simp [results, Try.results34, go_sem]
      exact ⟨rfl, by rw [HE.out]; exact ⟨D, hDa.mono (by omega), HR.out⟩, HK.out⟩
    · go_enter Try.func34, Try.ntmps34
      go_wp2_with (first | (at_lookup; refine lookup_held2 _ rfl _ _ 54 rfl 9 9 klaw Try.underlying54 (zero_str _) b _ D rfl hDa _ _ rfl hkn (S []) false hV hB ?_) | (at_delete; refine wpList_delete_own _ rfl _ _ 54 9 rfl 9 klaw Try.underlying54 _ b N D rfl hDa _ _ rfl hkn ?_; intro w2 hown2 hturn2))
      refine bodyPost_end (v := .tuple #[]) ?_ rfl ?_
      · simp [results, Try.results34, go_sem]
      exact ⟨rfl, ⟨_, hown2.mono (by omega), HR.out.del n⟩, HK.out.grown hturn2.grown (fun k hk _ => by injection hk with hk; exact hk.symm)⟩
    · simp at hk
  | some o =>
    rw [hF] at hB hV
    simp only [Option.isSome_some, Option.map_some, Option.getD_some] at hB hV
    rcases k with _ | _ | _ | k
    · go_enter Try.func34, Try.ntmps34
      go_wp2_with (first | (at_lookup; refine lookup_held2 _ rfl _ _ 54 rfl 9 9 klaw Try.underlying54 (zero_str _) b _ D rfl hDa _ _ rfl hkn (S o) true hV hB ?_) | (at_mapUpdate; refine wpList_mapUpdate_own _ rfl _ _ _ 54 rfl 9 9 klaw Try.underlying54 _ b N D rfl hDa (by unfold maxLen; omega) _ _ _ rfl rfl hkn _ [] (show heldR (S t) = some (.held (S t), []) from rfl) ?_; intro w2 hown2 hgrow2))
      refine bodyPost_end (v := .tuple #[]) ?_ rfl ?_
      · simp [results, Try.results34, go_sem]
      exact ⟨rfl, ⟨_, hown2, HR.out.set n t⟩, HK.out.grown hgrow2 (fun k hk _ => by injection hk with hk; exact hk.symm)⟩
    · have he : chDo F ⟨1, n, t⟩ = (F.del n).set t o := by simp [chDo, hF]
      have HE := hide he
      clear he
      go_enter Try.func34, Try.ntmps34
      go_wp2_with (first | (at_lookup; refine lookup_held2 _ rfl _ _ 54 rfl 9 9 klaw Try.underlying54 (zero_str _) b _ D rfl hDa _ _ rfl hkn (S o) true hV hB ?_) | (at_delete; refine wpList_delete_own _ rfl _ _ 54 9 rfl 9 klaw Try.underlying54 _ b N D rfl hDa _ _ rfl hkn ?_; intro w2 hown2 hturn2; have hk2 := HK.out.grown hturn2.grown (fun k hk _ => by injection hk with hk; exact hk.symm); have hb2 := kb.grown hturn2.grown (by simp; omega); have r0 : w2.cell? ⟨w.heap.size, 0, none⟩ = some (.int .i64 1) := hb2.cell 0; have r1 : w2.cell? ⟨w.heap.size, 1, none⟩ = some (S n) := hb2.cell 1; have r2 : w2.cell? ⟨w.heap.size, 2, none⟩ = some (S t) := hb2.cell 2; have HK2 := hide hk2; clear hk2 hturn2 hb2) | (at_mapUpdate; refine wpList_mapUpdate_own _ rfl _ _ _ 54 rfl 9 9 klaw Try.underlying54 _ b N (D.del (.string n)) rfl hown2 (by unfold maxLen; omega) _ _ _ rfl rfl hkt _ [] (show heldR (S o) = some (.held (S o), []) from rfl) ?_; intro w3 hown3 hgrow3))
      refine bodyPost_end (v := .tuple #[]) ?_ rfl ?_
      · simp [results, Try.results34, go_sem]
      exact ⟨rfl, by rw [HE.out]; exact ⟨_, hown3, (HR.out.del n).set t o⟩, HK2.out.grown hgrow3 (fun k hk _ => by injection hk with hk; exact hk.symm)⟩
    · go_enter Try.func34, Try.ntmps34
      go_wp2_with (first | (at_lookup; refine lookup_held2 _ rfl _ _ 54 rfl 9 9 klaw Try.underlying54 (zero_str _) b _ D rfl hDa _ _ rfl hkn (S o) true hV hB ?_) | (at_delete; refine wpList_delete_own _ rfl _ _ 54 9 rfl 9 klaw Try.underlying54 _ b N D rfl hDa _ _ rfl hkn ?_; intro w2 hown2 hturn2))
      refine bodyPost_end (v := .tuple #[]) ?_ rfl ?_
      · simp [results, Try.results34, go_sem]
      exact ⟨rfl, ⟨_, hown2.mono (by omega), HR.out.del n⟩, HK.out.grown hturn2.grown (fun k hk _ => by injection hk with hk; exact hk.symm)⟩
    · simp at hk
end Go.Proofs.Ytkgljicibjlabaa
