/- A state comes to an instruction: verify's flow, in one form; no statement of the seat is proved here. -/
import Derived.Test.YtmbegaobnpoefaaDoorMCliClone
namespace Go.Proofs.YtmbegaobnpoefaaDoor
open Go.RowKit Go.Maps
set_option linter.unusedVariables false
theorem flow_any (w : World) (B q qa gi g m s n N j : Nat) (T : List Fc) (f : Fl) (b : Bd) (sg : Sg) (tA : Option Addr) (tc : Nat) (td : List Nat) (A : List (Option Vp)) (Z : Nat → Prop) (v : Vs) (la sa : Option Addr) (lc sc : Nat)
  (h : Sy w B q gi g m s n T f b sg (.slice (some ⟨qa, 0, none⟩) N N) (.slice tA td.length tc)) (hk : Vk w B qa Z A tA tc td) (hA : A.length = N) (hN : b.k = N) (hZ : ∀ k, Z k → B ≤ k ∧ k < w.heap.size) (hN2 : N ≤ 100000) (htd : td.length ≤ 1000000000)
  (h1 : Rd w (fun k => k = s ∨ k = q ∨ Z k) 2 la v.lo.length (v.lo.flatMap Ty.cells)) (h2 : Rd w (fun k => k = s ∨ k = q ∨ Z k) 2 sa v.st.length (v.st.flatMap Ty.cells)) (hS : VsS v) (hn : n ≤ 6000000000000000) (hj2 : j ≤ 1000000)
  (hX : ∀ (i : Nat) (x : Vp), A[i]? = some (some x) → VsS x.v ∧ x.v.lo.length = v.lo.length) :
  Calls Tryd.prog 40 #[.pointer (some ⟨q, 0, none⟩), .int .i64 (j : Int), .agg #[.slice la v.lo.length lc, .slice sa v.st.length sc]] w (FlowEnd w B q qa gi g m s n N T f b sg Z (flowM T ⟨A.map (Option.map Vp.v), td⟩ j v)) := by
 by_cases hj : j < N
 ·rcases hx : A[j]? with _ | _ | x
  ·rw [List.getElem?_eq_none_iff] at hx; omega
  ·exact flow_new w B q qa gi g m s n N j T f b sg tA tc td A Z v la sa lc sc h hk hA hN hZ hN2 htd h1 h2 hS hn hj hx
  ·exact flow_old w B q qa gi g m s n N j T f b sg tA tc td A Z v la sa lc sc h hk hA hN hZ hN2 htd h1 h2 hS hn hj x hx (hX j x hx).1 (hX j x hx).2
 ·exact flow_full w B q qa gi g m s n N j T f b sg tA tc td A Z v la sa lc sc h hk hA hN hZ hN2 htd h1 h2 hS hn (by omega) hj2
end Go.Proofs.YtmbegaobnpoefaaDoor
