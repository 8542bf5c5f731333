/- HierFits, walked: it returns true for every input. -/
import Derived.Test.YtmhnfilingebfaaHierFitsW
import Derived.Test.YtmhnfilingebfaaHierFitsN
import Derived.Test.YtmhnfilingebfaaOpenTy
namespace Go.Proofs.Ytmhnfilingebfaa
open Go.RowKit

theorem fits_law (A : Option Addr) (n c : Nat) (T : List Fc) (t u : Ty) (w : World) (h : FcsAt w (fun k => w.heap.size ≤ k) A n T) (ht : t.ok) (hu : u.ok) :
    Calls Try.prog 5 #[.slice A n c, t.val, u.val] w (Gives w (.bool true)) := by
  obtain ⟨tn, ta⟩ := t
  obtain ⟨un, ua⟩ := u
  by_cases e : tn = nNull
  · subst e
    exact fits_law_null A n c T ta un ua w h hu
  · exact fits_law_else A n c T tn ta un ua w h ht e hu
end Go.Proofs.Ytmhnfilingebfaa
