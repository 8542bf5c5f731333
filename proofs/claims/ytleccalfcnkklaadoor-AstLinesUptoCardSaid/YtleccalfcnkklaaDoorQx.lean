/- A region that draws its order, whose operations read, make new memory and call what touches nothing that was there: each operation is looked at once; no statement of the seat is proved here. -/
import Derived.Test.YtleccalfcnkklaaDoorBase
import Derived.Test.YtleccalfcnkklaaDoorChain
namespace Go.Proofs.YtleccalfcnkklaaDoor
open Go.RowKit

section
variable {P : Program} {ops : Array Oper} {Q : Exit → Act → World → Prop}
theorem ObQ.mk {a : Act} {w : World} {K : Nat → Value → World → Prop} (hmono : ∀ d x w1 w2, K d x w1 → Below w1.heap.size w1 w2 → K d x w2) {i : Nat} {d : Option Nat} {needs : List Nat} {o : Oper} (ho : ops[i]? = some o)
    (h : ∀ (z : Nat → Value) (w' : World), Below w.heap.size w w' → (∀ d ∈ needs, K d (z d) w') → ∀ G : Value → World → Prop, (∀ u w'', Below w'.heap.size w' w'' → (∀ d', d = some d' → K d' u w'') → G u w'') → Runs P o (putsAt needs z a) w' G) :
    Ob P ops a (fun d x _ w' => K d x w') (fun _ w' => Below w.heap.size w w') ⟨i, d, false, [0], needs⟩ :=
  Ob.mk ho fun z w' k _ hb hz G hG => by
    have h1 := h z w' hb hz (fun u w'' => Below w'.heap.size w' w'' ∧ ∀ d', d = some d' → K d' u w'') fun u w'' h1 h2 => ⟨h1, h2⟩
    unfold Runs at h1 ⊢
    revert h1
    generalize (execOp (putsAt needs z a).eval o).run P w' = r
    intro h1
    cases r with
    | ok n w2 =>
      cases n <;> simp only [ComesTo] at h1 ⊢
      case value u => exact hG u w2 (fun d' e => h1.2 d' e) (fun d' v _ hv => hmono _ _ _ _ hv h1.1) (hb.trans (h1.1.mono hb.size))
      case skip => exact hG undef w2 (fun d' e => h1.2 d' e) (fun d' v _ hv => hmono _ _ _ _ hv h1.1) (hb.trans (h1.1.mono hb.size))
      case enter f args => exact h1.mono fun e w'' ⟨u, he, h2⟩ => ⟨u, he, hG u w'' (fun d' e => h2.2 d' e) (fun d' v _ hv => hmono _ _ _ _ hv (by
          exact h2.1)) (hb.trans (h2.1.mono hb.size))⟩
    | halt x w2 => simp only [ComesTo] at h1
theorem region_qx {id : Nat} {a : Act} {w : World} (hm : P.follows .mixedOrders = true) (nds : List Nd) (K : Nat → Value → World → Prop) (hchk : chkAll ops [] nds = true)
    (hob : ∀ nd ∈ nds, Ob P ops a (fun d x _ w' => K d x w') (fun _ w' => Below w.heap.size w w') nd)
    (hend : ∀ (z : Nat → Value) (w' : World), (∀ d ∈ dstsOf nds, K d (z d) w') → Below w.heap.size w w' → Q .normal (putsAt (dstsOf nds) z a) w') : (Code.region id ops true).wp P Q a w :=
  region_chain hm nds [] (fun d x _ w' => K d x w') (fun _ w' => Below w.heap.size w w') hchk (Below.refl _ _).drew hob hend
end

/-- What a slot holds: a value that is known; one that hangs on where a new block lies, and what lies there; anything. -/
inductive Qk where
  | is (u : Value)
  | ex (f : Nat → Value) (T : TypeId) (cs : Array Value)
  | any
def Qk.at_ : Qk → Value → World → Prop
  | .is u, x, _ => x = u
  | .ex f T cs, x, w' => ∃ g, x = f g ∧ Blk w' g T cs
  | .any, _, _ => True
theorem Qk.mono (K : Nat → Qk) : ∀ (d : Nat) (x : Value) (w1 w2 : World), (K d).at_ x w1 → Below w1.heap.size w1 w2 → (K d).at_ x w2 := by
  intro d x w1 w2 h hb
  generalize K d = k at h ⊢
  cases k with
  | is u => exact h
  | any => trivial
  | ex f T cs =>
    obtain ⟨g, e, hB⟩ := h
    exact ⟨g, e, hB.below hb hB.lt⟩
end Go.Proofs.YtleccalfcnkklaaDoor
