/- Whether a class may stand where it does: what is answered, in plain Lean; the table's calls in one form; no statement of the seat is proved here. -/
import Derived.Test.YtmhnfilingebfaaHierTwice
import Derived.Test.YtmhnfilingebfaaHierPageM
import Derived.Test.YtmhnfilingebfaaHierFitsH
import Derived.Test.YtmhnfilingebfaaAppRd
namespace Go.Proofs.Ytmhnfilingebfaa
open Go.RowKit

/-- A method that is there already, not static, and another one. -/
def ovr (T : List Fc) (su : List UInt8) (m : Sg) : Bool := match memM T m.n false (up T 20 [] su).1 with
  | some (_, o) => !m.st && !decide (m.p = o.p)
  | none => false
def chkM (T : List Fc) (su : List UInt8) : List Sg → Int
  | [] => 0
  | m :: r => if (m.r :: m.ps).all (knownT T) = true then (if ovr T su m = true then 27 else chkM T su r) else 23
def chkL (T : List Fc) (f : Fc) : List Vr → Int
  | [] => chkM T f.su f.ms
  | v :: r => if knownT T v.t = true then (if (memF T v.n (up T 20 [] f.su).1).isSome = true then 6 else chkL T f r) else 23
def lastOf (l : List (List UInt8)) : List UInt8 := l.getLastD []
def chk (T : List Fc) (nm : List UInt8) : Int :=
  if (get T nm).isSome = true ∧ nm ≠ [] then
    (if (up T 20 [] nm).2 = true then (if twiceB (faceF T nm) = true then 6 else chkL T (faceF T nm) (faceF T nm).fs)
     else if (faceF T (lastOf (up T 20 [] nm).1)).su ∈ (up T 20 [] nm).1 then 26 else 23)
  else 23

theorem up_pos {T : List Fc} {nm : List UInt8} (h : (get T nm).isSome = true) (hn : nm ≠ []) : 0 < (up T 20 [] nm).1.length := by
  have key : ∀ (j : Nat) (out : List (List UInt8)) (x : List UInt8), out.length ≤ (up T j out x).1.length := by
    intro j
    induction j with
    | zero => intro out x; simp [up]
    | succ j ih =>
      intro out x
      unfold up
      split
      · simp
      · split
        · have := ih (out ++ [x]) (faceF T x).su
          simp at this
          omega
        · simp
  unfold up
  rw [if_neg hn, if_pos ⟨h, by simp⟩]
  have := key 19 ([] ++ [nm]) (faceF T nm).su
  simp at this
  simp
  omega

theorem last_at {l : List (List UInt8)} (h : 0 < l.length) : l[l.length - 1]'(by omega) = lastOf l := by
  unfold lastOf
  rw [List.getLastD_eq_getLast?, List.getLast?_eq_getElem?, List.getElem?_eq_getElem (by omega)]
  rfl

/-- The table, and what was there but for the seen names. -/
structure Cx (w w' : World) (g m s : Nat) (T : List Fc) (n : Nat) : Prop where
  tab : Tab w' g m s T n
  kp : Keep (fun b => b = s) w w'

section
variable {w w1 w2 : World} {g m s n n' B : Nat} {T : List Fc}
theorem Cx.refl (h : Tab w g m s T n) : Cx w w g m s T n := ⟨h, Keep.refl _ _⟩
theorem Cx.alloc (h : Cx w w1 g m s T n) (o : Obj) : Cx w (w1.alloc o) g m s T n := ⟨h.tab.alloc o, h.kp.alloc o⟩
theorem Cx.step (h : Cx w w1 g m s T n) (ht : Tab w2 g m s T n') (hk : Keep (fun b => b = s) w1 w2) : Cx w w2 g m s T n' := ⟨ht, h.kp.trans' hk (fun _ _ h => h)⟩
theorem Cx.below (h : Cx w w1 g m s T n) (hb : Below w1.heap.size w1 w2) : Cx w w2 g m s T n := h.step (h.tab.below hb) (keep_s2 hb)
theorem Cx.mono (h : Cx w w1 g m s T n) (hn : n ≤ n') : Cx w w1 g m s T n' := ⟨h.tab.mono hn, h.kp⟩
theorem Cx.bel (h : Cx w w1 g m s T n) (hB : B ≤ s) (hs : B ≤ w.heap.size) : Below B w w1 := h.kp.below hs (fun k hk => by omega)
theorem Cx.faces (h : Cx w w1 g m s T n) (hB : B ≤ s) (hs : B ≤ w.heap.size) (hat : ∀ f ∈ T, f.at_ w (fun k => B ≤ k)) : ∀ f ∈ T, f.at_ w1 (fun k => B ≤ k) := fun f hf => (hat f hf).below (h.bel hB hs)
end

theorem Rd.of_own2 {w : World} {base n size : Nat} {e : TypeId} {A : Option Addr} {c : Nat} {xs : List Value} {F : Nat → Prop} (h : w.ownsRow base e size (.slice A n c) n xs) (hF : ∀ k, base ≤ k → ¬ F k) : Rd w F size A n xs := by
  refine ⟨h.1, fun hn => ?_⟩
  obtain ⟨g, cap, hv, hbg, hlt⟩ := h.form hn
  have hA : A = some ⟨g, 0, none⟩ := by injection hv
  subst hA
  refine ⟨g, 0, rfl, hF g hbg, hlt, fun j u hu => ?_⟩
  have := h.cells (g := g) rfl j u hu
  unfold Addr.add at this
  split at this
  · rename_i h0; subst h0; simpa using this
  · simpa using this

/-- Known, of one type just laid. -/
theorem known1_any (g m s : Nat) (T : List Fc) (tn : List UInt8) (ta : Bool) (hsh : short tn) (ww : World) (nn : Nat) (h : Tab ww g m s T nn) (hn : nn ≤ 790000) :
    Calls Try.prog 22 #[.pointer (some ⟨g, 0, none⟩), .slice (some ⟨ww.heap.size, 0, none⟩) 1 1] (ww.alloc (.cells #[S tn, .bool ta] 45))
      (fun e w' => e = .returned (.bool (knownT T ⟨tn, ta⟩)) ∧ Tab w' g m s T (nn + 20) ∧ Keep (fun b => b = s) ww w') := by
  have hl := h.slt
  have hb : Blk (ww.alloc (.cells #[S tn, .bool ta] 45)) ww.heap.size 45 #[S tn, .bool ta] := Blk.new _ _ _
  have hr : Rd (ww.alloc (.cells #[S tn, .bool ta] 45)) (fun b => b = s) 2 (some ⟨ww.heap.size, 0, none⟩) 1 ([(⟨tn, ta⟩ : Ty)].flatMap Ty.cells) := Rd.of_blk hb (by omega) rfl
  refine (knownt_any g m s nn T _ 1 1 [⟨tn, ta⟩] _ (h.alloc _) (by omega) hr rfl (by omega) (by simpa using hsh)).mono fun e w' ⟨h1, h2, h3⟩ => ?_
  exact ⟨by rw [h1]; simp, h2.mono (by omega), ((Keep.refl _ _).alloc _).trans' h3 (fun _ _ h => h)⟩
end Go.Proofs.Ytmhnfilingebfaa
