/- The newlines of a text: how many a statement, a class has; the closure that counts them, walked; no statement of the seat is proved here. -/
import Derived.Test.YtleccalfcnkklaaDoorKlText
import Derived.Test.YtleccalfcnkklaaDoorLines
namespace Go.Proofs.YtleccalfcnkklaaDoor
open Go.RowKit
set_option linter.unusedVariables false

def nl (s : List UInt8) : Nat := s.count 10
theorem nl_app (a b : List UInt8) : nl (a ++ b) = nl a + nl b := List.count_append
theorem nl_nil : nl [] = 0 := rfl
theorem nl_cons (x : UInt8) (l : List UInt8) : nl (x :: l) = nl l + (if x = 10 then 1 else 0) := by
  unfold nl
  rw [List.count_cons]
  simp
theorem nl_le (s : List UInt8) : nl s ≤ s.length := List.count_le_length
theorem nl_tabs (d : Nat) : nl (tabs d) = 0 := by simp [nl, tabs, List.count_replicate]
theorem nl_flat : ∀ l : List (List UInt8), nl l.flatten = (l.map nl).sum
  | [] => rfl
  | a :: l => by simp only [List.flatten_cons, nl_app, nl_flat l, List.map_cons, List.sum_cons]
theorem nl_join : ∀ l : List (List UInt8), nl (joinC l) = (l.map nl).sum
  | [] => by simp [joinC, Lib.join, List.intercalate, nl]
  | [a] => by simp [joinC, Lib.join, List.intercalate]
  | a :: b :: l => by
    have ih := nl_join (b :: l)
    have e : joinC (a :: b :: l) = a ++ ([44, 32] ++ joinC (b :: l)) := by simp [joinC, Lib.join, List.intercalate]
    have h2 : nl [44, 32] = 0 := by decide
    rw [e, nl_app, nl_app, h2, ih]
    simp only [List.map_cons, List.sum_cons]
    omega
theorem nl_ty (tn : List UInt8) (ta : Bool) : nl (tyT tn ta) = nl tn := by
  have h2 : nl [91, 93] = 0 := by decide
  unfold tyT
  split
  · rw [nl_app, h2, Nat.add_zero]
  · rfl
theorem nl_map {α : Type} {f g : α → List UInt8} : ∀ {l : List α}, (∀ x ∈ l, nl (f x) = nl (g x)) → nl (l.map f).flatten = nl (l.map g).flatten
  | [], _ => rfl
  | a :: l, h => by
    have h1 := h a List.mem_cons_self
    have h2 := nl_map fun x hx => h x (List.mem_cons_of_mem _ hx)
    simp only [List.map_cons, List.flatten_cons, nl_app, h1, h2]
/-- How deep a statement stands changes no newline. -/
theorem St.nl_text (s : St) : ∀ d e : Nat, nl (s.text d) = nl (s.text e) := by
  induction s using St.ind with
  | h s iht ihl =>
    intro d e
    obtain ⟨ds, ln, co, n, tn, ta, eA, ek, ec, es, tA, tk, tc, ts, lA, lk, lc, ls⟩ := s
    have h1 : nl (ts.map fun x => x.text (d + 1)).flatten = nl (ts.map fun x => x.text (e + 1)).flatten := nl_map fun x hx => iht x hx _ _
    have h2 : nl (ls.map fun x => x.text (d + 1)).flatten = nl (ls.map fun x => x.text (e + 1)).flatten := nl_map fun x hx => ihl x hx _ _
    have hb : nl (blockT d (ts.map fun x => x.text (d + 1))) = nl (blockT e (ts.map fun x => x.text (e + 1))) := by simp only [blockT, nl_app, nl_tabs, h1]
    have hl : nl (elseT d ls.length (ls.map fun x => x.text (d + 1))) = nl (elseT e ls.length (ls.map fun x => x.text (e + 1))) := by
      unfold elseT
      split
      · rfl
      · simp only [blockT, nl_app, nl_tabs, h2]
    rw [St.text_mk, St.text_mk]
    unfold stK
    repeat' split
    all_goals simp only [nl_app, nl_tabs, hb, hl]
def vnT (v : Vr) : List UInt8 := v.n ++ v.t.n
def mnT (m : Me) : List UInt8 := m.n ++ m.rn ++ (m.ps.map vnT).flatten
def mWant (m : Me) : Nat := 2 + (m.bs.map fun x => nl (x.text 3)).sum
def Kl.names (c : Kl) : List UInt8 := c.n ++ c.su ++ (c.fs.map vnT).flatten ++ (c.ms.map mnT).flatten
theorem nl_field (v : Vr) : nl (fieldT v) = nl (vnT v) + 1 := by
  have h1 : nl [9, 102, 105, 101, 108, 100, 32] = 0 := by decide
  have h2 : nl [32] = 0 := by decide
  have h3 : nl [59, 10] = 1 := by decide
  simp only [fieldT, vnT, nl_app, nl_ty, h1, h2, h3]
  omega
theorem nl_par (v : Vr) : nl (parT v) = nl (vnT v) := by
  have h2 : nl [32] = 0 := by decide
  simp only [parT, vnT, nl_app, nl_ty, h2]
  omega
theorem nl_body (bs : List St) : nl (bs.map fun x => x.text (1 + 1)).flatten = (bs.map fun x => nl (x.text 3)).sum := by
  rw [nl_flat, List.map_map]
  congr 1
  exact List.map_congr_left fun x _ => St.nl_text x _ _
theorem nl_meth (m : Me) : nl m.textT = nl (mnT m) + mWant m := by
  have h1 : nl (if m.st then [9, 115, 116, 97, 116, 105, 99, 32, 109, 101, 116, 104, 111, 100, 32] else [9, 109, 101, 116, 104, 111, 100, 32] : List UInt8) = 0 := by split <;> decide
  have h2 : nl [32] = 0 := by decide
  have h3 : nl [40] = 0 := by decide
  have h4 : nl [41, 32] = 0 := by decide
  have h5 : nl [123, 10] = 1 := by decide
  have h6 : nl [125] = 0 := by decide
  have h7 : nl [10] = 1 := by decide
  have h8 : (m.ps.map parT).map nl = (m.ps.map vnT).map nl := by
    rw [List.map_map, List.map_map]
    exact List.map_congr_left fun x _ => nl_par x
  have h9 := nl_body m.bs
  simp only [Me.textT, Me.headT, mnT, mWant, blockT, nl_app, nl_ty, nl_tabs, nl_join, h1, h2, h3, h4, h5, h6, h7, h8, h9, nl_flat (m.ps.map vnT)]
  omega
theorem nl_fields : ∀ l : List Vr, nl (l.map fieldT).flatten = nl (l.map vnT).flatten + l.length
  | [] => rfl
  | a :: l => by
    simp only [List.map_cons, List.flatten_cons, nl_app, nl_field, nl_fields l, List.length_cons]
    omega
theorem nl_meths : ∀ l : List Me, nl (l.map Me.textT).flatten = nl (l.map mnT).flatten + (l.map mWant).sum
  | [] => rfl
  | a :: l => by
    simp only [List.map_cons, List.flatten_cons, nl_app, nl_meth, nl_meths l, List.sum_cons]
    omega
/-- THE PLAIN LAW. -/
theorem Kl.nl_text (c : Kl) : nl c.text = nl c.names + (2 + c.fs.length + (c.ms.map mWant).sum) := by
  have h1 : nl [99, 108, 97, 115, 115, 32] = 0 := by decide
  have h2 : nl (if c.su = [] then [] else [32, 101, 120, 116, 101, 110, 100, 115, 32] ++ c.su : List UInt8) = nl c.su := by
    have h0 : nl [32, 101, 120, 116, 101, 110, 100, 115, 32] = 0 := by decide
    split
    · rename_i h; rw [h]
    · rw [nl_app, h0, Nat.zero_add]
  have h3 : nl [32, 123, 10] = 1 := by decide
  have h4 : nl [125, 10] = 1 := by decide
  rw [Kl.text_eq]
  simp only [Kl.pre, Kl.names, nl_app, nl_fields, nl_meths, h1, h2, h3, h4]
  omega
theorem nl_step {s : List UInt8} {j : Nat} (h : j < s.length) : nl (s.take (j + 1)) = nl (s.take j) + (if s[j] = 10 then 1 else 0) := by
  rw [List.take_succ_eq_append_getElem h, nl_app, nl_cons, nl_nil, Nat.zero_add]

set_option maxRecDepth 100000 in
set_option maxHeartbeats 4000000 in
theorem breaks_any (s : List UInt8) (hs : s.length ≤ 140737488351232) (w : World) : Calls Tryd.prog 29 #[S s] w (Gives w (.int .i64 (nl s))) := by
  go_enter Tryd.func29, Tryd.ntmps29
  go_wp2_with fail
  go_loopw [3, 4] (fun a i wr => ∃ j : Nat, j ≤ s.length ∧ i = .int .i64 j ∧ a = .int .i64 (nl (s.take j)) ∧ Hid (Below w.heap.size w wr)) (fun _ i _ => s.length - (intOf i).toNat)
  case atStart => exact ⟨0, Nat.zero_le _, rfl, rfl, hide (Below.refl _ _)⟩
  case round =>
    obtain ⟨j, hj, rfl, rfl, HB⟩ := hrel
    by_cases hlt : j < s.length
    case pos =>
      have hjk : (j : Int) < (s.length : Int) := by omega
      have hst := nl_step hlt
      have hN : nl (s.take j) ≤ 140737488351232 := by
        have h1 := nl_le (s.take j)
        rw [List.length_take] at h1
        omega
      generalize nl (s.take j) = N at hst hN
      by_cases hc : s[j] = 10
      case pos =>
        rw [if_pos hc] at hst
        have hq : ((s[j].toNat : Int) == 10) = true := by rw [hc]; rfl
        go_wp2_with fail
        go_roundw
        case rel => first | exact ⟨j + 1, by omega, by go_num, (by rw [hst]; go_num), HB⟩ | ((repeat apply Exists.intro); exact ⟨⟨j + 1, by omega, by go_num, (by rw [hst]; go_num), HB⟩, rfl⟩)
        case measure => simp [intOf]; omega
      case neg =>
        rw [if_neg hc] at hst
        replace hst : nl (s.take (j + 1)) = N := hst
        have hq : ((s[j].toNat : Int) == 10) = false := by
          simp only [beq_eq_false_iff_ne, ne_eq]
          intro h
          exact hc (UInt8.toNat_inj.1 (by show s[j].toNat = 10; omega))
        go_wp2_with fail
        go_roundw
        case rel => first | exact ⟨j + 1, by omega, by go_num, (by rw [hst]), HB⟩ | ((repeat apply Exists.intro); exact ⟨⟨j + 1, by omega, by go_num, (by rw [hst]), HB⟩, rfl⟩)
        case measure => simp [intOf]; omega
    case neg =>
      obtain rfl : j = s.length := by omega
      have hjk : ¬ ((s.length : Int) < (s.length : Int)) := by omega
      rw [List.take_length]
      go_wp2_with fail
      go_ret
      exact ⟨rfl, HB.out⟩
end Go.Proofs.YtleccalfcnkklaaDoor
