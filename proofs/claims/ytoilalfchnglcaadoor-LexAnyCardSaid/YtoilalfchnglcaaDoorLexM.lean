/- The lexer in plain words: positions, what is skipped, the next token, all tokens; no statement of the seat is proved here. -/
import Derived.Test.YtoilalfchnglcaaDoorBase
namespace Go.Proofs.YtoilalfchnglcaaDoor
open Go.RowKit

/-- Line and column behind a byte. -/
def posStep (p : Nat × Nat) (c : UInt8) : Nat × Nat := if c = 10 then (p.1 + 1, 1) else (p.1, p.2 + 1)
/-- Line and column at an offset of a text. -/
def pos (s : List UInt8) (n : Nat) : Nat × Nat := (s.take n).foldl posStep (1, 1)
theorem pos_zero (s : List UInt8) : pos s 0 = (1, 1) := rfl
theorem pos_succ (s : List UInt8) (n : Nat) (h : n < s.length) : pos s (n + 1) = posStep (pos s n) (s[n]) := by
  rw [pos, List.take_succ_eq_append_getElem h, List.foldl_append]
  rfl
theorem pos_le (s : List UInt8) : ∀ n, (pos s n).1 ≤ n + 1 ∧ (pos s n).2 ≤ n + 1 ∧ 1 ≤ (pos s n).1 ∧ 1 ≤ (pos s n).2
  | 0 => by rw [pos_zero]; decide
  | n + 1 => by
    have ih := pos_le s n
    by_cases h : n < s.length
    · rw [pos_succ s n h, posStep]
      split <;> simp <;> omega
    · have e : pos s (n + 1) = pos s n := by rw [pos, pos, List.take_of_length_le (by omega), List.take_of_length_le (by omega)]
      rw [e]
      omega

def blankB (c : UInt8) : Bool := c == 32 || c == 9 || c == 10 || c == 13
/-- What is left behind blanks and remarks; true: within a remark. -/
def skipR : Bool → List UInt8 → List UInt8
  | _, [] => []
  | false, c :: r => if blankB c then skipR false r else if c == 47 && r.head? == some 47 then skipR true r else c :: r
  | true, c :: r => if c == 10 then skipR false r else skipR true r
def greatB (c : UInt8) : Bool := decide (65 ≤ c.toNat) && decide (c.toNat ≤ 90)
def smallB (c : UInt8) : Bool := decide (97 ≤ c.toNat) && decide (c.toNat ≤ 122)
def digitB (c : UInt8) : Bool := decide (48 ≤ c.toNat) && decide (c.toNat ≤ 57)
def innerB (c : UInt8) : Bool := greatB c || smallB c || digitB c || c == 95
def wordsL : List (List UInt8) := [[97, 115], [98, 111, 111, 108], [99, 108, 97, 115, 115], [101, 108, 115, 101], [101, 120, 116, 101, 110, 100, 115], [102, 97, 108, 115, 101], [102, 105, 101, 108, 100], [105, 102], [105, 110, 116], [105, 115], [108, 101, 110, 103, 116, 104], [108, 101, 116], [109, 101, 116, 104, 111, 100], [110, 101, 119], [110, 117, 108, 108], [112, 114, 105, 110, 116], [114, 101, 116, 117, 114, 110], [115, 116, 97, 116, 105, 99], [116, 104, 105, 115], [116, 114, 117, 101], [119, 104, 105, 108, 101]]
def marksL : List (List UInt8) := [[61, 61], [33, 61], [60, 61], [38, 38], [124, 124], [43], [45], [42], [47], [37], [60], [61], [33], [40], [41], [91], [93], [123], [125], [59], [44], [46]]
/-- A number of digits; none where it is more than 2^58. -/
def numGo : Nat → List UInt8 → Option Nat
  | n, [] => some n
  | n, c :: r => if 288230376151711744 < n * 10 + (c.toNat - 48) then none else numGo (n * 10 + (c.toNat - 48)) r
/-- A token: its kind, its text, its number. -/
structure Tk where
  kind : Nat
  text : List UInt8
  num : Nat
deriving DecidableEq
def limitM (t : Tk) : Except Nat Tk := if 40 < t.text.length ∧ t.kind ≠ 4 then .error 4 else .ok t
/-- The token that stands at the beginning, or which error there is. -/
def nextM (r : List UInt8) : Except Nat Tk :=
  match r with
  | [] => .ok ⟨0, [], 0⟩
  | c :: _ =>
    if greatB c then limitM ⟨2, r.takeWhile innerB, 0⟩
    else if smallB c then limitM ⟨if wordsL.contains (r.takeWhile innerB) then 1 else 3, r.takeWhile innerB, 0⟩
    else if digitB c then
      match numGo 0 (r.takeWhile digitB) with
      | none => .error 22
      | some n => .ok ⟨4, r.takeWhile digitB, n⟩
    else match marksL.find? fun m => m.isPrefixOf r with
      | none => .error 20
      | some m => .ok ⟨5, m, 0⟩
/-- All tokens, each with its offset; or the error, and where. -/
def lexR : Nat → List UInt8 → Nat → Except (Nat × Nat) (List (Tk × Nat))
  | 0, _, a => .ok [(⟨0, [], 0⟩, a)]
  | f + 1, rest, a =>
    let r := skipR false rest
    let b := a + (rest.length - r.length)
    match nextM r with
    | .error e => .error (e, b)
    | .ok t => if t.kind = 0 then .ok [(t, b)] else match lexR f (r.drop t.text.length) (b + t.text.length) with
      | .error e => .error e
      | .ok ts => .ok ((t, b) :: ts)
def lexM (s : List UInt8) : Except (Nat × Nat) (List (Tk × Nat)) := if 65536 < s.length then .error (4, 0) else lexR (s.length + 1) s 0
theorem lex_head : lexM [97, 46, 66, 49] = .ok [(⟨3, [97], 0⟩, 0), (⟨5, [46], 0⟩, 1), (⟨2, [66, 49], 0⟩, 2), (⟨0, [], 0⟩, 4)] := by rfl
end Go.Proofs.YtoilalfchnglcaaDoor
