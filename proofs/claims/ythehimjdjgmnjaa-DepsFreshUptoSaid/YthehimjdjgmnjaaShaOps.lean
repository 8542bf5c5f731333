/- turn, wide, below, root: walked; no statement of the seat is proved here. -/
import Derived.Test.YthehimjdjgmnjaaBase
import Derived.Test.YthehimjdjgmnjaaChecked
namespace Go.Proofs.Ythehimjdjgmnjaa
open Go.RowKit

/-- A word turned round. -/
def rot (x : Int) (n : Nat) : Int := bits .or .u32 (x / 2 ^ n) (x * 2 ^ (32 - n) % 4294967296)

set_option maxRecDepth 100000 in
theorem turn_any (x : Int) (n : Nat) (h1 : 1 ≤ n) (h2 : n < 32) (w : World) : Calls Try.prog 29 #[.int .u32 x, .int .u64 n] w fun e w' => e = .returned (.int .u32 (rot x n)) ∧ w' = w := by
  go_enter Try.func29, Try.ntmps29
  go_wp2_with fail
  go_ret
  exact ⟨rfl, rfl⟩

def lo32 (a : Int) : Int := bits .and .u64 a 4294967295
def hi32 (a : Int) : Int := a / 4294967296
/-- The upper word of a product. -/
def wideHi (a b : Int) : Int :=
  let t := IntKind.u64.wrap (lo32 a * lo32 b)
  let u := IntKind.u64.wrap (IntKind.u64.wrap (hi32 a * lo32 b) + t / 4294967296)
  let v := IntKind.u64.wrap (IntKind.u64.wrap (lo32 a * hi32 b) + bits .and .u64 u 4294967295)
  IntKind.u64.wrap (IntKind.u64.wrap (IntKind.u64.wrap (hi32 a * hi32 b) + u / 4294967296) + v / 4294967296)

set_option maxRecDepth 100000 in
theorem wide_any (a b : Int) (w : World) : Calls Try.prog 44 #[.int .u64 a, .int .u64 b] w fun e w' => e = .returned (.tuple #[.int .u64 (wideHi a b), .int .u64 (IntKind.u64.wrap (a * b))]) ∧ w' = w := by
  go_enter Try.func44, Try.ntmps44
  go_wp2_with fail
  go_ret2
  exact ⟨rfl, rfl⟩

/-- Is a power not above? -/
def belowB (t p : Int) (cube : Bool) : Bool :=
  let hi := wideHi t t
  let lo := IntKind.u64.wrap (t * t)
  if cube then
    let a := wideHi lo t
    let b := IntKind.u64.wrap (lo * t)
    let c := wideHi hi t
    let d := IntKind.u64.wrap (hi * t)
    let mid := IntKind.u64.wrap (d + a)
    let c' := if decide (mid < d) then IntKind.u64.wrap (c + 1) else c
    let top := p / 4294967296
    let next := IntKind.u64.wrap (p * 4294967296)
    if c' == top then (if mid == next then b == 0 else decide (mid < next)) else decide (c' < top)
  else decide (hi < p) || (hi == p && lo == 0)

set_option maxRecDepth 100000 in
set_option maxHeartbeats 4000000 in
theorem below_any (t p : Int) (cube : Bool) (w : World) : Calls Try.prog 40 #[.int .u64 t, .int .u64 p, .bool cube] w fun e w' => e = .returned (.bool (belowB t p cube)) ∧ w' = w := by
  obtain ⟨R, hR⟩ : ∃ R, R = belowB t p cube := ⟨_, rfl⟩
  rw [← hR]
  unfold belowB at hR
  have H1 := hide (wide_any t t w)
  obtain ⟨hi, hhi⟩ : ∃ x, x = wideHi t t := ⟨_, rfl⟩
  obtain ⟨lo, hlo⟩ : ∃ x, x = IntKind.u64.wrap (t * t) := ⟨_, rfl⟩
  rw [← hhi, ← hlo] at H1
  simp only [← hhi, ← hlo] at hR
  have H2 := hide (wide_any lo t w)
  obtain ⟨a, ha⟩ : ∃ x, x = wideHi lo t := ⟨_, rfl⟩
  obtain ⟨b, hb⟩ : ∃ x, x = IntKind.u64.wrap (lo * t) := ⟨_, rfl⟩
  rw [← ha, ← hb] at H2
  simp only [← ha, ← hb] at hR
  have H3 := hide (wide_any hi t w)
  obtain ⟨c, hc⟩ : ∃ x, x = wideHi hi t := ⟨_, rfl⟩
  obtain ⟨d, hd⟩ : ∃ x, x = IntKind.u64.wrap (hi * t) := ⟨_, rfl⟩
  rw [← hc, ← hd] at H3
  simp only [← hc, ← hd] at hR
  clear hhi hlo ha hb hc hd
  cases cube with
  | false =>
    simp only [Bool.false_eq_true, if_false] at hR
    cases g1 : decide (hi < p) <;> rw [g1] at hR
    · cases g2 : (hi == p) <;> rw [g2] at hR
      · have HR := hide (show R = false from hR)
        clear hR H2 H3
        go_enter Try.func40, Try.ntmps40
        go_wp2_with (go_at_call 44; refine H1.out.mono ?_; rintro e w' ⟨rfl, hw'⟩; subst hw')
        go_ret
        exact ⟨by rw [HR.out]; rfl, rfl⟩
      · have HR := hide (show R = (lo == 0) from hR)
        clear hR H2 H3
        go_enter Try.func40, Try.ntmps40
        go_wp2_with (go_at_call 44; refine H1.out.mono ?_; rintro e w' ⟨rfl, hw'⟩; subst hw')
        go_ret
        exact ⟨by rw [HR.out]; rfl, rfl⟩
    · have HR := hide (show R = true from hR)
      clear hR H2 H3
      go_enter Try.func40, Try.ntmps40
      go_wp2_with (go_at_call 44; refine H1.out.mono ?_; rintro e w' ⟨rfl, hw'⟩; subst hw')
      go_ret
      exact ⟨by rw [HR.out]; rfl, rfl⟩
  | true =>
    simp only [if_true] at hR
    cases g1 : decide (IntKind.u64.wrap (d + a) < d) <;> rw [g1] at hR <;> simp only [Bool.false_eq_true, if_false, if_true] at hR
    case' false => obtain ⟨c', hc'⟩ : ∃ x, x = c := ⟨_, rfl⟩
    case' true => obtain ⟨c', hc'⟩ : ∃ x, x = IntKind.u64.wrap (c + 1) := ⟨_, rfl⟩
    all_goals
      cases g2 : (IntKind.u64.wrap (d + a) == IntKind.u64.wrap (p * 4294967296)) <;> rw [g2] at hR <;> simp only [Bool.false_eq_true, if_false, if_true] at hR
    all_goals rw [← hc'] at hR
    all_goals cases g3 : (c' == p / 4294967296) <;> rw [g3] at hR <;> simp only [Bool.false_eq_true, if_false, if_true] at hR
    all_goals
      subst hc'
      have HR := hide hR
      clear hR
      go_enter Try.func40, Try.ntmps40
      go_wp2_with (first | (go_at_call 44; with_reducible refine Calls.mono H1.out ?_; rintro e w' ⟨rfl, hw'⟩; subst hw') | (go_at_call 44; with_reducible refine Calls.mono H2.out ?_; rintro e w' ⟨rfl, hw'⟩; subst hw') | (go_at_call 44; with_reducible refine Calls.mono H3.out ?_; rintro e w' ⟨rfl, hw'⟩; subst hw'))
      go_ret
      exact ⟨by rw [HR.out]; rfl, rfl⟩

/-- A root, bit by bit: the bit that is tried, of n that are left. -/
def bitOf : Nat → Nat
  | 0 => 0
  | n + 1 => 2 ^ n
def rootGo (p : Int) (cube : Bool) : Nat → Int → Int
  | 0, r => r
  | n + 1, r => rootGo p cube n (if belowB (bits .or .u64 r (bitOf (n + 1) : Nat)) p cube then bits .or .u64 r (bitOf (n + 1) : Nat) else r)
def rootM (p : Int) (cube : Bool) : Int := rootGo p cube 36 0 % 4294967296

theorem bitOf_half (n : Nat) : ((bitOf (n + 1) : Nat) : Int) / 2 = (bitOf n : Nat) := by
  cases n with
  | zero => rfl
  | succ n =>
    show ((2 ^ (n + 1) : Nat) : Int) / 2 = ((2 ^ n : Nat) : Int)
    rw [Nat.pow_succ]
    omega
theorem bitOf_pos (n : Nat) : 0 < bitOf (n + 1) := Nat.two_pow_pos n

set_option maxRecDepth 100000 in
set_option maxHeartbeats 2000000 in
theorem root_any (p : Int) (cube : Bool) (w : World) : Calls Try.prog 28 #[.int .u64 p, .bool cube] w fun e w' => e = .returned (.int .u32 (rootM p cube)) ∧ w' = w := by
  obtain ⟨R, hR⟩ : ∃ R, R = rootGo p cube 36 0 := ⟨_, rfl⟩
  have hR2 : rootM p cube = R % 4294967296 := by rw [hR]; rfl
  rw [hR2]
  have HR := hide hR
  clear hR hR2
  go_enter Try.func28, Try.ntmps28
  go_wp2_with fail
  go_loopw [5, 6] (fun r b wr => ∃ (n : Nat) (x : Int), r = .int .u64 x ∧ b = .int .u64 (bitOf n : Nat) ∧ wr = w ∧ R = rootGo p cube n x) (fun _ b _ => (intOf b).toNat)
  case atStart => exact ⟨36, 0, rfl, rfl, rfl, HR.out⟩
  case round =>
    obtain ⟨n, x, rfl, rfl, hw, hg⟩ := hrel
    have HW := hide hw
    clear hw
    cases n with
    | zero =>
      have HG := hide (show R = x from hg)
      have hz : (bitOf 0 : Int) = 0 := rfl
      clear hg
      go_wp2_with fail
      go_ret
      exact ⟨by rw [HG.out]; rfl, HW.out⟩
    | succ n =>
      have hp := bitOf_pos n
      have hh := bitOf_half n
      have HB := hide (below_any (bits .or .u64 x (bitOf (n + 1) : Nat)) p cube wr)
      have HG := hide hg
      clear hg
      obtain ⟨B, hB⟩ : ∃ B, B = belowB (bits .or .u64 x (bitOf (n + 1) : Nat)) p cube := ⟨_, rfl⟩
      rw [← hB] at HB
      have HE := hide hB
      clear hB
      cases B
      · go_wp2_with (go_at_call 40; refine HB.out.mono ?_; rintro e w' ⟨rfl, hw'⟩; subst hw')
        go_roundw
        case rel => exact ⟨n, x, rfl, by first | rfl | rw [hh], HW.out, by rw [HG.out, rootGo, ← HE.out]; rfl⟩
        case measure => simp [intOf]; omega
      · go_wp2_with (go_at_call 40; refine HB.out.mono ?_; rintro e w' ⟨rfl, hw'⟩; subst hw')
        go_roundw
        case rel => exact ⟨n, _, rfl, by first | rfl | rw [hh], HW.out, by rw [HG.out, rootGo, ← HE.out]; rfl⟩
        case measure => simp [intOf]; omega
end Go.Proofs.Ythehimjdjgmnjaa
