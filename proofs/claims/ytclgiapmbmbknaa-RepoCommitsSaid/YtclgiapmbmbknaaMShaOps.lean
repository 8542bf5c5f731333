/- turn, wide, below, root: walked; no statement of the seat is proved here. -/
import Derived.Test.YtclgiapmbmbknaaMBase
import Derived.Test.YtclgiapmbmbknaaChecked
import Derived.Deep.AppendLies
import Derived.Deep.LoopGhost
import Derived.WalkMore
import Derived.Deep.MidRow
import Derived.BigRegion
import Derived.Deep.RegionHeld3
namespace Go.Proofs.Ytclgiapmbmbknaa
open Go.RowKit

/-- A word turned round. -/
def rot (x : Int) (n : Nat) : Int := bits .or .u32 (x / 2 ^ n) (x * 2 ^ (32 - n) % 4294967296)

set_option maxRecDepth 100000 in
theorem turn_any (x : Int) (n : Nat) (h1 : 1 ≤ n) (h2 : n < 32) (w : World) : Calls Try.prog 61 #[.int .u32 x, .int .u64 n] w fun e w' => e = .returned (.int .u32 (rot x n)) ∧ w' = w := by
  go_enter Try.func61, Try.ntmps61
  go_wp2_with fail
  go_ret
  exact ⟨rfl, rfl⟩

def lo32 (a : Int) : Int := bits .and .u64 a 4294967295
def hi32 (a : Int) : Int := a / 4294967296
/-- The upper word of a product. -/
def wideHi (a b : Int) : Int :=
  let t := IntKind.u64.wrap (lo32 a * lo32 b)
  let u := IntKind.u64.wrap (IntKind.u64.wrap (hi32 a * lo32 b) + t / 4294967296)
  let v := IntKind.u64.wrap (IntKind.u64.wrap (lo32 a * hi32 b) + bits .and .u64 u 4294967295)
  IntKind.u64.wrap (IntKind.u64.wrap (IntKind.u64.wrap (hi32 a * hi32 b) + u / 4294967296) + v / 4294967296)

set_option maxRecDepth 100000 in
theorem wide_any (a b : Int) (w : World) : Calls Try.prog 74 #[.int .u64 a, .int .u64 b] w fun e w' => e = .returned (.tuple #[.int .u64 (wideHi a b), .int .u64 (IntKind.u64.wrap (a * b))]) ∧ w' = w := by
  go_enter Try.func74, Try.ntmps74
  go_wp2_with fail
  go_ret2
  exact ⟨rfl, rfl⟩

/-- Is a power not above? -/
def belowB (t p : Int) (cube : Bool) : Bool :=
  let hi := wideHi t t
  let lo := IntKind.u64.wrap (t * t)
  if cube then
    let a := wideHi lo t
    let b := IntKind.u64.wrap (lo * t)
    let c := wideHi hi t
    let d := IntKind.u64.wrap (hi * t)
    let mid := IntKind.u64.wrap (d + a)
    let c' := if decide (mid < d) then IntKind.u64.wrap (c + 1) else c
    let top := p / 4294967296
    let next := IntKind.u64.wrap (p * 4294967296)
    if c' == top then (if mid == next then b == 0 else decide (mid < next)) else decide (c' < top)
  else decide (hi < p) || (hi == p && lo == 0)

set_option maxRecDepth 100000 in
set_option maxHeartbeats 4000000 in
theorem below_any (t p : Int) (cube : Bool) (w : World) : Calls Try.prog 67 #[.int .u64 t, .int .u64 p, .bool cube] w fun e w' => e = .returned (.bool (belowB t p cube)) ∧ w' = w := by
  obtain ⟨R, hR⟩ : ∃ R, R = belowB t p cube := ⟨_, rfl⟩
  rw [← hR]
  unfold belowB at hR
  have H1 := hide (wide_any t t w)
  obtain ⟨hi, hhi⟩ : ∃ x, x = wideHi t t := ⟨_, rfl⟩
  obtain ⟨lo, hlo⟩ : ∃ x, x = IntKind.u64.wrap (t * t) := ⟨_, rfl⟩
  rw [← hhi, ← hlo] at H1
  simp only [← hhi, ← hlo] at hR
  have H2 := hide (wide_any lo t w)
  obtain ⟨a, ha⟩ : ∃ x, x = wideHi lo t := ⟨_, rfl⟩
  obtain ⟨b, hb⟩ : ∃ x, x = IntKind.u64.wrap (lo * t) := ⟨_, rfl⟩
  rw [← ha, ← hb] at H2
  simp only [← ha, ← hb] at hR
  have H3 := hide (wide_any hi t w)
  obtain ⟨c, hc⟩ : ∃ x, x = wideHi hi t := ⟨_, rfl⟩
  obtain ⟨d, hd⟩ : ∃ x, x = IntKind.u64.wrap (hi * t) := ⟨_, rfl⟩
  rw [← hc, ← hd] at H3
  simp only [← hc, ← hd] at hR
  clear hhi hlo ha hb hc hd
  cases cube with
  | false =>
    simp only [Bool.false_eq_true, if_false] at hR
    cases g1 : decide (hi < p) <;> rw [g1] at hR
    · cases g2 : (hi == p) <;> rw [g2] at hR
      · have HR := hide (show R = false from hR)
        clear hR H2 H3
        go_enter Try.func67, Try.ntmps67
        go_wp2_with (go_at_call 74; refine H1.out.mono ?_; rintro e w' ⟨rfl, hw'⟩; subst hw')
        go_ret
        exact ⟨by rw [HR.out]; rfl, rfl⟩
      · have HR := hide (show R = (lo == 0) from hR)
        clear hR H2 H3
        go_enter Try.func67, Try.ntmps67
        go_wp2_with (go_at_call 74; refine H1.out.mono ?_; rintro e w' ⟨rfl, hw'⟩; subst hw')
        go_ret
        exact ⟨by rw [HR.out]; rfl, rfl⟩
    · have HR := hide (show R = true from hR)
      clear hR H2 H3
      go_enter Try.func67, Try.ntmps67
      go_wp2_with (go_at_call 74; refine H1.out.mono ?_; rintro e w' ⟨rfl, hw'⟩; subst hw')
      go_ret
      exact ⟨by rw [HR.out]; rfl, rfl⟩
  | true =>
    simp only [if_true] at hR
    cases g1 : decide (IntKind.u64.wrap (d + a) < d) <;> rw [g1] at hR <;> simp only [Bool.false_eq_true, if_false, if_true] at hR
    case' false => obtain ⟨c', hc'⟩ : ∃ x, x = c := ⟨_, rfl⟩
    case' true => obtain ⟨c', hc'⟩ : ∃ x, x = IntKind.u64.wrap (c + 1) := ⟨_, rfl⟩
    all_goals
      cases g2 : (IntKind.u64.wrap (d + a) == IntKind.u64.wrap (p * 4294967296)) <;> rw [g2] at hR <;> simp only [Bool.false_eq_true, if_false, if_true] at hR
    all_goals rw [← hc'] at hR
    all_goals cases g3 : (c' == p / 4294967296) <;> rw [g3] at hR <;> simp only [Bool.false_eq_true, if_false, if_true] at hR
    all_goals
      subst hc'
      have HR := hide hR
      clear hR
      go_enter Try.func67, Try.ntmps67
      go_wp2_with (first | (go_at_call 74; with_reducible refine Calls.mono H1.out ?_; rintro e w' ⟨rfl, hw'⟩; subst hw') | (go_at_call 74; with_reducible refine Calls.mono H2.out ?_; rintro e w' ⟨rfl, hw'⟩; subst hw') | (go_at_call 74; with_reducible refine Calls.mono H3.out ?_; rintro e w' ⟨rfl, hw'⟩; subst hw'))
      go_ret
      exact ⟨by rw [HR.out]; rfl, rfl⟩

/-- A root, bit by bit: the bit that is tried, of n that are left. -/
def bitOf : Nat → Nat
  | 0 => 0
  | n + 1 => 2 ^ n
def rootGo (p : Int) (cube : Bool) : Nat → Int → Int
  | 0, r => r
  | n + 1, r => rootGo p cube n (if belowB (bits .or .u64 r (bitOf (n + 1) : Nat)) p cube then bits .or .u64 r (bitOf (n + 1) : Nat) else r)
def rootM (p : Int) (cube : Bool) : Int := rootGo p cube 36 0 % 4294967296

theorem bitOf_half (n : Nat) : ((bitOf (n + 1) : Nat) : Int) / 2 = (bitOf n : Nat) := by
  cases n with
  | zero => rfl
  | succ n =>
    show ((2 ^ (n + 1) : Nat) : Int) / 2 = ((2 ^ n : Nat) : Int)
    rw [Nat.pow_succ]
    omega
theorem bitOf_pos (n : Nat) : 0 < bitOf (n + 1) := Nat.two_pow_pos n

set_option maxRecDepth 100000 in
set_option maxHeartbeats 2000000 in
theorem root_any (p : Int) (cube : Bool) (w : World) : Calls Try.prog 60 #[.int .u64 p, .bool cube] w fun e w' => e = .returned (.int .u32 (rootM p cube)) ∧ w' = w := by
  obtain ⟨R, hR⟩ : ∃ R, R = rootGo p cube 36 0 := ⟨_, rfl⟩
  have hR2 : rootM p cube = R % 4294967296 := by rw [hR]; rfl
  rw [hR2]
  have HR := hide hR
  clear hR hR2
  go_enter Try.func60, Try.ntmps60
  go_wp2_with fail
  go_loopw [5, 6] (fun r b wr => ∃ (n : Nat) (x : Int), r = .int .u64 x ∧ b = .int .u64 (bitOf n : Nat) ∧ wr = w ∧ R = rootGo p cube n x) (fun _ b _ => (intOf b).toNat)
  case atStart => exact ⟨36, 0, rfl, rfl, rfl, HR.out⟩
  case round =>
    obtain ⟨n, x, rfl, rfl, hw, hg⟩ := hrel
    have HW := hide hw
    clear hw
    cases n with
    | zero =>
      have HG := hide (show R = x from hg)
      have hz : (bitOf 0 : Int) = 0 := rfl
      clear hg
      go_wp2_with fail
      go_ret
      exact ⟨by rw [HG.out]; rfl, HW.out⟩
    | succ n =>
      have hp := bitOf_pos n
      have hh := bitOf_half n
      have HB := hide (below_any (bits .or .u64 x (bitOf (n + 1) : Nat)) p cube wr)
      have HG := hide hg
      clear hg
      obtain ⟨B, hB⟩ : ∃ B, B = belowB (bits .or .u64 x (bitOf (n + 1) : Nat)) p cube := ⟨_, rfl⟩
      rw [← hB] at HB
      have HE := hide hB
      clear hB
      cases B
      · go_wp2_with (go_at_call 67; refine HB.out.mono ?_; rintro e w' ⟨rfl, hw'⟩; subst hw')
        go_roundw
        case rel => exact ⟨n, x, rfl, by first | rfl | rw [hh], HW.out, by rw [HG.out, rootGo, ← HE.out]; rfl⟩
        case measure => simp [intOf]; omega
      · go_wp2_with (go_at_call 67; refine HB.out.mono ?_; rintro e w' ⟨rfl, hw'⟩; subst hw')
        go_roundw
        case rel => exact ⟨n, _, rfl, by first | rfl | rw [hh], HW.out, by rw [HG.out, rootGo, ← HE.out]; rfl⟩
        case measure => simp [intOf]; omega
end Go.Proofs.Ytclgiapmbmbknaa
/- The first 64 primes, the tables of roots: the closed facts; no statement of the seat is proved here. -/
namespace Go.Proofs.Ytclgiapmbmbknaa
open Go.RowKit

def P64 : List Nat := [2, 3, 5, 7, 11, 13, 17, 19, 23, 29, 31, 37, 41, 43, 47, 53, 59, 61, 67, 71, 73, 79, 83, 89, 97, 101, 103, 107, 109, 113, 127, 131, 137, 139, 149, 151, 157, 163, 167, 173, 179, 181, 191, 193, 197, 199, 211, 223, 227, 229, 233, 239, 241, 251, 257, 263, 269, 271, 277, 281, 283, 293, 307, 311]
def KT : List Int := [1116352408, 1899447441, 3049323471, 3921009573, 961987163, 1508970993, 2453635748, 2870763221, 3624381080, 310598401, 607225278, 1426881987, 1925078388, 2162078206, 2614888103, 3248222580, 3835390401, 4022224774, 264347078, 604807628, 770255983, 1249150122, 1555081692, 1996064986, 2554220882, 2821834349, 2952996808, 3210313671, 3336571891, 3584528711, 113926993, 338241895, 666307205, 773529912, 1294757372, 1396182291, 1695183700, 1986661051, 2177026350, 2456956037, 2730485921, 2820302411, 3259730800, 3345764771, 3516065817, 3600352804, 4094571909, 275423344, 430227734, 506948616, 659060556, 883997877, 958139571, 1322822218, 1537002063, 1747873779, 1955562222, 2024104815, 2227730452, 2361852424, 2428436474, 2756734187, 3204031479, 3329325298]
def HT : List Int := [1779033703, 3144134277, 1013904242, 2773480762, 1359893119, 2600822924, 528734635, 1541459225]

theorem root_k : ∀ i : Fin 64, rootM (P64.getD i.val 0 : Nat) true = KT.getD i.val 0 := by decide +kernel
theorem root_h : ∀ i : Fin 8, rootM (P64.getD i.val 0 : Nat) false = HT.getD i.val 0 := by decide +kernel

/-- The primes below a number. -/
def pl (m : Nat) : List Nat := P64.filter (fun q => decide (q < m))
theorem pl_not : ∀ m : Fin 312, 2 ≤ m.val → ((pl m.val).any fun q => m.val % q == 0) = true → pl (m.val + 1) = pl m.val := by decide +kernel
theorem pl_yes : ∀ m : Fin 312, 2 ≤ m.val → ((pl m.val).any fun q => m.val % q == 0) = false → pl (m.val + 1) = pl m.val ++ [m.val] := by decide +kernel
theorem pl_len : ∀ m : Fin 312, (pl m.val).length < 64 := by decide +kernel
theorem pl_all : pl 312 = P64 := by decide +kernel
theorem pl_pos (m : Nat) : ∀ q ∈ pl m, 2 ≤ q ∧ q ≤ 311 := by
  intro q hq
  have : ∀ q ∈ P64, 2 ≤ q ∧ q ≤ 311 := by decide +kernel
  exact this q (List.mem_filter.1 hq).1

abbrev Q64 (n : Nat) : Value := .int .u64 (n : Int)
abbrev U (x : Int) : Value := .int .u32 x

theorem Rd.of_own2 {w : World} {base n size : Nat} {e : TypeId} {A : Option Addr} {c : Nat} {xs : List Value} {F : Nat → Prop} (h : w.ownsRow base e size (.slice A n c) n xs) (hF : ∀ k, base ≤ k → ¬ F k) : Rd w F size A n xs := by
  refine ⟨h.1, fun hn => ?_⟩
  obtain ⟨g, cap, hv, hbg, hlt⟩ := h.form hn
  have hA : A = some ⟨g, 0, none⟩ := by injection hv
  subst hA
  refine ⟨g, 0, rfl, hF g hbg, hlt, fun j u hu => ?_⟩
  have := h.cells (g := g) rfl j u hu
  unfold Addr.add at this
  split at this
  · rename_i h0; subst h0; simpa using this
  · simpa using this

theorem u64_info : (Try.prog.info? 121).map (fun i => (i.zero, i.size, i.bytes)) = some (some (.int .u64 0), 1, 8) := by kernel_rfl

end Go.Proofs.Ytclgiapmbmbknaa
/- The first 64 primes, walked; no statement of the seat is proved here. -/
namespace Go.Proofs.Ytclgiapmbmbknaa
open Go.RowKit

theorem any_not {L : List Nat} {m j : Nat} (h : ∀ t (ht : t < L.length), t < j → m % L[t] ≠ 0) (hj : L.length ≤ j) : (L.any fun q => m % q == 0) = false := by
  rw [List.any_eq_false]
  intro q hq
  obtain ⟨t, ht, rfl⟩ := List.getElem_of_mem hq
  simpa using h t ht (by omega)
theorem any_yes {L : List Nat} {m j : Nat} (hj : j < L.length) (h : m % L[j] = 0) : (L.any fun q => m % q == 0) = true := by
  rw [List.any_eq_true]
  exact ⟨L[j], List.getElem_mem hj, by simpa using h⟩

set_option maxRecDepth 100000 in
set_option maxHeartbeats 2000000 in
theorem primes_any (w : World) : Calls Try.prog 59 #[.int .i64 64] w fun e w' => ∃ A c, e = .returned (.slice A 64 c) ∧ Below w.heap.size w w' ∧ w'.ownsRow w.heap.size 121 1 (.slice A 64 c) 64 (P64.map Q64) := by
  go_enter Try.func59, Try.ntmps59
  go_wp2_with fail
  go_step3
  go_wp2_with fail
  go_step3
  go_wp2_with fail
  go_loopg [3, 4] 310 (fun g o p wr => ∃ (m : Nat) (A : Option Addr) (c : Nat), m + g = 312 ∧ o = .slice A (pl m).length c ∧ p = Q64 m ∧ 2 ≤ m ∧ Below w.heap.size w wr ∧ wr.ownsRow w.heap.size 121 1 (.slice A (pl m).length c) (pl m).length ((pl m).map Q64))
  case atStart => exact ⟨2, none, 0, rfl, rfl, rfl, by omega, Below.refl _ _, World.ownsRow_nil w w.heap.size 121 1⟩
  case round =>
    obtain ⟨m, A, c, hm, rfl, rfl, h1, hb, hown⟩ := hrel
    obtain ⟨G, hG⟩ : ∃ G, G = gk := ⟨_, rfl⟩
    rw [← hG] at hm
    have HG := hide hG
    clear hG
    obtain ⟨wo, hwo⟩ : ∃ wo : World, wo = wr := ⟨_, rfl⟩
    rw [← hwo] at hb hown ⊢
    clear hwo
    have hR : Rd wo (fun _ => False) 1 A (pl m).length ((pl m).map Q64) := Rd.of_own2 hown (fun _ _ h => h)
    have HB := hide hb
    have HO := hide hown
    clear hb hown
    by_cases hlt : m < 312
    · have hl := pl_len ⟨m, hlt⟩
      have HY := hide (pl_yes ⟨m, hlt⟩ h1)
      have HZ := hide (pl_not ⟨m, hlt⟩ h1)
      have HPOS := hide (pl_pos m)
      obtain ⟨L, hL⟩ : ∃ L, L = pl m := ⟨_, rfl⟩
      simp only [← hL] at hR HO HY HZ HPOS hl ⊢
      clear hL
      obtain ⟨n, hn⟩ : ∃ n, n = L.length := ⟨_, rfl⟩
      have HN := hide hn
      rw [← hn] at hR HO hl ⊢
      clear hn
      go_wp2_with fail
      go_loopg [15] n (fun g2 i wy => ∃ j : Nat, j + g2 = n ∧ i = .int .i64 j ∧ wy = wo ∧ Hid (∀ t (ht : t < L.length), t < j → m % L[t] ≠ 0))
      case atStart => exact ⟨0, by omega, rfl, rfl, fun t _ h => by omega⟩
      case round =>
        obtain ⟨j, hj, rfl, hw, HA⟩ := hrel
        have HW := hide hw
        clear hw
        by_cases hjn : j < n
        · have hjl : j < L.length := by have := HN.out; omega
          obtain ⟨b, o, u, rfl, hu, hc0⟩ := hR.at_ j hjn
          obtain rfl : Q64 L[j] = u := by simpa [hjl] using hu
          clear hu
          have hc : wr.cell? ⟨b, o + j, none⟩ = some (Q64 L[j]) := by rw [HW.out]; exact hc0
          obtain ⟨q, hq⟩ : ∃ q, q = L[j] := ⟨_, rfl⟩
          rw [← hq] at hc
          have hq2 := HPOS.out L[j] (List.getElem_mem hjl)
          rw [← hq] at hq2
          have HQ := hide hq
          clear hq hc0 hR
          have ht : ((m : Int).tmod (q : Int)) = ((m % q : Nat) : Int) := by rw [Int.tmod_eq_emod_of_nonneg (by omega)]; exact (Int.natCast_emod m q).symm
          have hq0 : ((q : Int) == 0) = false := by simp; omega
          cases hz : (((m % q : Nat) : Int) == 0)
          · go_wp2_with fail
            go_roundg (gk - 1)
            case measure => omega
            case rel => exact ⟨j + 1, by omega, by go_num, HW.out, fun t h3 h4 => by
              rcases Nat.lt_or_ge t j with h5 | h5
              · exact HA.out t h3 h5
              · obtain rfl : t = j := by omega
                rw [← HQ.out]
                intro h6
                rw [h6] at hz
                exact absurd hz (by decide)⟩
          · have HV : Hid (pl (m + 1) = L) := hide (HZ.out (any_yes hjl (by
              rw [← HQ.out]
              have := (beq_iff_eq).1 hz
              omega)))
            go_wp2_with fail
            go_roundg (G - 1)
            case measure => have := HG.out; omega
            case rel => exact ⟨m + 1, _, c, by omega, by rw [HV.out, ← HN.out], by go_num, by omega, by rw [HW.out]; exact HB.out, by rw [HV.out, ← HN.out, HW.out]; exact HO.out⟩
        · have HV : Hid (pl (m + 1) = L ++ [m]) := hide (HY.out (any_not HA.out (by have := HN.out; omega)))
          have hbs := HB.out.size
          have hown : wr.ownsRow w.heap.size 121 1 (.slice A n c) n (L.map Q64) := by rw [HW.out]; exact HO.out
          have hbw : w.heap.size ≤ wr.heap.size := by rw [HW.out]; exact hbs
          go_wp2_with (at_builtin; refine app1 rfl (.tmp 24) (.tmp 26) 124 rfl w.heap.size 121 (.int .u64 0) 8 Try.underlying124 u64_info rfl (.slice A n c) n (L.map Q64) rfl hown (Q64 m) rfl rfl (by omega) (by omega) hbw ?_)
          intro a3 c3 w3 hown3 hg3 _
          have hb3 : Below w.heap.size w w3 := (by rw [HW.out] at hg3; exact HB.out.grown hg3 (by omega) (fun k hk => (HO.out.lt k hk).1))
          have HB3 := hide hb3
          have HO3 := hide hown3
          clear hg3 hown hown3 hb3
          go_wp2_with fail
          go_roundg (G - 1)
          case measure => have := HG.out; omega
          case rel => exact ⟨m + 1, a3, c3, by omega, by rw [HV.out]; simp [HN.out], by go_num, by omega, HB3.out, by rw [HV.out, List.map_append]; simpa [HN.out] using HO3.out⟩
    · obtain rfl : m = 312 := by omega
      rw [pl_all] at HO hR ⊢
      have hl : P64.length = 64 := rfl
      rw [hl] at HO hR ⊢
      go_wp2_with fail
      rw [Exit.noGoto_ret]
      go_ret
      exact ⟨A, c, rfl, HB.out, HO.out⟩
end Go.Proofs.Ytclgiapmbmbknaa
/- Arrays in blocks of their own: a whole array read and written; no statement of the seat is proved here. -/
namespace Go.Proofs.Ytclgiapmbmbknaa
open Go.RowKit

section
variable {F : Nat → Prop} {w w1 : World} {g : Nat} {t : TypeId} {cs : Array Value}
theorem Keep.setCells {b : Nat} (hp : b < w.heap.size → F b) : ∀ (vs : List Value) (o : Nat) {w1 : World}, Keep F w w1 → Keep F w (w1.setCells b o vs)
  | [], _, _, h => h
  | v :: r, o, _, h => Keep.setCells hp r (o + 1) (h.setCell (p := ⟨b, o, none⟩) hp v)
theorem bcells {B b : Nat} (hp : B ≤ b) : ∀ (vs : List Value) (o : Nat) {w1 : World}, Below B w w1 → Below B w (w1.setCells b o vs)
  | [], _, _, h => h
  | v :: r, o, _, h => bcells hp r (o + 1) (h.setCell (p := ⟨b, o, none⟩) hp v)
theorem Blk.range (h : Blk w g t cs) : w.rangeAt g 0 cs.toList := fun j v hv => by
  rw [h.cell (0 + j), Nat.zero_add]
  simpa using hv
theorem Blk.there_ (h : Blk w g t cs) {n : Nat} (hn : n = cs.size) : w.there g 0 n := fun j hj => by
  rw [h.cell (0 + j), h.frozen, Nat.zero_add]
  have : j < cs.size := by omega
  simp [this]
theorem Blk.cells_ : ∀ (vs : List Value) (o : Nat) {w : World} {cs : Array Value}, Blk w g t cs → o + vs.length ≤ cs.size →
    ∃ ds : Array Value, Blk (w.setCells g o vs) g t ds ∧ ds.size = cs.size ∧ ∀ i, ds[i]? = if o ≤ i ∧ i < o + vs.length then vs[i - o]? else cs[i]?
  | [], o, w, cs, h, _ => ⟨cs, h, rfl, fun i => by rw [if_neg (by simp)]⟩
  | v :: r, o, w, cs, h, hl => by
    simp at hl
    obtain ⟨ds, h1, h2, h3⟩ := Blk.cells_ r (o + 1) (h.set_ o v) (by simp; omega)
    refine ⟨ds, h1, by rw [h2]; simp, fun i => ?_⟩
    rw [h3 i]
    by_cases hi : i = o
    · subst hi
      rw [if_neg (by omega), if_pos (by simp)]
      have : i < cs.size := by omega
      simp [this]
    · by_cases hr : o + 1 ≤ i ∧ i < o + 1 + r.length
      · rw [if_pos hr, if_pos (by simp; omega)]
        obtain ⟨m, rfl⟩ : ∃ m, i = o + 1 + m := ⟨i - (o + 1), by omega⟩
        rw [show o + 1 + m - o = m + 1 by omega, show o + 1 + m - (o + 1) = m by omega]
        simp
      · rw [if_neg hr, if_neg (by simp; omega), Array.getElem?_setIfInBounds_ne (by omega)]
/-- The whole array is written. -/
theorem Blk.cells_all (h : Blk w g t cs) (vs : List Value) (hl : vs.length = cs.size) : Blk (w.setCells g 0 vs) g t vs.toArray := by
  obtain ⟨ds, h1, h2, h3⟩ := Blk.cells_ vs 0 h (by omega)
  have : ds = vs.toArray := by
    apply Array.ext_getElem?
    intro i
    rw [h3 i]
    by_cases hi : i < vs.length
    · rw [if_pos (by omega)]; simp
    · rw [if_neg (by omega), Array.getElem?_eq_none (by omega)]; simp; omega
  rw [← this]
  exact h1
theorem Blk.cells_far {b : Nat} (h : Blk w g t cs) (hne : g ≠ b) : ∀ (vs : List Value) (o : Nat) {w : World}, Blk w g t cs → Blk (w.setCells b o vs) g t cs
  | [], _, _, h => h
  | v :: r, o, _, h' => Blk.cells_far h hne r (o + 1) (h'.far (p := ⟨b, o, none⟩) hne v)
theorem Blk.cfar {b : Nat} (h : Blk w g t cs) (hne : g ≠ b) (vs : List Value) (o : Nat) : Blk (w.setCells b o vs) g t cs := Blk.cells_far h hne vs o h
theorem Blk.loads {P : Program} {ty : TypeId} {d : TypeDesc} (h : Blk w g t cs) (hu : P.underlying ty = some d) (hd : d.isRow = true) (hi : (P.info? ty).map (·.size) = some cs.size) :
    (loadVar ty ⟨g, 0, none⟩).run P w = .ok (.agg cs) w := by
  have := run_loadVar_mid (P := P) w g 0 ty cs.toList d h.range hu hd (by simpa using hi)
  simpa using this
end

theorem results_cell1 {P : Program} {fn : Func} {p : Tmp} {tp : TypeId} (h : fn.results = #[.cell p tp]) (tmps : Array Value) (w : World) (a : Addr) (v : Value)
    (hp : tmps.getD p undef = .pointer (some a)) (hl : (loadVar tp a).run P w = .ok v w) : (results fn tmps).run P w = .ok v w := by
  have hp' : tmps[p]?.getD undef = .pointer (some a) := by simpa using hp
  simp [results, h, hp', asAddr, hl]
theorem results_cell2 {P : Program} {fn : Func} {p q : Tmp} {tp tq : TypeId} (h : fn.results = #[.cell p tp, .cell q tq]) (tmps : Array Value) (w : World) (a b : Addr) (v u : Value)
    (hp : tmps.getD p undef = .pointer (some a)) (hl : (loadVar tp a).run P w = .ok v w) (hq : tmps.getD q undef = .pointer (some b)) (hm : (loadVar tq b).run P w = .ok u w) : (results fn tmps).run P w = .ok (.tuple #[v, u]) w := by
  have hp' : tmps[p]?.getD undef = .pointer (some a) := by simpa using hp
  have hq' : tmps[q]?.getD undef = .pointer (some b) := by simpa using hq
  simp [results, h, hp', hq', asAddr, hl, hm]
end Go.Proofs.Ytclgiapmbmbknaa
/- The tables of roots, walked; no statement of the seat is proved here. -/
namespace Go.Proofs.Ytclgiapmbmbknaa
open Go.RowKit

def arr (l : List Int) : Array Value := (l.map U).toArray
theorem arr_set (l : List Int) (i : Nat) (x : Int) : (arr l).setIfInBounds i (U x) = arr (l.set i x) := by simp [arr]
theorem arr_at (l : List Int) (i : Nat) : (arr l)[i]? = (l[i]?).map U := by simp [arr]
/-- A table as far as it is filled. -/
def part (T : List Int) (n i : Nat) : List Int := T.take i ++ List.replicate (n - i) 0
theorem part_k : ∀ i : Fin 64, (part KT 64 i.val).set i.val (KT.getD i.val 0) = part KT 64 (i.val + 1) := by decide +kernel
theorem part_h : ∀ i : Fin 8, (part HT 8 i.val).set i.val (HT.getD i.val 0) = part HT 8 (i.val + 1) := by decide +kernel
theorem part_hh : ∀ i : Fin 65, 8 ≤ i.val → part HT 8 i.val = HT := by decide +kernel
theorem part_k64 : part KT 64 64 = KT := by decide +kernel
theorem part_len : ∀ i : Fin 65, (part KT 64 i.val).length = 64 ∧ (part HT 8 i.val).length = 8 := by decide +kernel
theorem p64_get : ∀ i : Fin 64, P64[i.val]? = some (P64.getD i.val 0) := by decide +kernel
theorem p64_at (i : Fin 64) : (P64.map Q64)[i.val]? = some (Q64 (P64.getD i.val 0)) := by rw [List.getElem?_map, p64_get]; rfl

theorem four_new {w wp : World} {a b c d : Obj} (hb : Below ((((w.alloc a).alloc b).alloc c).alloc d).heap.size ((((w.alloc a).alloc b).alloc c).alloc d) wp) :
    wp.heap[w.heap.size]? = some a ∧ wp.heap[w.heap.size + 1]? = some b ∧ wp.heap[w.heap.size + 2]? = some c ∧ wp.heap[w.heap.size + 3]? = some d ∧ Below w.heap.size w wp := by
  have e1 : (w.alloc a).heap.size = w.heap.size + 1 := by simp
  have e2 : ((w.alloc a).alloc b).heap.size = w.heap.size + 2 := by simp
  have e3 : (((w.alloc a).alloc b).alloc c).heap.size = w.heap.size + 3 := by simp
  have e4 : ((((w.alloc a).alloc b).alloc c).alloc d).heap.size = w.heap.size + 4 := by simp
  rw [e4] at hb
  refine ⟨?_, ?_, ?_, ?_, ?_⟩
  · rw [hb.block _ (by omega), Below.heap_alloc _ _ _ (by simp; try omega), Below.heap_alloc _ _ _ (by simp; try omega), Below.heap_alloc _ _ _ (by simp; try omega)]; exact heap_alloc_new _ _
  · rw [hb.block _ (by omega), Below.heap_alloc _ _ _ (by simp; try omega), Below.heap_alloc _ _ _ (by simp; try omega), ← e1]; exact heap_alloc_new _ _
  · rw [hb.block _ (by omega), Below.heap_alloc _ _ _ (by simp; try omega), ← e2]; exact heap_alloc_new _ _
  · rw [hb.block _ (by omega), ← e3]; exact heap_alloc_new _ _
  · exact ((((Below.refl _ _).alloc (Nat.le_refl _) _).alloc (by simp) _).alloc (by simp; omega) _).alloc (by simp; omega) _ |>.trans (hb.mono (by omega))

structure TabInv (w wr : World) (A : Option Addr) (k : Nat) : Prop where
  b0 : Blk wr w.heap.size 104 (arr (List.replicate 8 0))
  b1 : Blk wr (w.heap.size + 1) 105 (arr (List.replicate 64 0))
  b2 : Blk wr (w.heap.size + 2) 104 (arr (part HT 8 k))
  b3 : Blk wr (w.heap.size + 3) 105 (arr (part KT 64 k))
  rd : Rd wr (fun x => x < w.heap.size + 4) 1 A 64 (P64.map Q64)
  bel : Below w.heap.size w wr

theorem tab_next1 {w wr : World} {A : Option Addr} {k : Nat} (h : TabInv w wr A k) (hk : k < 64) (h8 : ¬ k < 8) {x : Int} (h3 : x = KT.getD k 0) :
    TabInv w (wr.setCell ⟨w.heap.size + 3, k, none⟩ (.int .u32 x)) A (k + 1) := by
  subst h3
  refine ⟨h.b0.far (by simp) _, h.b1.far (by simp) _, ?_, ?_, ?_, h.bel.setCell (by simp) _⟩
  · have := h.b2.far (p := ⟨w.heap.size + 3, k, none⟩) (by simp) (.int .u32 (KT.getD k 0))
    rw [part_hh ⟨k + 1, by omega⟩ (show 8 ≤ k + 1 by omega)]
    rwa [part_hh ⟨k, by omega⟩ (show 8 ≤ k by omega)] at this
  · have := h.b3.set_ k (.int .u32 (KT.getD k 0))
    rwa [arr_set, part_k ⟨k, hk⟩] at this
  · exact h.rd.keep ((Keep.refl _ _).setCell (by simp) _)
theorem tab_next2 {w wr : World} {A : Option Addr} {k : Nat} (h : TabInv w wr A k) (hk : k < 64) (h8 : k < 8) {x y : Int} (h2 : y = HT.getD k 0) (h3 : x = KT.getD k 0) :
    TabInv w ((wr.setCell ⟨w.heap.size + 2, k, none⟩ (.int .u32 y)).setCell ⟨w.heap.size + 3, k, none⟩ (.int .u32 x)) A (k + 1) := by
  subst h3 h2
  refine ⟨(h.b0.far (by simp) _).far (by simp) _, (h.b1.far (by simp) _).far (by simp) _, ?_, ?_, ?_, (h.bel.setCell (by simp) _).setCell (by simp) _⟩
  · have := (h.b2.set_ k (.int .u32 (HT.getD k 0))).far (p := ⟨w.heap.size + 3, k, none⟩) (by simp) (.int .u32 (KT.getD k 0))
    rwa [arr_set, part_h ⟨k, h8⟩] at this
  · have := (h.b3.far (p := ⟨w.heap.size + 2, k, none⟩) (by simp) (.int .u32 (HT.getD k 0))).set_ k (.int .u32 (KT.getD k 0))
    rwa [arr_set, part_k ⟨k, hk⟩] at this
  · exact h.rd.keep (((Keep.refl _ _).setCell (by simp) _).setCell (by simp) _)

structure EndInv (w wr : World) : Prop where
  b0 : ∃ cs, cs.size = 8 ∧ Blk wr w.heap.size 104 cs
  b1 : ∃ cs, cs.size = 64 ∧ Blk wr (w.heap.size + 1) 105 cs
  b2 : Blk wr (w.heap.size + 1 + 1) 104 (arr HT)
  b3 : Blk wr (w.heap.size + 1 + 1 + 1) 105 (arr KT)
  bel : Below w.heap.size w wr
theorem end_start {w wr : World} {A : Option Addr} (h : TabInv w wr A 64) : EndInv w wr.drew := by
  refine ⟨⟨_, by simp [arr], h.b0⟩, ⟨_, by simp [arr], h.b1⟩, ?_, ?_, h.bel.drew⟩
  · have := h.b2
    rwa [part_hh ⟨64, by omega⟩ (by simp)] at this
  · have := h.b3
    rwa [part_k64] at this

theorem end_there0 {w wr : World} (h : EndInv w wr) : wr.there w.heap.size 0 (arr HT).size := by
  obtain ⟨cs, hl, hB⟩ := h.b0
  exact hB.there_ (by rw [hl]; rfl)
theorem end_there1 {w wr : World} (h : EndInv w wr) : wr.there (w.heap.size + 1) 0 (arr KT).size := by
  obtain ⟨cs, hl, hB⟩ := h.b1
  exact hB.there_ (by rw [hl]; rfl)
theorem end_s0 {w wr : World} (h : EndInv w wr) : EndInv w (wr.setCells w.heap.size 0 (arr HT).toList) := by
  obtain ⟨cs, hl, hB⟩ := h.b0
  obtain ⟨ds, hm, hD⟩ := h.b1
  exact ⟨⟨_, by simp [arr, HT], hB.cells_all _ (by rw [hl]; rfl)⟩, ⟨ds, hm, hD.cells_far (by omega) _ _ hD⟩, h.b2.cells_far (by omega) _ _ h.b2, h.b3.cells_far (by omega) _ _ h.b3, bcells (Nat.le_refl _) _ _ h.bel⟩
theorem end_s1 {w wr : World} (h : EndInv w wr) : EndInv w (wr.setCells (w.heap.size + 1) 0 (arr KT).toList) := by
  obtain ⟨cs, hl, hB⟩ := h.b0
  obtain ⟨ds, hm, hD⟩ := h.b1
  exact ⟨⟨cs, hl, hB.cells_far (by omega) _ _ hB⟩, ⟨_, by simp [arr, KT], hD.cells_all _ (by rw [hm]; rfl)⟩, h.b2.cells_far (by omega) _ _ h.b2, h.b3.cells_far (by omega) _ _ h.b3, bcells (by omega) _ _ h.bel⟩

theorem end_all {w wr : World} (h : EndInv w wr) : Blk ((wr.setCells w.heap.size 0 (arr HT).toList).setCells (w.heap.size + 1) 0 (arr KT).toList) w.heap.size 104 (arr HT) ∧
    Blk ((wr.setCells w.heap.size 0 (arr HT).toList).setCells (w.heap.size + 1) 0 (arr KT).toList) (w.heap.size + 1) 105 (arr KT) ∧ Below w.heap.size w ((wr.setCells w.heap.size 0 (arr HT).toList).setCells (w.heap.size + 1) 0 (arr KT).toList) := by
  obtain ⟨cs, hl, hB⟩ := h.b0
  obtain ⟨ds, hm, hD⟩ := (end_s0 h).b1
  have h0 := hB.cells_all (arr HT).toList (by rw [hl]; rfl)
  have h1 := hD.cells_all (arr KT).toList (by rw [hm]; rfl)
  rw [Array.toArray_toList] at h0 h1
  exact ⟨h0.cells_far (by omega) _ _ h0, h1, (end_s1 (end_s0 h)).bel⟩

set_option maxRecDepth 100000 in
set_option maxHeartbeats 4000000 in
theorem tables_any (w : World) : Calls Try.prog 48 #[] w fun e w' => e = .returned (.tuple #[.agg (arr HT), .agg (arr KT)]) ∧ Below w.heap.size w w' := by
  go_enter Try.func48, Try.ntmps48
  go_wp2_with (go_at_call 59; refine (primes_any _).mono ?_; rintro e wp ⟨A, c, rfl, hbp, hown⟩; obtain ⟨h0, h1, h2, h3, hb⟩ := four_new hbp; have hrd := hide (Rd.of_own2 (F := fun x => x < w.heap.size + 4) hown (fun x hx => by simp at hx; omega)); clear hbp hown)
  go_loopw [8] (fun i wr => ∃ k : Nat, k ≤ 64 ∧ i = .int .i64 k ∧ TabInv w wr A k) (fun i _ => 64 - (intOf i).toNat)
  case atStart => exact ⟨0, by omega, rfl, h0, h1, h2, h3, hrd.out, hb⟩
  case round =>
    clear h0 h1 h2 h3 hb hrd
    obtain ⟨k, hk, rfl, hI⟩ := hrel
    have HI := hide hI
    clear hI
    by_cases hlt : k < 64
    · obtain ⟨b, o, u, rfl, hu, hc⟩ := HI.out.rd.at_ k hlt
      obtain rfl : Q64 (P64.getD k 0) = u := by have := p64_at ⟨k, hlt⟩; simp only [this] at hu; injection hu
      clear hu
      obtain ⟨p, hp⟩ : ∃ p : Int, p = (P64.getD k 0 : Nat) := ⟨_, rfl⟩
      rw [show Q64 (P64.getD k 0) = .int .u64 p by rw [hp]] at hc
      have HP := hide hp
      clear hp
      have HK3 : Hid (rootM p true = KT.getD k 0) := by rw [HP.out]; exact root_k ⟨k, hlt⟩
      have g3 : wr.cell? ⟨w.heap.size + 3, k, none⟩ = some (U ((part KT 64 k).getD k 0)) := by
        rw [HI.out.b3.cell, arr_at]
        have := (part_len ⟨k, by omega⟩).1
        simp at this
        simp [this, hlt]
      have f3 : wr.frozen? ⟨w.heap.size + 3, k, none⟩ = false := HI.out.b3.frozen k
      by_cases h8 : k < 8
      · have HK2 : Hid (rootM p false = HT.getD k 0) := by rw [HP.out]; exact root_h ⟨k, h8⟩
        have g2 : wr.cell? ⟨w.heap.size + 2, k, none⟩ = some (U ((part HT 8 k).getD k 0)) := by
          rw [HI.out.b2.cell, arr_at]
          have := (part_len ⟨k, by omega⟩).2
          simp at this
          simp [this, h8]
        have f2 : wr.frozen? ⟨w.heap.size + 2, k, none⟩ = false := HI.out.b2.frozen k
        go_wp2_with (first | (go_at_call 60; refine (root_any _ _ _).mono ?_; rintro e w' ⟨rfl, hw'⟩; subst hw'))
        go_roundw
        case rel => exact ⟨k + 1, by omega, by go_num, tab_next2 HI.out hlt h8 HK2.out HK3.out⟩
        case measure => simp [intOf]; omega
      · go_wp2_with (first | (go_at_call 60; refine (root_any _ _ _).mono ?_; rintro e w' ⟨rfl, hw'⟩; subst hw'))
        go_roundw
        case rel => exact ⟨k + 1, by omega, by go_num, tab_next1 HI.out hlt h8 HK3.out⟩
        case measure => simp [intOf]; omega
    · obtain rfl : k = 64 := by omega
      clear hlt
      go_wp2_with fail
      refine wp_region_noPanic ?_
      refine wp_region_held_drew (S := fun w' => EndInv w w') (by kernel_rfl) ?_ (fun hHeld => ?_)
      · exact end_start HI.out
      clear HI
      have H0 := hHeld
      refine wpAnyH_take (i := 0) (by simp only [List.getElem?_toArray, List.getElem?_cons_zero]; rfl) (by kernel_rfl) (by kernel_rfl) (by kernel_rfl) (fun _ _ _ h => h) (yieldsIf_load_mid (by rfl) _ _ rfl _ _ rfl (arr HT).toList _ (fun _ h => h.b2.range) Try.underlying104 rfl (by kernel_rfl)) (by assumption) ?_
      simp only [Act.put, List.setIfInBounds_toArray, List.set_cons_zero, List.set_cons_succ, Array.toArray_toList]
      refine wpAnyH_take (i := 1) (by simp only [List.getElem?_toArray, List.getElem?_cons_zero, List.getElem?_cons_succ]; rfl) (by kernel_rfl) (by kernel_rfl) (by kernel_rfl) (fun _ _ _ h => h) (yieldsIf_load_mid (by rfl) _ _ rfl _ _ rfl (arr KT).toList _ (fun _ h => h.b3.range) Try.underlying105 rfl (by kernel_rfl)) (by assumption) ?_
      simp only [Act.put, List.setIfInBounds_toArray, List.set_cons_zero, List.set_cons_succ, Array.toArray_toList]
      refine wpAnyH_ready (rs := [2]) (by kernel_rfl) (by simp) ?_
      refine AllReadyH.cons (by simp only [List.getElem?_toArray, List.getElem?_cons_zero, List.getElem?_cons_succ]; rfl) (fun K hK => ?_) AllReadyH.nil
      rw [if_pos (by rfl)]
      refine wp_store_mid _ _ _ rfl _ _ (arr HT) rfl rfl (end_there0 hHeld) (by kernel_rfl) (by simp [arr, Value.oneCell']) ?_
      simp only [Act.put]
      refine hK.out _ _ (end_s0 hHeld) (fun hHeld => ?_)
      clear hK K
      refine wpAnyH_ready (rs := [3]) (by kernel_rfl) (by simp) ?_
      refine AllReadyH.cons (by simp only [List.getElem?_toArray, List.getElem?_cons_zero, List.getElem?_cons_succ]; rfl) (fun K hK => ?_) AllReadyH.nil
      rw [if_pos (by rfl)]
      have q1 := end_there1 hHeld
      have q2 : (Try.prog.info? 105).map (·.size) = some (arr KT).size := by kernel_rfl
      have q3 : (arr KT).all (·.oneCell') = true := by simp [arr, Value.oneCell']
      generalize hKT : arr KT = ak at q1 q2 q3 ⊢
      refine wp_store_mid _ _ _ rfl _ _ ak rfl rfl q1 q2 q3 ?_
      clear q1 q2 q3
      subst hKT
      simp only [Act.put]
      refine hK.out _ _ (end_s1 hHeld) (fun hHeld => ?_)
      clear hK K
      refine wpAnyH_done (by kernel_rfl) ?_ _
      refine NoPanic.normal ?_
      have HF := hide (end_all H0)
      clear H0 hHeld
      go_wp2_with fail
      exact bodyPost_ret (results_cell2 rfl _ _ ⟨w.heap.size, 0, none⟩ ⟨w.heap.size + 1, 0, none⟩ (.agg (arr HT)) (.agg (arr KT)) rfl (HF.out.1.loads Try.underlying104 rfl (by kernel_rfl)) rfl (HF.out.2.1.loads Try.underlying105 rfl (by kernel_rfl))) rfl ⟨rfl, HF.out.2.2⟩
end Go.Proofs.Ytclgiapmbmbknaa
/- What sha.block computes, in plain words; no statement of the seat is proved here. -/
namespace Go.Proofs.Ytclgiapmbmbknaa
open Go.RowKit

abbrev M32 : Int := 4294967296
/-- A word of four bytes, the greatest first. -/
def w4 (b0 b1 b2 b3 : UInt8) : Int :=
  bits .or .u32 (bits .or .u32 (bits .or .u32 ((b0.toNat : Int) % 4294967296 * 16777216 % 4294967296) ((b1.toNat : Int) % 4294967296 * 65536 % 4294967296)) ((b2.toNat : Int) % 4294967296 * 256 % 4294967296)) ((b3.toNat : Int) % 4294967296)
def word (bs : List UInt8) (k : Nat) : Int := w4 (bs.getD (4 * k) 0) (bs.getD (4 * k + 1) 0) (bs.getD (4 * k + 2) 0) (bs.getD (4 * k + 3) 0)
def sg0 (x : Int) : Int := bits .xor .u32 (bits .xor .u32 (rot x 7) (rot x 18)) (x / 8)
def sg1 (x : Int) : Int := bits .xor .u32 (bits .xor .u32 (rot x 17) (rot x 19)) (x / 1024)
def sNext (a b c d : Int) : Int := (a + sg0 b + c + sg1 d) % 4294967296
/-- The words of the first sixteen, as far as they are laid. -/
def schA (f : Nat → Int) : Nat → List Int
  | 0 => List.replicate 64 0
  | k + 1 => (schA f k).set k (f k)
def schB (l : List Int) : Nat → List Int
  | 0 => l
  | k + 1 => (schB l k).set (16 + k) (sNext ((schB l k).getD k 0) ((schB l k).getD (k + 1) 0) ((schB l k).getD (k + 9) 0) ((schB l k).getD (k + 14) 0))
def bs0 (x : Int) : Int := bits .xor .u32 (bits .xor .u32 (rot x 2) (rot x 13)) (rot x 22)
def bs1 (x : Int) : Int := bits .xor .u32 (bits .xor .u32 (rot x 6) (rot x 11)) (rot x 25)
def inv32 (x : Int) : Int := bits .xor .u32 IntKind.u32.max x
def chM (x y z : Int) : Int := bits .xor .u32 (bits .and .u32 x y) (bits .and .u32 (inv32 x) z)
def majM (x y z : Int) : Int := bits .xor .u32 (bits .xor .u32 (bits .and .u32 x y) (bits .and .u32 x z)) (bits .and .u32 y z)
def tM (x4 x5 x6 x7 kk ww : Int) : Int := x7 + bs1 x4 + chM x4 x5 x6 + kk + ww
def vM (x0 x1 x2 : Int) : Int := bs0 x0 + majM x0 x1 x2
def rnd : List Int → Int → Int → List Int
  | [x0, x1, x2, x3, x4, x5, x6, x7], kk, ww => [(tM x4 x5 x6 x7 kk ww + vM x0 x1 x2) % 4294967296, x0, x1, x2, (x3 + tM x4 x5 x6 x7 kk ww) % 4294967296, x4, x5, x6]
  | l, _, _ => l
def rounds (x kt wt : List Int) : Nat → List Int
  | 0 => x
  | k + 1 => rnd (rounds x kt wt k) (kt.getD k 0) (wt.getD k 0)
def addK (hh xx : List Int) : Nat → List Int
  | 0 => hh
  | k + 1 => (addK hh xx k).set k (((addK hh xx k).getD k 0 + xx.getD k 0) % 4294967296)
def schM (bs : List UInt8) : List Int := schB (schA (word bs) 16) 48
def blockM (hh kk : List Int) (bs : List UInt8) : List Int := addK hh (rounds hh kk (schM bs) 64) 8

theorem schA_len (f : Nat → Int) : ∀ k, (schA f k).length = 64
  | 0 => by simp [schA]
  | k + 1 => by simp [schA, schA_len f k]
theorem schB_len (l : List Int) : ∀ k, (schB l k).length = l.length
  | 0 => rfl
  | k + 1 => by simp [schB, schB_len l k]
theorem addK_len (hh xx : List Int) : ∀ k, (addK hh xx k).length = hh.length
  | 0 => rfl
  | k + 1 => by simp [addK, addK_len hh xx k]
theorem eight {l : List Int} (h : l.length = 8) : ∃ x0 x1 x2 x3 x4 x5 x6 x7, l = [x0, x1, x2, x3, x4, x5, x6, x7] := by
  match l, h with
  | [a, b, c, d, e, f, g, i], _ => exact ⟨a, b, c, d, e, f, g, i, rfl⟩
theorem rnd_len {l : List Int} (h : l.length = 8) (kk ww : Int) : (rnd l kk ww).length = 8 := by
  obtain ⟨x0, x1, x2, x3, x4, x5, x6, x7, rfl⟩ := eight h
  rfl
theorem rounds_len {x kt wt : List Int} (h : x.length = 8) : ∀ k, (rounds x kt wt k).length = 8
  | 0 => h
  | k + 1 => rnd_len (rounds_len h k) _ _
theorem blockM_len {hh kk : List Int} {bs : List UInt8} (h : hh.length = 8) : (blockM hh kk bs).length = 8 := by
  rw [blockM, addK_len, h]
/-- A cell of a table. -/
theorem Blk.arr_at {w : World} {g : Nat} {t : TypeId} {l : List Int} (h : Blk w g t (arr l)) {i : Nat} (hi : i < l.length) : w.cell? ⟨g, i, none⟩ = some (U (l.getD i 0)) := by
  rw [h.cell, Ytclgiapmbmbknaa.arr_at]
  simp [hi]
theorem Blk.arr_set {w : World} {g : Nat} {t : TypeId} {l : List Int} (h : Blk w g t (arr l)) (i : Nat) (x : Int) : Blk (w.setCell ⟨g, i, none⟩ (.int .u32 x)) g t (arr (l.set i x)) := by
  rw [← Ytclgiapmbmbknaa.arr_set]
  exact h.set_ i _
/-- All eight cells of a small table are written. -/
theorem Blk.set8 {w : World} {g : Nat} {t : TypeId} {l : List Int} (hl : l.length = 8) (h : Blk w g t (arr l)) (y0 y1 y2 y3 y4 y5 y6 y7 : Int) :
    Blk ((((((((w.setCell ⟨g, 0, none⟩ (.int .u32 y0)).setCell ⟨g, 1, none⟩ (.int .u32 y1)).setCell ⟨g, 2, none⟩ (.int .u32 y2)).setCell ⟨g, 3, none⟩ (.int .u32 y3)).setCell ⟨g, 4, none⟩ (.int .u32 y4)).setCell ⟨g, 5, none⟩ (.int .u32 y5)).setCell ⟨g, 6, none⟩ (.int .u32 y6)).setCell ⟨g, 7, none⟩ (.int .u32 y7)) g t (arr [y0, y1, y2, y3, y4, y5, y6, y7]) := by
  obtain ⟨x0, x1, x2, x3, x4, x5, x6, x7, rfl⟩ := eight hl
  exact (((((((h.arr_set 0 y0).arr_set 1 y1).arr_set 2 y2).arr_set 3 y3).arr_set 4 y4).arr_set 5 y5).arr_set 6 y6).arr_set 7 y7
end Go.Proofs.Ytclgiapmbmbknaa
