/- The first 64 primes, the tables of roots: the closed facts; no statement of the seat is proved here. -/
import Derived.Test.YthehimjdjgmnjaaShaOps
import Derived.Deep.AppendLies
import Derived.Deep.LoopGhost
import Derived.WalkMore
namespace Go.Proofs.Ythehimjdjgmnjaa
open Go.RowKit

def P64 : List Nat := [2, 3, 5, 7, 11, 13, 17, 19, 23, 29, 31, 37, 41, 43, 47, 53, 59, 61, 67, 71, 73, 79, 83, 89, 97, 101, 103, 107, 109, 113, 127, 131, 137, 139, 149, 151, 157, 163, 167, 173, 179, 181, 191, 193, 197, 199, 211, 223, 227, 229, 233, 239, 241, 251, 257, 263, 269, 271, 277, 281, 283, 293, 307, 311]
def KT : List Int := [1116352408, 1899447441, 3049323471, 3921009573, 961987163, 1508970993, 2453635748, 2870763221, 3624381080, 310598401, 607225278, 1426881987, 1925078388, 2162078206, 2614888103, 3248222580, 3835390401, 4022224774, 264347078, 604807628, 770255983, 1249150122, 1555081692, 1996064986, 2554220882, 2821834349, 2952996808, 3210313671, 3336571891, 3584528711, 113926993, 338241895, 666307205, 773529912, 1294757372, 1396182291, 1695183700, 1986661051, 2177026350, 2456956037, 2730485921, 2820302411, 3259730800, 3345764771, 3516065817, 3600352804, 4094571909, 275423344, 430227734, 506948616, 659060556, 883997877, 958139571, 1322822218, 1537002063, 1747873779, 1955562222, 2024104815, 2227730452, 2361852424, 2428436474, 2756734187, 3204031479, 3329325298]
def HT : List Int := [1779033703, 3144134277, 1013904242, 2773480762, 1359893119, 2600822924, 528734635, 1541459225]

theorem root_k : ∀ i : Fin 64, rootM (P64.getD i.val 0 : Nat) true = KT.getD i.val 0 := by decide +kernel
theorem root_h : ∀ i : Fin 8, rootM (P64.getD i.val 0 : Nat) false = HT.getD i.val 0 := by decide +kernel

/-- The primes below a number. -/
def pl (m : Nat) : List Nat := P64.filter (fun q => decide (q < m))
theorem pl_not : ∀ m : Fin 312, 2 ≤ m.val → ((pl m.val).any fun q => m.val % q == 0) = true → pl (m.val + 1) = pl m.val := by decide +kernel
theorem pl_yes : ∀ m : Fin 312, 2 ≤ m.val → ((pl m.val).any fun q => m.val % q == 0) = false → pl (m.val + 1) = pl m.val ++ [m.val] := by decide +kernel
theorem pl_len : ∀ m : Fin 312, (pl m.val).length < 64 := by decide +kernel
theorem pl_all : pl 312 = P64 := by decide +kernel
theorem pl_pos (m : Nat) : ∀ q ∈ pl m, 2 ≤ q ∧ q ≤ 311 := by
  intro q hq
  have : ∀ q ∈ P64, 2 ≤ q ∧ q ≤ 311 := by decide +kernel
  exact this q (List.mem_filter.1 hq).1

abbrev Q64 (n : Nat) : Value := .int .u64 (n : Int)
abbrev U (x : Int) : Value := .int .u32 x

theorem Rd.of_own2 {w : World} {base n size : Nat} {e : TypeId} {A : Option Addr} {c : Nat} {xs : List Value} {F : Nat → Prop} (h : w.ownsRow base e size (.slice A n c) n xs) (hF : ∀ k, base ≤ k → ¬ F k) : Rd w F size A n xs := by
  refine ⟨h.1, fun hn => ?_⟩
  obtain ⟨g, cap, hv, hbg, hlt⟩ := h.form hn
  have hA : A = some ⟨g, 0, none⟩ := by injection hv
  subst hA
  refine ⟨g, 0, rfl, hF g hbg, hlt, fun j u hu => ?_⟩
  have := h.cells (g := g) rfl j u hu
  unfold Addr.add at this
  split at this
  · rename_i h0; subst h0; simpa using this
  · simpa using this

theorem u64_info : (Try.prog.info? 96).map (fun i => (i.zero, i.size, i.bytes)) = some (some (.int .u64 0), 1, 8) := by kernel_rfl

end Go.Proofs.Ythehimjdjgmnjaa
