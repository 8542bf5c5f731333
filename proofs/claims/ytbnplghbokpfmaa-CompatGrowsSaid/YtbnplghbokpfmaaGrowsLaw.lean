/- A face with static methods more, in plain Lean: when it passes; no program in sight. -/
import Derived.Test.YtbnplghbokpfmaaPassLaw
import Derived.Laws.BitsLemmas
namespace Go.Proofs.Ytbnplghbokpfmaa

def zz (i : Nat) : List UInt8 := [122, 122, 122, 122, 122, 122, 122, 122, 122, 122, 122, 122, 122, 122, 122, 122, 122, 122, 122, 122, UInt8.ofNat (97 + i)]
def newG (N : Nat) (last : Bool) (i : Nat) : Sg := ⟨zz i, decide ((i : Int) < (N : Int) - 1) || last, none, 0, 0, [], ⟨[105, 110, 116], false⟩⟩
def newsG (N : Nat) (last : Bool) (k : Nat) : List Sg := (List.range k).map (newG N last)
def growF (a : Fc) (N : Nat) (last : Bool) (A : Option Addr) (c : Nat) : Fc := ⟨a.n, a.su, a.fA, a.fl, a.fc, a.fs, A, a.ml + N, c, a.ms ++ newsG N last N⟩

theorem newsG_succ (N : Nat) (last : Bool) (k : Nat) : newsG N last (k + 1) = newsG N last k ++ [newG N last k] := by
  unfold newsG
  rw [List.range_succ, List.map_append]; rfl

theorem grows_law {a : Fc} {N : Nat} {last : Bool} {A : Option Addr} {c : Nat} (ha : a.right = true) (hb : (growF a N last A c).right = true) :
    passB a (growF a N last A c) = (N == 0 || last) ∧ passB (growF a N last A c) a = (N == 0) := by
  have hr := right_rise hb
  have hra := right_rise ha
  have hr' : Rise (a.ms ++ newsG N last N) := hr
  have hcross := (List.pairwise_append.1 hr').2.2
  have hin : ∀ m ∈ a.ms, m ∈ (growF a N last A c).ms := fun m hm => List.mem_append_left _ hm
  have hnew : ∀ i, i < N → newG N last i ∈ newsG N last N := fun i hi => List.mem_map.2 ⟨i, List.mem_range.2 hi, rfl⟩
  have hno : ∀ i, i < N → methOf a (newG N last i).n = none := fun i hi => meth_none.2 fun x hx e => by
    have := hcross x hx _ (hnew i hi)
    rw [e] at this
    exact List.lt_irrefl _ this
  have hH : passH a (growF a N last A c) = true := passH_iff.2 ⟨ha, hb, rfl, rfl, rfl⟩
  have hH' : passH (growF a N last A c) a = true := passH_iff.2 ⟨hb, ha, rfl, rfl, rfl⟩
  constructor
  · rw [Bool.eq_iff_iff, passB_iff]
    constructor
    · intro h
      by_cases h0 : N = 0
      · simp [h0]
      · have h1 : N - 1 < N := by omega
        have := h.2.2 (newG N last (N - 1)) (List.mem_append_right _ (hnew _ h1)) (hno _ h1)
        have h2 : ¬ (((N - 1 : Nat) : Int) < (N : Int) - 1) := by omega
        simpa [newG, h2] using Or.inr this
    · intro h
      refine ⟨hH, fun m hm => ⟨m, meth_mem hr (hin m hm), rfl⟩, fun n hn hm => ?_⟩
      rcases List.mem_append.1 hn with h1 | h1
      · rw [meth_mem hra h1] at hm; cases hm
      · obtain ⟨i, hi, rfl⟩ := List.mem_map.1 h1
        have hi := List.mem_range.1 hi
        have : (N == 0) = false := by simp; omega
        rw [this] at h
        have h2 : last = true := by simpa using h
        show (decide ((i : Int) < (N : Int) - 1) || last) = true
        rw [h2]; simp
  · rw [Bool.eq_iff_iff, passB_iff]
    constructor
    · intro h
      by_cases h0 : N = 0
      · simp [h0]
      · obtain ⟨x, hx, _⟩ := h.2.1 (newG N last 0) (List.mem_append_right _ (hnew _ (by omega)))
        rw [hno 0 (by omega)] at hx
        cases hx
    · intro h
      have h0 : N = 0 := by simpa using h
      subst h0
      refine ⟨hH', fun m hm => ?_, fun n hn hm => ?_⟩
      · have : m ∈ a.ms := by
          rcases List.mem_append.1 hm with h | h
          · exact h
          · simp [newsG] at h
        exact ⟨m, meth_mem hra this, rfl⟩
      · rw [meth_mem hr (hin n hn)] at hm; cases hm

theorem i64_and7 (n : Int) : bits .and .i64 n 7 = n % 8 := by
  have h7 : (BitVec.ofInt 64 7).toNat = 2 ^ 3 - 1 := by decide
  have key : (BitVec.ofInt 64 n &&& BitVec.ofInt 64 7).toNat = (n % ((2 ^ 64 : Nat) : Int)).toNat % 2 ^ 3 := by
    rw [BitVec.toNat_and, BitVec.toNat_ofInt, h7, Nat.and_two_pow_sub_one_eq_mod]
  show IntKind.i64.wrap ((BitVec.ofInt 64 n &&& BitVec.ofInt 64 7).toNat : Nat) = n % 8
  rw [key, IntKind.wrap_i64]
  omega
theorem and7_nat (n : Int) : ∃ N : Nat, N < 8 ∧ bits .and .i64 n 7 = (N : Int) := ⟨(n % 8).toNat, by omega, by rw [i64_and7]; omega⟩
end Go.Proofs.Ytbnplghbokpfmaa
