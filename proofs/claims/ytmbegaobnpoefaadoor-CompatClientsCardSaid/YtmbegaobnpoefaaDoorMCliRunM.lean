/- Go's make: a row of types, a row of pointers; no statement of the seat is proved here. (Written by gen/vrunm.py.) -/
import Derived.Test.YtmbegaobnpoefaaDoorMCliRunL
namespace Go.Proofs.YtmbegaobnpoefaaDoor
open Go.RowKit Go.Maps
set_option linter.unusedVariables false
theorem pst_info : (Tryd.prog.info? 115).map (fun i => (i.zero, i.size, i.bytes)) = some (some (.pointer none), 1, 8) := by kernel_rfl
theorem tyz_info : (Tryd.prog.info? 24).map (fun i => (i.zero, i.size, i.bytes)) = some (some (.agg #[S [], .bool false]), 2, 24) := by kernel_rfl
theorem mkPs (w : World) (n : Nat) (hn : n ≤ 100000) : (Instr.makeSlice 76 (.int .i64 (n : Int)) (.int .i64 (n : Int))).run Tryd.prog w = .ok (.slice (some ⟨w.heap.size, 0, none⟩) n n) (w.alloc (.cells ((List.replicate n (none : Option Vp)).map Vp.ptr).toArray 115)) := by
 obtain ⟨i, hi, hz, hz1, hz2⟩ := info_parts pst_info
 have h := run_make (P := Tryd.prog) w 76 115 i (.pointer none) Tryd.underlying76 hi hz .i64 .i64 n n (by omega) (by omega) (by rw [hz2]; omega) (by omega)
 rw [hz1] at h
 have e : madeCells (Value.pointer none).cells (Int.toNat n * 1) = ((List.replicate n (none : Option Vp)).map Vp.ptr).toArray := by
  rw [List.map_replicate, Int.toNat_natCast, Nat.mul_one]
  apply Array.ext
  ·simp [madeCells]
  ·intro i h1 h2
   simp [madeCells, Vp.ptr, Value.cells, Nat.mod_one]
 rw [e, Int.toNat_natCast] at h
 exact h
theorem made_two (x y : Value) : ∀ n : Nat, (madeCells #[x, y] (n * 2)).toList = (List.replicate n [x, y]).flatten := by
 intro n
 apply List.ext_getElem?
 intro k
 induction n generalizing k with
 | zero => simp [madeCells]
 | succ n ih =>
  rw [List.replicate_succ, List.flatten_cons]
  rcases k with _ | _ | k
  ·simp [madeCells]
  ·simp only [Nat.zero_add, madeCells]
   have h1 : (List.range ((n + 1) * 2))[1]? = some 1 := by rw [List.getElem?_range (by omega)]
   simp [h1]
  ·have := ih k
   rw [show ([x, y] ++ (List.replicate n [x, y]).flatten)[k + 1 + 1]? = (List.replicate n [x, y]).flatten[k]? from rfl, ← this]
   by_cases hk : k < n * 2
   ·simp [madeCells, hk, show k + 1 + 1 < (n + 1) * 2 by omega]
    rw [show (k + 1 + 1) % 2 = k % 2 by omega]
   ·simp [madeCells, hk, show ¬ k + 1 + 1 < (n + 1) * 2 by omega]
theorem mkTy (w : World) (n : Nat) (hn : n ≤ 1000) : (Instr.makeSlice 45 (.int .i64 (n : Int)) (.int .i64 (n : Int))).run Tryd.prog w = .ok (.slice (some ⟨w.heap.size, 0, none⟩) n n) (w.alloc (.cells ((List.replicate n kZ).flatMap Ty.cells).toArray 24)) := by
 obtain ⟨i, hi, hz, hz1, hz2⟩ := info_parts tyz_info
 have h := run_make (P := Tryd.prog) w 45 24 i (.agg #[S [], .bool false]) Tryd.underlying45 hi hz .i64 .i64 n n (by omega) (by omega) (by rw [hz2]; omega) (by omega)
 rw [hz1] at h
 have e : madeCells (Value.agg #[S [], .bool false]).cells (Int.toNat n * 2) = ((List.replicate n kZ).flatMap Ty.cells).toArray := by
  rw [Int.toNat_natCast]
  apply Array.ext'
  rw [show (Value.agg #[S [], .bool false]).cells = #[S [], .bool false] from by kernel_rfl, made_two]
  simp [List.flatMap, List.map_replicate, kZ]
 rw [e, Int.toNat_natCast] at h
 exact h
end Go.Proofs.YtmbegaobnpoefaaDoor
