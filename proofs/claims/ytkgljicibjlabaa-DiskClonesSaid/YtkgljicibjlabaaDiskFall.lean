/- A fall set (the contract of Disk.Fall); the writes of DiskFalls as plain lists; no statement of the seat is proved here. -/
import Derived.Test.YtkgljicibjlabaaDiskNames
import Derived.Test.YtkgljicibjlabaaDiskHead
import Derived.Test.YtkgljicibjlabaaDiskAnd
import Derived.Lib.MinMax
namespace Go.Proofs.Ytkgljicibjlabaa
open Go.RowKit Go.Maps

/-- The k-th name, and the first k writes. -/
def nmK (k : Nat) : List UInt8 := [UInt8.ofNat (97 + k)]
def ws (k : Nat) : List Ch := (List.range k).map fun i => ⟨0, nmK i, [120]⟩
theorem ws_succ (k : Nat) : ws (k + 1) = ws k ++ [⟨0, nmK k, [120]⟩] := by simp [ws, List.range_succ]
theorem nmK_inj {i j : Nat} (hi : i < 32) (hj : j < 32) (e : nmK i = nmK j) : i = j := by
  simp only [nmK, List.cons.injEq, and_true] at e
  have := congrArg UInt8.toNat e
  simp only [UInt8.toNat_ofNat'] at this
  omega
theorem ws_get (k : Nat) (hk : k ≤ 32) : ∀ z, ((ws k).foldl chDo F0) z = if z ∈ (List.range k).map nmK then some [120] else none := by
  induction k with
  | zero => intro z; simp [ws, F0]
  | succ k ih =>
    intro z
    rw [ws_succ, List.foldl_append]
    simp only [List.foldl_cons, List.foldl_nil, chDo, if_true, Fl.set, List.range_succ, List.map_append, List.map_cons, List.map_nil, List.mem_append, List.mem_singleton]
    rw [ih (by omega)]
    by_cases h : z = nmK k <;> simp [h]
theorem ws_none (k : Nat) (hk : k < 32) : ((ws k).foldl chDo F0) (nmK k) = none := by
  rw [ws_get k (by omega), if_neg]
  rw [List.mem_map]
  rintro ⟨i, hi, he⟩
  have h1 := List.mem_range.1 hi
  have := nmK_inj (by omega) hk he
  omega
theorem ws_tot (k : Nat) (hk : k ≤ 32) : Tot ((ws k).foldl chDo F0) k := by
  induction k with
  | zero => exact Tot.none
  | succ k ih =>
    rw [ws_succ, List.foldl_append]
    obtain ⟨m, h1, h2⟩ := (ih (by omega)).set (nmK k) [120]
    rw [ws_none k (by omega)] at h2
    obtain rfl : m = k + 1 := by simpa using h2
    simpa [chDo] using h1
theorem ws_names (k : Nat) (hk : k ≤ 32) {l : List (List UInt8)} (h : IsNames ((ws k).foldl chDo F0) l) : l.length = k := by
  have := names_len (m := (List.range k).map nmK) h ?_ (fun z => by rw [ws_get k hk]; split <;> simp [*])
  · simpa using this
  · refine List.pairwise_map.2 (List.nodup_range.imp_of_mem fun {i j} hi hj hne e => hne ?_)
    exact nmK_inj (by have := List.mem_range.1 hi; omega) (by have := List.mem_range.1 hj; omega) e
theorem kept_all (m : Nat) (cs : List Ch) (h : cs.length ≤ m) : kept (List.replicate m true) cs = cs := by
  have : ∀ k, k ≤ cs.length → kept (List.replicate m true) (cs.take k) = cs.take k := by
    intro k
    induction k with
    | zero => intro _; simp [kept]
    | succ k ih =>
      intro hk
      rw [kept_succ _ _ (by omega), ih (by omega), takeS (by omega)]
      congr 1
      have : (List.replicate m true).getD k false = true := by simp [List.getD_eq_getElem?_getD, show k < m by omega]
      rw [this]
      rfl
  have h2 := this cs.length (Nat.le_refl _)
  rwa [List.take_length] at h2
theorem kept_nil (cs : List Ch) : kept [] cs = [] := by
  unfold kept
  simp
theorem no_names {l : List (List UInt8)} (h : IsNames F0 l) : l.length = 0 := by
  have := names_len (m := []) h List.nodup_nil (fun z => by simp [F0])
  simpa using this

theorem u8_info' : (Try.prog.info? 5).map (fun i => (i.zero, i.size, i.bytes)) = some (some (.int .u8 0), 1, 1) := by kernel_rfl
theorem bool_info : (Try.prog.info? 4).map (fun i => (i.zero, i.size, i.bytes)) = some (some (.bool false), 1, 1) := by kernel_rfl
theorem conv_one' (w : World) (v : Nat) (hv : v < 256) : (convert 34 9 (.slice (some ⟨w.heap.size, 0, none⟩) 1 1)).run Try.prog (w.alloc (.cells #[.int .u8 v] 5)) = .ok (S [UInt8.ofNat v]) (w.alloc (.cells #[.int .u8 v] 5)) := by
  refine run_convert_bytes_back _ 34 9 5 ⟨w.heap.size, 0, none⟩ 1 [UInt8.ofNat v] Try.underlying34 Try.underlying5 Try.underlying9 fun j hj => ?_
  obtain rfl : j = 0 := by simpa using hj
  have := (Blk.new w 5 #[.int .u8 v]).cell 0
  simp [Addr.add, Nat.mod_eq_of_lt hv, this]

set_option maxRecDepth 100000 in
set_option maxHeartbeats 2000000 in
theorem fall_dk (B g b N n c : Nat) (A : Option Addr) (cs : List Ch) (room : Nat) (fall : Int) (dn : Bool) (F : Fl) (x : Int) (w : World) (h : Dk w B g b N n c A cs room fall dn F) :
    Calls Try.prog 21 #[.pointer (some ⟨g, 0, none⟩), .int .i64 x] w (fun e w' => e = .returned (.tuple #[]) ∧ Dk w' B g b N n c A cs room (max x 0) dn F ∧ Keep (fun k => k = g) w w') := by
  have hb := h.blk
  have c3 : w.cell? ⟨g, 3, none⟩ = some (.int .i64 fall) := hb.cell 3
  have f3 := hb.frozen 3
  have hs := hb.set_ 3 (.int .i64 (max x 0))
  have hk := (Keep.refl (fun k => k = g) w).setCell (p := ⟨g, 3, none⟩) (fun _ => rfl) (.int .i64 (max x 0))
  have HF := hide (show Dk (w.setCell ⟨g, 3, none⟩ (.int .i64 (max x 0))) B g b N n c A cs room (max x 0) dn F ∧ _ from ⟨h.turned hk hs, hk⟩)
  clear hs hk hb h
  go_enter Try.func21, Try.ntmps21
  go_wp2_with fail
  refine bodyPost_end (v := .tuple #[]) ?_ rfl ?_
  · simp [results, Try.results21, go_sem]
  exact ⟨rfl, HF.out⟩

end Go.Proofs.Ytkgljicibjlabaa
