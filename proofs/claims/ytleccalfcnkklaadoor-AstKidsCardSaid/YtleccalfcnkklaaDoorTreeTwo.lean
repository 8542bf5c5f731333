/- An expression of two parts: how it is made, its text; no statement of the seat is proved here. -/
import Derived.Test.YtleccalfcnkklaaDoorTreeTextE
import Derived.Test.YtleccalfcnkklaaDoorTreeFew
import Derived.Test.YtleccalfcnkklaaDoorTreeOpen
namespace Go.Proofs.YtleccalfcnkklaaDoor
open Go.RowKit

theorem Ex.At.two {w : World} {g : Nat} {e f : Ex} {kd : Int} {n tn : List UInt8} (hk : i64B kd) (hn : n.length ≤ 10) (htn : tn.length ≤ 10) (hB : Blk w g 29 (e.cells ++ f.cells).toArray) (he : e.At w (fun b => w.heap.size ≤ b)) (hf : f.At w (fun b => w.heap.size ≤ b)) :
    (Ex.mk kd 0 0 0 n tn false (some ⟨g, 0, none⟩) 2 2 [e, f] [] false []).At w (fun b => w.heap.size ≤ b) := by
  have hlt := hB.lt
  refine .mk ⟨?_, fun _ => ⟨g, 0, rfl, by omega, hB.lt, fun j u hu => ?_⟩⟩ rfl (by omega) (by omega) ⟨hk, by unfold i64B; omega⟩ ⟨by omega, by omega⟩ ?_
  · rw [flat_len _ 11 Ex.cells_len]; rfl
  · rw [Nat.zero_add, hB.cell]
    simpa [List.flatMap_cons] using hu
  · intro x hx
    rcases List.mem_cons.1 hx with rfl | hx
    · exact he
    · rw [List.mem_singleton.1 hx]; exact hf
theorem text_two {kd : Int} {n tn : List UInt8} {e f : Ex} {g : Nat} {w w' : World} (hL : Laid w) (hb : Below w.heap.size w w') (he : e.At w (fun b => w.heap.size ≤ b)) (hf : f.At w (fun b => w.heap.size ≤ b)) (hle : e.len ≤ 1757812500) (hlf : f.len ≤ 1757812500)
    (hk : i64B kd) (hn : n.length ≤ 10) (htn : tn.length ≤ 10) (hB : Blk w' g 29 (e.cells ++ f.cells).toArray) :
    Calls Tryd.prog 13 #[.agg #[.int .i64 kd, .int .i64 0, .int .i64 0, .int .i64 0, S n, S tn, .bool false, .slice (some ⟨g, 0, none⟩) 2 2, S [], .bool false, S []]] w' (Gives w' (S (textK kd 0 n tn [e.text, f.text]))) := by
  have h := text_any _ w' (hL.on hb) (Ex.At.two (n := n) (tn := tn) hk hn htn hB (he.on hb) (hf.on hb)) (by rw [Ex.len_mk]; simp; omega)
  rw [Ex.text_mk] at h
  exact h
set_option maxRecDepth 100000 in
set_option maxHeartbeats 8000000 in
theorem twoG_any (op : List UInt8) (xd xl xo xu : Int) (xn xt : List UInt8) (xa : Bool) (xA : Option Addr) (xk xc : Nat) (xm : List UInt8) (xb : Bool) (xw : List UInt8) (yd yl yo yu : Int) (yn yt : List UInt8) (ya : Bool) (yA : Option Addr) (yk yc : Nat) (ym : List UInt8) (yb : Bool) (yw : List UInt8) (w : World) :
    Calls Tryd.prog 12 #[.agg #[.int .i64 xd, .int .i64 xl, .int .i64 xo, .int .i64 xu, S xn, S xt, .bool xa, .slice xA xk xc, S xm, .bool xb, S xw], .agg #[.int .i64 yd, .int .i64 yl, .int .i64 yo, .int .i64 yu, S yn, S yt, .bool ya, .slice yA yk yc, S ym, .bool yb, S yw], S op] w (fun e w' => ∃ g, e = .returned (.agg #[.int .i64 16, .int .i64 0, .int .i64 0, .int .i64 0, S op, S [], .bool false, .slice (some ⟨g, 0, none⟩) 2 2, S [], .bool false, S []]) ∧ Below w.heap.size w w' ∧ Blk w' g 29 #[.int .i64 xd, .int .i64 xl, .int .i64 xo, .int .i64 xu, S xn, S xt, .bool xa, .slice xA xk xc, S xm, .bool xb, S xw, .int .i64 yd, .int .i64 yl, .int .i64 yo, .int .i64 yu, S yn, S yt, .bool ya, .slice yA yk yc, S ym, .bool yb, S yw]) := by
  have hb : ∀ o, Below w.heap.size w (w.alloc o) := fun o => (Below.refl _ _).alloc (Nat.le_refl _) o
  go_enter Tryd.func12, Tryd.ntmps12
  go_wp2_with fail
  refine bodyPost_ret (v := .agg #[.int .i64 16, .int .i64 0, .int .i64 0, .int .i64 0, S op, S [], .bool false, .slice (some ⟨(w.heap.size + 1 + 1 + 1), 0, none⟩) 2 2, S [], .bool false, S []]) ?_ rfl ?_
  · simp [results, Tryd.results12, go_sem]
  · refine ⟨w.heap.size + 1 + 1 + 1, rfl, ?_, ?_⟩
    · have a := hb (.cells #[.int .i64 xd, .int .i64 xl, .int .i64 xo, .int .i64 xu, S xn, S xt, .bool xa, .slice xA xk xc, S xm, .bool xb, S xw] 29)
      have b := a.alloc a.size (.cells #[.int .i64 yd, .int .i64 yl, .int .i64 yo, .int .i64 yu, S yn, S yt, .bool ya, .slice yA yk yc, S ym, .bool yb, S yw] 29)
      have c := fun o => b.alloc b.size o
      exact (c _).alloc (c _).size _
    · exact blk_at (by simp only [World.alloc, Array.size_push])
end Go.Proofs.YtleccalfcnkklaaDoor
