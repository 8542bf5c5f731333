/- A repository's list in plain words: as bytes, and back; as it lies; no statement of the seat is proved here. -/
import Derived.Test.YtclgiapmbmbknaaMRepI
import Derived.Test.YtclgiapmbmbknaaMRepCls
import Derived.Test.YtclgiapmbmbknaaMShaSumG
namespace Go.Proofs.Ytclgiapmbmbknaa
open Go.RowKit

/-- Thirty-two bytes: what is there, and noughts behind it. -/
def dpad (s : List UInt8) : List UInt8 := (s ++ List.replicate 32 0).take 32
theorem dpad_len (s : List UInt8) : (dpad s).length = 32 := by simp [dpad]
theorem dpad_id {s : List UInt8} (h : s.length = 32) : dpad s = s := by
  unfold dpad
  rw [List.take_append_of_le_length (by omega), List.take_of_length_le (by omega)]
/-- A face that was looked at: whose, and the bytes of its digest, as they were read. -/
structure Rdq where
  n : List UInt8
  d : List UInt8
/-- An entry in plain words. -/
structure EnP where
  n : List UInt8
  s : List UInt8
  rs : List Rdq
  b : List UInt8
/-- An entry as it lies. -/
structure Enq where
  n : List UInt8
  s : List UInt8
  A : Option Addr
  k : Nat
  c : Nat
  rs : List Rdq
  b : List UInt8
def Rdq.cells (x : Rdq) : List Value := S x.n :: (dpad x.d).map B8
theorem Rdq.cells_len (x : Rdq) : x.cells.length = 33 := by simp [Rdq.cells, dpad_len]
def Enq.cells (e : Enq) : List Value := S e.n :: ((dpad e.s).map B8 ++ .slice e.A e.k e.c :: (dpad e.b).map B8)
theorem Enq.cells_len (e : Enq) : e.cells.length = 66 := by simp [Enq.cells, dpad_len]
def Enq.pl (e : Enq) : EnP := ⟨e.n, e.s, e.rs, e.b⟩
structure Enq.at_ (w : World) (F : Nat → Prop) (e : Enq) : Prop where
  rr : Rd w F 33 e.A e.k (e.rs.flatMap Rdq.cells)
  rl : e.rs.length = e.k
  rb : e.k ≤ 9223372036854775807
  sn : e.n.length ≤ 9223372036854775807
  sr : ∀ x ∈ e.rs, x.n.length ≤ 9223372036854775807
/-- A list of entries as it lies. -/
structure LiAt (w : World) (F : Nat → Prop) (A : Option Addr) (n : Nat) (L : List Enq) : Prop where
  lr : Rd w F 66 A n (L.flatMap Enq.cells)
  ll : L.length = n
  lb : n ≤ 9223372036854775807
  la : ∀ e ∈ L, e.at_ w F
section
variable {w w' : World} {F G : Nat → Prop} {B : Nat} {e : Enq} {A : Option Addr} {n : Nat} {L : List Enq}
theorem Enq.at_.below (h : e.at_ w (fun k => B ≤ k)) (hk : Below B w w') : e.at_ w' (fun k => B ≤ k) := { h with rr := h.rr.below hk }
theorem Enq.at_.weak (h : e.at_ w F) (hs : ∀ k, k < w.heap.size → G k → F k) : e.at_ w G := { h with rr := h.rr.weak hs }
theorem LiAt.below (h : LiAt w (fun k => B ≤ k) A n L) (hk : Below B w w') : LiAt w' (fun k => B ≤ k) A n L := { h with lr := h.lr.below hk, la := fun e he => (h.la e he).below hk }
theorem LiAt.weak (h : LiAt w F A n L) (hs : ∀ k, k < w.heap.size → G k → F k) : LiAt w G A n L := { h with lr := h.lr.weak hs, la := fun e he => (h.la e he).weak hs }
theorem LiAt.on (h : LiAt w (fun k => w.heap.size ≤ k) A n L) (hk : Below w.heap.size w w') : LiAt w' (fun k => w'.heap.size ≤ k) A n L := (h.below hk).weak fun _ _ h2 => Nat.le_trans hk.size h2
end

/-! Whether a list is one. -/
/-- Is a text at most another one? -/
def leqB (a b : List UInt8) : Bool := Op.bytesLess a b || a == b
def riseQ : Bool → List UInt8 → List Rdq → Bool
  | _, _, [] => true
  | fst, last, x :: l => decide (x.n.length ≤ 40) && (fst || !leqB x.n last) && riseQ false x.n l
def EnP.ok1 (last : List UInt8) (e : EnP) : Bool := great e.n && decide (e.n.length ≤ 40) && !leqB e.n last && decide (e.rs.length ≤ 200) && riseQ true [] e.rs
def riseE : List UInt8 → List EnP → Bool
  | _, [] => true
  | last, e :: l => e.ok1 last && riseE e.n l
def rightL (l : List EnP) : Bool := decide (l.length ≤ 200) && riseE [] l

/-! As bytes, and back. -/
def rdR (st : St) : Rdq × St := (⟨(textR 40 st).1, (textR 32 (textR 40 st).2).1⟩, (textR 32 (textR 40 st).2).2)
def rdL (x : Rdq) : List UInt8 := tx x.n ++ tx x.d
theorem rdI : Inv rdR rdL := by
  intro st r h
  have h2 := textI 32 _ _ h
  have h1 := textI 40 _ _ h2
  simp only [rdR, rdL, List.append_assoc]
  exact h1
def enR (st : St) : EnP × St :=
  let a := textR 40 st
  let s := textR 32 a.2
  let b := textR 32 s.2
  let l := secR rdR 200 b.2
  (⟨a.1, s.1, l.1, b.1⟩, l.2)
def enL (e : EnP) : List UInt8 := tx e.n ++ (tx e.s ++ (tx e.b ++ secL rdL e.rs))
theorem enI : Inv enR enL := by
  intro st r h
  have h4 := secI rdI 200 _ _ h
  have h3 := textI 32 _ _ h4
  have h2 := textI 32 _ _ h3
  have h1 := textI 40 _ _ h2
  simp only [enR, enL, List.append_assoc]
  exact h1
def liR (st : St) : List EnP × St := secR enR 200 st
def liL (l : List EnP) : List UInt8 := secL enL l
theorem liI : Inv liR liL := secI enI 200
def Rdq.ok (x : Rdq) : Bool := x.d.length == 32
def EnP.ok (e : EnP) : Bool := e.rs.all Rdq.ok && (e.s.length == 32) && (e.b.length == 32)
/-- The list that bytes are. -/
def decM (s : List UInt8) : Option (List EnP) :=
  if s.length < 32 then none
  else if sumM (s.take (s.length - 32)) == s.drop (s.length - 32) then
    if decide (doneR (liR (some (s.take (s.length - 32)))).2 = 0) && (liR (some (s.take (s.length - 32)))).1.all EnP.ok && rightL (liR (some (s.take (s.length - 32)))).1 then some (liR (some (s.take (s.length - 32)))).1 else none
  else none
/-- A list as bytes, their digest behind. -/
def encM (l : List EnP) : List UInt8 := liL l ++ sumM (liL l)
theorem done_nil {st : St} (h : doneR st = 0) : st = some [] := by
  unfold doneR at h
  split at h
  · assumption
  · cases h
theorem dec_enc {s : List UInt8} {l : List EnP} (h : decM s = some l) : encM l = s ∧ rightL l = true ∧ (∀ e ∈ l, e.ok = true) ∧ (liL l).length ≤ s.length := by
  unfold decM at h
  split at h
  · cases h
  · split at h
    · rename_i h1 h2
      split at h
      · rename_i h3
        injection h with h
        simp only [Bool.and_eq_true, decide_eq_true_eq] at h3
        have h4 := liI _ _ (done_nil h3.1.1)
        rw [List.append_nil, h] at h4
        injection h4 with h4
        have h5 := eq_of_beq h2
        rw [h4] at h5
        refine ⟨?_, by rw [← h]; exact h3.2, fun e he => ?_, ?_⟩
        · unfold encM
          rw [h5, ← h4, List.take_append_drop]
        · have := h3.1.2
          rw [h] at this
          exact List.all_eq_true.1 this e he
        · rw [← h4, List.length_take]
          omega
      · cases h
    · cases h
/-- What an entry says is all that its cells hold. -/
theorem ok_s {e : EnP} (h : e.ok = true) : e.s.length = 32 ∧ e.b.length = 32 ∧ ∀ x ∈ e.rs, x.d.length = 32 := by
  unfold EnP.ok at h
  simp only [Bool.and_eq_true, beq_iff_eq, List.all_eq_true, Rdq.ok] at h
  exact ⟨h.1.2, h.2, h.1.1⟩
end Go.Proofs.Ytclgiapmbmbknaa
