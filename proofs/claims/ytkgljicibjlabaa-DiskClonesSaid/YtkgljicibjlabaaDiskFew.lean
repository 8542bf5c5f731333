/- Acts that came in, opened; few of few bytes: the contract of the law's Few; no statement of the seat is proved here. -/
import Derived.Test.YtkgljicibjlabaaDiskModel
import Derived.Test.YtkgljicibjlabaaOpen
namespace Go.Proofs.Ytkgljicibjlabaa
open Go.ChangeShapes Go.WideShapes Go.ChangeAt Go.RowKit Go.Deep Go.Maps

/-- Acts that came in. -/
def ActsAt (w : World) (F : Nat → Prop) (A : Option Addr) (n : Nat) (ac : List Ac) : Prop := Rd w F 5 A n (ac.flatMap Ac.cells) ∧ ac.length = n ∧ (∀ a ∈ ac, a.ok) ∧ n ≤ 9223372036854775807
theorem ActsAt.below {w w' : World} {B : Nat} {A : Option Addr} {n : Nat} {ac : List Ac} (h : ActsAt w (fun k => B ≤ k) A n ac) (hk : Below B w w') : ActsAt w' (fun k => B ≤ k) A n ac := ⟨h.1.below hk, h.2⟩

theorem ActsAt.weak' {w w' : World} {A : Option Addr} {n : Nat} {ac : List Ac} (h : ActsAt w' (fun k => w.heap.size ≤ k) A n ac) (_ : w.heap.size ≤ w'.heap.size) : ActsAt w' (fun k => w'.heap.size ≤ k) A n ac := ⟨h.1.weak (fun k _ hk => by omega), h.2⟩

section
variable {H : Type} {enc : TypeId × Value → H} {w : World} {base : Nat} {spare : Nat → Bool} {held : Bool}
set_option maxRecDepth 100000 in
theorem trod_ac {cs : List Value} {n : Nat} {y : DataW H × List MemPlace} (h : DataW.trod enc Try.prog w base spare held n 49 cs = some y) : ∃ a : Ac, cs = a.cells ∧ a.ok := by
  obtain ⟨hl, n', hf⟩ := trod_fld Try.underlying49 h
  obtain ⟨a, b, c, d, e, rfl⟩ := cs5 (hl.trans (by kernel_rfl))
  obtain ⟨_, f0⟩ := hf 0 _ rfl
  obtain ⟨_, f1⟩ := hf 1 _ rfl
  obtain ⟨_, f2⟩ := hf 2 _ rfl
  obtain ⟨_, f3⟩ := hf 3 _ rfl
  obtain ⟨_, f4⟩ := hf 4 _ rfl
  obtain ⟨x0, h0, _, w0⟩ := DataW.trod_int Try.underlying3 f0
  obtain ⟨x1, h1, _, w1⟩ := DataW.trod_int Try.underlying3 f1
  obtain ⟨s2, h2, l2⟩ := trod_str Try.underlying9 f2
  obtain ⟨s3, h3, l3⟩ := trod_str Try.underlying9 f3
  obtain ⟨s4, h4, l4⟩ := trod_str Try.underlying9 f4
  have h0' : [a] = [.int .i64 x0] := h0
  have h1' : [b] = [.int .i64 x1] := h1
  have h2' : [c] = [S s2] := h2
  have h3' : [d] = [S s3] := h3
  have h4' : [e] = [S s4] := h4
  injection h0' with h0'
  injection h1' with h1'
  injection h2' with h2'
  injection h3' with h3'
  injection h4' with h4'
  exact ⟨⟨x0, x1, s2, s3, s4⟩, by rw [h0', h1', h2', h3', h4'], w0, w1, l2, l3, l4⟩

set_option maxRecDepth 100000 in
theorem open_acts {r : Reach} {b0 : Nat} {v : Value} {d : DataW H} {p : List MemPlace} (hv : Value.okWide Try.prog w r b0 44 v) (h : DataW.Trod enc Try.prog w base spare held 44 v d p) :
    ∃ (A : Option Addr) (n c : Nat) (ac : List Ac), v = .slice A n c ∧ ActsAt w (fun k => w.heap.size ≤ k) A n ac := by
  obtain ⟨A, n, c, rfl⟩ := okWide_slice Try.underlying44 hv
  obtain ⟨fuel, hf⟩ := h
  have hc : (Value.slice A n c).cells.toList = [.slice A n c] := by simp [Value.cells]
  rw [hc] at hf
  obtain ⟨l, hr, hll, hok, hk⟩ := open_recs (f := Ac.cells) (size := 5) Ac.ok Try.underlying44 (by kernel_rfl) (by decide) (fun _ => rfl) (fun cs n' y h => trod_ac h) hf
  exact ⟨A, n, c, l, rfl, hr.old, hll, hok, hk⟩
end

/-- Few bytes in an act. -/
def smallA (a : Ac) : Prop := a.tx.length ≤ 100 ∧ a.nm.length ≤ 100 ∧ a.to.length ≤ 100

set_option maxRecDepth 100000 in
set_option maxHeartbeats 2000000 in
theorem few_any (A : Option Addr) (n c : Nat) (ac : List Ac) (w : World) (h : ActsAt w (fun k => w.heap.size ≤ k) A n ac) :
    Calls Try.prog 23 #[.slice A n c] w (fun e w' => ∃ R, e = .returned (.bool R) ∧ Below w.heap.size w w' ∧ (R = true → (∀ a ∈ ac, smallA a) ∧ n ≤ 40)) := by
  obtain ⟨hs, hl, _, hnn⟩ := h
  go_enter Try.func23, Try.ntmps23
  go_wp2_with fail
  go_loopw [7] (fun i wr => ∃ k, k ≤ n ∧ i = .int .i64 k ∧ (∀ a ∈ ac.take k, smallA a) ∧ Below w.heap.size w wr) (fun i _ => n - (intOf i).toNat)
  case atStart => exact ⟨0, Nat.zero_le _, rfl, by simp, Below.refl _ _⟩
  case round =>
    obtain ⟨k, hk, rfl, hsm, hBr⟩ := hrel
    have HSM := hide hsm
    have HBR := hide hBr
    clear hsm hBr
    by_cases hlt : k < n
    · obtain ⟨x, o, rfl, _, _, hcell⟩ := Rd.rec_ (size := 5) (fun _ => rfl) (hs.below HBR.out) hl k hlt
      have hlk : k < ac.length := by omega
      have HTK : Hid (ac.take (k + 1) = ac.take k ++ [ac[k]]) := hide (by rw [List.take_add_one, List.getElem?_eq_getElem hlk]; rfl)
      obtain ⟨d, hd⟩ : ∃ d, d = ac[k] := ⟨_, rfl⟩
      rw [← hd] at hcell HTK
      clear hd
      obtain ⟨dk, dn', dm, dt, dx⟩ := d
      have q0 : wr.cell? ⟨x, o + k * 5, none⟩ = some (.int .i64 dk) := hcell 0 _ rfl
      have q1 : wr.cell? ⟨x, o + k * 5 + 1, none⟩ = some (.int .i64 dn') := hcell 1 _ rfl
      have q2 : wr.cell? ⟨x, o + k * 5 + 2, none⟩ = some (S dm) := hcell 2 _ rfl
      have q3 : wr.cell? ⟨x, o + k * 5 + 3, none⟩ = some (S dt) := hcell 3 _ rfl
      have q4 : wr.cell? ⟨x, o + k * 5 + 4, none⟩ = some (S dx) := hcell 4 _ rfl
      have hB5 := hide (HBR.out.alloc HBR.out.size (.cells #[.int .i64 dk, .int .i64 dn', S dm, S dt, S dx] 49))
      clear hcell
      by_cases h1 : 100 < dx.length
      · have e1 : decide (100 < (dx.length : Int)) = true := by simp; omega
        go_wp2_with fail
        go_ret
        exact ⟨false, rfl, hB5.out, by simp⟩
      have e1 : decide (100 < (dx.length : Int)) = false := by simp; omega
      by_cases h2 : 100 < dm.length
      · have e2 : decide (100 < (dm.length : Int)) = true := by simp; omega
        go_wp2_with fail
        go_ret
        exact ⟨false, rfl, hB5.out, by simp⟩
      have e2 : decide (100 < (dm.length : Int)) = false := by simp; omega
      by_cases h3 : 100 < dt.length
      · have e3 : decide (100 < (dt.length : Int)) = true := by simp; omega
        go_wp2_with fail
        go_ret
        exact ⟨false, rfl, hB5.out, by simp⟩
      have e3 : decide (100 < (dt.length : Int)) = false := by simp; omega
      have HS2 : Hid (∀ a ∈ ac.take (k + 1), smallA a) := hide (by
        rw [HTK.out]
        intro a ha
        rcases List.mem_append.1 ha with h' | h'
        · exact HSM.out a h'
        · rw [List.mem_singleton] at h'; subst h'; exact ⟨by show dx.length ≤ 100; omega, by show dm.length ≤ 100; omega, by show dt.length ≤ 100; omega⟩)
      go_wp2_with fail
      go_roundw
      case rel => exact ⟨k + 1, by omega, by go_num, HS2.out, hB5.out⟩
      case measure => simp [intOf]; omega
    · have HE : Hid (ac.take k = ac) := hide (List.take_of_length_le (by omega))
      rw [HE.out] at HSM
      by_cases h40 : n ≤ 40
      · have e4 : decide ((n : Int) ≤ 40) = true := by simp; omega
        go_wp2_with fail
        go_ret
        exact ⟨true, rfl, HBR.out, fun _ => ⟨HSM.out, h40⟩⟩
      · have e4 : decide ((n : Int) ≤ 40) = false := by simp; omega
        go_wp2_with fail
        go_ret
        exact ⟨false, rfl, HBR.out, by simp⟩
end Go.Proofs.Ytkgljicibjlabaa
