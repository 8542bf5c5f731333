/- Whether faces may take others' places, walked; no statement of the seat is proved here. -/
import Derived.Test.YtbnplghbokpfmaaPassPage
import Derived.Test.YtbnplghbokpfmaaIdxFc
import Derived.Test.YtbnplghbokpfmaaIdxFc2
namespace Go.Proofs.Ytbnplghbokpfmaa
open Go.RowKit

/-- May one of a list take a face's place? The first of its name. -/
def allF (T : List Fc) (f : Fc) : Bool := match T.find? (fun g => g.n == f.n) with
  | some g => passB f g
  | none => false
def allB (l T : List Fc) : Bool := l.all (allF T)

theorem allF_none {T : List Fc} {f : Fc} (h : ∀ g ∈ T, (g.n == f.n) = false) : allF T f = false := by
  unfold allF
  rw [List.find?_eq_none.2 (fun g hg => by rw [h g hg]; simp)]
theorem allF_at {T : List Fc} {f : Fc} {k : Nat} (hk : k < T.length) (h : (T[k].n == f.n) = true) (hb : ∀ i (hi : i < T.length), i < k → (T[i].n == f.n) = false) : allF T f = passB f T[k] := by
  have : T.find? (fun g => g.n == f.n) = some T[k] := by
    rw [List.find?_eq_some_iff_getElem]
    exact ⟨h, k, hk, rfl, fun j hj => by rw [hb j (by omega) hj]; rfl⟩
  unfold allF
  rw [this]

set_option maxRecDepth 100000 in
theorem inner_any (f : Fc) (bx : Nat) (g : Fc) (w : World) (hbk : Blk w bx 25 f.arr) :
    Calls Try.prog 28 #[g.val, .pointer (some ⟨bx, 0, none⟩)] w (Gives w (.bool (g.n == f.n))) := by
  obtain ⟨gn, gsu, gfA, gfl, gfc, gfs, gmA, gml, gmc, gms⟩ := g
  obtain ⟨fn, fsu, ffA, ffl, ffc, ffs, fmA, fml, fmc, fms⟩ := f
  have hb : Below w.heap.size w (w.alloc (.cells #[S gn, S gsu, .slice gfA gfl gfc, .slice gmA gml gmc] 25)) := (Below.refl _ _).alloc (Nat.le_refl _) _
  have k1 := hbk.alloc (.cells #[S gn, S gsu, .slice gfA gfl gfc, .slice gmA gml gmc] 25)
  have c0 : (w.alloc (.cells #[S gn, S gsu, .slice gfA gfl gfc, .slice gmA gml gmc] 25)).cell? ⟨bx, 0, none⟩ = some (S fn) := k1.cell 0
  clear k1 hbk
  by_cases e : gn = fn
  · subst e
    go_enter Try.func28, Try.ntmps28
    go_wp2_with fail
    go_ret
    exact ⟨by simp, hb⟩
  · have d : (gn == fn) = false := by simpa using e
    go_enter Try.func28, Try.ntmps28
    go_wp2_with fail
    go_ret
    exact ⟨by simp [d], hb⟩

set_option maxRecDepth 100000 in
set_option maxHeartbeats 2000000 in
theorem outer_any (f : Fc) (bx : Nat) (A : Option Addr) (n c : Nat) (T : List Fc) (w : World) (hbk : Blk w bx 37 #[.slice A n c]) (hT : FcsAt w (fun k => w.heap.size ≤ k) A n T) (hf : f.at_ w (fun k => w.heap.size ≤ k)) :
    Calls Try.prog 26 #[f.val, .pointer (some ⟨bx, 0, none⟩)] w (Gives w (.bool (!(allF T f)))) := by
  obtain ⟨w1, hw1⟩ : ∃ w1, w1 = w.alloc (.cells f.arr 25) := ⟨_, rfl⟩
  have hB1 : Below w.heap.size w w1 := by rw [hw1]; exact (Below.refl _ _).alloc (Nat.le_refl _) _
  have hk1 : Blk w1 w.heap.size 25 f.arr := by rw [hw1]; exact Blk.new _ _ _
  have hx1 := hbk.below hB1 hbk.lt
  have hidx := idxfc2_any A n c T w.heap.size (fun g => g.n == f.n) w1 (((hT.below hB1).weak (fun k hk => by have := hB1.size; omega)).1) hT.2.1 hT.2.2.1 (fun w' hb' u _ => inner_any f w.heap.size u w' (hk1.below hb' hk1.lt))
  have c0 : w1.cell? ⟨bx, 0, none⟩ = some (.slice A n c) := hx1.cell 0
  obtain ⟨R, hR⟩ : ∃ R, R = allF T f := ⟨_, rfl⟩
  rw [← hR]
  have HR := hide hR
  have HIDX := hide hidx
  have HT := hide hT
  have HF := hide hf
  have HTL := hide hT.2.1
  have hm := hT.2.2.1
  clear hR hidx hT hf
  subst hw1
  go_enter Try.func26, Try.ntmps26
  go_wp2_with fail
  refine HIDX.out.mono ?_
  rintro e w2 ⟨z, rfl, hb2, hz⟩
  have HZ := hide hz
  have hB2 := hB1.trans (hb2.mono hB1.size)
  have hk2 := hk1.below hb2 hk1.lt
  have hx2 := hx1.below hb2 hx1.lt
  clear hz c0 hb2
  rcases HZ.out with ⟨rfl, hno⟩ | ⟨k, hk, rfl, hyes, hbef⟩
  · have HX : Hid (R = false) := hide (by rw [HR.out]; exact allF_none hno)
    clear hno HZ
    go_wp2_with fail
    go_quiet (fail)
    go_wp2_with fail
    go_ret
    exact ⟨by rw [HX.out] <;> rfl, bdrewN hB2 _⟩
  · have HX : Hid (R = passB f T[k]) := hide (by rw [HR.out]; exact allF_at hk hyes hbef)
    have hlt : k < n := by have := HTL.out; omega
    obtain ⟨x, o, rfl, _, _, hcell⟩ := Rd.rec_ (size := 4) (fun _ => rfl) (HT.out.1.below hB2) HTL.out k hlt
    have hga := HT.out.2.2.2 _ (List.getElem_mem hk)
    obtain ⟨u, hu⟩ : ∃ u, u = T[k] := ⟨_, rfl⟩
    rw [← hu] at hcell HX hga
    clear hu hyes hbef HZ
    have q0 : ∀ t : After w2, t.val.cell? ⟨x, o + k * 4, none⟩ = some (S u.n) := fun t => (t.prop.cell (p := ⟨x, o + k * 4, none⟩) (World.block_lt_of_cell? _ _ (hcell 0 _ rfl))).trans (hcell 0 _ rfl)
    have q1 : ∀ t : After w2, t.val.cell? ⟨x, o + k * 4 + 1, none⟩ = some (S u.su) := fun t => (t.prop.cell (p := ⟨x, o + k * 4 + 1, none⟩) (World.block_lt_of_cell? _ _ (hcell 1 _ rfl))).trans (hcell 1 _ rfl)
    have q2 : ∀ t : After w2, t.val.cell? ⟨x, o + k * 4 + 2, none⟩ = some (.slice u.fA u.fl u.fc) := fun t => (t.prop.cell (p := ⟨x, o + k * 4 + 2, none⟩) (World.block_lt_of_cell? _ _ (hcell 2 _ rfl))).trans (hcell 2 _ rfl)
    have q3 : ∀ t : After w2, t.val.cell? ⟨x, o + k * 4 + 3, none⟩ = some (.slice u.mA u.ml u.mc) := fun t => (t.prop.cell (p := ⟨x, o + k * 4 + 3, none⟩) (World.block_lt_of_cell? _ _ (hcell 3 _ rfl))).trans (hcell 3 _ rfl)
    have g0 : ∀ t : After w2, t.val.cell? ⟨w.heap.size, 0, none⟩ = some (S f.n) := fun t => (hk2.below t.prop hk2.lt).cell 0
    have g1 : ∀ t : After w2, t.val.cell? ⟨w.heap.size, 1, none⟩ = some (S f.su) := fun t => (hk2.below t.prop hk2.lt).cell 1
    have g2 : ∀ t : After w2, t.val.cell? ⟨w.heap.size, 2, none⟩ = some (.slice f.fA f.fl f.fc) := fun t => (hk2.below t.prop hk2.lt).cell 2
    have g3 : ∀ t : After w2, t.val.cell? ⟨w.heap.size, 3, none⟩ = some (.slice f.mA f.ml f.mc) := fun t => (hk2.below t.prop hk2.lt).cell 3
    have g4 : ∀ t : After w2, t.val.cell? ⟨bx, 0, none⟩ = some (.slice (some ⟨x, o, none⟩) n c) := fun t => (hx2.below t.prop hx2.lt).cell 0
    obtain ⟨D, hD⟩ : ∃ D, D = passB f u := ⟨_, rfl⟩
    have hpa : ∀ t : After w2, Calls Try.prog 10 #[f.val, u.val] t.val (Gives t.val (.bool D)) := fun t => by
      have hbt := hB2.trans (t.prop.mono hB2.size)
      rw [hD]
      exact pass_any f u t.val ((HF.out.below hbt).weak (fun k hk => by have := hbt.size; omega)) ((hga.below hbt).weak (fun k hk => by have := hbt.size; omega))
    rw [← hD] at HX
    have HPA := hide hpa
    have d0 : decide ((k : Int) < 0) = false := by simp
    have hki : (k : Int) < (n : Int) := by omega
    clear hcell hD hpa hga
    go_wp2_with fail
    refine region_after (by kernel_rfl) (by kernel_rfl) ?_
    repeat (go_big_quiet_step ((go_at_call 10; refine call_after (HPA.out _))))
    refine wpQuiet_nil ?_
    rintro _ ⟨t, rfl⟩
    have hB3 := hB2.trans (t.prop.mono hB2.size)
    go_wp2_with fail
    go_ret
    exact ⟨by rw [HX.out] <;> rfl, hB3⟩

set_option maxRecDepth 100000 in
theorem all_any (B : Option Addr) (n' c' : Nat) (l : List Fc) (A : Option Addr) (n c : Nat) (T : List Fc) (w : World) (hl : FcsAt w (fun k => w.heap.size ≤ k) B n' l) (hT : FcsAt w (fun k => w.heap.size ≤ k) A n T) :
    Calls Try.prog 13 #[.slice B n' c', .slice A n c] w (Gives w (.bool (allB l T))) := by
  obtain ⟨w1, hw1⟩ : ∃ w1, w1 = w.alloc (.cells #[.slice A n c] 37) := ⟨_, rfl⟩
  have hB1 : Below w.heap.size w w1 := by rw [hw1]; exact (Below.refl _ _).alloc (Nat.le_refl _) _
  have hk1 : Blk w1 w.heap.size 37 #[.slice A n c] := by rw [hw1]; exact Blk.new _ _ _
  have hh := hasfc_any B n' c' l w.heap.size (fun f => !(allF T f)) w1 (((hl.below hB1).weak (fun k hk => by have := hB1.size; omega)).1) hl.2.1 hl.2.2.1 (fun w' hb' u hu => by
    have hb := hB1.trans (hb'.mono hB1.size)
    exact outer_any u w.heap.size A n c T w' (hk1.below hb' hk1.lt) ((hT.below hb).weak (fun k hk => by have := hb.size; omega)) (((hl.2.2.2 u hu).below hb).weak (fun k hk => by have := hb.size; omega)))
  obtain ⟨N, hN⟩ : ∃ N, N = l.any (fun f => !(allF T f)) := ⟨_, rfl⟩
  rw [← hN] at hh
  have HH := hide hh
  have HN : Hid (allB l T = !N) := hide (by rw [hN]; unfold allB; rw [Bool.eq_iff_iff]; simp [List.all_eq_true, List.any_eq_false])
  obtain ⟨R, hR⟩ : ∃ R, R = allB l T := ⟨_, rfl⟩
  rw [← hR] at HN
  rw [← hR]
  clear hh hN hR hl hT
  go_enter Try.func13, Try.ntmps13
  go_wp2_with fail
  rw [← hw1]
  clear hw1
  refine HH.out.mono ?_
  rintro e w2 ⟨rfl, hb2⟩
  have hB2 := hB1.trans (hb2.mono hB1.size)
  go_wp2_with fail
  go_ret
  exact ⟨by rw [HN.out] <;> rfl, hB2⟩
end Go.Proofs.Ytbnplghbokpfmaa
