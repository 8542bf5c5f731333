/- What RepoBad needs beside: a text that is none of the law's, Commit where the list is none, a list that isn't right; no statement of the seat is proved here. -/
import Derived.Test.YtclgiapmbmbknaaMRepMadeO
namespace Go.Proofs.Ytclgiapmbmbknaa
open Go.RowKit Go.Maps
set_option linter.unusedVariables false
set_option linter.unusedSimpArgs false

def tTurn : List UInt8 := [116, 117, 114, 110, 101, 100]
def tNo : List UInt8 := [110, 111, 32, 108, 105, 115, 116]
set_option maxRecDepth 100000 in
theorem turn_not : ((allX.map fun x => (dgt x).take 4).contains ((sumM tTurn).take 4)) = false := by decide +kernel
theorem turn_ne {x : Nat × Nat} (hx : isX x) : sumM tTurn ≠ dgt x := fun e => by
  have h1 := turn_not
  rw [e] at h1
  have h2 : ((allX.map fun x => (dgt x).take 4).contains ((dgt x).take 4)) = true := List.contains_iff_mem.2 (List.mem_map.2 ⟨x, mem_allX.2 hx, rfl⟩)
  rw [h2] at h1
  cases h1
theorem dec_no : decM tNo = none := by
  unfold decM
  rw [if_pos (by decide)]
/-- Commit where the list on the disk is none. -/
theorem commit_bad (B g room M : Nat) (s : Ds) (w : World) (h : DAt w B g room M s) (hM : M ≤ 80000) (hu : s.dn = false) (t : List UInt8) (hR : s.R nList = some t) (ht : t.length ≤ 1000) (hd : decM t = none) (A : Option Addr) (n c : Nat) (A1 : Option Addr) (n1 c1 : Nat) :
    Calls Try.prog 9 #[.agg #[.pointer (some ⟨g, 0, none⟩)], .slice A n c, .slice A1 n1 c1] w (fun e w' => e = .returned (.int .i64 40) ∧ Below w.heap.size w w') := by
  obtain ⟨qb, hqb⟩ : ∃ q, q = w.heap.size := ⟨_, rfl⟩
  obtain ⟨wA, hwA⟩ : ∃ wE, wE = w.alloc (.cells #[.pointer (some ⟨g, 0, none⟩)] 34) := ⟨_, rfl⟩
  have HBA : Hid (Below w.heap.size w wA) := hide (by rw [hwA]; exact (Below.refl _ w).alloc (Nat.le_refl _) _)
  have HQA : Hid (Blk wA qb 34 #[.pointer (some ⟨g, 0, none⟩)]) := hide (by rw [hwA, hqb]; exact Blk.new _ _ _)
  have HLD : Hid (Calls Try.prog 14 #[.agg #[.pointer (some ⟨g, 0, none⟩)]] wA (fun e w' => e = .returned (.tuple #[.slice none 0 0, .int .i64 40]) ∧ Below wA.heap.size wA w')) := hide (by
    refine (load_some B g room M s wA (h.below HBA.out) hM hu t hR ht).mono ?_
    rintro e w' ⟨hb, ⟨_, he⟩ | ⟨A, c, L, _, hs, _⟩⟩
    · exact ⟨he, hb⟩
    · rw [hd] at hs; cases hs)
  have q0 : wA.cell? ⟨qb, 0, none⟩ = some (.pointer (some ⟨g, 0, none⟩)) := HQA.out.cell 0
  clear h hR ht hd
  go_enter Try.func9, Try.ntmps9
  go_upto_region 1 with fail
  rw [← hwA, ← hqb]
  clear hwA hqb
  go_wp2_with (go_at_call 14; refine HLD.out.mono ?_; rintro e w1 ⟨rfl, hb⟩; have HB1 := hide (HBA.out.trans (hb.mono HBA.out.size)); clear hb)
  go_ret
  exact ⟨rfl, HB1.out⟩
/-- Two entries, the second ahead of the first. -/
def badL : List Enq := [⟨[66], [], none, 0, 0, [], []⟩, ⟨[65], [], none, 0, 0, [], []⟩]
theorem bad_right : rightL (badL.map Enq.pl) = false := by decide
theorem bad_li {w : World} {q : Nat} (h : Blk w q 44 (badL.flatMap Enq.cells).toArray) : LiAt w (fun k => w.heap.size ≤ k) (some ⟨q, 0, none⟩) 2 badL :=
  { lr := ⟨by simp [badL, Enq.cells_len], fun _ => ⟨q, 0, rfl, by have := h.lt; omega, h.lt, fun j u hu => by rw [Nat.zero_add, h.cell j]; simpa using hu⟩⟩
    ll := rfl
    lb := by decide
    la := fun e he => by
      have : e.A = none ∧ e.k = 0 ∧ e.rs = [] ∧ e.n.length ≤ 1 := by
        simp only [badL, List.mem_cons, List.not_mem_nil, or_false] at he
        rcases he with rfl | rfl <;> exact ⟨rfl, rfl, rfl, Nat.le_refl _⟩
      obtain ⟨h1, h2, h3, h4⟩ := this
      exact ⟨by rw [h1, h2, h3]; exact ⟨rfl, fun hn => absurd hn (Nat.lt_irrefl _)⟩, by rw [h2, h3]; rfl, by omega, by omega, by rw [h3]; intro x hx; cases hx⟩ }
set_option maxRecDepth 100000 in
theorem built_en1 (n : List UInt8) : Try.prog.built 44 [(0, S n)] = some (Enq.cells ⟨n, [], none, 0, 0, [], []⟩).toArray := by
  show (_ : Option (Array Value)) = _
  kernel_rfl
theorem wpList_en1 {ops : Array Oper} {rest : List Oper} {o : Oper} {a : Act} {w : World} {Q : Exit → Act → World → Prop} (hg : o.guard = none) (x : Operand) (ho : o.op = .build 44 #[(0, x)])
    (n : List UInt8) (hx : a.eval x = S n) (u : Array Value) (hu : u = (Enq.cells ⟨n, [], none, 0, 0, [], []⟩).toArray)
    (h : wpList Try.prog ops Q rest (a.put o.dst (.agg u)) w) : wpList Try.prog ops Q (o :: rest) a w := by
  have e : Try.prog.built 44 ((#[(0, x)] : Array (Nat × Operand)).map fun (i, x) => (i, a.eval x)).toList = some u := by
    simp only [List.map_toArray, List.map_cons, List.map_nil, hx]
    rw [hu]
    exact built_en1 n
  refine wpList_build hg 44 #[(0, x)] ho (by rw [e]; rfl) ?_
  rw [e]
  exact h
set_option maxRecDepth 100000 in
theorem run_two (w : World) : (Instr.buildSlice 27 2 #[(0, .agg (Enq.cells ⟨[66], [], none, 0, 0, [], []⟩).toArray), (1, .agg (Enq.cells ⟨[65], [], none, 0, 0, [], []⟩).toArray)]).run Try.prog w = .ok (.slice (some ⟨w.heap.size, 0, none⟩) 2 2) (w.alloc (.cells (badL.flatMap Enq.cells).toArray 44)) := by
  kernel_rfl
theorem wpList_two {P : Program} {ops : Array Oper} {rest : List Oper} {o : Oper} {a : Act} {w : World} {Q : Exit → Act → World → Prop} (hg : o.guard = none) (t : TypeId) (x y : Operand) (ho : o.op = .buildSlice t 2 #[(0, x), (1, y)])
    (v0 v1 : Value) (hx : a.eval x = v0) (hy : a.eval y = v1) (u : Value) (w' : World) (hr : (Instr.buildSlice t 2 #[(0, v0), (1, v1)]).run P w = .ok u w')
    (h : wpList P ops Q rest (a.put o.dst u) w') : wpList P ops Q (o :: rest) a w :=
  wpList_plain hg fun K' hK' => by
    unfold Oper.wp execOp
    simp only [ho, Sem.run_bind, List.map_toArray, List.map_cons, List.map_nil, hx, hy, hr, Result.andThen_ok]
    exact hK' _ _ h
end Go.Proofs.Ytclgiapmbmbknaa
/- What RepoBad does to a disk, and what is seen of it; no statement of the seat is proved here. -/
namespace Go.Proofs.Ytclgiapmbmbknaa
open Go.RowKit Go.Maps
set_option linter.unusedVariables false
set_option linter.unusedSimpArgs false

theorem allN_mem {O : List (Nat × Nat)} {F : Fl} (h : Good O F) {n v : List UInt8} (hn : F n = some v) : n ∈ allN ∧ v.length ≤ 600 := by
  obtain ⟨h1, h2⟩ := h.only n v hn
  refine ⟨?_, h2⟩
  rcases h1 with rfl | rfl | ⟨x, hx, rfl, _⟩
  · simp [allN]
  · simp [allN]
  · simp only [allN, List.mem_cons]
    exact .inr (.inr (List.mem_map.2 ⟨x, mem_allX.2 hx, rfl⟩))
/-- A file turned, or gone, where a list's files were: what Recover sees. -/
structure Hurt (P : List (Nat × Nat)) (x : Nat × Nat) (s : Ds) : Prop where
  dn : s.dn = false
  fall : s.fall < 0
  list : s.R nList = some (encX P)
  len : ∀ n v, s.R n = some v → n ∈ allN ∧ v.length ≤ 600
  bad : (textA s.R (dgt x)).2 ≠ 0
theorem Ds.R_tick {s : Ds} (hc : s.cs = []) (c : Ch) : (s.tick (s.cs ++ [c])).R = chDo s.F c := by
  unfold Ds.R Ds.tick
  simp [hc]
theorem enc_list {P : List (Nat × Nat)} {F : Fl} (h : Good P F) (hne : P ≠ []) : F nList = some (encX P) := by
  rcases h.list with h1 | ⟨_, h1⟩
  · exact h1
  · exact absurd h1 hne
theorem hurt_write {P : List (Nat × Nat)} {x : Nat × Nat} {s : Ds} (hP : OkX P) (hx : x ∈ P) (h : Exact P s.F) (hc : s.cs = []) (hf : s.fall < 0) : Hurt P x (s.tick (s.cs ++ [⟨0, bnm (dgt x), tTurn⟩])) := by
  have hR := Ds.R_tick hc ⟨0, bnm (dgt x), tTurn⟩
  have e : chDo s.F ⟨0, bnm (dgt x), tTurn⟩ = s.F.set (bnm (dgt x)) tTurn := by simp [chDo]
  rw [e] at hR
  have hne : nList ≠ bnm (dgt x) := fun e => bnm_ne_list _ e.symm
  refine ⟨rfl, by rw [tick_fall hf]; exact hf, ?_, fun n v hn => ?_, ?_⟩
  · rw [hR]
    simp only [Fl.set, if_neg hne]
    exact enc_list h.good (fun e => by rw [e] at hx; cases hx)
  · rw [hR] at hn
    unfold Fl.set at hn
    by_cases e : n = bnm (dgt x)
    · rw [if_pos e] at hn
      injection hn with hn
      subst hn
      refine ⟨?_, by decide⟩
      rw [e]
      simp only [allN, List.mem_cons]
      exact .inr (.inr (List.mem_map.2 ⟨x, mem_allX.2 (hP.is x hx), rfl⟩))
    · rw [if_neg e] at hn
      exact allN_mem h.good hn
  · have h1 : (s.tick (s.cs ++ [⟨0, bnm (dgt x), tTurn⟩])).R (bnm (dgt x)) = some tTurn := by rw [hR]; simp [Fl.set]
    have h2 := turn_ne (hP.is x hx)
    unfold textA
    rw [h1]
    show (if sumM tTurn = dgt x then (tTurn, (0 : Int)) else ([], 40)).2 ≠ 0
    rw [if_neg h2]
    show (40 : Int) ≠ 0
    omega
theorem hurt_remove {P : List (Nat × Nat)} {x : Nat × Nat} {s : Ds} (hP : OkX P) (hx : x ∈ P) (h : Exact P s.F) (hc : s.cs = []) (hf : s.fall < 0) : Hurt P x (s.tick (s.cs ++ [⟨2, bnm (dgt x), []⟩])) := by
  have hR := Ds.R_tick hc ⟨2, bnm (dgt x), []⟩
  have e : chDo s.F ⟨2, bnm (dgt x), []⟩ = s.F.del (bnm (dgt x)) := by simp [chDo]
  rw [e] at hR
  have hne : nList ≠ bnm (dgt x) := fun e => bnm_ne_list _ e.symm
  refine ⟨rfl, by rw [tick_fall hf]; exact hf, ?_, fun n v hn => ?_, ?_⟩
  · rw [hR]
    simp only [Fl.del, if_neg hne]
    exact enc_list h.good (fun e => by rw [e] at hx; cases hx)
  · rw [hR] at hn
    unfold Fl.del at hn
    by_cases e : n = bnm (dgt x)
    · rw [if_pos e] at hn; cases hn
    · rw [if_neg e] at hn
      exact allN_mem h.good hn
  · have h1 : (s.tick (s.cs ++ [⟨2, bnm (dgt x), []⟩])).R (bnm (dgt x)) = none := by rw [hR]; simp [Fl.del]
    unfold textA
    rw [h1]
    show (5 : Int) ≠ 0
    omega
theorem no_stop {s : Ds} (h1 : s.dn = false) (h2 : s.fall < 0) : ¬ s.stop := fun h => by
  rcases h with h | h
  · rw [h1] at h; cases h
  · omega
theorem hurt_tot {F : Fl} (h : ∀ n v, F n = some v → n ∈ allN ∧ v.length ≤ 600) : ∃ tot, Tot F tot ∧ tot ≤ 15600 := by
  have := tot_of (U := allN) (F := F) allN_nodup h
  rwa [allN_len] at this
/-- 'turned' in a file's stead. -/
theorem turn_ok {w : World} {B g M : Nat} {P : List (Nat × Nat)} {x : Nat × Nat} {s : Ds} (h : Calm w B g 65536 M P s) (hM : M ≤ 80000) (hx : x ∈ P) :
    Calls Try.prog 12 #[.pointer (some ⟨g, 0, none⟩), S (bnm (dgt x)), S tTurn] w (fun e w' => ∃ s', e = .returned (.int .i64 0) ∧ DAt w' B g 65536 (M + 1) s' ∧ Fr B w w' ∧ Hurt P x s') := by
  obtain ⟨tot, hT, ht⟩ := hurt_tot (F := s.R) (by rw [Ds.R_nil h.cs]; exact fun n v hn => allN_mem h.ex.good hn)
  refine (write_ds B g 65536 M s w h.dat (bnm (dgt x)) tTurn hM (by omega) tot hT (by omega) (by unfold bnm; simp) (by rw [bnm_len, dgt_len]; omega) (by decide)).mono ?_
  rintro e w' ⟨s', v, rfl, hd, hf, ⟨_, _, hs⟩ | ⟨_, ⟨rfl, rfl⟩ | ⟨_, _, hr⟩⟩⟩
  · exact absurd hs (no_stop h.dn h.fall)
  · exact ⟨_, rfl, hd, hf, hurt_write h.ok hx h.ex h.cs h.fall⟩
  · exact absurd hr (by have : tTurn.length = 6 := rfl; omega)
theorem gone_ok {w : World} {B g M : Nat} {P : List (Nat × Nat)} {x : Nat × Nat} {s : Ds} (h : Calm w B g 65536 M P s) (hM : M ≤ 80000) (hx : x ∈ P) :
    Calls Try.prog 13 #[.pointer (some ⟨g, 0, none⟩), S (bnm (dgt x))] w (fun e w' => ∃ s', e = .returned (.int .i64 0) ∧ DAt w' B g 65536 (M + 1) s' ∧ Fr B w w' ∧ Hurt P x s') := by
  refine (remove_ds B g 65536 M s w h.dat (bnm (dgt x)) hM (by unfold short; rw [bnm_len, dgt_len]; omega)).mono ?_
  rintro e w' ⟨s', v, rfl, hd, hf, ⟨_, _, hs⟩ | ⟨_, ⟨rfl, _, rfl⟩ | ⟨_, hn, _⟩⟩⟩
  · exact absurd hs (no_stop h.dn h.fall)
  · exact ⟨_, rfl, hd, hf, hurt_remove h.ok hx h.ex h.cs h.fall⟩
  · rw [Ds.R_nil h.cs] at hn
    have := h.ex.good.blob x hx
    rw [show nmX x = bnm (dgt x) from rfl, hn] at this
    cases this
theorem hurt_recov {w : World} {B g M : Nat} {P : List (Nat × Nat)} {x : Nat × Nat} {s : Ds} (hd : DAt w B g 65536 M s) (h : Hurt P x s) (hP : OkX P) (hx : x ∈ P) (hM : M ≤ 78000) :
    Calls Try.prog 10 #[.agg #[.pointer (some ⟨g, 0, none⟩)]] w (fun e w' => e = .returned (.tuple #[.slice none 0 0, .int .i64 40]) ∧ Below w.heap.size w w') := by
  refine (recov_gen P hP B g 65536 M s w hd hM h.dn (.inl h.list) (fun y _ t ht => by have := (h.len _ _ ht).2; omega) (fun ha => absurd (ha x hx) h.bad)).mono ?_
  rintro e w' (⟨_, h1, h2⟩ | ⟨ha, _⟩)
  · exact ⟨h1, h2⟩
  · exact absurd (ha x hx) h.bad
theorem hurt_list {w : World} {B g M : Nat} {P : List (Nat × Nat)} {x : Nat × Nat} {s : Ds} (hd : DAt w B g 65536 M s) (h : Hurt P x s) (hM : M ≤ 80000) :
    Calls Try.prog 12 #[.pointer (some ⟨g, 0, none⟩), S nList, S tNo] w (fun e w' => ∃ s', e = .returned (.int .i64 0) ∧ DAt w' B g 65536 (M + 1) s' ∧ Fr B w w' ∧ s'.dn = false ∧ s'.R nList = some tNo) := by
  obtain ⟨tot, hT, ht⟩ := hurt_tot h.len
  refine (write_ds B g 65536 M s w hd nList tNo hM (by omega) tot hT (by omega) (by decide) (by decide) (by decide)).mono ?_
  rintro e w' ⟨s', v, rfl, hd2, hf, ⟨_, _, hs⟩ | ⟨_, ⟨rfl, rfl⟩ | ⟨_, _, hr⟩⟩⟩
  · exact absurd hs (no_stop h.dn h.fall)
  · refine ⟨_, rfl, hd2, hf, rfl, ?_⟩
    show ((s.cs ++ [(⟨0, nList, tNo⟩ : Ch)]).foldl chDo s.F) nList = some tNo
    rw [List.foldl_append]
    simp [chDo, Fl.set]
  · exact absurd hr (by have : tNo.length = 7 := rfl; omega)
end Go.Proofs.Ytclgiapmbmbknaa
/- RepoBad, walked; no statement of the seat is proved here. -/
namespace Go.Proofs.Ytclgiapmbmbknaa
open Go.RowKit Go.Maps
set_option linter.unusedVariables false
set_option linter.unusedSimpArgs false

theorem load_bad (B g room M : Nat) (s : Ds) (w : World) (h : DAt w B g room M s) (hM : M ≤ 80000) (hu : s.dn = false) (t : List UInt8) (hR : s.R nList = some t) (ht : t.length ≤ 1000) (hd : decM t = none) :
    Calls Try.prog 14 #[.agg #[.pointer (some ⟨g, 0, none⟩)]] w (fun e w' => e = .returned (.tuple #[.slice none 0 0, .int .i64 40]) ∧ Below w.heap.size w w') := by
  refine (load_some B g room M s w h hM hu t hR ht).mono ?_
  rintro e w' ⟨hb, ⟨_, he⟩ | ⟨A, c, L, _, hs, _⟩⟩
  · exact ⟨he, hb⟩
  · rw [hd] at hs; cases hs
set_option maxRecDepth 100000 in
set_option maxHeartbeats 4000000 in
theorem bad_walk (w : World) (A0 : Option Addr) (n0 c0 : Nat) (l0 : List Int) (r0 : Rd w (fun b => w.heap.size ≤ b) 1 A0 n0 (l0.map (Value.int .i64))) (m0 : n0 ≤ 9223372036854775807) (which : Int) (turn : Bool) :
    Calls Try.prog 3 #[.slice A0 n0 c0, .int .i64 which, .bool turn] w (Gives w (.bool true)) := by
  have HR0 := hide r0
  have HH := hide (head_any w)
  clear r0
  go_enter Try.func3, Try.ntmps3
  go_upto_region 3 with (go_at_call 6; refine HH.out.mono ?_; rintro e w1 ⟨rfl, hb1⟩; have HB1 := hide hb1; clear hb1)
  by_cases h0 : n0 ≤ 20
  case neg =>
    go_wp2_with fail
    go_ret
    exact ⟨rfl, HB1.out⟩
  case pos =>
    have HNW := hide (new_ds 65536 (by omega) w1)
    go_upto_region 6 with (go_at_call 7; refine HNW.out.mono ?_; rintro e w2 ⟨g, rfl, hd2, hb2⟩; have HC2 := hide hd2; have HB2 := hide (HB1.out.trans (hb2.mono HB1.out.size)); clear hd2 hb2)
    have HWB : Hid (w.heap.size ≤ w1.heap.size) := hide HB1.out.size
    obtain ⟨B, hB⟩ : ∃ B, B = w1.heap.size := ⟨_, rfl⟩
    rw [← hB] at HC2 HWB
    clear hB HNW HB1
    have hrw : Rd w2 (fun b => w2.heap.size ≤ b) 1 A0 n0 (l0.map (Value.int .i64)) := (HR0.out.below HB2.out).weak (fun b h1 h2 => by omega)
    have HMD := hide (made_any w2 A0 n0 c0 l0 hrw h0 0)
    obtain ⟨P, hP⟩ : ∃ P, P = madeX l0 0 := ⟨_, rfl⟩
    have HPO : Hid (OkX P) := hide (by rw [hP]; exact madeX_ok l0 0)
    rw [← hP] at HMD
    clear hP hrw HR0
    go_upto_region 7 with (go_at_call 8; refine HMD.out.mono ?_; rintro e w3 ⟨A5, c5, L5, A6, n6, c6, rfl, hpl5, hli5, hn6, hf6, hb5⟩; have HPL := hide hpl5; have HLI3 := hide hli5; have HN6 := hide hn6; have HFO3 := hide hf6; have HB23 := hide hb5; clear hpl5 hli5 hn6 hf6 hb5)
    have HC3 : Hid (Calm w3 B g 65536 0 [] ⟨fun _ => none, [], -1, false⟩) := hide ⟨HC2.out.below HB23.out, OkX.nil, rfl, rfl, Exact.none, by show (-1 : Int) < 0; omega⟩
    have HB3 : Hid (Below w.heap.size w w3) := hide (HB2.out.trans (HB23.out.mono HB2.out.size))
    obtain ⟨qr, hqr⟩ : ∃ q, q = w3.heap.size := ⟨_, rfl⟩
    clear HMD HB23 HC2 HB2
    go_upto_region 8 with fail
    obtain ⟨w4, hw4⟩ : ∃ x, x = w3.alloc (.cells #[.pointer (some ⟨g, 0, none⟩)] 34) := ⟨_, rfl⟩
    have HB34 : Hid (Below w3.heap.size w3 w4) := hide (by rw [hw4]; exact (Below.refl _ w3).alloc (Nat.le_refl _) _)
    have HQ4 : Hid (Blk w4 qr 34 #[.pointer (some ⟨g, 0, none⟩)]) := hide (by rw [hw4, hqr]; exact Blk.new _ _ _)
    rw [← hw4, ← hqr]
    clear hw4 hqr
    have HC4 := hide (HC3.out.below HB34.out)
    have HLI4 := hide (HLI3.out.onb HB34.out)
    have HFO4 := hide (own_keep (F := fun _ => False) HFO3.out (Keep.of_below HB34.out (fun k h1 h2 => by omega)) (fun _ _ h => h))
    have HB4 : Hid (Below w.heap.size w w4) := hide (HB3.out.trans (HB34.out.mono HB3.out.size))
    have q0 : w4.cell? ⟨qr, 0, none⟩ = some (.pointer (some ⟨g, 0, none⟩)) := HQ4.out.cell 0
    clear HC3 HLI3 HFO3 HB3 HB34
    go_upto_region 10 with (go_at_call 9; refine (commit_ok HC4.out HPO.out (by omega) (by omega) (by omega) w2.heap.size A5 c5 L5 HPL.out HLI4.out w2.heap.size A6 n6 c6 HFO4.out HN6.out).mono ?_; rintro e w5 ⟨s5, rfl, hc5, hf5⟩; have HC5 := hide hc5; have HF5 := hide hf5; clear hc5 hf5)
    have HLI5 := hide (HLI4.out.fr HF5.out)
    have HQ5 := hide (HF5.out.far qr _ _ (by decide) (by decide) HQ4.out)
    have HB5 : Hid (Below w.heap.size w w5) := hide (HB4.out.trans (HF5.out.bel.mono HWB.out))
    have HLN : Hid (L5.length = P.length) := hide (len_of HPL.out)
    clear HC4 HLI4 HFO4 HB4 q0 HF5 HQ4
    have q0 : w5.cell? ⟨qr, 0, none⟩ = some (.pointer (some ⟨g, 0, none⟩)) := HQ5.out.cell 0
    obtain ⟨n, hn⟩ : ∃ n, n = L5.length := ⟨_, rfl⟩
    have HNL := hide hn
    have hn6 : n ≤ 6 := by have := HPO.out.len; have := HLN.out; omega
    have HNP : Hid (n = P.length) := hide (by rw [hn]; exact HLN.out)
    rw [← hn] at HLI5 ⊢
    clear hn HLN
    by_cases hz : n = 0
    case pos =>
      subst hz
      go_upto_region 12 with (go_at_call 10; refine (recov_ok HC5.out (by omega)).mono ?_; rintro e w6 ⟨s6, A7, c7, L7, rfl, hpl7, hli7, hc7, hf7⟩; have HPL7 := hide hpl7; have HF7 := hide hf7; clear hpl7 hli7 hc7 hf7)
      have hl7 : L7.length = 0 := by rw [len_of HPL7.out, ← HNP.out]
      rw [hl7]
      clear hl7
      go_wp2_with fail
      go_ret
      exact ⟨rfl, HB5.out.trans (HF7.out.bel.mono HWB.out)⟩
    case neg =>
      obtain ⟨m, hm255, hmb⟩ := i64_low' 8 255 (by omega) rfl which
      replace hmb : bits .and .i64 which 255 = (m : Int) := hmb
      obtain ⟨i, hi⟩ : ∃ i, i = m % n := ⟨_, rfl⟩
      have hin : i < n := by rw [hi]; exact Nat.mod_lt _ (by omega)
      have hrem : Int.tmod (m : Int) (n : Int) = (i : Int) := by rw [hi]; exact (Int.ofNat_tmod m n).symm
      have hip : i < P.length := by rw [← HNP.out]; exact hin
      clear hi
      obtain ⟨x, o, Aa, ca, rfl, hx, he⟩ := li_ent HLI5.out HPL.out (by omega) hin hip
      obtain ⟨y, hy⟩ : ∃ y, y = P[i] := ⟨_, rfl⟩
      have HYM : Hid (y ∈ P) := hide (by rw [hy]; exact List.getElem_mem hip)
      rw [← hy] at he
      obtain ⟨dz, hdz⟩ : ∃ z, z = darr (dgt y) := ⟨_, rfl⟩
      have HDZ := hide (dg_size hdz (dgt_len _))
      have HRG : Hid (w5.rangeAt x (o + i * 66 + 34) dz.toList) := hide (by rw [hdz]; exact he.b)
      obtain ⟨nm, hnm⟩ : ∃ z, z = bnm (dgt y) := ⟨_, rfl⟩
      have HNM := hide hnm
      have HNA : Hid (∀ W, Calls Try.prog 11 #[.agg dz] W (Gives W (S nm))) := hide (fun W => by rw [hdz, hnm]; exact name_any W (dgt y) (dgt_len y))
      clear hy hdz hnm he hx
      go_upto_region 14 with (first
        | (refine wpList_load_mid rfl 41 (.tmp 60) rfl x (o + i * 66 + 34) rfl dz.toList _ HRG.out Try.underlying41 rfl (by rw [Array.length_toList, HDZ.out.1]; exact dig_info) ?_; rw [Array.toArray_toList])
        | (go_at_call 11; refine (HNA.out w5).mono ?_; rintro e w6 ⟨rfl, hb6⟩; have HB56 := hide hb6; clear hb6))
      have HC6 := hide (HC5.out.below HB56.out)
      have HQ6 := hide (HQ5.out.below HB56.out HQ5.out.lt)
      have HB6 : Hid (Below w.heap.size w w6) := hide (HB5.out.trans (HB56.out.mono HB5.out.size))
      have HTU := hide (turn_ok HC6.out (by omega) HYM.out)
      have HGO := hide (gone_ok HC6.out (by omega) HYM.out)
      rw [← HNM.out] at HTU HGO
      clear HC5 HQ5 HB5 HB56 HRG HNA q0 hmb hrem
      cases turn with
      | true =>
        go_upto_region 17 with (go_at_call 12; refine HTU.out.mono ?_; rintro e w7 ⟨s7, rfl, hd7, hf7, hu7⟩; have HD7 := hide hd7; have HF7 := hide hf7; have HU7 := hide hu7; clear hd7 hf7 hu7)
        have HQ7 := hide (HF7.out.far qr _ _ (by decide) (by decide) HQ6.out)
        have HB7 : Hid (Below w.heap.size w w7) := hide (HB6.out.trans (HF7.out.bel.mono HWB.out))
        have q0 : w7.cell? ⟨qr, 0, none⟩ = some (.pointer (some ⟨g, 0, none⟩)) := HQ7.out.cell 0
        clear HTU HGO HC6 HQ6 HB6 HF7
        go_upto_region 18 with (go_at_call 10; refine (hurt_recov HD7.out HU7.out HPO.out HYM.out (by omega)).mono ?_; rintro e w8 ⟨rfl, hb8⟩; have HB78 := hide hb8; clear hb8)
        have HD8 := hide (HD7.out.below HB78.out)
        have HQ8 := hide (HQ7.out.below HB78.out HQ7.out.lt)
        have HB8 : Hid (Below w.heap.size w w8) := hide (HB7.out.trans (HB78.out.mono HB7.out.size))
        clear HD7 HQ7 HB7 HB78 q0
        go_upto_region 19 with (go_at_call 12; refine (hurt_list HD8.out HU7.out (by omega)).mono ?_; rintro e w9 ⟨s9, rfl, hd9, hf9, hn9, hl9⟩; have HD9 := hide hd9; have HF9 := hide hf9; have HU9 := hide (And.intro hn9 hl9); clear hd9 hf9 hn9 hl9)
        have HQ9 := hide (HF9.out.far qr _ _ (by decide) (by decide) HQ8.out)
        have HB9 : Hid (Below w.heap.size w w9) := hide (HB8.out.trans (HF9.out.bel.mono HWB.out))
        have q0 : w9.cell? ⟨qr, 0, none⟩ = some (.pointer (some ⟨g, 0, none⟩)) := HQ9.out.cell 0
        clear HD8 HQ8 HB8 HF9
        go_upto_region 20 with (go_at_call 14; refine (load_bad B g 65536 103 s9 w9 (HD9.out.mono (by omega)) (by omega) HU9.out.1 tNo HU9.out.2 (by decide) dec_no).mono ?_; rintro e w10 ⟨rfl, hb10⟩; have HB910 := hide hb10; clear hb10)
        have HQ10 := hide (HQ9.out.below HB910.out HQ9.out.lt)
        have HD10 := hide (HD9.out.below HB910.out)
        have HB10 : Hid (Below w.heap.size w w10) := hide (HB9.out.trans (HB910.out.mono HB9.out.size))
        clear HQ9 HD9 HB9 HB910 q0
        obtain ⟨v0, hv0⟩ : ∃ v, v = (Enq.cells ⟨[66], [], none, 0, 0, [], []⟩).toArray := ⟨_, rfl⟩
        obtain ⟨v1, hv1⟩ : ∃ v, v = (Enq.cells ⟨[65], [], none, 0, 0, [], []⟩).toArray := ⟨_, rfl⟩
        obtain ⟨vb, hvb⟩ : ∃ v, v = (badL.flatMap Enq.cells).toArray := ⟨_, rfl⟩
        have HV0 : Hid (∀ _ : Unit, v0 = (Enq.cells ⟨[66], [], none, 0, 0, [], []⟩).toArray) := hide (fun _ => hv0)
        have HV1 : Hid (∀ _ : Unit, v1 = (Enq.cells ⟨[65], [], none, 0, 0, [], []⟩).toArray) := hide (fun _ => hv1)
        have HVB : Hid (∀ _ : Unit, vb = (badL.flatMap Enq.cells).toArray) := hide (fun _ => hvb)
        have HR2 : Hid (∀ w, (Instr.buildSlice 27 2 #[(0, .agg v0), (1, .agg v1)]).run Try.prog w = .ok (.slice (some ⟨w.heap.size, 0, none⟩) 2 2) (w.alloc (.cells vb 44))) := hide (fun w => by rw [hv0, hv1, hvb]; exact run_two w)
        clear hv0 hv1 hvb
        go_upto_region 21 with (first
          | (refine wpList_en1 rfl _ rfl [66] rfl v0 (HV0.out ()) ?_)
          | (refine wpList_en1 rfl _ rfl [65] rfl v1 (HV1.out ()) ?_)
          | (refine wpList_two rfl 27 (.tmp 82) (.tmp 83) rfl (.agg v0) (.agg v1) rfl rfl _ _ (HR2.out w10) ?_))
        obtain ⟨w11, hw11⟩ : ∃ x, x = w10.alloc (.cells vb 44) := ⟨_, rfl⟩
        obtain ⟨qv, hqv⟩ : ∃ q, q = w10.heap.size := ⟨_, rfl⟩
        have HB1011 : Hid (Below w10.heap.size w10 w11) := hide (by rw [hw11]; exact (Below.refl _ w10).alloc (Nat.le_refl _) _)
        have HQV : Hid (Blk w11 qv 44 vb) := hide (by rw [hw11, hqv]; exact Blk.new _ _ _)
        rw [← hw11, ← hqv]
        clear hw11 hqv HR2 HV0 HV1
        have HQ11 := hide (HQ10.out.below HB1011.out HQ10.out.lt)
        have HD11 := hide (HD10.out.below HB1011.out)
        have HB11 : Hid (Below w.heap.size w w11) := hide (HB10.out.trans (HB1011.out.mono HB10.out.size))
        have q0 : w11.cell? ⟨qr, 0, none⟩ = some (.pointer (some ⟨g, 0, none⟩)) := HQ11.out.cell 0
        clear HQ10 HD10 HB10 HB1011
        go_wp2_with (first
          | (go_at_call 9; refine (commit_bad B g 65536 103 s9 w11 (HD11.out.mono (by omega)) (by omega) HU9.out.1 tNo HU9.out.2 (by decide) dec_no _ _ _ _ _ _).mono ?_; rintro e w12 ⟨rfl, hb12⟩; have HB12 := hide hb12; clear hb12)
          | (go_at_call 15; have hrr := right_any (some ⟨qv, 0, none⟩) 2 2 badL w12 (bad_li (by rw [← HVB.out ()]; exact HQV.out.below HB12.out HQV.out.lt)); rw [bad_right] at hrr; refine hrr.mono ?_; clear hrr; rintro e w13 ⟨rfl, hb13⟩; have HB13 := hide (HB12.out.trans (hb13.mono HB12.out.size)); clear hb13))
        go_ret
        exact ⟨rfl, HB11.out.trans (HB13.out.mono HB11.out.size)⟩
      | false =>
        go_upto_region 17 with (go_at_call 13; refine HGO.out.mono ?_; rintro e w7 ⟨s7, rfl, hd7, hf7, hu7⟩; have HD7 := hide hd7; have HF7 := hide hf7; have HU7 := hide hu7; clear hd7 hf7 hu7)
        have HQ7 := hide (HF7.out.far qr _ _ (by decide) (by decide) HQ6.out)
        have HB7 : Hid (Below w.heap.size w w7) := hide (HB6.out.trans (HF7.out.bel.mono HWB.out))
        have q0 : w7.cell? ⟨qr, 0, none⟩ = some (.pointer (some ⟨g, 0, none⟩)) := HQ7.out.cell 0
        clear HTU HGO HC6 HQ6 HB6 HF7
        go_upto_region 18 with (go_at_call 10; refine (hurt_recov HD7.out HU7.out HPO.out HYM.out (by omega)).mono ?_; rintro e w8 ⟨rfl, hb8⟩; have HB78 := hide hb8; clear hb8)
        have HD8 := hide (HD7.out.below HB78.out)
        have HQ8 := hide (HQ7.out.below HB78.out HQ7.out.lt)
        have HB8 : Hid (Below w.heap.size w w8) := hide (HB7.out.trans (HB78.out.mono HB7.out.size))
        clear HD7 HQ7 HB7 HB78 q0
        go_upto_region 19 with (go_at_call 12; refine (hurt_list HD8.out HU7.out (by omega)).mono ?_; rintro e w9 ⟨s9, rfl, hd9, hf9, hn9, hl9⟩; have HD9 := hide hd9; have HF9 := hide hf9; have HU9 := hide (And.intro hn9 hl9); clear hd9 hf9 hn9 hl9)
        have HQ9 := hide (HF9.out.far qr _ _ (by decide) (by decide) HQ8.out)
        have HB9 : Hid (Below w.heap.size w w9) := hide (HB8.out.trans (HF9.out.bel.mono HWB.out))
        have q0 : w9.cell? ⟨qr, 0, none⟩ = some (.pointer (some ⟨g, 0, none⟩)) := HQ9.out.cell 0
        clear HD8 HQ8 HB8 HF9
        go_upto_region 20 with (go_at_call 14; refine (load_bad B g 65536 103 s9 w9 (HD9.out.mono (by omega)) (by omega) HU9.out.1 tNo HU9.out.2 (by decide) dec_no).mono ?_; rintro e w10 ⟨rfl, hb10⟩; have HB910 := hide hb10; clear hb10)
        have HQ10 := hide (HQ9.out.below HB910.out HQ9.out.lt)
        have HD10 := hide (HD9.out.below HB910.out)
        have HB10 : Hid (Below w.heap.size w w10) := hide (HB9.out.trans (HB910.out.mono HB9.out.size))
        clear HQ9 HD9 HB9 HB910 q0
        obtain ⟨v0, hv0⟩ : ∃ v, v = (Enq.cells ⟨[66], [], none, 0, 0, [], []⟩).toArray := ⟨_, rfl⟩
        obtain ⟨v1, hv1⟩ : ∃ v, v = (Enq.cells ⟨[65], [], none, 0, 0, [], []⟩).toArray := ⟨_, rfl⟩
        obtain ⟨vb, hvb⟩ : ∃ v, v = (badL.flatMap Enq.cells).toArray := ⟨_, rfl⟩
        have HV0 : Hid (∀ _ : Unit, v0 = (Enq.cells ⟨[66], [], none, 0, 0, [], []⟩).toArray) := hide (fun _ => hv0)
        have HV1 : Hid (∀ _ : Unit, v1 = (Enq.cells ⟨[65], [], none, 0, 0, [], []⟩).toArray) := hide (fun _ => hv1)
        have HVB : Hid (∀ _ : Unit, vb = (badL.flatMap Enq.cells).toArray) := hide (fun _ => hvb)
        have HR2 : Hid (∀ w, (Instr.buildSlice 27 2 #[(0, .agg v0), (1, .agg v1)]).run Try.prog w = .ok (.slice (some ⟨w.heap.size, 0, none⟩) 2 2) (w.alloc (.cells vb 44))) := hide (fun w => by rw [hv0, hv1, hvb]; exact run_two w)
        clear hv0 hv1 hvb
        go_upto_region 21 with (first
          | (refine wpList_en1 rfl _ rfl [66] rfl v0 (HV0.out ()) ?_)
          | (refine wpList_en1 rfl _ rfl [65] rfl v1 (HV1.out ()) ?_)
          | (refine wpList_two rfl 27 (.tmp 82) (.tmp 83) rfl (.agg v0) (.agg v1) rfl rfl _ _ (HR2.out w10) ?_))
        obtain ⟨w11, hw11⟩ : ∃ x, x = w10.alloc (.cells vb 44) := ⟨_, rfl⟩
        obtain ⟨qv, hqv⟩ : ∃ q, q = w10.heap.size := ⟨_, rfl⟩
        have HB1011 : Hid (Below w10.heap.size w10 w11) := hide (by rw [hw11]; exact (Below.refl _ w10).alloc (Nat.le_refl _) _)
        have HQV : Hid (Blk w11 qv 44 vb) := hide (by rw [hw11, hqv]; exact Blk.new _ _ _)
        rw [← hw11, ← hqv]
        clear hw11 hqv HR2 HV0 HV1
        have HQ11 := hide (HQ10.out.below HB1011.out HQ10.out.lt)
        have HD11 := hide (HD10.out.below HB1011.out)
        have HB11 : Hid (Below w.heap.size w w11) := hide (HB10.out.trans (HB1011.out.mono HB10.out.size))
        have q0 : w11.cell? ⟨qr, 0, none⟩ = some (.pointer (some ⟨g, 0, none⟩)) := HQ11.out.cell 0
        clear HQ10 HD10 HB10 HB1011
        go_wp2_with (first
          | (go_at_call 9; refine (commit_bad B g 65536 103 s9 w11 (HD11.out.mono (by omega)) (by omega) HU9.out.1 tNo HU9.out.2 (by decide) dec_no _ _ _ _ _ _).mono ?_; rintro e w12 ⟨rfl, hb12⟩; have HB12 := hide hb12; clear hb12)
          | (go_at_call 15; have hrr := right_any (some ⟨qv, 0, none⟩) 2 2 badL w12 (bad_li (by rw [← HVB.out ()]; exact HQV.out.below HB12.out HQV.out.lt)); rw [bad_right] at hrr; refine hrr.mono ?_; clear hrr; rintro e w13 ⟨rfl, hb13⟩; have HB13 := hide (HB12.out.trans (hb13.mono HB12.out.size)); clear hb13))
        go_ret
        exact ⟨rfl, HB11.out.trans (HB13.out.mono HB11.out.size)⟩
end Go.Proofs.Ytclgiapmbmbknaa
