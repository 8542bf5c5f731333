/- The tokens of two texts with a newline between: the law's walk; no statement of the seat is proved here. -/
import Derived.Test.YtoilalfchnglcaaDoorLexAgain
namespace Go.Proofs.YtoilalfchnglcaaDoor
open Go.RowKit

/-- What the law asks of the three answers. -/
theorem join_err {a b : List UInt8} (ha : a.length ≤ 300) (hb : b.length ≤ 300) {er p : Nat} (h : lexM a = .error (er, p)) :
    lexM (a ++ 10 :: b) = .error (er, p) ∧ pos (a ++ 10 :: b) p = pos a p := by
  rw [lexM_join a b ha hb, h]
  exact ⟨rfl, pos_left a b p (lexM_err (by omega) h).2⟩
theorem join_err2 {a b : List UInt8} (ha : a.length ≤ 300) (hb : b.length ≤ 300) {ts : List (Tk × Nat)} {er p : Nat} (h : lexM a = .ok ts) (h2 : lexM b = .error (er, p)) :
    lexM (a ++ 10 :: b) = .error (er, p + (a.length + 1)) ∧ pos (a ++ 10 :: b) (p + (a.length + 1)) = ((pos b p).1 + (1 + a.count 10), (pos b p).2) := by
  rw [lexM_join a b ha hb, h, h2]
  exact ⟨rfl, pos_right a b p⟩
theorem lexM_offs : ∀ (f : Nat) (rest : List UInt8) (a : Nat) (ts : List (Tk × Nat)), lexR f rest a = .ok ts → rest.length < f → ∀ x ∈ ts, x.2 ≤ a + rest.length
  | 0, _, _, _, _, h => absurd h (Nat.not_lt_zero _)
  | f + 1, rest, a, ts, h, hf => by
    have hl := skipR_len false rest
    have hb : (a + (rest.length - (skipR false rest).length)) + (skipR false rest).length = a + rest.length := by omega
    rw [lexR_succ f rest _ a _ rfl hb] at h
    cases hn : nextM (skipR false rest) with
    | error e => rw [hn] at h; cases h
    | ok t =>
      rw [hn] at h
      obtain ⟨hpre, hp, _, h0⟩ := nextM_len hn
      have hpl := hpre.length_le
      by_cases hk : t.kind = 0
      · simp only [hk, if_true] at h
        injection h with h
        subst h
        intro x hx
        obtain rfl := List.mem_singleton.1 hx
        simp only
        omega
      · simp only [hk, if_false] at h
        cases hx : lexR f ((skipR false rest).drop t.text.length) (a + (rest.length - (skipR false rest).length) + t.text.length) with
        | error e => rw [hx] at h; cases h
        | ok ts' =>
          rw [hx] at h
          injection h with h
          subst h
          have hpk := hp hk
          have ih := lexM_offs f _ _ _ hx (by rw [List.length_drop]; omega)
          rw [List.length_drop] at ih
          intro x hx2
          rcases List.mem_cons.1 hx2 with rfl | h3
          · simp only; omega
          · have := ih x h3; omega
theorem join_ok {a b : List UInt8} (ha : a.length ≤ 300) (hb : b.length ≤ 300) {ts us : List (Tk × Nat)} (h : lexM a = .ok ts) (h2 : lexM b = .ok us) :
    ∃ zs, lexM (a ++ 10 :: b) = .ok zs ∧ zs.length = ts.length + us.length - 1 ∧ 1 ≤ ts.length ∧
      (∀ k (h : k < ts.length) (h' : k < zs.length), k < ts.length - 1 → zs[k].1 = ts[k].1 ∧ pos (a ++ 10 :: b) zs[k].2 = pos a ts[k].2) ∧
      (∀ k (h : k < us.length) (h' : ts.length - 1 + k < zs.length), (zs[ts.length - 1 + k]).1 = us[k].1 ∧ pos (a ++ 10 :: b) (zs[ts.length - 1 + k]).2 = ((pos b us[k].2).1 + (1 + a.count 10), (pos b us[k].2).2)) := by
  have hne := lexM_ne h
  have hl : 1 ≤ ts.length := List.length_pos_iff.2 hne
  have hoff : ∀ x ∈ ts, x.2 ≤ a.length := by
    rw [lexM, if_neg (by omega)] at h
    have := lexM_offs _ _ _ _ h (by omega)
    simpa using this
  have e : lexM (a ++ 10 :: b) = .ok (ts.dropLast ++ us.map fun x => (x.1, x.2 + (a.length + 1))) := by
    rw [lexM_join a b ha hb, h, h2]
    rfl
  refine ⟨_, e, by simp; omega, hl, fun k hk hk' hk2 => ?_, fun k hk hk' => ?_⟩
  · rw [List.getElem_append_left (by simpa using hk2), List.getElem_dropLast]
    exact ⟨rfl, pos_left a b _ (hoff _ (List.getElem_mem hk))⟩
  · rw [List.getElem_append_right (by simp)]
    simp only [List.length_dropLast, Nat.add_sub_cancel_left, List.getElem_map]
    exact ⟨trivial, pos_right a b _⟩

/-- What All's answer says. -/
def AllG (s : List UInt8) (B : Nat) (w' : World) (A : Option Addr) (n c er p q : Nat) : Prop :=
  match lexM s with
  | .error (x, b) => er = x ∧ p = (pos s b).1 ∧ q = (pos s b).2
  | .ok ts => er = 0 ∧ p = 0 ∧ q = 0 ∧ n = ts.length ∧ ts.length ≤ c ∧ Rd w' (fun k => k < B) 5 A ts.length (ts.flatMap (tkL s))
theorem AllG.keep {s : List UInt8} {B : Nat} {w w' : World} {A : Option Addr} {n c er p q : Nat} (h : AllG s B w A n c er p q) (hb : Below w.heap.size w w') : AllG s B w' A n c er p q := by
  unfold AllG at h ⊢
  split
  · rename_i hx; rw [hx] at h; exact h
  · rename_i ts hx
    rw [hx] at h
    exact ⟨h.1, h.2.1, h.2.2.1, h.2.2.2.1, h.2.2.2.2.1, h.2.2.2.2.2.keep (Keep.of_below (F := fun k => k < B) hb (fun k h1 h2 => absurd h1 (by omega)))⟩
theorem all_gen {w : World} {s : List UInt8} (hs : s.length ≤ 65536) (hm : Laid w) :
    Calls Tryd.prog 10 #[S s] w fun e w' => Below w.heap.size w w' ∧ ∃ (A : Option Addr) (n c er p q : Nat), e = .returned (.tuple #[.slice A n c, .agg #[.int .i64 (er : Int), .int .i64 (p : Int), .int .i64 (q : Int)]]) ∧ AllG s w.heap.size w' A n c er p q := by
  cases h : lexM s with
  | error e => exact (all_err hs hm h).mono fun e w' ⟨hb, he⟩ => ⟨hb, none, 0, 0, _, _, _, he, by unfold AllG; rw [h]; exact ⟨rfl, rfl, rfl⟩⟩
  | ok ts => exact (all_any w s hs hm).mono fun e w' ⟨hb, hr⟩ => by
                                    rw [h] at hr
                                    obtain ⟨A, c, he, hr, hc⟩ := hr
                                    exact ⟨hb, A, ts.length, c, 0, 0, 0, he, by unfold AllG; rw [h]; exact ⟨rfl, rfl, rfl, rfl, hc, hr⟩⟩

theorem lexM_few {s : List UInt8} {ts : List (Tk × Nat)} (hs : s.length ≤ 500) (h : lexM s = .ok ts) : ts.length ≤ 1001 := by
  obtain ⟨hal, _⟩ := lexM_again hs h
  have h2 : ∀ ts : List (Tk × Nat), ts.length ≤ (againL ts).length := by
    intro ts
    induction ts with
    | nil => simp
    | cons t ts ih => rw [againL_cons]; simp; omega
  have := h2 ts
  omega
theorem pos_small {s : List UInt8} (n : Nat) (h : s.length ≤ 65536) : 1 ≤ (pos s n).1 ∧ 1 ≤ (pos s n).2 ∧ (pos s n).1 ≤ 65537 ∧ (pos s n).2 ≤ 65537 := by
  by_cases hn : n ≤ s.length
  · have := pos_le s n
    omega
  · have e : pos s n = pos s s.length := by rw [pos, pos, List.take_of_length_le (by omega), List.take_of_length_le (Nat.le_refl _)]
    rw [e]
    have := pos_le s s.length
    omega

set_option maxRecDepth 100000 in
set_option maxHeartbeats 8000000 in
theorem lexjoins_any (a b : List UInt8) (hal : a.length ≤ maxLen) (hbl : b.length ≤ maxLen) (w : World) (hm : Laid w) : Calls Tryd.prog 5 #[S a, S b] w (Gives w (.bool true)) := by
  unfold maxLen at hal hbl
  have HH := hide (head_any w hm)
  have HM := hide hm
  clear hm
  by_cases ha3 : 300 < a.length
  · have d : decide (300 < (a.length : Int)) = true := by simp; omega
    go_enter Tryd.func5, Tryd.ntmps5
    go_wp2_with (go_at_call 9; refine HH.out.mono ?_; rintro e w1 ⟨rfl, hb1⟩)
    go_ret
    exact ⟨rfl, hb1⟩
  have da : decide (300 < (a.length : Int)) = false := by simp; omega
  by_cases hb3 : 300 < b.length
  · have d : decide (300 < (b.length : Int)) = true := by simp; omega
    go_enter Tryd.func5, Tryd.ntmps5
    go_wp2_with (go_at_call 9; refine HH.out.mono ?_; rintro e w1 ⟨rfl, hb1⟩)
    go_ret
    exact ⟨rfl, hb1⟩
  have db : decide (300 < (b.length : Int)) = false := by simp; omega
  have hla : a.length ≤ 300 := by omega
  have hlb : b.length ≤ 300 := by omega
  go_enter Tryd.func5, Tryd.ntmps5
  go_upto_region 5 with (go_at_call 9; refine HH.out.mono ?_; rintro e w1 ⟨rfl, hb1⟩)
  have HM1 := hide (HM.out.below hb1 (Nat.le_refl _))
  have HB1 := hide hb1
  clear HH hb1
  have HA := hide (all_gen (w := w1) (s := a) (by omega) (HM.out.below HB1.out (Nat.le_refl _)))
  go_upto_region 6 with (go_at_call 10; refine HA.out.mono ?_; rintro e v1 ⟨hb1, A1, n1, k1, e1, p1, q1, rfl, hg1⟩)
  refine name_world ?_
  intro w2 hw2
  have HB2 : Hid (Below w.heap.size w w2) := hide (by rw [hw2]; exact (HB1.out.trans (hb1.mono HB1.out.size)).alloc (Nat.le_trans HB1.out.size hb1.size) _)
  have HD2 : Hid (Below w1.heap.size w1 w2) := hide (by rw [hw2]; exact hb1.alloc hb1.size _)
  have HG1 : Hid (AllG (a) w1.heap.size w2 A1 n1 k1 e1 p1 q1) := hide (by rw [hw2]; exact hg1.keep ((Below.refl _ _).alloc (Nat.le_refl _) _))
  have HF1 : Hid (Blk w2 v1.heap.size 28 #[.int .i64 (e1 : Int), .int .i64 (p1 : Int), .int .i64 (q1 : Int)]) := hide (by rw [hw2]; exact Blk.new _ _ _)
  clear hw2 hb1 hg1 HA
  generalize v1.heap.size = f1 at HF1 ⊢
  have HA := hide (all_gen (w := w2) (s := b) (by omega) (HM.out.below HB2.out (Nat.le_refl _)))
  go_upto_region 7 with (go_at_call 10; refine HA.out.mono ?_; rintro e v2 ⟨hb2, A2, n2, k2, e2, p2, q2, rfl, hg2⟩)
  refine name_world ?_
  intro w3 hw3
  have HB3 : Hid (Below w.heap.size w w3) := hide (by rw [hw3]; exact (HB2.out.trans (hb2.mono HB2.out.size)).alloc (Nat.le_trans HB2.out.size hb2.size) _)
  have HD3 : Hid (Below w2.heap.size w2 w3) := hide (by rw [hw3]; exact hb2.alloc hb2.size _)
  have HG2 : Hid (AllG (b) w2.heap.size w3 A2 n2 k2 e2 p2 q2) := hide (by rw [hw3]; exact hg2.keep ((Below.refl _ _).alloc (Nat.le_refl _) _))
  have HF2 : Hid (Blk w3 v2.heap.size 28 #[.int .i64 (e2 : Int), .int .i64 (p2 : Int), .int .i64 (q2 : Int)]) := hide (by rw [hw3]; exact Blk.new _ _ _)
  have HNW : Hid (w.heap.size ≤ v2.heap.size) := hide (Nat.le_trans HB2.out.size hb2.size)
  clear hw3 hb2 hg2 HA
  generalize v2.heap.size = f2 at HF2 HNW ⊢
  have HA := hide (all_gen (w := w3) (s := a ++ 10 :: b) (by simp; omega) (HM.out.below HB3.out (Nat.le_refl _)))
  go_upto_region 8 with (go_at_call 10; refine HA.out.mono ?_; rintro e v3 ⟨hb3, A3, n3, k3, e3, p3, q3, rfl, hg3⟩)
  refine name_world ?_
  intro w4 hw4
  have HB4 : Hid (Below w.heap.size w w4) := hide (by rw [hw4]; exact (HB3.out.trans (hb3.mono HB3.out.size)).alloc (Nat.le_trans HB3.out.size hb3.size) _)
  have HD4 : Hid (Below w3.heap.size w3 w4) := hide (by rw [hw4]; exact hb3.alloc hb3.size _)
  have HG3 : Hid (AllG (a ++ 10 :: b) w3.heap.size w4 A3 n3 k3 e3 p3 q3) := hide (by rw [hw4]; exact hg3.keep ((Below.refl _ _).alloc (Nat.le_refl _) _))
  have HF3 : Hid (Blk w4 v3.heap.size 28 #[.int .i64 (e3 : Int), .int .i64 (p3 : Int), .int .i64 (q3 : Int)]) := hide (by rw [hw4]; exact Blk.new _ _ _)
  have HNF : Hid (f2 ≠ v3.heap.size ∧ v3.heap.size ≠ f2) := hide (by have h1 := HF2.out.lt; have h2 := hb3.size; omega)
  clear hw4 hb3 hg3 HA
  generalize v3.heap.size = f3 at HF3 HNF ⊢
  have HG1' := hide ((HG1.out.keep HD3.out).keep HD4.out)
  have HG2' := hide (HG2.out.keep HD4.out)
  have HF1' := hide ((HF1.out.below HD3.out HF1.out.lt).below HD4.out (Nat.lt_of_lt_of_le HF1.out.lt HD3.out.size))
  have HF2' := hide (HF2.out.below HD4.out HF2.out.lt)
  clear HG1 HG2 HF1 HF2 HM1 HM HB1 HB2 HB3 HD2 HD3 HD4
  have a0 := HF1'.out.cell 0
  have a1 := HF1'.out.cell 1
  have a2 := HF1'.out.cell 2
  have b0 := HF2'.out.cell 0
  have b1 := HF2'.out.cell 1
  have b2 := HF2'.out.cell 2
  have z0 := HF3.out.cell 0
  have z1 := HF3.out.cell 1
  have z2 := HF3.out.cell 2
  simp at a0 a1 a2 b0 b1 b2 z0 z1 z2
  cases hl : lexM a with
  | error e =>
    obtain ⟨er, p⟩ := e
    have he := err_ne (lexM_err (by omega) hl).1
    obtain ⟨hz, hp⟩ := join_err hla hlb hl
    have h1 := HG1'.out
    have h3 := HG3.out
    unfold AllG at h1 h3
    rw [hl] at h1
    rw [hz] at h3
    obtain ⟨rfl, rfl, rfl⟩ := h1
    obtain ⟨rfl, rfl, rfl⟩ := h3
    rw [hp] at z1 z2
    generalize pos a p = q at a1 a2 z1 z2
    clear hl hz hp HG1' HG2' HG3 HF1' HF2' HF3
    go_wp2_with fail
    go_ret
    exact ⟨rfl, HB4.out⟩
  | ok ts =>
    have hne := lexM_ne hl
    have h1 := HG1'.out
    unfold AllG at h1
    rw [hl] at h1
    obtain ⟨rfl, rfl, rfl, rfl, hk1, hr1⟩ := h1
    have HL := hide hl
    have HK1 := hide hk1
    have HR1 := hide hr1
    have HNE := hide (List.length_pos_iff.2 hne)
    clear hl hne hk1 hr1 HG1'
    go_upto_region 11 with fail
    go_wp2_with fail
    go_loopw [11, 12] (fun v i wr => ∃ k : Nat, k ≤ a.length ∧ i = .int .i64 (k : Int) ∧ v = .int .i64 ((1 + (a.take k).count 10 : Nat) : Int) ∧ wr = w4) (fun _ i _ => a.length - (intOf i).toNat)
    case atStart => exact ⟨0, by omega, rfl, rfl, rfl⟩
    case round =>
      obtain ⟨k, hk, rfl, rfl, hw⟩ := hrel
      subst wr
      by_cases hlt : k < a.length
      · obtain ⟨c, hc⟩ : ∃ c, a[k]? = some c := ⟨_, List.getElem?_eq_getElem hlt⟩
        have hix : ∀ w, (Instr.index 9 (S a) (.int .i64 (k : Int))).run Tryd.prog w = .ok (B8 c) w := fun w => run_index_str (P := Tryd.prog) Tryd.underlying9 .i64 a k c hc w
        have hcn : (a.take (k + 1)).count 10 = (a.take k).count 10 + if c = 10 then 1 else 0 := by
          rw [List.take_succ_eq_append_getElem hlt, List.count_append, (List.getElem?_eq_some_iff.1 hc).2, List.count_singleton]
          simp
        have hcl : (a.take k).count 10 ≤ 300 := by
          have h1 := List.count_le_length (a := (10 : UInt8)) (l := a.take k)
          have h2 : (a.take k).length ≤ a.length := by rw [List.length_take]; omega
          omega
        have HCN := hide hcn
        clear hc hcn
        generalize (a.take k).count 10 = m at HCN hcl ⊢
        by_cases h10 : c = 10
        · subst h10
          go_wp2_with fail
          go_roundw
          case rel => exact ⟨k + 1, by omega, by go_num, by rw [HCN.out, if_pos rfl]; congr 1, trivial⟩
          case measure => simp [intOf]; omega
        · have hne := u8_ne (d := 10) h10
          simp only [show ((10 : UInt8).toNat : Int) = 10 from rfl] at hne
          go_wp2_with fail
          go_roundw
          case rel => exact ⟨k + 1, by omega, by go_num, by rw [HCN.out, if_neg h10]; rfl, trivial⟩
          case measure => simp [intOf]; omega
      · obtain rfl : k = a.length := by omega
        rw [List.take_length]
        have hcl : a.count 10 ≤ 300 := by have h1 := List.count_le_length (a := (10 : UInt8)) (l := a); omega
        cases hl2 : lexM b with
        | error e =>
          obtain ⟨er, p⟩ := e
          have he := err_ne (lexM_err (by omega) hl2).1
          obtain ⟨hz, hp⟩ := join_err2 hla hlb HL.out hl2
          have h2 := HG2'.out
          have h3 := HG3.out
          unfold AllG at h2 h3
          rw [hl2] at h2
          rw [hz] at h3
          obtain ⟨rfl, rfl, rfl⟩ := h2
          obtain ⟨rfl, rfl, rfl⟩ := h3
          rw [hp] at z1 z2
          have hq := pos_le b p
          have hpb := (lexM_err (by omega) hl2).2
          generalize pos b p = q at b1 b2 z1 z2 hq
          obtain ⟨ln, co⟩ := q
          simp only at b1 b2 z1 z2 hq
          obtain ⟨q1, q2, q3, q4⟩ := hq
          have fb := HF2'.out.frozen
          generalize a.count 10 = L at hcl z1 ⊢
          have z1' : w4.cell? ⟨f3, 1, none⟩ = some (.int .i64 ((ln : Int) + (1 + (L : Int)))) := by rw [z1]; simp
          clear hl2 hz hp HG2' HG3 HF1' HF2' HF3 HR1 z1
          obtain ⟨nf1, nf2⟩ := HNF.out
          go_wp2_with fail
          go_ret
          exact ⟨rfl, HB4.out.setCell (p := ⟨f2, 1, none⟩) HNW.out _⟩
        | ok us =>
          obtain ⟨zs, hz, hzl, h1l, hx, hy⟩ := join_ok hla hlb HL.out hl2
          have hts := lexM_few (by omega) HL.out
          have hus := lexM_few (by omega) hl2
          have h2 := HG2'.out
          have h3 := HG3.out
          unfold AllG at h2 h3
          rw [hl2] at h2
          rw [hz] at h3
          obtain ⟨rfl, rfl, rfl, rfl, hk2, hr2⟩ := h2
          obtain ⟨rfl, rfl, rfl, rfl, hk3, hr3⟩ := h3
          have HR2 := hide hr2
          have HR3 := hide hr3
          have HX := hide hx
          have HY := hide hy
          have hzi : (zs.length : Int) = (ts.length : Int) + (us.length : Int) - 1 := by omega
          obtain ⟨A1b, A1o, rfl, -⟩ := rd_tok HR1.out 0 (by omega)
          generalize a.count 10 = L at hcl HY ⊢
          clear hl2 hz hr2 hr3 hx hy HG2' HG3 HF1' HF2' HF3 hzl
          have hkk := HK1.out
          go_upto_region 22 with fail
          go_wp2_with fail
          go_loopw [96] (fun i wr => ∃ k : Nat, k ≤ ts.length - 1 ∧ i = .int .i64 (k : Int) ∧ Below w4.heap.size w4 wr) (fun i _ => (ts.length - 1) - (intOf i).toNat)
          case atStart => exact ⟨0, by omega, rfl, Below.refl _ _⟩
          case round =>
            obtain ⟨k, hk, rfl, hbr⟩ := hrel
            have HBR := hide hbr
            by_cases hlt : k < ts.length - 1
            · obtain ⟨b', o', he, _, _, c0, c1, c2, c3, c4⟩ := rd_tok (HR1.out.keep (Keep.of_below (F := fun k => k < w1.heap.size) hbr (fun k h1 h2 => absurd h1 (by omega)))) k (by omega)
              injection he with he
              injection he with e1 e2
              subst e1 e2
              have HXK := hide (HX.out k (by omega) (by omega) hlt)
              generalize ts[k] = t at c0 c1 c2 c3 c4 HXK
              obtain ⟨⟨tk, tx, tn⟩, ta⟩ := t
              simp only at c0 c1 c2 c3 c4 HXK
              generalize pos a ta = q at c3 c4 HXK
              obtain ⟨q1, q2⟩ := q
              simp only at c3 c4
              clear hbr
              go_upto_region 24 with fail
              refine name_world ?_
              intro wB hwB
              have HBB : Hid (Below w4.heap.size w4 wB) := hide (by rw [hwB]; exact HBR.out.alloc HBR.out.size _)
              have HT : Hid (Blk wB wr.heap.size 34 #[.int .i64 (tk : Int), S tx, .int .i64 tn, .int .i64 (q1 : Int), .int .i64 (q2 : Int)]) := hide (by rw [hwB]; exact Blk.new _ _ _)
              obtain ⟨A3b, A3o, rfl, _, _, d0, d1, d2, d3, d4⟩ := rd_tok (HR3.out.keep (Keep.of_below (F := fun k => k < w3.heap.size) HBB.out (fun k h1 h2 => absurd h1 (by omega)))) k (by omega)
              rw [HXK.out.1] at d0 d1 d2
              rw [HXK.out.2] at d3 d4
              clear hwB c0 c1 c2 c3 c4
              generalize wr.heap.size = g at HT ⊢
              have c0 := HT.out.cell 0
              have c1 := HT.out.cell 1
              have c2 := HT.out.cell 2
              have c3 := HT.out.cell 3
              have c4 := HT.out.cell 4
              simp at c0 c1 c2 c3 c4
              simp only at d3 d4
              go_quiet (fail)
              go_wp2_with fail
              go_roundw
              case rel => exact ⟨k + 1, by omega, by go_num, bdrewN HBB.out _⟩
              case measure => simp [intOf]; omega
            · obtain rfl : k = ts.length - 1 := by omega
              clear hbr
              go_upto_region 28 with fail
              go_wp2_with fail
              go_loopw [110] (fun i wr => ∃ k : Nat, k ≤ us.length ∧ i = .int .i64 (k : Int) ∧ Below w4.heap.size w4 wr) (fun i _ => us.length - (intOf i).toNat)
              case atStart => exact ⟨0, by omega, rfl, HBR.out⟩
              case round =>
                obtain ⟨k, hk, rfl, hbx⟩ := hrel
                have HBX := hide hbx
                clear HBR
                by_cases hlt : k < us.length
                · obtain ⟨A2b, A2o, rfl, _, _, c0, c1, c2, c3, c4⟩ := rd_tok (HR2.out.keep (Keep.of_below (F := fun k => k < w2.heap.size) hbx (fun k h1 h2 => absurd h1 (by omega)))) k (by omega)
                  have HYK := hide (HY.out k (by omega) (by omega))
                  have hps := pos_small (s := b) us[k].2 (by omega)
                  generalize us[k] = t at c0 c1 c2 c3 c4 HYK hps
                  obtain ⟨⟨tk, tx, tn⟩, ta⟩ := t
                  simp only at c0 c1 c2 c3 c4 HYK hps
                  generalize pos b ta = q at c3 c4 HYK hps
                  obtain ⟨q1, q2⟩ := q
                  simp only at c3 c4 hps
                  obtain ⟨_, _, hq1, hq2⟩ := hps
                  clear hbx
                  go_upto_region 30 with fail
                  refine name_world ?_
                  intro wA hwA
                  have HBA : Hid (Below w4.heap.size w4 wA) := hide (by rw [hwA]; exact HBX.out.alloc HBX.out.size _)
                  have HT : Hid (Blk wA wr.heap.size 34 #[.int .i64 (tk : Int), S tx, .int .i64 tn, .int .i64 (q1 : Int), .int .i64 (q2 : Int)]) := hide (by rw [hwA]; exact Blk.new _ _ _)
                  have HG : Hid (w4.heap.size ≤ wr.heap.size) := hide HBX.out.size
                  clear hwA c0 c1 c2 c3 c4
                  generalize wr.heap.size = g at HT HG ⊢
                  have c3 := HT.out.cell 3
                  have fz := HT.out.frozen
                  simp at c3
                  go_upto_region 31 with fail
                  refine name_world ?_
                  intro wB hwB
                  have HBB : Hid (Below w4.heap.size w4 wB) := hide (by rw [hwB]; exact HBA.out.setCell (p := ⟨g, 3, none⟩) HG.out _)
                  have HT2 : Hid (Blk wB g 34 #[.int .i64 (tk : Int), S tx, .int .i64 tn, .int .i64 ((q1 : Int) + (1 + (L : Int))), .int .i64 (q2 : Int)]) := hide (by rw [hwB]; have h := HT.out.set_ 3 (.int .i64 ((q1 : Int) + (1 + (L : Int)))); simpa using h)
                  clear hwB c3 fz HT
                  obtain ⟨A3b, A3o, rfl, _, _, d0, d1, d2, d3, d4⟩ := rd_tok (HR3.out.keep (Keep.of_below (F := fun k => k < w3.heap.size) HBB.out (fun k h1 h2 => absurd h1 (by omega)))) (ts.length - 1 + k) (by omega)
                  rw [HYK.out.1] at d0 d1 d2
                  rw [HYK.out.2] at d3 d4
                  have c0 := HT2.out.cell 0
                  have c1 := HT2.out.cell 1
                  have c2 := HT2.out.cell 2
                  have c3 := HT2.out.cell 3
                  have c4 := HT2.out.cell 4
                  simp at c0 c1 c2 c3 c4
                  simp only at d0 d1 d2 d3 d4
                  have hxi : (ts.length : Int) - 1 + (k : Int) = ((ts.length - 1 + k : Nat) : Int) := by omega
                  go_quiet (fail)
                  go_wp2_with fail
                  go_roundw
                  case rel => exact ⟨k + 1, by omega, by go_num, bdrewN HBB.out _⟩
                  case measure => simp [intOf]; omega
                · clear hbx
                  go_wp2_with fail
                  go_ret
                  exact ⟨rfl, HB4.out.trans (HBX.out.mono HB4.out.size)⟩
end Go.Proofs.YtoilalfchnglcaaDoor
