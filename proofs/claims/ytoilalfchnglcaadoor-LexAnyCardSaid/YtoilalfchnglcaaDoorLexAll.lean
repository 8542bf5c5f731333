/- All tokens of a text, walked; no statement of the seat is proved here. -/
import Derived.Test.YtoilalfchnglcaaDoorLexNext
import Derived.Test.YtoilalfchnglcaaDoorRecs
import Derived.StillTailTactics
namespace Go.Proofs.YtoilalfchnglcaaDoor
open Go.RowKit

theorem tw_pos (p : UInt8 → Bool) (c : UInt8) (l : List UInt8) (h : p c = true) : 1 ≤ ((c :: l).takeWhile p).length := by
  rw [List.takeWhile_cons, if_pos h]; simp
theorem limitM_ok {t u : Tk} (h : limitM t = .ok u) : u = t ∧ ¬ (40 < t.text.length ∧ t.kind ≠ 4) := by
  unfold limitM at h
  split at h
  · cases h
  · injection h with h; exact ⟨h.symm, by assumption⟩
/-- A token's text stands there; but for the end it is not empty. -/
theorem nextM_len {r : List UInt8} {t : Tk} (h : nextM r = .ok t) : t.text <+: r ∧ (t.kind ≠ 0 → 1 ≤ t.text.length) ∧ t.kind ≤ 5 ∧ (t.kind = 0 → r = [] ∧ t = ⟨0, [], 0⟩) := by
  match r, h with
  | [], h => injection h with h; subst h; simp
  | c :: r, h =>
    rw [nextM] at h
    split at h
    · rename_i hc
      obtain ⟨rfl, _⟩ := limitM_ok h
      exact ⟨List.takeWhile_prefix _, fun _ => tw_pos _ _ _ (by simp [innerB, hc]), by simp, by simp⟩
    · split at h
      · rename_i hc
        obtain ⟨rfl, _⟩ := limitM_ok h
        refine ⟨List.takeWhile_prefix _, fun _ => tw_pos _ _ _ (by simp [innerB, hc]), ?_, ?_⟩ <;> simp only <;> split <;> simp
      · split at h
        · rename_i hc
          split at h
          · cases h
          · injection h with h; subst h
            exact ⟨List.takeWhile_prefix _, fun _ => tw_pos _ _ _ hc, by simp, by simp⟩
        · split at h
          · cases h
          · rename_i m hm
            injection h with h; subst h
            have h1 := List.find?_some hm
            have h2 := List.mem_of_find?_eq_some hm
            have : ∀ z ∈ marksL, 1 ≤ z.length := by decide
            exact ⟨List.isPrefixOf_iff_prefix.1 h1, fun _ => this m h2, by simp, by simp⟩

/-- A token's cells. -/
def tkL (s : List UInt8) (x : Tk × Nat) : List Value := (tkV x.1 (pos s x.2)).toList
theorem tkL_len (s : List UInt8) (x : Tk × Nat) : (tkL s x).length = 5 := rfl
/-- What All answers. -/
def AllR (s : List UInt8) (B : Nat) (e : Ending) (w' : World) : Except (Nat × Nat) (List (Tk × Nat)) → Prop
  | .error (er, b) => e = .returned (.tuple #[.slice none 0 0, .agg #[.int .i64 (er : Nat), .int .i64 ((pos s b).1 : Nat), .int .i64 ((pos s b).2 : Nat)]])
  | .ok ts => ∃ A c, e = .returned (.tuple #[.slice A ts.length c, .agg #[.int .i64 0, .int .i64 0, .int .i64 0]]) ∧ Rd w' (fun k => k < B) 5 A ts.length (ts.flatMap (tkL s)) ∧ ts.length ≤ c

def pre (done : List (Tk × Nat)) : Except (Nat × Nat) (List (Tk × Nat)) → Except (Nat × Nat) (List (Tk × Nat))
  | .error e => .error e
  | .ok ts => .ok (done ++ ts)
theorem tok_info : (Tryd.prog.info? 34).map (fun i => (i.zero, i.size, i.bytes)) = some (some (.agg #[.int .i64 0, .string { data := #[] }, .int .i64 0, .int .i64 0, .int .i64 0]), 5, 48) := by kernel_rfl

theorem cells_new (w : World) (us : Array Value) (t : TypeId) : ∀ j u, us.toList[j]? = some u → (w.alloc (.cells us t)).cell? ((⟨w.heap.size, 0, none⟩ : Addr).add j) = some u := by
  intro j u hj
  rw [Addr.add_mid, Nat.zero_add, (Blk.new w t us).cell j]
  simpa using hj
/-- 'append(v, u)', one token, onto what the call owns. -/
theorem appT {w : World} {ops : Array Oper} {rest : List Oper} {o : Oper} {a : Act} {Q : Exit → Act → World → Prop} (hgd : o.guard = none) (s x : Operand)
    (ho : o.op = .call { callee := .builtin .append, args := #[s, x], argTypes := #[23, 23] })
    (base : Nat) (v : Value) (n : Nat) (xs : List Value) (hs : a.eval s = v) (hown : w.ownsRow base 34 5 v n xs) (us : Array Value) (h1 : ∀ u ∈ us.toList, u.oneCell' = true) (hl : us.toList.length = 5)
    (hx : a.eval x = .slice (some ⟨w.heap.size, 0, none⟩) 1 1) (hn : n ≤ 1000000) (hbase : base ≤ w.heap.size)
    (h : ∀ a' c' w', w'.ownsRow base 34 5 (.slice a' (n + 1) c') (n + 1) (xs ++ us.toList) → (w.alloc (.cells us 34)).grownBy w' v.ownBlock → wpList Tryd.prog ops Q rest (a.put o.dst (.slice a' (n + 1) c')) w') :
    wpList Tryd.prog ops Q (o :: rest) a (w.alloc (.cells us 34)) := by
  obtain ⟨i, hi, hz, hz1, hz2⟩ := info_parts tok_info
  refine wpList_append_own_at _ hgd s x _ ho base _ i _ 5 48 Tryd.underlying23 hi hz hz1 hz2 rfl (by decide) v n xs hs (hown.alloc _) ⟨w.heap.size, 0, none⟩ 1 1 us.toList hx hl (cells_new _ _ _) h1 (by unfold maxLen; omega) (by omega) (by simp; omega) ?_
  intro v' w' hown' hg _ hat
  obtain ⟨a', c', rfl⟩ := own_slice hown'
  exact h a' c' w' hown' hg

theorem own_ge {w : World} {base : Nat} {e : TypeId} {size n : Nat} {v : Value} {xs : List Value} (h : w.ownsRow base e size v n xs) {k : Nat} (hk : v.ownBlock = some k) : base ≤ k ∧ k < w.heap.size := by
  rcases h.2 with ⟨rfl, _⟩ | ⟨g', cap, cur, rfl, hb, hh, _⟩
  · cases hk
  · injection hk with hk
    subst hk
    exact ⟨hb, (Array.getElem?_eq_some_iff.1 hh).1⟩
theorem own_cap {w : World} {base : Nat} {e : TypeId} {size n c : Nat} {A : Option Addr} {xs : List Value} (h : w.ownsRow base e size (.slice A n c) n xs) : n ≤ c := by
  rcases h.2 with ⟨hv, h0⟩ | ⟨g, cap, cur, hv, _, _, hc, _⟩
  · omega
  · injection hv with _ _ hcc
    omega
theorem Rd.of_own {w : World} {base : Nat} {e : TypeId} {size n c : Nat} {A : Option Addr} {xs : List Value} (h : w.ownsRow base e size (.slice A n c) n xs) {F : Nat → Prop} (hF : ∀ k, base ≤ k → ¬ F k) : Rd w F size A n xs := by
  refine ⟨h.1, fun hn => ?_⟩
  rcases h.2 with ⟨_, h0⟩ | ⟨g, cap, cur, hv, hg, hh, _⟩
  · omega
  · injection hv with hA _ hc
    subst hA
    refine ⟨g, 0, rfl, hF g hg, (Array.getElem?_eq_some_iff.1 hh).1, fun j u hu => ?_⟩
    have := h.cells (g := g) rfl j u hu
    rwa [Addr.add_mid] at this
theorem nextM_err {r : List UInt8} {er : Nat} (h : nextM r = .error er) : er = 4 ∨ er = 20 ∨ er = 22 := by
  have hl : ∀ t, limitM t = .error er → er = 4 := by
    intro t h
    unfold limitM at h
    split at h
    · injection h with h; exact h.symm
    · cases h
  match r, h with
  | [], h => cases h
  | c :: r, h =>
    rw [nextM] at h
    split at h
    · exact .inl (hl _ h)
    · split at h
      · exact .inl (hl _ h)
      · split at h
        · split at h
          · injection h with h; exact .inr (.inr h.symm)
          · cases h
        · split at h
          · injection h with h; exact .inr (.inl h.symm)
          · cases h
theorem lexR_step (f : Nat) (s : List UInt8) (b b' : Nat) (hb : b ≤ b') (hl : b' ≤ s.length) (hd : s.drop b' = skipR false (s.drop b)) : lexR (f + 1) (s.drop b) b = match nextM (s.drop b') with
    | .error e => .error (e, b')
    | .ok t => if t.kind = 0 then .ok [(t, b')] else match lexR f (s.drop (b' + t.text.length)) (b' + t.text.length) with
      | .error e => .error e
      | .ok ts => .ok ((t, b') :: ts) := by
  have e : b + ((s.drop b).length - (skipR false (s.drop b)).length) = b' := by rw [← hd, List.length_drop, List.length_drop]; omega
  rw [lexR, ← hd]
  rw [← hd] at e
  rw [e]
  split
  · rename_i h; rw [h]
  · rename_i t h
    rw [h]
    simp only
    rw [List.drop_drop]
    rfl

set_option maxRecDepth 100000 in
set_option maxHeartbeats 8000000 in
theorem all_any (w : World) (s : List UInt8) (hs : s.length ≤ 65536) (hm : Laid w) :
    Calls Tryd.prog 10 #[S s] w fun e w' => Below w.heap.size w w' ∧ AllR s w.heap.size e w' (lexM s) := by
  obtain ⟨R, hR⟩ : ∃ R, R = lexM s := ⟨_, rfl⟩
  rw [← hR]
  have HR : Hid (R = pre [] (lexR (s.length + 1) (s.drop 0) 0)) := hide (by rw [hR, lexM, if_neg (by omega), List.drop_zero]; cases lexR (s.length + 1) s 0 <;> rfl)
  have HM := hide hm
  clear hR
  obtain ⟨W1, hW1⟩ : ∃ W1, W1 = (w.alloc (.cells #[.int .i64 0, .int .i64 0, .int .i64 0] 28)).alloc (.cells #[S s, .int .i64 0, .int .i64 1, .int .i64 1] 51) := ⟨_, rfl⟩
  have HB1 : Hid (Below w.heap.size w W1) := hide (by rw [hW1]; exact ((Below.refl _ _).alloc (Nat.le_refl _) _).alloc (by simp) _)
  have HF1 : Hid (Blk W1 w.heap.size 28 #[.int .i64 0, .int .i64 0, .int .i64 0]) := hide (by rw [hW1]; exact (Blk.new w _ _).alloc _)
  have HX1 : Hid (LX W1 (w.heap.size + 1) s 0) := hide (by
    have := Blk.new (w.alloc (.cells #[.int .i64 0, .int .i64 0, .int .i64 0] 28)) 51 #[S s, .int .i64 0, .int .i64 1, .int .i64 1]
    rw [World.size_alloc] at this
    rw [hW1]
    exact this)
  have HZ1 : Hid (W1.heap.size = w.heap.size + 2) := hide (by rw [hW1]; simp)
  have HW1 := hide hW1
  have hgm := hm.2
  clear hW1 hm
  go_enter Tryd.func10, Tryd.ntmps10
  go_upto_region 4 with fail
  refine name_world ?_
  intro wA hwA
  have hwA' : wA = W1 := by rw [hwA, HW1.out]
  subst hwA'
  clear hwA HW1
  obtain ⟨B, hB⟩ : ∃ B, B = w.heap.size := ⟨_, rfl⟩
  rw [← hB] at HB1 HF1 HX1 HZ1 hgm ⊢
  obtain ⟨g, hg⟩ : ∃ g, g = B + 1 := ⟨_, rfl⟩
  rw [← hg] at HX1 ⊢
  have hgB : B < g := by omega
  have hgB' : g < B + 2 := by omega
  have hwB : w.heap.size ≤ B := by omega
  clear hg hB
  have HG0 : Hid (w.heap.size ≤ B) := hide hwB
  go_wp2_with fail
  go_loopg [5] (s.length + 1) (fun f v wr => ∃ (done : List (Tk × Nat)) (b : Nat) (A : Option Addr) (c : Nat), s.length < b + f ∧ b ≤ s.length ∧ done.length ≤ b ∧ v = .slice A done.length c ∧ Hid (R = pre done (lexR f (s.drop b) b)) ∧ Below B w wr ∧ Blk wr B 28 #[.int .i64 0, .int .i64 0, .int .i64 0] ∧ LX wr g s b ∧ wr.ownsRow (B + 2) 34 5 (.slice A done.length c) done.length (done.flatMap (tkL s)) ∧ B + 2 ≤ wr.heap.size)
  case atStart => exact ⟨[], 0, none, 0, by omega, by omega, by simp, rfl, HR.out, HB1.out, HF1.out, HX1.out, World.ownsRow_nil _ _ _ _, by rw [HZ1.out]; exact Nat.le_refl _⟩
  case round =>
    obtain ⟨done, b, A, c, hf, hb, hdl, rfl, hrf, hbe, hfa, hlx, hown, hsz⟩ := hrel
    clear HB1 HF1 HX1 HZ1 HR
    obtain ⟨f, rfl⟩ : ∃ f, gk = f + 1 := ⟨gk - 1, by omega⟩
    have HSK := hide (skip_any wr g s b hlx hb (by omega))
    have HBE := hide hbe
    have HFA := hide hfa
    have HOW := hide hown
    clear hbe hfa hlx hown
    go_upto_region 6 with (go_at_call 14; refine HSK.out.mono ?_; rintro e w1 ⟨rfl, hk1, b1, hb1, hl1, hd1, hx1⟩)
    have hng : ∀ k, (Value.slice A done.length c).ownBlock = some k → ¬ k = g := fun k hk => by have := (own_ge HOW.out hk).1; omega
    have HST := hide (lexR_step f s b b1 hb1 hl1 hd1)
    have HFA1 := hide (HFA.out.keep hk1 (by omega))
    have HOW1 := hide (own_keep HOW.out hk1 hng)
    have hsz1 := Nat.le_trans hsz hk1.size
    have HBE1 := hide (HBE.out.trans (Keep.below hk1 (by omega) (fun k hk => by omega)))
    have hm1 : Laid w1 := HM.out.below HBE1.out hwB
    have HNX := hide (next_any w1 g s b1 hx1 hl1 (by omega) hm1 (by omega))
    clear HSK HBE HFA HOW hk1 hd1 hx1 hm1
    cases hN : nextM (s.drop b1) with
    | error er =>
      rw [hN] at HNX HST
      have HV : Hid (R = .error (er, b1)) := hide (by rw [hrf.out, HST.out]; rfl)
      have hp := pos_le s b1
      have he3 := nextM_err hN
      clear hN HST hrf
      simp only [nxV, noTk, nxLen] at HNX
      obtain ⟨p, hpp⟩ : ∃ p, p = pos s b1 := ⟨_, rfl⟩
      obtain ⟨ln, co⟩ := p
      rw [← hpp] at hp
      simp only at hp
      obtain ⟨p1, p2, p3, p4⟩ := hp
      have HP := hide hpp
      clear hpp
      have hln : ln ≤ 70000 := by omega
      have hco : co ≤ 70000 := by omega
      have hne : ((er : Int) != 0) = true := by rcases he3 with rfl | rfl | rfl <;> rfl
      clear he3
      go_upto_region 7 with (go_at_call 15; refine HNX.out.mono ?_; rintro e w2 ⟨rfl, hk2, hx2⟩)
      refine name_world ?_
      intro wB hwB
      have hw2 : w2.heap.size ≤ wB.heap.size := by rw [hwB]; simp
      have hk3 : Keep (fun k => k = g) w1 wB := by rw [hwB]; exact hk2.alloc _
      have hx3 : LX wB g s b1 := by rw [hwB]; exact Blk.alloc hx2 _
      have HFA2 := hide (HFA1.out.keep hk3 (by omega))
      have HBE2 := hide (HBE1.out.trans (Keep.below hk3 (by omega) (fun k hk => by omega)))
      clear hwB hk2 hx2 hk3
      have c2 : wB.cell? ⟨g, 2, none⟩ = some (.int .i64 (ln : Int)) := by have := Blk.cell hx3 2; rw [this]; simp [← HP.out]
      have c3 : wB.cell? ⟨g, 3, none⟩ = some (.int .i64 (co : Int)) := by have := Blk.cell hx3 3; rw [this]; simp [← HP.out]
      have z0 := HFA2.out.cell 0
      have z1 := HFA2.out.cell 1
      have z2 := HFA2.out.cell 2
      have f0 := HFA2.out.frozen
      simp at z0 z1 z2
      go_wp2_with fail
      go_still_tail 7, (by kernel_rfl)
      go_wp2_with fail
      refine bodyPost_ret (v := .tuple #[.slice none 0 0, .agg #[.int .i64 (er : Int), .int .i64 (ln : Int), .int .i64 (co : Int)]]) ?_ rfl ?_
      · simp [results, Tryd.results10, go_sem, z0, z1, z2]
      · rw [HV.out]
        refine ⟨?_, ?_⟩
        · exact ((((HBE2.out.setCell (p := ⟨B, 0, none⟩) (Nat.le_refl _) _).setCell (p := ⟨B, 1, none⟩) (Nat.le_refl _) _).setCell (p := ⟨B, 2, none⟩) (Nat.le_refl _) _).drew).mono hwB
        · show _ = _
          rw [← HP.out]
    | ok t =>
      obtain ⟨hpre, hpos, hk5, hk0⟩ := nextM_len hN
      rw [hN] at HNX HST
      clear hN
      simp only at HST
      have hp := pos_le s b1
      simp only [nxV, tkV, nxLen] at HNX
      obtain ⟨p, hpp⟩ : ∃ p, p = pos s b1 := ⟨_, rfl⟩
      obtain ⟨ln, co⟩ := p
      rw [← hpp] at hp HNX
      simp only at hp HNX
      obtain ⟨p1, p2, p3, p4⟩ := hp
      have HP := hide hpp
      obtain ⟨ki, tx, nu⟩ := t
      simp only at hpre hpos hk5 hk0 HNX HST
      have hlt : b1 + tx.length ≤ s.length := by
        have := hpre.length_le
        rw [List.length_drop] at this
        omega
      have HK0 := hide hk0
      have HPO := hide hpos
      clear hpp hk0 hpos hpre
      have hB2 : B + 2 ≤ w1.heap.size := hsz1
      go_upto_region 7 with (go_at_call 15; refine HNX.out.mono ?_; rintro e w2 ⟨rfl, hk2, hx2⟩)
      refine name_world ?_
      intro wB hwB
      have hw2 : w2.heap.size < wB.heap.size := by rw [hwB]; simp
      have hT : Blk wB w2.heap.size 34 #[.int .i64 (ki : Int), S tx, .int .i64 (nu : Int), .int .i64 (ln : Int), .int .i64 (co : Int)] := by rw [hwB]; exact Blk.new _ _ _
      have hk3 : Keep (fun k => k = g) w1 wB := by rw [hwB]; exact hk2.alloc _
      have HX3 : Hid (LX wB g s (b1 + tx.length)) := by rw [hwB]; exact Blk.alloc hx2 _
      have HFA2 := hide (HFA1.out.keep hk3 (by omega))
      have HBE2 := hide (HBE1.out.trans (Keep.below hk3 (by omega) (fun k hk => by omega)))
      have hsz2 := Nat.le_trans hB2 hk3.size
      have hown2 := own_keep HOW1.out hk3 hng
      have hTg := Nat.le_trans hB2 hk2.size
      have hs12 := hk2.size
      have hTo : ∀ k, (Value.slice A done.length c).ownBlock = some k → B + 2 ≤ k ∧ k < w2.heap.size := fun k hk => by
        have h1 := own_ge HOW1.out hk
        exact ⟨h1.1, Nat.lt_of_lt_of_le h1.2 hs12⟩
      clear hwB hk2 hx2 hk3 HNX hs12
      generalize w2.heap.size = T at hw2 hT hTg hTo ⊢
      have t0 := hT.cell 0
      have t1 := hT.cell 1
      have t2 := hT.cell 2
      have t3 := hT.cell 3
      have t4 := hT.cell 4
      simp at t0 t1 t2 t3 t4
      have HTO := hide hTo
      have HT := hide hT
      clear hT hTo hng
      have hdn : done.length ≤ 1000000 := by omega
      by_cases hki : ki = 0
      · obtain ⟨hr0, ht0⟩ := HK0.out hki
        injection ht0 with _ htx hnu
        subst hki htx hnu
        have HV : Hid (R = .ok (done ++ [(⟨0, [], 0⟩, b1)])) := hide (by rw [hrf.out, HST.out]; rfl)
        clear hrf HST HK0 HPO HOW1 HFA1 HBE1 hr0
        go_wp2_with (at_builtin; refine appT rfl (.tmp 35) (.tmp 37) rfl (B + 2) (.slice A done.length c) _ _ rfl hown2 #[.int .i64 0, S [], .int .i64 0, .int .i64 (ln : Int), .int .i64 (co : Int)] (by intro u hu; simp at hu; rcases hu with rfl | rfl | rfl | rfl | rfl <;> rfl) rfl rfl hdn hsz2 ?_)
        intro a' c' w3 hown3 hg3
        have hT3 := (HT.out.alloc _).grown hg3 (fun e => by have := (HTO.out _ e.symm).2; omega)
        have HFA3 := hide ((HFA2.out.alloc _).grown hg3 (fun e => by have := (HTO.out _ e.symm).1; omega))
        have HX4 : Hid (LX w3 g s (b1 + ([] : List UInt8).length)) := hide (Blk.grown (Blk.alloc HX3.out _) hg3 (fun e => by have := (HTO.out _ e.symm).1; omega))
        have HBE3 := hide ((HBE2.out.alloc (by omega) _).grown hg3 (by simp; omega) (fun k hk => by have := (HTO.out _ hk).1; omega))
        have hsz3 : B + 2 ≤ w3.heap.size := by have := hg3.size; simp at this; omega
        have HO3 := hide hown3
        have y0 := hT3.cell 0
        have z0 := HFA3.out.cell 0
        have z1 := HFA3.out.cell 1
        have z2 := HFA3.out.cell 2
        have f0 := HFA3.out.frozen
        simp at y0 z0 z1 z2
        clear hown3 hg3 hT3
        go_wp2_with fail
        refine bodyPost_ret (v := .tuple #[.slice a' (done.length + 1) c', .agg #[.int .i64 0, .int .i64 0, .int .i64 0]]) ?_ rfl ?_
        · simp [results, Tryd.results10, go_sem, z0, z1, z2]
        · rw [HV.out]
          refine ⟨?_, a', c', ?_, ?_, by have := own_cap HO3.out; simpa using this⟩
          · exact (((HBE3.out.setCell (p := ⟨B, 0, none⟩) (Nat.le_refl _) _).setCell (p := ⟨B, 1, none⟩) (Nat.le_refl _) _).setCell (p := ⟨B, 2, none⟩) (Nat.le_refl _) _).mono hwB
          · simp
          · have HO5 : w3.ownsRow (B + 2) 34 5 (.slice a' (done ++ [((⟨0, [], 0⟩ : Tk), b1)]).length c') (done ++ [((⟨0, [], 0⟩ : Tk), b1)]).length ((done ++ [((⟨0, [], 0⟩ : Tk), b1)]).flatMap (tkL s)) := by
              rw [List.flatMap_append, List.length_append]
              have e : [((⟨0, [], 0⟩ : Tk), b1)].flatMap (tkL s) = [.int .i64 0, S [], .int .i64 0, .int .i64 (ln : Int), .int .i64 (co : Int)] := by
                simp only [List.flatMap_cons, List.flatMap_nil, List.append_nil, tkL, tkV]
                rw [← HP.out]
                rfl
              rw [e]
              exact HO3.out
            have hrd : Rd w3 (fun k => k < B + 2) 5 a' _ _ := Rd.of_own HO5 (fun k h => by omega)
            exact (hrd.keep ((((Keep.refl _ _).setCell (p := ⟨B, 0, none⟩) (fun _ => by simp only; omega) _).setCell (p := ⟨B, 1, none⟩) (fun _ => by simp only; omega) _).setCell (p := ⟨B, 2, none⟩) (fun _ => by simp only; omega) _)).weak (fun k _ h => by omega)
      · have hk1 : ((ki : Int) == 0) = false := by simp; omega
        have HV : Hid (R = pre (done ++ [(⟨ki, tx, nu⟩, b1)]) (lexR f (s.drop (b1 + tx.length)) (b1 + tx.length))) := hide (by
          rw [hrf.out, HST.out, if_neg hki]
          cases lexR f (s.drop (b1 + tx.length)) (b1 + tx.length) <;> simp [pre])
        have htl := HPO.out hki
        clear hrf HST HK0 HPO HOW1 HFA1 HBE1
        go_wp2_with (at_builtin; refine appT rfl (.tmp 35) (.tmp 37) rfl (B + 2) (.slice A done.length c) _ _ rfl hown2 #[.int .i64 (ki : Int), S tx, .int .i64 (nu : Int), .int .i64 (ln : Int), .int .i64 (co : Int)] (by intro u hu; simp at hu; rcases hu with rfl | rfl | rfl | rfl | rfl <;> rfl) rfl rfl hdn hsz2 ?_)
        intro a' c' w3 hown3 hg3
        have hT3 := (HT.out.alloc _).grown hg3 (fun e => by have := (HTO.out _ e.symm).2; omega)
        have HFA3 := hide ((HFA2.out.alloc _).grown hg3 (fun e => by have := (HTO.out _ e.symm).1; omega))
        have HX4 : Hid (LX w3 g s (b1 + tx.length)) := hide (Blk.grown (Blk.alloc HX3.out _) hg3 (fun e => by have := (HTO.out _ e.symm).1; omega))
        have HBE3 := hide ((HBE2.out.alloc (by omega) _).grown hg3 (by simp; omega) (fun k hk => by have := (HTO.out _ hk).1; omega))
        have hsz3 : B + 2 ≤ w3.heap.size := by have := hg3.size; simp at this; omega
        have HO3 := hide hown3
        have y0 := hT3.cell 0
        have z0 := HFA3.out.cell 0
        have z1 := HFA3.out.cell 1
        have z2 := HFA3.out.cell 2
        have f0 := HFA3.out.frozen
        simp at y0 z0 z1 z2
        clear hown3 hg3 hT3
        go_wp2_with fail
        have HO5 : Hid (w3.ownsRow (B + 2) 34 5 (.slice a' (done ++ [((⟨ki, tx, nu⟩ : Tk), b1)]).length c') (done ++ [((⟨ki, tx, nu⟩ : Tk), b1)]).length ((done ++ [((⟨ki, tx, nu⟩ : Tk), b1)]).flatMap (tkL s))) := hide (by
          rw [List.flatMap_append, List.length_append]
          have e : [((⟨ki, tx, nu⟩ : Tk), b1)].flatMap (tkL s) = [.int .i64 (ki : Int), S tx, .int .i64 (nu : Int), .int .i64 (ln : Int), .int .i64 (co : Int)] := by
            simp only [List.flatMap_cons, List.flatMap_nil, List.append_nil, tkL, tkV]
            rw [← HP.out]
          rw [e]
          exact HO3.out)
        go_roundg f
        case measure => omega
        case rel => exact ⟨done ++ [(⟨ki, tx, nu⟩, b1)], b1 + tx.length, a', c', by omega, by omega, by simp; omega, by simp, HV, HBE3.out, HFA3.out, HX4.out, HO5.out, by omega⟩
end Go.Proofs.YtoilalfchnglcaaDoor
