/- The lexer's next token, walked; no statement of the seat is proved here. -/
import Derived.Test.YtoilalfchnglcaaDoorLexLaid
import Derived.Deep.DeepCutAuto
namespace Go.Proofs.YtoilalfchnglcaaDoor
open Go.RowKit

theorem name_world {P : Program} {c : Code} {Q : Exit → Act → World → Prop} {a : Act} {w : World} (h : ∀ wB, wB = w → c.wp P Q a wB) : c.wp P Q a w := h w rfl

/-- A token as a value, at a place. -/
def tkV (t : Tk) (p : Nat × Nat) : Array Value := #[.int .i64 (t.kind : Int), S t.text, .int .i64 (t.num : Int), .int .i64 (p.1 : Int), .int .i64 (p.2 : Int)]
def noTk : Array Value := #[.int .i64 0, .string { data := #[] }, .int .i64 0, .int .i64 0, .int .i64 0]
/-- What next answers. -/
def nxV (p : Nat × Nat) : Except Nat Tk → Value
  | .error e => .tuple #[.agg noTk, .int .i64 (e : Nat)]
  | .ok t => .tuple #[.agg (tkV t p), .int .i64 0]
def nxLen : Except Nat Tk → Nat
  | .error _ => 0
  | .ok t => t.text.length

theorem Keep.setCells_ {F : Nat → Prop} {w w1 : World} (h : Keep F w w1) {b : Nat} (hb : w.heap.size ≤ b) {v0 v1 v2 v3 v4 : Value} :
    Keep F w (((((w1.setCell ⟨b, 0, none⟩ v0).setCell ⟨b, 1, none⟩ v1).setCell ⟨b, 2, none⟩ v2).setCell ⟨b, 3, none⟩ v3).setCell ⟨b, 4, none⟩ v4) := by
  have hp : b < w.heap.size → F b := fun h => absurd h (by omega)
  exact ((((h.setCell (p := ⟨b, 0, none⟩) hp _).setCell (p := ⟨b, 1, none⟩) hp _).setCell (p := ⟨b, 2, none⟩) hp _).setCell (p := ⟨b, 3, none⟩) hp _).setCell (p := ⟨b, 4, none⟩) hp _
theorem LXset {w1 : World} {g b a : Nat} {s : List UInt8} (h : LX w1 g s a) (hb : g ≠ b) {v0 v1 v2 v3 v4 : Value} :
    LX (((((w1.setCell ⟨b, 0, none⟩ v0).setCell ⟨b, 1, none⟩ v1).setCell ⟨b, 2, none⟩ v2).setCell ⟨b, 3, none⟩ v3).setCell ⟨b, 4, none⟩ v4) g s a :=
  ((((Blk.far (p := ⟨b, 0, none⟩) h hb _).far (p := ⟨b, 1, none⟩) hb _).far (p := ⟨b, 2, none⟩) hb _).far (p := ⟨b, 3, none⟩) hb _).far (p := ⟨b, 4, none⟩) hb _

theorem run_index_arr {P : Program} {t e : TypeId} {len : Nat} {i : TypeInfo} (hu : P.underlying t = some (.array len e)) (he : P.underlying e = some .string) (hi : P.info? e = some i) (hz : i.size = 1)
    (cs : Array Value) (j : Nat) (hj : j < len) (v : Value) (hv : cs[j]? = some v) (w : World) : (Instr.index t (.agg cs) (.int .i64 (j : Int))).run P w = .ok v w := by
  simp [Instr.index, asIntOf, run_underlying hu, run_underlying he, Go.part, isAgg, sizeOf, typeInfo, hi, hz, hj, hv]
theorem str_info : (Tryd.prog.info? 9).map (fun i => (i.zero, i.size, i.bytes)) = some (some (.string { data := #[] }), 1, 16) := by kernel_rfl
theorem find_marks_none {l : List UInt8} (h : ∀ k (hk : k < marksL.length), (marksL[k]).isPrefixOf l = false) : marksL.find? (fun m => m.isPrefixOf l) = none := by
  rw [List.find?_eq_none]
  intro m hm
  obtain ⟨k, hk, rfl⟩ := List.getElem_of_mem hm
  rw [h k hk]
  simp
theorem find_marks_some {l : List UInt8} (k : Nat) (hk : k < marksL.length) (h : ∀ j (hj : j < k), (marksL[j]'(by omega)).isPrefixOf l = false) (hp : (marksL[k]).isPrefixOf l = true) : marksL.find? (fun m => m.isPrefixOf l) = some marksL[k] := by
  rw [List.find?_eq_some_iff_getElem]
  exact ⟨hp, k, hk, rfl, fun j hj => by rw [h j hj]; rfl⟩
theorem digits_all (l : List UInt8) : (l.takeWhile digitB).all digitB = true := by
  rw [List.all_eq_true]
  intro x hx
  induction l with
  | nil => simp at hx
  | cons a l ih =>
    rw [List.takeWhile_cons] at hx
    split at hx
    · rcases List.mem_cons.1 hx with rfl | h
      · assumption
      · exact ih h
    · simp at hx

set_option maxRecDepth 100000 in
set_option maxHeartbeats 8000000 in
theorem next_any (w : World) (g : Nat) (s : List UInt8) (a : Nat) (hx : LX w g s a) (ha : a ≤ s.length) (hs : s.length ≤ 1000000) (hm : Laid w) (hg : g ≠ 0) :
    Calls Tryd.prog 15 #[.pointer (some ⟨g, 0, none⟩)] w fun e w' => e = .returned (nxV (pos s a) (nextM (s.drop a))) ∧ Keep (fun k => k = g) w w' ∧ LX w' g s (a + nxLen (nextM (s.drop a))) := by
  obtain ⟨R, hR⟩ : ∃ R, R = nextM (s.drop a) := ⟨_, rfl⟩
  rw [← hR]
  have HR := hide hR
  have HX := hide hx
  have HM := hide hm
  have hp := pos_le s a
  obtain ⟨p, hpp⟩ : ∃ p, p = pos s a := ⟨_, rfl⟩
  obtain ⟨ln, co⟩ := p
  rw [← hpp] at hp ⊢
  have c0 : w.cell? ⟨g, 0, none⟩ = some (S s) := Blk.cell hx 0
  have c1 : w.cell? ⟨g, 1, none⟩ = some (.int .i64 (a : Int)) := Blk.cell hx 1
  have c2 : w.cell? ⟨g, 2, none⟩ = some (.int .i64 (ln : Int)) := by have := Blk.cell hx 2; rw [this]; simp [← hpp]
  have c3 : w.cell? ⟨g, 3, none⟩ = some (.int .i64 (co : Int)) := by have := Blk.cell hx 3; rw [this]; simp [← hpp]
  have hgs := hx.lt
  simp only at hp
  obtain ⟨p1, p2, p3, p4⟩ := hp
  have HP := hide hpp
  clear hx hm hR hpp
  obtain ⟨W1, hW1⟩ : ∃ W1, W1 = (w.alloc (.cells noTk 34)).alloc (.cells (tkV ⟨0, [], 0⟩ (ln, co)) 34) := ⟨_, rfl⟩
  have hk1 : Keep (fun k => k = g) w W1 := by rw [hW1]; exact ((Keep.refl _ _).alloc _).alloc _
  have hr1 : Blk W1 w.heap.size 34 noTk := by rw [hW1]; exact (Blk.new w 34 noTk).alloc _
  have ht1 : Blk W1 (w.heap.size + 1) 34 (tkV ⟨0, [], 0⟩ (ln, co)) := by
    have := Blk.new (w.alloc (.cells noTk 34)) 34 (tkV ⟨0, [], 0⟩ (ln, co))
    rw [World.size_alloc] at this
    rw [hW1]
    exact this
  have hx1 : LX W1 g s a := by rw [hW1]; exact Blk.alloc (Blk.alloc HX.out _) _
  have hm1 : Laid W1 := HM.out.keep hk1 (fun h => hg h.symm)
  by_cases hlt : a < s.length
  · obtain ⟨c, hc⟩ : ∃ c, s[a]? = some c := ⟨_, List.getElem?_eq_getElem hlt⟩
    have hix : ∀ w, (Instr.index 9 (S s) (.int .i64 (a : Int))).run Tryd.prog w = .ok (B8 c) w := fun w => run_index_str (P := Tryd.prog) Tryd.underlying9 .i64 s a c hc w
    have hd : s.drop a = c :: s.drop (a + 1) := by
      rw [List.drop_eq_getElem_cons hlt, (List.getElem?_eq_some_iff.1 hc).2]
    have HD := hide hd
    clear hc hd
    have HW1 := hide hW1
    have HK1 := hide hk1
    have HR1 := hide hr1
    have HT1 := hide ht1
    have HX1 := hide hx1
    have HM1 := hide hm1
    clear hW1 hk1 hr1 ht1 hx1 hm1
    go_enter Tryd.func15, Tryd.ntmps15
    go_wp2_with fail
    go_quiet (fail)
    go_wp2_with fail
    go_quiet (fail)
    go_upto_region 11 with fail
    refine name_world ?_
    intro wA hwA
    have hwA' : ∃ n, wA = W1.drewN n := ⟨_, by rw [hwA, HW1.out]; exact World.drewN_drewN _ _ _⟩
    obtain ⟨n1, hwA'⟩ := hwA'
    have HAK : Hid (Keep (fun k => k = g) w wA) := hide (by rw [hwA']; exact HK1.out.drewN _)
    have hrA : Blk wA w.heap.size 34 noTk := by rw [hwA']; exact HR1.out.drewN _
    have htA : Blk wA (w.heap.size + 1) 34 (tkV ⟨0, [], 0⟩ (ln, co)) := by rw [hwA']; exact HT1.out.drewN _
    have HAX : Hid (LX wA g s a) := hide (by rw [hwA']; exact Blk.drewN HX1.out _)
    have HMA : Hid (Laid wA) := hide (by rw [hwA']; exact HM1.out)
    clear hwA hwA' HW1 HK1 HR1 HT1 HX1 HM1 c0 c1 c2 c3 HM HX
    obtain ⟨R0, hR0⟩ : ∃ R0, R0 = w.heap.size := ⟨_, rfl⟩
    rw [← hR0] at hrA htA ⊢
    obtain ⟨R1, hR1⟩ : ∃ R1, R1 = R0 + 1 := ⟨_, rfl⟩
    rw [← hR1] at htA ⊢
    have hg0 : ¬ R0 = g := by omega
    have hg1 : ¬ R1 = g := by omega
    have h01 : R0 < R1 := by omega
    have n01 : ¬ R0 = R1 := by omega
    have n10 : ¬ R1 = R0 := by omega
    have hw0 : w.heap.size ≤ R0 := by omega
    clear hR1 hR0
    have HAR := hide hrA
    have HAT := hide htA
    have fA := htA.frozen
    have tA0 : wA.cell? ⟨R1, 0, none⟩ = some (.int .i64 0) := htA.cell 0
    have tA1 : wA.cell? ⟨R1, 1, none⟩ = some (S []) := htA.cell 1
    have HGR := fun w => hide (great_any c w)
    have HSM := fun w => hide (small_any c w)
    have HDI := fun w => hide (digit_any c w)
    have HRN := fun n => hide (run_inner (wA.drewN n) g s a (Blk.drewN HAX.out n) (by omega) hs)
    have HNX : Hid (nextM (s.drop a) = if greatB c then limitM ⟨2, (s.drop a).takeWhile innerB, 0⟩
      else if smallB c then limitM ⟨if wordsL.contains ((s.drop a).takeWhile innerB) then 1 else 3, (s.drop a).takeWhile innerB, 0⟩
      else if digitB c then
        match numGo 0 ((s.drop a).takeWhile digitB) with
        | none => .error 22
        | some n => .ok ⟨4, (s.drop a).takeWhile digitB, n⟩
      else match marksL.find? fun m => m.isPrefixOf (s.drop a) with
        | none => .error 20
        | some m => .ok ⟨5, m, 0⟩) := hide (by rw [HD.out]; rfl)
    clear hrA htA
    cases hgc : greatB c
    · cases hsc : smallB c
      · cases hdc : digitB c
        · have HNM : Hid (R = match marksL.find? fun m => m.isPrefixOf (s.drop a) with
            | none => .error 20
            | some m => .ok ⟨5, m, 0⟩) := hide (by rw [HR.out, HNX.out, hgc, hsc, hdc]; rfl)
          simp only [hgc] at HGR
          simp only [hsc] at HSM
          simp only [hdc] at HDI
          clear hgc hsc hdc HRN HNX
          obtain ⟨r, hr⟩ : ∃ r, r = s.drop a := ⟨_, rfl⟩
          rw [← hr] at HNM
          have c0 : wA.cell? ⟨g, 0, none⟩ = some (S s) := Blk.cell HAX.out 0
          have c1 : wA.cell? ⟨g, 1, none⟩ = some (.int .i64 (a : Int)) := Blk.cell HAX.out 1
          obtain ⟨mv, hmv⟩ : ∃ mv, mv = marksL.map S := ⟨_, rfl⟩
          have HRG : Hid (wA.rangeAt 0 0 mv) := hide (by rw [hmv]; exact HMA.out.1)
          have HLN : Hid (∀ _ : Unit, mv.length = 22) := hide (fun _ => by rw [hmv]; rfl)
          have HIM : ∀ (k : Nat) (hk : k < marksL.length) (w : World), Hid ((Instr.index 61 (.agg mv.toArray) (.int .i64 (k : Int))).run Tryd.prog w = .ok (S marksL[k]) w) := fun k hk w => hide (by
            obtain ⟨i0, hi, _, hz1, _⟩ := info_parts str_info
            refine run_index_arr Tryd.underlying61 Tryd.underlying9 hi hz1 _ k hk _ ?_ w
            rw [hmv]
            simp [hk])
          have HPX := fun p w => hide (hp_any r p w)
          have HRE := hide hr
          rw [hr] at HPX
          clear hmv hr
          go_upto_region 5 with (first | (go_at_call 21; refine (HGR _).out.mono ?_; rintro e w' ⟨rfl, hw'⟩; subst w') | (go_at_call 24; refine (HSM _).out.mono ?_; rintro e w' ⟨rfl, hw'⟩; subst w') | (go_at_call 26; refine (HDI _).out.mono ?_; rintro e w' ⟨rfl, hw'⟩; subst w'))
          clear HGR HSM HDI
          go_wp2_with (refine wpList_load_mid rfl 61 (.global 0) rfl 0 0 rfl mv _ HRG.out Tryd.underlying61 rfl (by rw [HLN.out ()]; kernel_rfl) ?_)
          go_loopw [35] (fun i wr => ∃ k m : Nat, k ≤ 22 ∧ i = .int .i64 (k : Int) ∧ wr = wA.drewN m ∧ Hid (∀ j (hj : j < k) (hl : j < marksL.length), (marksL[j]).isPrefixOf r = false)) (fun i _ => 22 - (intOf i).toNat)
          case atStart => exact ⟨0, 0, by omega, rfl, rfl, fun j hj => by omega⟩
          case round =>
            obtain ⟨k, m, hk, rfl, rfl, hall⟩ := hrel
            by_cases hlk : k < 22
            · have hkl : k < marksL.length := hlk
              obtain ⟨x, hx⟩ : ∃ x, x = marksL[k] := ⟨_, rfl⟩
              have hiv := fun w => (HIM k hkl w).out
              rw [← hx] at hiv
              have HPY := fun w => HPX x w
              obtain ⟨b, hb⟩ : ∃ b, b = Lib.hasPrefix r x := ⟨_, rfl⟩
              rw [← HRE.out, ← hb, HRE.out] at HPY
              have HB : Hid (marksL[k].isPrefixOf r = b) := hide (by rw [hb, hx]; rfl)
              have HXK := hide hx
              have hx2 : x.length ≤ 2 := by
                have : ∀ z ∈ marksL, z.length ≤ 2 := by decide
                rw [hx]; exact this _ (List.getElem_mem hkl)
              clear HIM HPX hb hx
              cases b
              · go_wp2_with fail
                go_quiet ((go_at_call 19; exact quiet_add_same (HPY _).out))
                go_wp2_with fail
                clear hiv
                go_roundw
                case rel => exact ⟨k + 1, _, by omega, by go_num, rfl, fun j hj hl => by
                  rcases Nat.lt_or_ge j k with h | h
                  · exact hall.out j h hl
                  · obtain rfl : j = k := by omega
                    exact HB.out⟩
                case measure => simp [intOf]; omega
              · have HRL : Hid (R = .ok ⟨5, x, 0⟩) := hide (by
                  have e := find_marks_some k hkl (fun j hj => hall.out j hj (by have : marksL.length = 22 := rfl; omega)) HB.out
                  rw [HNM.out, e, ← HXK.out])
                have HTL : Hid (a + x.length ≤ s.length) := hide (by
                  have h1 := List.IsPrefix.length_le (List.isPrefixOf_iff_prefix.1 HB.out)
                  rw [← HXK.out, HRE.out, List.length_drop] at h1
                  omega)
                clear hall HNM
                go_wp2_with fail
                go_quiet ((go_at_call 19; exact quiet_add_same (HPY _).out))
                go_upto_region 23 with fail
                refine name_world ?_
                intro wB hwB
                have hxB : LX wB g s a := by rw [hwB]; exact Blk.far (p := ⟨R1, 1, none⟩) (Blk.far (p := ⟨R1, 0, none⟩) (Blk.drewN HAX.out _) (Ne.symm hg1) _) (Ne.symm hg1) _
                have hkB : Keep (fun k => k = g) w wB := by rw [hwB]; exact Keep.setCell (Keep.setCell (HAK.out.drewN _) (p := ⟨R1, 0, none⟩) (fun h => absurd h (by simp only; omega)) _) (p := ⟨R1, 1, none⟩) (fun h => absurd h (by simp only; omega)) _
                have hbT : Blk wB R1 34 (tkV ⟨5, x, 0⟩ (ln, co)) := by rw [hwB]; exact Blk.set_ (Blk.set_ (HAT.out.drewN _) 0 _) 1 _
                have hbR : Blk wB R0 34 noTk := by rw [hwB]; exact Blk.far (p := ⟨R1, 1, none⟩) (Blk.far (p := ⟨R1, 0, none⟩) (HAR.out.drewN _) (by simp only; omega) _) (by simp only; omega) _
                clear hwB
                have HXB := hide hxB
                have HKB := hide hkB
                have HTB := hide hbT
                have HRB := hide hbR
                have q0 : wB.cell? ⟨R1, 0, none⟩ = some (.int .i64 5) := hbT.cell 0
                have q1 : wB.cell? ⟨R1, 1, none⟩ = some (S x) := hbT.cell 1
                have HV : Hid (R = .ok ⟨5, x, 0⟩) := hide (by rw [HRL.out])
                clear HRL
                go_wp2_with (go_at_call 18; refine (step_any _ g s a x.length HXB.out HTL.out hs).mono ?_; rintro e w2 ⟨rfl, hk2, hx2⟩; have hb2 := hbT.keep hk2 hg1; have hr2 := hbR.keep hk2 hg0; have f0 := hr2.frozen; have d0 := hb2.cell 0; have d1 := hb2.cell 1; have d2 := hb2.cell 2; have d3 := hb2.cell 3; have d4 := hb2.cell 4; have z0 := hr2.cell 0; have z1 := hr2.cell 1; have z2 := hr2.cell 2; have z3 := hr2.cell 3; have z4 := hr2.cell 4; have HK2 := hide (hkB.trans hk2); have HX2 := hide hx2; clear hk2 hx2 hb2 hr2 hbT hbR hxB hkB; simp only [tkV, noTk] at d0 d1 d2 d3 d4 z0 z1 z2 z3 z4; simp at d0 d1 d2 d3 d4 z0 z1 z2 z3 z4)
                refine bodyPost_ret (v := .tuple #[.agg #[.int .i64 5, S x, .int .i64 0, .int .i64 (ln : Int), .int .i64 (co : Int)], .int .i64 0]) ?_ rfl ?_
                · simp [results, Tryd.results15, go_sem, z0, z1, z2, z3, z4]
                · exact ⟨by rw [HV.out]; rfl, Keep.setCells_ HK2.out (by omega), by rw [HV.out]; exact LXset HX2.out (by omega)⟩
            · obtain rfl : k = 22 := by omega
              have HV : Hid (R = .error 20) := hide (by
                rw [HNM.out, find_marks_none (fun k hk => hall.out k hk hk)])
              have hrB : Blk (wA.drewN m) R0 34 noTk := HAR.out.drewN _
              have g0 := hrB.frozen
              have z0 := hrB.cell 0
              have z1 := hrB.cell 1
              have z2 := hrB.cell 2
              have z3 := hrB.cell 3
              have z4 := hrB.cell 4
              simp only [noTk] at z0 z1 z2 z3 z4
              simp at z0 z1 z2 z3 z4
              clear hrB HIM HPX
              go_wp2_with fail
              refine bodyPost_ret (v := .tuple #[.agg #[.int .i64 0, .string { data := #[] }, .int .i64 0, .int .i64 0, .int .i64 0], .int .i64 20]) ?_ rfl ?_
              · simp [results, Tryd.results15, go_sem, z0, z1, z2, z3, z4]
              · exact ⟨by rw [HV.out]; rfl, Keep.setCells_ (HAK.out.drewN _) (by omega), by rw [HV.out]; exact LXset (Blk.drewN HAX.out _) (by omega)⟩
        · obtain ⟨x, hx⟩ : ∃ x, x = (s.drop a).takeWhile digitB := ⟨_, rfl⟩
          have HTL : Hid (a + x.length ≤ s.length) := hide (by rw [hx]; have := tw_len digitB (s.drop a); rw [List.length_drop] at this; omega)
          have HRD := fun n => hide (run_digit (wA.drewN n) g s a (Blk.drewN HAX.out n) (by omega) hs)
          have HNU := fun w => hide (number_any w x (by rw [hx]; exact digits_all _) (by have := HTL.out; omega))
          have HNR : Hid (R = match numGo 0 x with
            | none => .error 22
            | some n => .ok ⟨4, x, n⟩) := hide (by rw [HR.out, HNX.out, hgc, hsc, hdc, ← hx]; rfl)
          rw [← hx] at HRD
          clear hx HNX
          simp only [hgc] at HGR
          simp only [hsc] at HSM
          simp only [hdc] at HDI
          clear hgc hsc hdc HRN
          go_upto_region 19 with (first | (go_at_call 21; refine (HGR _).out.mono ?_; rintro e w' ⟨rfl, hw'⟩; subst w') | (go_at_call 24; refine (HSM _).out.mono ?_; rintro e w' ⟨rfl, hw'⟩; subst w') | (go_at_call 26; refine (HDI _).out.mono ?_; rintro e w' ⟨rfl, hw'⟩; subst w') | (go_at_call 22; refine (HRD 0).out.mono ?_; rintro e w' ⟨rfl, m, hw'⟩; subst w'))
          refine name_world ?_
          intro wB hwB
          have hxB : LX wB g s a := by rw [hwB]; exact Blk.far (p := ⟨R1, 1, none⟩) (Blk.far (p := ⟨R1, 0, none⟩) (Blk.drewN HAX.out _) (Ne.symm hg1) _) (Ne.symm hg1) _
          have hkB : Keep (fun k => k = g) w wB := by rw [hwB]; exact Keep.setCell (Keep.setCell (HAK.out.drewN _) (p := ⟨R1, 0, none⟩) (fun h => absurd h (by simp only; omega)) _) (p := ⟨R1, 1, none⟩) (fun h => absurd h (by simp only; omega)) _
          have hbT : Blk wB R1 34 (tkV ⟨4, x, 0⟩ (ln, co)) := by rw [hwB]; exact Blk.set_ (Blk.set_ (HAT.out.drewN _) 0 _) 1 _
          have hbR : Blk wB R0 34 noTk := by rw [hwB]; exact Blk.far (p := ⟨R1, 1, none⟩) (Blk.far (p := ⟨R1, 0, none⟩) (HAR.out.drewN _) (by simp only; omega) _) (by simp only; omega) _

          clear hwB
          have HxB := hide hxB
          have HkB := hide hkB
          have HtB := hide hbT
          have HrB := hide hbR
          have e1 : wB.cell? ⟨R1, 1, none⟩ = some (S x) := hbT.cell 1
          have hbs : R1 < wB.heap.size := hbT.lt
          clear hxB hkB hbT hbR
          cases hnn : numGo 0 x with
          | none =>
            have HV : Hid (R = .error 22) := hide (by rw [HNR.out, hnn])
            simp only [hnn, numV] at HNU
            clear hnn HNR
            go_wp2_with (go_at_call 27; refine (HNU _).out.mono ?_; rintro e w3 ⟨rfl, hb3⟩; have HX3 := hide (Blk.below HxB.out hb3 (by omega)); have HT3 := hide (HtB.out.below hb3 (by omega)); have HR3 := hide (HrB.out.below hb3 (by omega)); have HK3 := hide (HkB.out.trans (Keep.of_below (F := fun k => k = g) hb3 (fun k h1 h2 => by omega))); have f3 := HT3.out.frozen; have t2 := HT3.out.cell 2; have g0 := HR3.out.frozen; have z0 := HR3.out.cell 0; have z1 := HR3.out.cell 1; have z2 := HR3.out.cell 2; have z3 := HR3.out.cell 3; have z4 := HR3.out.cell 4; simp only [noTk, tkV] at t2 z0 z1 z2 z3 z4; simp at t2 z0 z1 z2 z3 z4; clear hb3)
            refine bodyPost_ret (v := .tuple #[.agg #[.int .i64 0, .string { data := #[] }, .int .i64 0, .int .i64 0, .int .i64 0], .int .i64 22]) ?_ rfl ?_
            · simp [results, Tryd.results15, go_sem, z0, z1, z2, z3, z4]
            · exact ⟨by rw [HV.out]; rfl, Keep.setCells_ (HK3.out.setCell (p := ⟨R1, 2, none⟩) (fun h => absurd h (by simp only; omega)) _) (by omega), by rw [HV.out]; exact LXset (Blk.far (p := ⟨R1, 2, none⟩) HX3.out (Ne.symm hg1) _) (by omega)⟩
          | some n =>
            have HRL : Hid (R = .ok ⟨4, x, n⟩) := hide (by rw [HNR.out, hnn])
            simp only [hnn, numV] at HNU
            clear hnn HNR
            go_upto_region 23 with (go_at_call 27; refine (HNU _).out.mono ?_; rintro e w3 ⟨rfl, hb3⟩; have H3X := hide (Blk.below HxB.out hb3 (by omega)); have H3T := hide (HtB.out.below hb3 (by omega)); have H3R := hide (HrB.out.below hb3 (by omega)); have H3K := hide (HkB.out.trans (Keep.of_below (F := fun k => k = g) hb3 (fun k h1 h2 => by omega))); have f3 := H3T.out.frozen; have t2 := H3T.out.cell 2; simp only [tkV] at t2; simp at t2; clear hb3)
            refine name_world ?_
            intro wB hwB
            have hxB : LX wB g s a := by rw [hwB]; exact Blk.far (p := ⟨R1, 2, none⟩) (H3X.out) (Ne.symm hg1) _
            have hkB : Keep (fun k => k = g) w wB := by rw [hwB]; exact Keep.setCell (H3K.out) (p := ⟨R1, 2, none⟩) (fun h => absurd h (by simp only; omega)) _
            have hbT : Blk wB R1 34 (tkV ⟨4, x, n⟩ (ln, co)) := by rw [hwB]; exact Blk.set_ (H3T.out) 2 _
            have hbR : Blk wB R0 34 noTk := by rw [hwB]; exact Blk.far (p := ⟨R1, 2, none⟩) (H3R.out) (by simp only; omega) _
            clear hwB
            have HXB := hide hxB
            have HKB := hide hkB
            have HTB := hide hbT
            have HRB := hide hbR
            have q0 : wB.cell? ⟨R1, 0, none⟩ = some (.int .i64 4) := hbT.cell 0
            have q1 : wB.cell? ⟨R1, 1, none⟩ = some (S x) := hbT.cell 1
            have HV : Hid (R = .ok ⟨4, x, n⟩) := hide (by rw [HRL.out])
            by_cases hlen : 40 < x.length
            · have hl4 : decide (40 < (x.length : Int)) = true := by simp; omega
              clear HRL
              go_wp2_with (go_at_call 18; refine (step_any _ g s a x.length HXB.out HTL.out hs).mono ?_; rintro e w2 ⟨rfl, hk2, hx2⟩; have hb2 := hbT.keep hk2 hg1; have hr2 := hbR.keep hk2 hg0; have f0 := hr2.frozen; have d0 := hb2.cell 0; have d1 := hb2.cell 1; have d2 := hb2.cell 2; have d3 := hb2.cell 3; have d4 := hb2.cell 4; have z0 := hr2.cell 0; have z1 := hr2.cell 1; have z2 := hr2.cell 2; have z3 := hr2.cell 3; have z4 := hr2.cell 4; have HK2 := hide (hkB.trans hk2); have HX2 := hide hx2; clear hk2 hx2 hb2 hr2 hbT hbR hxB hkB; simp only [tkV, noTk] at d0 d1 d2 d3 d4 z0 z1 z2 z3 z4; simp at d0 d1 d2 d3 d4 z0 z1 z2 z3 z4)
              refine bodyPost_ret (v := .tuple #[.agg #[.int .i64 4, S x, .int .i64 ((n : Nat) : Int), .int .i64 (ln : Int), .int .i64 (co : Int)], .int .i64 0]) ?_ rfl ?_
              · simp [results, Tryd.results15, go_sem, z0, z1, z2, z3, z4]
              · exact ⟨by rw [HV.out]; rfl, Keep.setCells_ HK2.out (by omega), by rw [HV.out]; exact LXset HX2.out (by omega)⟩
            · have hl4 : decide (40 < (x.length : Int)) = false := by simp; omega
              clear HRL
              go_wp2_with (go_at_call 18; refine (step_any _ g s a x.length HXB.out HTL.out hs).mono ?_; rintro e w2 ⟨rfl, hk2, hx2⟩; have hb2 := hbT.keep hk2 hg1; have hr2 := hbR.keep hk2 hg0; have f0 := hr2.frozen; have d0 := hb2.cell 0; have d1 := hb2.cell 1; have d2 := hb2.cell 2; have d3 := hb2.cell 3; have d4 := hb2.cell 4; have z0 := hr2.cell 0; have z1 := hr2.cell 1; have z2 := hr2.cell 2; have z3 := hr2.cell 3; have z4 := hr2.cell 4; have HK2 := hide (hkB.trans hk2); have HX2 := hide hx2; clear hk2 hx2 hb2 hr2 hbT hbR hxB hkB; simp only [tkV, noTk] at d0 d1 d2 d3 d4 z0 z1 z2 z3 z4; simp at d0 d1 d2 d3 d4 z0 z1 z2 z3 z4)
              refine bodyPost_ret (v := .tuple #[.agg #[.int .i64 4, S x, .int .i64 ((n : Nat) : Int), .int .i64 (ln : Int), .int .i64 (co : Int)], .int .i64 0]) ?_ rfl ?_
              · simp [results, Tryd.results15, go_sem, z0, z1, z2, z3, z4]
              · exact ⟨by rw [HV.out]; rfl, Keep.setCells_ HK2.out (by omega), by rw [HV.out]; exact LXset HX2.out (by omega)⟩
      · obtain ⟨x, hx⟩ : ∃ x, x = (s.drop a).takeWhile innerB := ⟨_, rfl⟩
        have HTL : Hid (a + x.length ≤ s.length) := hide (by rw [hx]; have := tw_len innerB (s.drop a); rw [List.length_drop] at this; omega)
        have HWD := fun w => hide (words_any x w)
        cases hwd : wordsL.contains x
        · have HRL : Hid (R = limitM ⟨3, x, 0⟩) := hide (by rw [HR.out, HNX.out, hgc, hsc, ← hx, hwd]; rfl)
          rw [← hx] at HRN
          simp only [hwd] at HWD
          clear hx HNX hwd
          simp only [hgc] at HGR
          simp only [hsc] at HSM
          clear hgc hsc
          go_upto_region 23 with (first | (go_at_call 21; refine (HGR _).out.mono ?_; rintro e w' ⟨rfl, hw'⟩; subst w') | (go_at_call 24; refine (HSM _).out.mono ?_; rintro e w' ⟨rfl, hw'⟩; subst w') | (go_at_call 26; refine (HDI _).out.mono ?_; rintro e w' ⟨rfl, hw'⟩; subst w') | (go_at_call 22; refine (HRN 0).out.mono ?_; rintro e w' ⟨rfl, m, hw'⟩; subst w') | (go_at_call 25; refine (HWD _).out.mono ?_; rintro e w' ⟨rfl, hw'⟩; subst w'))
          refine name_world ?_
          intro wB hwB
          have hxB : LX wB g s a := by rw [hwB]; exact Blk.far (p := ⟨R1, 1, none⟩) (Blk.far (p := ⟨R1, 0, none⟩) (Blk.drewN HAX.out _) (Ne.symm hg1) _) (Ne.symm hg1) _
          have hkB : Keep (fun k => k = g) w wB := by rw [hwB]; exact Keep.setCell (Keep.setCell (HAK.out.drewN _) (p := ⟨R1, 0, none⟩) (fun h => absurd h (by simp only; omega)) _) (p := ⟨R1, 1, none⟩) (fun h => absurd h (by simp only; omega)) _
          have hbT : Blk wB R1 34 (tkV ⟨3, x, 0⟩ (ln, co)) := by rw [hwB]; exact Blk.set_ (Blk.set_ (HAT.out.drewN _) 0 _) 1 _
          have hbR : Blk wB R0 34 noTk := by rw [hwB]; exact Blk.far (p := ⟨R1, 1, none⟩) (Blk.far (p := ⟨R1, 0, none⟩) (HAR.out.drewN _) (by simp only; omega) _) (by simp only; omega) _
          clear hwB
          have HXB := hide hxB
          have HKB := hide hkB
          have HTB := hide hbT
          have HRB := hide hbR
          have q0 : wB.cell? ⟨R1, 0, none⟩ = some (.int .i64 3) := hbT.cell 0
          have q1 : wB.cell? ⟨R1, 1, none⟩ = some (S x) := hbT.cell 1
          by_cases hlen : 40 < x.length
          · have hl4 : decide (40 < (x.length : Int)) = true := by simp; omega
            have HV : Hid (R = .error 4) := hide (by rw [HRL.out, limitM, if_pos ⟨hlen, by show (3 : Nat) ≠ 4; decide⟩])
            have f0 := hbR.frozen
            have z0 := hbR.cell 0
            have z1 := hbR.cell 1
            have z2 := hbR.cell 2
            have z3 := hbR.cell 3
            have z4 := hbR.cell 4
            simp only [noTk] at z0 z1 z2 z3 z4
            simp at z0 z1 z2 z3 z4
            clear HRL hbT hbR hxB hkB
            go_wp2_with fail
            refine bodyPost_ret (v := .tuple #[.agg #[.int .i64 0, .string { data := #[] }, .int .i64 0, .int .i64 0, .int .i64 0], .int .i64 4]) ?_ rfl ?_
            · simp [results, Tryd.results15, go_sem, z0, z1, z2, z3, z4]
            · exact ⟨by rw [HV.out]; rfl, Keep.setCells_ HKB.out (by omega), by rw [HV.out]; exact LXset HXB.out (by omega)⟩
          · have hl4 : decide (40 < (x.length : Int)) = false := by simp; omega
            have HV : Hid (R = .ok ⟨3, x, 0⟩) := hide (by rw [HRL.out, limitM, if_neg (fun h => hlen h.1)])
            clear HRL
            go_wp2_with (go_at_call 18; refine (step_any _ g s a x.length HXB.out HTL.out hs).mono ?_; rintro e w2 ⟨rfl, hk2, hx2⟩; have hb2 := hbT.keep hk2 hg1; have hr2 := hbR.keep hk2 hg0; have f0 := hr2.frozen; have d0 := hb2.cell 0; have d1 := hb2.cell 1; have d2 := hb2.cell 2; have d3 := hb2.cell 3; have d4 := hb2.cell 4; have z0 := hr2.cell 0; have z1 := hr2.cell 1; have z2 := hr2.cell 2; have z3 := hr2.cell 3; have z4 := hr2.cell 4; have HK2 := hide (hkB.trans hk2); have HX2 := hide hx2; clear hk2 hx2 hb2 hr2 hbT hbR hxB hkB; simp only [tkV, noTk] at d0 d1 d2 d3 d4 z0 z1 z2 z3 z4; simp at d0 d1 d2 d3 d4 z0 z1 z2 z3 z4)
            refine bodyPost_ret (v := .tuple #[.agg #[.int .i64 3, S x, .int .i64 0, .int .i64 (ln : Int), .int .i64 (co : Int)], .int .i64 0]) ?_ rfl ?_
            · simp [results, Tryd.results15, go_sem, z0, z1, z2, z3, z4]
            · exact ⟨by rw [HV.out]; rfl, Keep.setCells_ HK2.out (by omega), by rw [HV.out]; exact LXset HX2.out (by omega)⟩
        · have HRL : Hid (R = limitM ⟨1, x, 0⟩) := hide (by rw [HR.out, HNX.out, hgc, hsc, ← hx, hwd]; rfl)
          rw [← hx] at HRN
          simp only [hwd] at HWD
          clear hx HNX hwd
          simp only [hgc] at HGR
          simp only [hsc] at HSM
          clear hgc hsc
          go_upto_region 23 with (first | (go_at_call 21; refine (HGR _).out.mono ?_; rintro e w' ⟨rfl, hw'⟩; subst w') | (go_at_call 24; refine (HSM _).out.mono ?_; rintro e w' ⟨rfl, hw'⟩; subst w') | (go_at_call 26; refine (HDI _).out.mono ?_; rintro e w' ⟨rfl, hw'⟩; subst w') | (go_at_call 22; refine (HRN 0).out.mono ?_; rintro e w' ⟨rfl, m, hw'⟩; subst w') | (go_at_call 25; refine (HWD _).out.mono ?_; rintro e w' ⟨rfl, hw'⟩; subst w'))
          refine name_world ?_
          intro wB hwB
          have hxB : LX wB g s a := by rw [hwB]; exact Blk.far (p := ⟨R1, 0, none⟩) (Blk.far (p := ⟨R1, 1, none⟩) (Blk.far (p := ⟨R1, 0, none⟩) (Blk.drewN HAX.out _) (Ne.symm hg1) _) (Ne.symm hg1) _) (Ne.symm hg1) _
          have hkB : Keep (fun k => k = g) w wB := by rw [hwB]; exact Keep.setCell (Keep.setCell (Keep.setCell (HAK.out.drewN _) (p := ⟨R1, 0, none⟩) (fun h => absurd h (by simp only; omega)) _) (p := ⟨R1, 1, none⟩) (fun h => absurd h (by simp only; omega)) _) (p := ⟨R1, 0, none⟩) (fun h => absurd h (by simp only; omega)) _
          have hbT : Blk wB R1 34 (tkV ⟨1, x, 0⟩ (ln, co)) := by rw [hwB]; exact Blk.set_ (Blk.set_ (Blk.set_ (HAT.out.drewN _) 0 _) 1 _) 0 _
          have hbR : Blk wB R0 34 noTk := by rw [hwB]; exact Blk.far (p := ⟨R1, 0, none⟩) (Blk.far (p := ⟨R1, 1, none⟩) (Blk.far (p := ⟨R1, 0, none⟩) (HAR.out.drewN _) (by simp only; omega) _) (by simp only; omega) _) (by simp only; omega) _
          clear hwB
          have HXB := hide hxB
          have HKB := hide hkB
          have HTB := hide hbT
          have HRB := hide hbR
          have q0 : wB.cell? ⟨R1, 0, none⟩ = some (.int .i64 1) := hbT.cell 0
          have q1 : wB.cell? ⟨R1, 1, none⟩ = some (S x) := hbT.cell 1
          by_cases hlen : 40 < x.length
          · have hl4 : decide (40 < (x.length : Int)) = true := by simp; omega
            have HV : Hid (R = .error 4) := hide (by rw [HRL.out, limitM, if_pos ⟨hlen, by show (1 : Nat) ≠ 4; decide⟩])
            have f0 := hbR.frozen
            have z0 := hbR.cell 0
            have z1 := hbR.cell 1
            have z2 := hbR.cell 2
            have z3 := hbR.cell 3
            have z4 := hbR.cell 4
            simp only [noTk] at z0 z1 z2 z3 z4
            simp at z0 z1 z2 z3 z4
            clear HRL hbT hbR hxB hkB
            go_wp2_with fail
            refine bodyPost_ret (v := .tuple #[.agg #[.int .i64 0, .string { data := #[] }, .int .i64 0, .int .i64 0, .int .i64 0], .int .i64 4]) ?_ rfl ?_
            · simp [results, Tryd.results15, go_sem, z0, z1, z2, z3, z4]
            · exact ⟨by rw [HV.out]; rfl, Keep.setCells_ HKB.out (by omega), by rw [HV.out]; exact LXset HXB.out (by omega)⟩
          · have hl4 : decide (40 < (x.length : Int)) = false := by simp; omega
            have HV : Hid (R = .ok ⟨1, x, 0⟩) := hide (by rw [HRL.out, limitM, if_neg (fun h => hlen h.1)])
            clear HRL
            go_wp2_with (go_at_call 18; refine (step_any _ g s a x.length HXB.out HTL.out hs).mono ?_; rintro e w2 ⟨rfl, hk2, hx2⟩; have hb2 := hbT.keep hk2 hg1; have hr2 := hbR.keep hk2 hg0; have f0 := hr2.frozen; have d0 := hb2.cell 0; have d1 := hb2.cell 1; have d2 := hb2.cell 2; have d3 := hb2.cell 3; have d4 := hb2.cell 4; have z0 := hr2.cell 0; have z1 := hr2.cell 1; have z2 := hr2.cell 2; have z3 := hr2.cell 3; have z4 := hr2.cell 4; have HK2 := hide (hkB.trans hk2); have HX2 := hide hx2; clear hk2 hx2 hb2 hr2 hbT hbR hxB hkB; simp only [tkV, noTk] at d0 d1 d2 d3 d4 z0 z1 z2 z3 z4; simp at d0 d1 d2 d3 d4 z0 z1 z2 z3 z4)
            refine bodyPost_ret (v := .tuple #[.agg #[.int .i64 1, S x, .int .i64 0, .int .i64 (ln : Int), .int .i64 (co : Int)], .int .i64 0]) ?_ rfl ?_
            · simp [results, Tryd.results15, go_sem, z0, z1, z2, z3, z4]
            · exact ⟨by rw [HV.out]; rfl, Keep.setCells_ HK2.out (by omega), by rw [HV.out]; exact LXset HX2.out (by omega)⟩
    · obtain ⟨x, hx⟩ : ∃ x, x = (s.drop a).takeWhile innerB := ⟨_, rfl⟩
      have HTL : Hid (a + x.length ≤ s.length) := hide (by rw [hx]; have := tw_len innerB (s.drop a); rw [List.length_drop] at this; omega)
      have HRL : Hid (R = limitM ⟨2, x, 0⟩) := hide (by rw [HR.out, HNX.out, hgc, hx]; rfl)
      rw [← hx] at HRN
      clear hx HNX
      simp only [hgc] at HGR
      clear hgc
      go_upto_region 23 with (first | (go_at_call 21; refine (HGR _).out.mono ?_; rintro e w' ⟨rfl, hw'⟩; subst w') | (go_at_call 24; refine (HSM _).out.mono ?_; rintro e w' ⟨rfl, hw'⟩; subst w') | (go_at_call 26; refine (HDI _).out.mono ?_; rintro e w' ⟨rfl, hw'⟩; subst w') | (go_at_call 22; refine (HRN 0).out.mono ?_; rintro e w' ⟨rfl, m, hw'⟩; subst w'))
      refine name_world ?_
      intro wB hwB
      have hxB : LX wB g s a := by rw [hwB]; exact Blk.far (p := ⟨R1, 1, none⟩) (Blk.far (p := ⟨R1, 0, none⟩) (Blk.drewN HAX.out _) (Ne.symm hg1) _) (Ne.symm hg1) _
      have hkB : Keep (fun k => k = g) w wB := by rw [hwB]; exact Keep.setCell (Keep.setCell (HAK.out.drewN _) (p := ⟨R1, 0, none⟩) (fun h => absurd h (by simp only; omega)) _) (p := ⟨R1, 1, none⟩) (fun h => absurd h (by simp only; omega)) _
      have hbT : Blk wB R1 34 (tkV ⟨2, x, 0⟩ (ln, co)) := by rw [hwB]; exact Blk.set_ (Blk.set_ (HAT.out.drewN _) 0 _) 1 _
      have hbR : Blk wB R0 34 noTk := by rw [hwB]; exact Blk.far (p := ⟨R1, 1, none⟩) (Blk.far (p := ⟨R1, 0, none⟩) (HAR.out.drewN _) (by simp only; omega) _) (by simp only; omega) _
      clear hwB
      have HXB := hide hxB
      have HKB := hide hkB
      have HTB := hide hbT
      have HRB := hide hbR
      have q0 : wB.cell? ⟨R1, 0, none⟩ = some (.int .i64 2) := hbT.cell 0
      have q1 : wB.cell? ⟨R1, 1, none⟩ = some (S x) := hbT.cell 1
      by_cases hlen : 40 < x.length
      · have hl4 : decide (40 < (x.length : Int)) = true := by simp; omega
        have HV : Hid (R = .error 4) := hide (by rw [HRL.out, limitM, if_pos ⟨hlen, by show (2 : Nat) ≠ 4; decide⟩])
        have f0 := hbR.frozen
        have z0 := hbR.cell 0
        have z1 := hbR.cell 1
        have z2 := hbR.cell 2
        have z3 := hbR.cell 3
        have z4 := hbR.cell 4
        simp only [noTk] at z0 z1 z2 z3 z4
        simp at z0 z1 z2 z3 z4
        clear HRL hbT hbR hxB hkB
        go_wp2_with fail
        refine bodyPost_ret (v := .tuple #[.agg #[.int .i64 0, .string { data := #[] }, .int .i64 0, .int .i64 0, .int .i64 0], .int .i64 4]) ?_ rfl ?_
        · simp [results, Tryd.results15, go_sem, z0, z1, z2, z3, z4]
        · exact ⟨by rw [HV.out]; rfl, Keep.setCells_ HKB.out (by omega), by rw [HV.out]; exact LXset HXB.out (by omega)⟩
      · have hl4 : decide (40 < (x.length : Int)) = false := by simp; omega
        have HV : Hid (R = .ok ⟨2, x, 0⟩) := hide (by rw [HRL.out, limitM, if_neg (fun h => hlen h.1)])
        clear HRL
        go_wp2_with (go_at_call 18; refine (step_any _ g s a x.length HXB.out HTL.out hs).mono ?_; rintro e w2 ⟨rfl, hk2, hx2⟩; have hb2 := hbT.keep hk2 hg1; have hr2 := hbR.keep hk2 hg0; have f0 := hr2.frozen; have d0 := hb2.cell 0; have d1 := hb2.cell 1; have d2 := hb2.cell 2; have d3 := hb2.cell 3; have d4 := hb2.cell 4; have z0 := hr2.cell 0; have z1 := hr2.cell 1; have z2 := hr2.cell 2; have z3 := hr2.cell 3; have z4 := hr2.cell 4; have HK2 := hide (hkB.trans hk2); have HX2 := hide hx2; clear hk2 hx2 hb2 hr2 hbT hbR hxB hkB; simp only [tkV, noTk] at d0 d1 d2 d3 d4 z0 z1 z2 z3 z4; simp at d0 d1 d2 d3 d4 z0 z1 z2 z3 z4)
        refine bodyPost_ret (v := .tuple #[.agg #[.int .i64 2, S x, .int .i64 0, .int .i64 (ln : Int), .int .i64 (co : Int)], .int .i64 0]) ?_ rfl ?_
        · simp [results, Tryd.results15, go_sem, z0, z1, z2, z3, z4]
        · exact ⟨by rw [HV.out]; rfl, Keep.setCells_ HK2.out (by omega), by rw [HV.out]; exact LXset HX2.out (by omega)⟩
  · obtain rfl : a = s.length := by omega
    have HE : Hid (R = .ok ⟨0, [], 0⟩) := hide (by rw [HR.out, List.drop_length]; rfl)
    have f0 := hr1.frozen
    have z0 := hr1.cell 0
    have z1 := hr1.cell 1
    have z2 := hr1.cell 2
    have z3 := hr1.cell 3
    have z4 := hr1.cell 4
    have HK1 := hide hk1
    have HX1 := hide hx1
    go_enter Tryd.func15, Tryd.ntmps15
    go_wp2_with fail
    go_quiet (fail)
    go_wp2_with fail
    refine bodyPost_ret (v := .tuple #[.agg #[.int .i64 0, .string { data := #[] }, .int .i64 0, .int .i64 (ln : Int), .int .i64 (co : Int)], .int .i64 0]) ?_ rfl ?_
    · simp [results, Tryd.results15, go_sem]
    · clear f0 z0 z1 z2 z3 z4
      refine ⟨by rw [HE.out]; rfl, ?_, ?_⟩
      · have hb : Keep (fun k => k = g) w (W1.drewN nq) := hk1.drewN _
        rw [hW1] at hb
        exact Keep.setCells_ hb (Nat.le_refl _)
      · have hb : LX (W1.drewN nq) g s s.length := Blk.drewN hx1 _
        rw [hW1] at hb
        rw [HE.out]
        exact LXset hb (by omega)
end Go.Proofs.YtoilalfchnglcaaDoor
