/- What the laws of layer 8 reckon themselves: find, up, in, walked; no statement of the seat is proved here. -/
import Derived.Test.YtmhnfilingebfaaHierUp
namespace Go.Proofs.Ytmhnfilingebfaa
open Go.RowKit

theorem get_none {T : List Fc} {k : List UInt8} (h : ∀ f ∈ T, f.n ≠ k) : get T k = none := by
  unfold get
  rw [List.find?_eq_none]
  intro f hf
  simpa using h f (by simpa using hf)
theorem get_at {T : List Fc} {k : List UInt8} {i : Nat} (hi : i < T.length) (h : T[i].n = k) (hr : ∀ f ∈ T.drop (i + 1), f.n ≠ k) : get T k = some T[i] := by
  have e : T.reverse = (T.drop (i + 1)).reverse ++ (T[i] :: (T.take i).reverse) := by
    conv => lhs; rw [← List.take_append_drop i T, List.drop_eq_getElem_cons hi]
    simp
  unfold get
  rw [e, List.find?_append, List.find?_eq_none.2 (fun f hf => by simpa using hr f (by simpa using hf)), List.find?_cons]
  simp [h]

set_option maxRecDepth 100000 in
theorem in_any (A : Option Addr) (n c : Nat) (l : List (List UInt8)) (x : List UInt8) (w : World) {F : Nat → Prop} (h : Rd w F 1 A n (l.map S)) (hn : n ≤ 9223372036854775807) :
    Calls Try.prog 16 #[.slice A n c, S x] w (fun e w' => e = .returned (.bool (decide (x ∈ l))) ∧ w' = w) := by
  have HL : Hid (l.length = n) := hide (by have := h.1; simpa using this)
  go_enter Try.func16, Try.ntmps16
  go_wp2_with fail
  go_loopw [9] (fun i wr => ∃ k : Nat, k ≤ n ∧ i = .int .i64 k ∧ wr = w ∧ (∀ i (hi : i < l.length), i < k → l[i] ≠ x)) (fun i _ => n - (intOf i).toNat)
  case atStart => exact ⟨0, Nat.zero_le _, rfl, rfl, by omega⟩
  case round =>
    obtain ⟨k, hk, rfl, hw, hall⟩ := hrel
    have h' : Rd wr F 1 A n (l.map S) := by rw [hw]; exact h
    have HW := hide hw
    clear hw
    have HA := hide hall
    clear hall
    by_cases hlt : k < n
    · obtain ⟨b, o, u, rfl, hu, hc⟩ := h'.at_ k hlt
      have hlk : k < l.length := by have := HL.out; omega
      obtain rfl : S l[k] = u := by simpa [hlk] using hu
      clear hu
      obtain ⟨y, hy⟩ : ∃ y, y = l[k] := ⟨_, rfl⟩
      rw [← hy] at hc
      have HY := hide hy
      clear hy
      by_cases e : y = x
      · have HD : Hid (decide (x ∈ l) = true) := hide (decide_eq_true (by rw [← e, HY.out]; exact List.getElem_mem hlk))
        subst e
        go_wp2_with fail
        go_ret
        exact ⟨by rw [HD.out] <;> rfl, HW.out⟩
      · have d : (y == x) = false := by simpa using e
        go_wp2_with fail
        go_roundw
        case rel => exact ⟨k + 1, by omega, by go_num, HW.out, all_step (p := fun z => z ≠ x) HA.out hlk (by rw [← HY.out]; exact e)⟩
        case measure => simp [intOf]; omega
    · have HN : Hid (∀ z ∈ l, z ≠ x) := hide (all_done HA.out (by have := HL.out; omega))
      clear HA
      go_wp2_with fail
      go_ret
      exact ⟨by rw [decide_eq_false (fun hm => HN.out x hm rfl)] <;> rfl, HW.out⟩

theorem set_below {w w2 : World} (h : Below w.heap.size w w2) {p : Addr} (hp : w.heap.size ≤ p.block) (u : Value) : Below w.heap.size w (w2.setCell p u) :=
  ((Keep.of_below (F := fun _ => False) h (fun k h1 h2 => by omega)).setCell (fun h => by omega) u).below (Nat.le_refl _) (fun k hk => absurd hk id)

set_option maxRecDepth 100000 in
set_option maxHeartbeats 1000000 in
theorem find_any (A : Option Addr) (n c : Nat) (T : List Fc) (k : List UInt8) (w : World) (h : FcsAt w (fun k => w.heap.size ≤ k) A n T) :
    Calls Try.prog 18 #[.slice A n c, S k] w
      (fun e w' => e = .returned (.tuple #[(faceF T k).val, .bool (get T k).isSome]) ∧ Below w.heap.size w w') := by
  obtain ⟨hr, hl, hm, hok⟩ := h
  have HL := hide hl
  clear hl hok
  obtain ⟨G, hG⟩ : ∃ G, G = faceF T k := ⟨_, rfl⟩
  obtain ⟨B, hB⟩ : ∃ B, B = (get T k).isSome := ⟨_, rfl⟩
  rw [← hG, ← hB]
  have HG := hide hG
  have HB := hide hB
  clear hG hB
  obtain ⟨wA, hwA⟩ : ∃ wA, wA = w.alloc (.cells #[.string { data := #[] }, .string { data := #[] }, .slice none 0 0, .slice none 0 0] 38) := ⟨_, rfl⟩
  have hbA : Below w.heap.size w wA := by rw [hwA]; exact (Below.refl _ _).alloc (Nat.le_refl _) _
  have hbk : Blk wA w.heap.size 38 #[.string { data := #[] }, .string { data := #[] }, .slice none 0 0, .slice none 0 0] := by rw [hwA]; exact Blk.new _ _ _
  go_enter Try.func18, Try.ntmps18
  go_wp2_with fail
  rw [← hwA]
  clear hwA
  go_loopw [6] (fun i wr => ∃ j : Nat, j ≤ n ∧ i = .int .i64 ((j : Int) - 1) ∧ Below wA.heap.size wA wr ∧ (∀ f ∈ T.drop j, f.n ≠ k)) (fun i _ => (intOf i + 1).toNat)
  case atStart => exact ⟨n, Nat.le_refl _, by go_num, Below.refl _ _, by rw [List.drop_eq_nil_of_le (by have := HL.out; omega)]; simp⟩
  case round =>
    obtain ⟨j, hj, rfl, hbr, hall⟩ := hrel
    have HA := hide hall
    clear hall
    have hbw := hbA.trans (hbr.mono hbA.size)
    have hb2 := hbk.below hbr hbk.lt
    have f0 : ∀ i, wr.frozen? ⟨w.heap.size, i, none⟩ = false := hb2.frozen
    have r0 : wr.cell? ⟨w.heap.size, 0, none⟩ = some (.string { data := #[] }) := hb2.cell 0
    have r1 : wr.cell? ⟨w.heap.size, 1, none⟩ = some (.string { data := #[] }) := hb2.cell 1
    have r2 : wr.cell? ⟨w.heap.size, 2, none⟩ = some (.slice none 0 0) := hb2.cell 2
    have r3 : wr.cell? ⟨w.heap.size, 3, none⟩ = some (.slice none 0 0) := hb2.cell 3
    rcases j with _ | j
    · have HZ : Hid (G = zeroFc ∧ B = false) := hide (by
        have : get T k = none := get_none (by simpa using HA.out)
        rw [HG.out, HB.out, faceF, this]
        exact ⟨rfl, rfl⟩)
      clear HA
      go_wp2_with fail
      refine bodyPost_ret (v := .tuple #[zeroFc.val, .bool false]) ?_ rfl ?_
      · simp [results, Try.results18, go_sem, r0, r1, r2, r3, zeroFc]
      · exact ⟨by rw [HZ.out.1, HZ.out.2], set_below (set_below (set_below (set_below hbw (Nat.le_refl _) _) (Nat.le_refl _) _) (Nat.le_refl _) _) (Nat.le_refl _) _⟩
    · have hlt : j < n := by omega
      have hji : ((j + 1 : Nat) : Int) - 1 = (j : Int) := by omega
      rw [hji]
      clear hji
      obtain ⟨x, o, rfl, hx1, _, hcell⟩ := Rd.rec_ (size := 4) (fun _ => rfl) (hr.below hbw) HL.out j hlt
      have hlk : j < T.length := by have := HL.out; omega
      have HAT : Hid (T[j].n = k → get T k = some T[j]) := hide (fun e => get_at hlk e HA.out)
      have HDR : Hid (T[j].n ≠ k → ∀ f ∈ T.drop j, f.n ≠ k) := hide (fun e f hf => by
        rw [List.drop_eq_getElem_cons hlk] at hf
        rcases List.mem_cons.1 hf with h | h
        · rw [h]; exact e
        · exact HA.out f h)
      generalize T[j] = f at *
      have q0 : wr.cell? ⟨x, o + j * 4, none⟩ = some (S f.n) := hcell 0 _ rfl
      have q1 : wr.cell? ⟨x, o + j * 4 + 1, none⟩ = some (S f.su) := hcell 1 _ rfl
      have q2 : wr.cell? ⟨x, o + j * 4 + 2, none⟩ = some (.slice f.fA f.fl f.fc) := hcell 2 _ rfl
      have q3 : wr.cell? ⟨x, o + j * 4 + 3, none⟩ = some (.slice f.mA f.ml f.mc) := hcell 3 _ rfl
      clear hcell
      by_cases e : f.n = k
      · have HZ : Hid (G = f ∧ B = true) := hide (by
          rw [HG.out, HB.out, faceF, HAT.out e]
          exact ⟨rfl, rfl⟩)
        clear HAT HDR HA
        subst e
        go_wp2_with fail
        refine bodyPost_ret (v := .tuple #[f.val, .bool true]) ?_ rfl ?_
        · simp [results, Try.results18, go_sem, r0, r1, r2, r3]
        · exact ⟨by rw [HZ.out.1, HZ.out.2], set_below (set_below (set_below (set_below hbw (Nat.le_refl _) _) (Nat.le_refl _) _) (Nat.le_refl _) _) (Nat.le_refl _) _⟩
      · have HE := hide (HDR.out e)
        have d : (f.n == k) = false := by simpa using e
        clear HAT HDR HA
        go_wp2_with fail
        go_roundw
        case rel => exact ⟨j, by omega, by go_num, hbr, HE.out⟩
        case measure => simp [intOf] <;> omega

/-- What the page's loop carries. -/
structure Up8 (w wr : World) (T : List Fc) (a : List UInt8) (v1 v6 v7 : Value) (l : List (List UInt8)) (nm : List UInt8) : Prop where
  e1 : v1 = S nm
  e7 : v7 = .int .i64 (l.length : Int)
  own : wr.ownsRow w.heap.size 9 1 v6 l.length (l.map S)
  below : Below w.heap.size w wr
  eq : up T (20 - l.length) l nm = up T 20 [] a
  nod : l.Nodup
  inT : ∀ x ∈ l, (get T x).isSome = true

theorem Up8.len {w wr : World} {T : List Fc} {a : List UInt8} {v1 v6 v7 : Value} {l : List (List UInt8)} {nm : List UInt8} (h : Up8 w wr T a v1 v6 v7 l nm) : l.length ≤ T.length :=
  len_le_of_nodup h.nod (fun x hx => by
    have := h.inT x hx
    obtain ⟨f, hf⟩ := Option.isSome_iff_exists.1 this
    exact ⟨f, (get_mem hf).1, (get_mem hf).2⟩)

theorem mem_take_succ {l : List (List UInt8)} {nm : List UInt8} {j : Nat} (hj : j < l.length) : nm ∈ l.take (j + 1) ↔ nm ∈ l.take j ∨ nm = l[j] := by
  rw [List.take_add_one, List.getElem?_eq_getElem hj, List.mem_append, Option.toList_some, List.mem_singleton]

set_option maxRecDepth 100000 in
set_option maxHeartbeats 2000000 in
theorem up8_any (A : Option Addr) (n c : Nat) (T : List Fc) (a : List UInt8) (w : World) (h : FcsAt w (fun k => w.heap.size ≤ k) A n T) (hT : T.length ≤ 8) :
    Calls Try.prog 15 #[.slice A n c, S a] w
      (fun e w' => ∃ A' c', e = .returned (.tuple #[.slice A' (up T 20 [] a).1.length c', .bool (up T 20 [] a).2]) ∧ Below w.heap.size w w' ∧ Rd w' (fun b => b < w.heap.size) 1 A' (up T 20 [] a).1.length ((up T 20 [] a).1.map S)) := by
  obtain ⟨i0, hi0, hz0, hz1, hz2⟩ := info_parts str_info
  obtain ⟨R, hR⟩ : ∃ R, R = up T 20 [] a := ⟨_, rfl⟩
  rw [← hR]
  have HR := hide hR
  clear hR
  have H := hide h
  clear h
  obtain ⟨wA, hwA⟩ : ∃ wA, wA = w.alloc (.cells #[] 9) := ⟨_, rfl⟩
  have hoA : wA.ownsRow w.heap.size 9 1 (.slice (some ⟨w.heap.size, 0, none⟩) 0 0) 0 [] := by
    rw [hwA]
    exact World.ownsRow_lit w #[] 0 (Nat.le_refl _) (by simp) rfl
  have hbA : Below w.heap.size w wA := by rw [hwA]; exact (Below.refl _ _).alloc (Nat.le_refl _) _
  go_enter Try.func15, Try.ntmps15
  go_wp2_with fail
  rw [← hwA]
  clear hwA
  go_loopw [1, 6, 7] (fun v1 v6 v7 wr => ∃ l nm, Up8 w wr T a v1 v6 v7 l nm) (fun _ v6 _ _ => 20 - lenOf v6)
  case atStart => exact ⟨[], a, rfl, rfl, hoA, hbA, rfl, List.nodup_nil, by simp⟩
  case round =>
    obtain ⟨l, nm, hrel⟩ := hrel
    have hlen := hrel.len
    obtain ⟨rfl, rfl, hown, hbr, heq, hnod, hinT⟩ := hrel
    obtain ⟨A', c', rfl⟩ := own_slice hown
    have hup : 20 - l.length = (19 - l.length) + 1 := by omega
    rw [hup, up] at heq
    have h20 : decide ((l.length : Int) < 20) = true := by simp; omega
    by_cases e : nm = []
    · subst e
      rw [if_pos rfl] at heq
      have hRl : R = (l, true) := HR.out.trans heq.symm
      subst hRl
      have HF := hide (And.intro hbr (Rd.of_own hown))
      clear hown hbr heq
      go_wp2_with fail
      go_ret2
      exact ⟨A', ⟨c', rfl⟩, HF.out⟩
    · rw [if_neg e] at heq
      have d0 : (nm == []) = false := by simpa using e
      have hf := find_any A n c T nm wr ((H.out.below hbr).weak (fun k hk => by have := hbr.size; omega))
      obtain ⟨F, hF⟩ : ∃ F, F = faceF T nm := ⟨_, rfl⟩
      obtain ⟨B, hB⟩ : ∃ B, B = (get T nm).isSome := ⟨_, rfl⟩
      rw [← hF] at hf heq
      rw [← hB] at hf heq
      have HB := hide hB
      have HFD := hide hf
      have HEQ := hide heq
      clear hf hB hF heq
      go_wp2_with fail
      refine HFD.out.mono ?_
      rintro e w2 ⟨rfl, hb2⟩
      have hbk : Blk (w2.alloc (.cells #[S F.n, S F.su, .slice F.fA F.fl F.fc, .slice F.mA F.ml F.mc] 38)) w2.heap.size 38 #[S F.n, S F.su, .slice F.fA F.fl F.fc, .slice F.mA F.ml F.mc] := Blk.new _ _ _
      have hb3 : Below wr.heap.size wr (w2.alloc (.cells #[S F.n, S F.su, .slice F.fA F.fl F.fc, .slice F.mA F.ml F.mc] 38)) := hb2.alloc hb2.size _
      obtain ⟨wB, hwB⟩ : ∃ wB, wB = w2.alloc (.cells #[S F.n, S F.su, .slice F.fA F.fl F.fc, .slice F.mA F.ml F.mc] 38) := ⟨_, rfl⟩
      rw [← hwB] at hbk hb3
      have hownB := own_keep hown (Keep.of_below (F := fun _ => False) hb3 (fun k h1 h2 => by omega)) (fun k _ h => h)
      have hbB := hbr.trans (hb3.mono hbr.size)
      have HK := hide hbk
      have HO := hide hownB
      have HBB := hide hbB
      have hrdB : Rd wB (fun b => b < w.heap.size) 1 A' l.length (l.map S) := Rd.of_own hownB
      clear hb2 hb3 hbk hown hbr hownB hbB
      go_wp2_with fail
      rw [← hwB]
      clear hwB
      go_loopw [9, 28] (fun q i wx => ∃ (j : Nat) (Q : Bool), j ≤ l.length ∧ i = .int .i64 j ∧ q = .bool Q ∧ (Q = true ↔ B = true ∧ nm ∉ l.take j) ∧ wx = wB) (fun _ i _ => l.length - (intOf i).toNat)
      case atStart => exact ⟨0, B, Nat.zero_le _, rfl, rfl, by simp, rfl⟩
      case round =>
        obtain ⟨j, Q, hj, rfl, rfl, hQ, hw⟩ := hrel
        have hrd : Rd wr (fun b => b < w.heap.size) 1 A' l.length (l.map S) := by rw [hw]; exact hrdB
        have HW := hide hw
        have HQ := hide hQ
        clear hw hQ
        by_cases hlt : j < l.length
        · obtain ⟨bb, o, u, rfl, hu, hc⟩ := hrd.at_ j hlt
          obtain rfl : S l[j] = u := by simpa [hlt] using hu
          clear hu
          have HM : Hid (nm ∈ l.take (j + 1) ↔ nm ∈ l.take j ∨ nm = l[j]) := hide (mem_take_succ hlt)
          generalize l[j] = y at *
          cases Q with
          | false =>
            have HN : Hid (false = true ↔ B = true ∧ nm ∉ l.take (j + 1)) := hide ⟨fun h => (by cases h), fun h => HQ.out.2 ⟨h.1, fun hm => h.2 (HM.out.2 (.inl hm))⟩⟩
            clear HQ HM
            go_wp2_with fail
            go_roundw
            case rel => exact ⟨j + 1, false, by omega, by go_num, rfl, HN.out, HW.out⟩
            case measure => simp [intOf]; omega
          | true =>
            by_cases ey : y = nm
            · have HN : Hid (false = true ↔ B = true ∧ nm ∉ l.take (j + 1)) := hide ⟨fun h => (by cases h), fun h => absurd (HM.out.2 (.inr ey.symm)) h.2⟩
              clear HQ HM
              subst ey
              go_wp2_with fail
              go_roundw
              case rel => exact ⟨j + 1, false, by omega, by go_num, rfl, HN.out, HW.out⟩
              case measure => simp [intOf]; omega
            · have HN : Hid (true = true ↔ B = true ∧ nm ∉ l.take (j + 1)) := hide ⟨fun _ => ⟨(HQ.out.1 rfl).1, fun hm => (HM.out.1 hm).elim (HQ.out.1 rfl).2 (fun h => ey h.symm)⟩, fun _ => rfl⟩
              have dy : (y == nm) = false := by simpa using ey
              clear HQ HM
              go_wp2_with fail
              go_roundw
              case rel => exact ⟨j + 1, true, by omega, by go_num, rfl, HN.out, HW.out⟩
              case measure => simp [intOf]; omega
        · have hQ : Q = true ↔ B = true ∧ nm ∉ l := by
            have := HQ.out
            rwa [List.take_of_length_le (by omega)] at this
          have hww := HW.out
          subst hww
          clear HQ HW
          cases Q with
          | false =>
            have hRl : R = (l, false) := by
              rw [HR.out, ← HEQ.out, if_neg (fun h => by have := hQ.2 h; cases this)]
            subst hRl
            have HF := hide (And.intro HBB.out hrd)
            clear hQ hrd hrdB
            go_wp2_with fail
            go_ret2
            exact ⟨A', ⟨c', rfl⟩, HF.out⟩
          | true =>
            have hBn := hQ.1 rfl
            have heq2 := HEQ.out
            rw [if_pos hBn] at heq2
            have HE2 := hide heq2
            have HBN := hide hBn
            have c1 : wr.cell? ⟨w2.heap.size, 1, none⟩ = some (S F.su) := HK.out.cell 1
            clear hQ heq2 hBn
            go_wp2_with (at_builtin; refine app1 rfl (.tmp 42) (.tmp 44) 27 rfl w.heap.size 9 (.string { data := #[] }) 16 Try.underlying27 str_info rfl _ l.length (l.map S) rfl HO.out (S nm) rfl rfl (by omega) (by omega) HBB.out.size ?_)
            intro a4 c4 w4 hown4 hgrow4 _
            have hne : some w2.heap.size ≠ (Value.slice A' l.length c').ownBlock := fun h => own_blk_ne HO.out HK.out (by decide) h.symm
            have c4' : w4.cell? ⟨w2.heap.size, 1, none⟩ = some (S F.su) := (hgrow4.cell_far ⟨w2.heap.size, 1, none⟩ HK.out.lt hne).trans c1
            have hb4 := HBB.out.grown hgrow4 HBB.out.size (fun k hk => (own_base HO.out hk).1)
            have HN := hide (show Up8 w w4 T a (S F.su) (.slice a4 (l.length + 1) c4) (.int .i64 ((l.length : Int) + 1)) (l ++ [nm]) F.su from by
              have hl : (l ++ [nm]).length = l.length + 1 := by simp
              refine ⟨rfl, by rw [hl]; rfl, by rw [hl, List.map_append]; exact hown4, hb4, by rw [hl, show 20 - (l.length + 1) = 19 - l.length by omega]; exact HE2.out, ?_, ?_⟩
              · rw [List.nodup_append]
                exact ⟨hnod, by simp, fun x hx y hy => by rw [List.mem_singleton] at hy; subst hy; rintro rfl; exact HBN.out.2 hx⟩
              · intro x hx
                rcases List.mem_append.1 hx with h | h
                · exact hinT x h
                · rw [List.mem_singleton] at h; subst h; rw [← HB.out]; exact HBN.out.1)
            clear hown4 hgrow4 hb4 c1
            go_wp2_with fail
            go_roundw
            case rel => exact ⟨l ++ [nm], F.su, HN.out⟩
            case measure => simp [lenOf]; omega
end Go.Proofs.Ytmhnfilingebfaa
