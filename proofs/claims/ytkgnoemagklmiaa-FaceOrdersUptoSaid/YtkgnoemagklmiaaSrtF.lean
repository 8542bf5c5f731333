/- (*face.Face).sort, walked; no statement of the seat is proved here. -/
import Derived.Test.YtkgnoemagklmiaaOf1
namespace Go.Proofs.Ytkgnoemagklmiaa
open Go.RowKit

theorem ownV_any (B n c : Nat) (A : Option Addr) (xs : List Vr) (w : World) (ho : w.ownsRow B 45 3 (.slice A n c) n (xs.flatMap Vr.cells)) (hl : xs.length = n) (hb : n ≤ 19) :
    Calls Try.prog 54 #[.slice A n c, .func (.func 55) #[] #[]] w (fun e w' => e = .returned (.tuple #[]) ∧ ∃ ys : List Vr, ys.Perm xs ∧ Ris Vr.n ys ∧ w'.ownsRow B 45 3 (.slice A n c) n (ys.flatMap Vr.cells) ∧ Keep (fun i => some i = (Value.slice A n c).ownBlock) w w') := by
  rcases Nat.eq_zero_or_pos n with rfl | hn
  · refine (stabV_nil A c w).mono ?_
    rintro e w' ⟨rfl, rfl⟩
    obtain rfl : xs = [] := List.eq_nil_of_length_eq_zero hl
    exact ⟨rfl, [], List.Perm.refl _, List.Pairwise.nil, ho, Keep.refl _ _⟩
  · rcases ho.2 with ⟨hv, h0⟩ | ⟨g, cap, cur, hv, hbg, hg, hnc, hcm, hcs, htake⟩
    · omega
    · injection hv with hA _ hc
      subst hA hc
      have hcur : cur = (xs.flatMap Vr.cells ++ cur.toList.drop (n * 3)).toArray := by
        rw [← htake, List.take_append_drop]
      have hblk : Blk w g 45 (xs.flatMap Vr.cells ++ cur.toList.drop (n * 3)).toArray := by rw [← hcur]; exact hg
      have hlen : (xs.flatMap Vr.cells).length = n * 3 := by rw [flat_len' (f := Vr.cells) (k := 3) (fun _ => rfl), hl]
      refine (stabV_any xs g n c (cur.toList.drop (n * 3)) w hblk hl.symm hn hb).mono ?_
      rintro e w' ⟨rfl, ys, hp, hr, hb', hk⟩
      have hyl : (ys.flatMap Vr.cells).length = n * 3 := by rw [flat_len' (f := Vr.cells) (k := 3) (fun _ => rfl), hp.length_eq, hl]
      refine ⟨rfl, ys, hp, hr, ⟨hyl, .inr ⟨g, c, _, rfl, hbg, hb', hnc, hcm, ?_, ?_⟩⟩, hk.mono (fun i _ h => by rw [h]; rfl)⟩
      · rw [← hcs, List.size_toArray, List.length_append, hyl, List.length_drop, Array.length_toList]
        have : n * 3 ≤ cur.size := by rw [hcs]; exact Nat.mul_le_mul_right _ hnc
        omega
      · rw [List.take_append_of_le_length (by rw [hyl]; omega), List.take_of_length_le (by rw [hyl]; omega)]

theorem ownS_any (B n c : Nat) (A : Option Addr) (xs : List Sg) (w : World) (ho : w.ownsRow B 58 5 (.slice A n c) n (xs.flatMap Sg.cells)) (hl : xs.length = n) (hb : n ≤ 19) :
    Calls Try.prog 57 #[.slice A n c, .func (.func 58) #[] #[]] w (fun e w' => e = .returned (.tuple #[]) ∧ ∃ ys : List Sg, ys.Perm xs ∧ Ris Sg.n ys ∧ w'.ownsRow B 58 5 (.slice A n c) n (ys.flatMap Sg.cells) ∧ Keep (fun i => some i = (Value.slice A n c).ownBlock) w w') := by
  rcases Nat.eq_zero_or_pos n with rfl | hn
  · refine (stabS_nil A c w).mono ?_
    rintro e w' ⟨rfl, rfl⟩
    obtain rfl : xs = [] := List.eq_nil_of_length_eq_zero hl
    exact ⟨rfl, [], List.Perm.refl _, List.Pairwise.nil, ho, Keep.refl _ _⟩
  · rcases ho.2 with ⟨hv, h0⟩ | ⟨g, cap, cur, hv, hbg, hg, hnc, hcm, hcs, htake⟩
    · omega
    · injection hv with hA _ hc
      subst hA hc
      have hcur : cur = (xs.flatMap Sg.cells ++ cur.toList.drop (n * 5)).toArray := by
        rw [← htake, List.take_append_drop]
      have hblk : Blk w g 58 (xs.flatMap Sg.cells ++ cur.toList.drop (n * 5)).toArray := by rw [← hcur]; exact hg
      have hlen : (xs.flatMap Sg.cells).length = n * 5 := by rw [flat_len' (f := Sg.cells) (k := 5) (fun _ => rfl), hl]
      refine (stabS_any xs g n c (cur.toList.drop (n * 5)) w hblk hl.symm hn hb).mono ?_
      rintro e w' ⟨rfl, ys, hp, hr, hb', hk⟩
      have hyl : (ys.flatMap Sg.cells).length = n * 5 := by rw [flat_len' (f := Sg.cells) (k := 5) (fun _ => rfl), hp.length_eq, hl]
      refine ⟨rfl, ys, hp, hr, ⟨hyl, .inr ⟨g, c, _, rfl, hbg, hb', hnc, hcm, ?_, ?_⟩⟩, hk.mono (fun i _ h => by rw [h]; rfl)⟩
      · rw [← hcs, List.size_toArray, List.length_append, hyl, List.length_drop, Array.length_toList]
        have : n * 5 ≤ cur.size := by rw [hcs]; exact Nat.mul_le_mul_right _ hnc
        omega
      · rw [List.take_append_of_le_length (by rw [hyl]; omega), List.take_of_length_le (by rw [hyl]; omega)]

set_option maxRecDepth 100000 in
set_option maxHeartbeats 2000000 in
theorem sort_any (B B' q fk c0 k c : Nat) (n su : List UInt8) (A0 A : Option Addr) (fs : List Vr) (Ss : List Sg) (w : World) (hblk : Blk w q 25 #[S n, S su, .slice A0 fk c0, .slice A k c])
    (ho : w.ownsRow B 45 3 (.slice A0 fk c0) fk (fs.flatMap Vr.cells)) (hm : w.ownsRow B' 58 5 (.slice A k c) k (Ss.flatMap Sg.cells)) (hfl : fs.length = fk) (hfb : fk ≤ 19) (hsl : Ss.length = k) (hkb : k ≤ 19) :
    Calls Try.prog 38 #[.pointer (some ⟨q, 0, none⟩)] w (fun e w' => e = .returned (.tuple #[]) ∧ ∃ (fs' : List Vr) (Ss' : List Sg), fs'.Perm fs ∧ Ris Vr.n fs' ∧ Ss'.Perm Ss ∧ Ris Sg.n Ss' ∧
      w'.ownsRow B 45 3 (.slice A0 fk c0) fk (fs'.flatMap Vr.cells) ∧ w'.ownsRow B' 58 5 (.slice A k c) k (Ss'.flatMap Sg.cells) ∧ Keep (fun i => some i = (Value.slice A0 fk c0).ownBlock ∨ some i = (Value.slice A k c).ownBlock) w w') := by
  have HK := hide hblk
  have HV := hide (ownV_any B fk c0 A0 fs w ho hfl hfb)
  have HN1 := hide (own_blk_ne ho hblk (by decide))
  have HN2 := hide (own_own_ne ho hm (by decide))
  have HM := hide hm
  clear ho hm hblk
  have k2 := HK.out.cell 2
  simp at k2
  go_enter Try.func38, Try.ntmps38
  go_wp2_with fail
  clear k2
  refine HV.out.mono ?_
  rintro e w1 ⟨rfl, ys, hp, hr, ho1, hk1⟩
  have HK1 := hide (HK.out.keep hk1 (fun e => HN1.out e.symm))
  have HM1 := hide (own_keep HM.out hk1 (fun i hi hf => HN2.out i hf.symm hi))
  have k3 := HK1.out.cell 3
  simp at k3
  have HS := hide (ownS_any B' k c A Ss w1 HM1.out hsl hkb)
  have HO1 := hide ho1
  have HKP := hide hk1
  have HY := hide (And.intro hp hr)
  clear ho1 hk1 hp hr HV HM HK
  go_wp2_with fail
  clear k3
  refine HS.out.mono ?_
  rintro e w2 ⟨rfl, zs, hp2, hr2, hm2, hk2⟩
  go_wp2_with fail
  go_end0
  have hno := own_own_ne HO1.out HM1.out (by decide)
  exact ⟨rfl, ys, zs, HY.out.1, HY.out.2, hp2, hr2, own_keep HO1.out hk2 (fun i hi hf => hno i hi hf.symm), hm2, (HKP.out.mono (fun i _ h => .inl h)).trans (hk2.mono (fun i _ h => .inr h))⟩
end Go.Proofs.Ytkgnoemagklmiaa
