/- Digest.Hex and sha.Parse, walked; no statement of the seat is proved here. -/
import Derived.Test.YtdnpcpeibjckmaaShaSum
import Derived.Deep.RegionHeld3
namespace Go.Proofs.Ytdnpcpeibjckmaa
open Go.RowKit

def hexd : List UInt8 := [48, 49, 50, 51, 52, 53, 54, 55, 56, 57, 97, 98, 99, 100, 101, 102]
def hdig (n : Nat) : UInt8 := hexd.getD n 0
def hex2 (c : UInt8) : List UInt8 := [hdig (c.toNat / 16), hdig (c.toNat % 16)]
def hexM (l : List UInt8) : List UInt8 := l.flatMap hex2
theorem hexM_len (l : List UInt8) : (hexM l).length = 2 * l.length := by
  induction l with
  | nil => rfl
  | cons a l ih => simp [hexM, hex2] at ih ⊢; omega

theorem run_index_str {P : Program} {t : TypeId} (hu : P.underlying t = some .string) (k : IntKind) (s : List UInt8) (j : Nat) (b : UInt8) (hb : s[j]? = some b) (w : World) : (Instr.index t (S s) (.int k (j : Int))).run P w = .ok (B8 b) w := by
  obtain ⟨hj, he⟩ := List.getElem?_eq_some_iff.1 hb
  have : (ByteArray.mk s.toArray)[j]? = some b := by
    rw [getElem?_pos (ByteArray.mk s.toArray) j hj]
    exact congrArg some he
  simp [Instr.index, asIntOf, run_underlying hu, this]
theorem hexd_at : ∀ (n : Nat) (_ : n < 16), hexd[n]? = some (hdig n) := by decide
theorem u8_and_15 (m : Nat) (h : m < 256) : bits .and .u8 (m : Int) 15 = ((m % 16 : Nat) : Int) := by
  have e := u8_and_nat m 15 h (by omega)
  rw [show ((15 : Nat) : Int) = (15 : Int) from rfl] at e
  rw [e, show m &&& 15 = m % 16 from Nat.and_two_pow_sub_one_eq_mod m 4]
theorem run_index_darr {P : Program} {t e : TypeId} {i : TypeInfo} (hu : P.underlying t = some (.array 32 e)) (he : P.underlying e = some (.int .u8)) (hi : P.info? e = some i) (hz : i.size = 1)
    (l : List UInt8) (j : Nat) (hj : j < 32) (hl : l.length = 32) (w : World) : (Instr.index t (.agg (darr l)) (.int .i64 (j : Int))).run P w = .ok (B8 (l.getD j 0)) w :=
  run_index_arr hu he hi hz (darr l) j hj _ (by simp [darr, hl, hj]) w

set_option maxRecDepth 100000 in
set_option maxHeartbeats 2000000 in
theorem hex_any (w : World) (l : List UInt8) (hl : l.length = 32) : Calls Try.prog 11 #[.agg (darr l)] w (Gives w (S (hexM l))) := by
  obtain ⟨dz, hdz⟩ : ∃ dz, dz = darr l := ⟨_, rfl⟩
  have HIX : Hid (∀ (j : Nat) (_ : j < 32) (w : World), (Instr.index 24 (.agg dz) (.int .i64 (j : Int))).run Try.prog w = .ok (B8 (l.getD j 0)) w) := hide (by
    subst hdz
    obtain ⟨i0, hi, _, hz1, _⟩ := info_parts u8_info
    exact fun j hj w => run_index_darr Try.underlying24 Try.underlying5 hi hz1 l j hj hl w)
  rw [← hdz]
  have HZ : Hid (∀ _ : Unit, dz.size = 32) := hide (fun _ => by rw [hdz]; simp [darr, hl])
  clear hdz
  go_enter Try.func11, Try.ntmps11
  go_wp2_with (refine wpList_load_row rfl 24 (.tmp 1) rfl w.heap.size rfl _ dz (0, 0) _ (heap_alloc_new _ _) Try.underlying24 rfl (by rw [HZ.out ()]; kernel_rfl) ?_)
  go_loopw [3, 7] (fun v i wr => ∃ (k : Nat) (A : Option Addr) (c : Nat), k ≤ 32 ∧ i = .int .i64 (k : Int) ∧ v = .slice A (2 * k) c ∧ Below w.heap.size w wr ∧ wr.ownsRow w.heap.size 5 1 (.slice A (2 * k) c) (2 * k) ((hexM (l.take k)).map B8)) (fun _ i _ => 32 - (intOf i).toNat)
  case atStart => exact ⟨0, none, 0, by omega, rfl, rfl, (Below.refl _ _).alloc (Nat.le_refl _) _, World.ownsRow_nil _ w.heap.size 5 1⟩
  case round =>
    obtain ⟨k, A, c, hk, rfl, rfl, hb, hown⟩ := hrel
    have HB := hide hb
    have HO := hide hown
    clear hb hown
    by_cases hlt : k < 32
    · have hix := HIX.out k hlt
      obtain ⟨x, hx⟩ : ∃ x, x = l.getD k 0 := ⟨_, rfl⟩
      rw [← hx] at hix
      have hxl := x.toNat_lt
      have hd1 : ∀ w, (Instr.index 9 (S hexd) (.int .u8 ((x.toNat : Int) / 16))).run Try.prog w = .ok (B8 (hdig (x.toNat / 16))) w := fun w => by
        have := run_index_str (P := Try.prog) Try.underlying9 .u8 hexd (x.toNat / 16) (hdig (x.toNat / 16)) (hexd_at _ (by omega)) w
        rwa [show ((x.toNat / 16 : Nat) : Int) = (x.toNat : Int) / 16 by omega] at this
      have hd2 : ∀ w, (Instr.index 9 (S hexd) (.int .u8 (bits .and .u8 (x.toNat : Int) 15))).run Try.prog w = .ok (B8 (hdig (x.toNat % 16))) w := fun w => by
        rw [u8_and_15 _ hxl]
        exact run_index_str (P := Try.prog) Try.underlying9 .u8 hexd (x.toNat % 16) (hdig (x.toNat % 16)) (hexd_at _ (by omega)) w
      simp only [hexd] at hd1 hd2
      have HX := hide hx
      clear hx
      go_wp2_with fail
      obtain ⟨y0, hy0⟩ : ∃ y, y = hdig (x.toNat / 16) := ⟨_, rfl⟩
      obtain ⟨y1, hy1⟩ : ∃ y, y = hdig (x.toNat % 16) := ⟨_, rfl⟩
      simp only [← hy0, ← hy1] at hd1 hd2
      have HY0 := hide hy0
      have HY1 := hide hy1
      clear hy0 hy1
      obtain ⟨i0, hi0, hz0, hz1, hz2⟩ := info_parts u8_info
      have hbs := HB.out.size
      have hoA := HO.out.alloc (.cells #[B8 y0, B8 y1] 5)
      have hoD : (wr.alloc (.cells #[B8 y0, B8 y1] 5)).drew.ownsRow w.heap.size 5 1 (.slice A (2 * k) c) (2 * k) ((hexM (l.take k)).map B8) := hoA
      have hnD := World.news_of_block (w := (wr.alloc (.cells #[B8 y0, B8 y1] 5)).drew) (heap_alloc_new wr _)
      have h1c : ∀ u ∈ [B8 y0, B8 y1], u.oneCell' = true := by simp [Value.oneCell']
      go_region_law (refine step_append_lies _ rfl (.tmp 10) (.tmp 17) 31 rfl w.heap.size 5 i0 (.int .u8 0) 1 1 Try.underlying31 hi0 hz0 hz1 hz2 rfl (by decide) _ _ _ rfl hoD ⟨wr.heap.size, 0, none⟩ 2 2 [B8 y0, B8 y1] rfl rfl hnD h1c (by decide) (by unfold maxLen; omega) (by omega) (by simp; omega) _ rfl ?_; intro g' cap' w4 hown4 hgrow4 _ _)
      all_goals
        have HB3 := hide (((HB.out.alloc hbs _).drew).grown hgrow4 (by simp; omega) (fun k hk => (hoD.lt k hk).1))
        have HO3 : Hid (w4.ownsRow w.heap.size 5 1 (.slice (some ⟨g', 0, none⟩) (2 * (k + 1)) cap') (2 * (k + 1)) ((hexM (l.take (k + 1))).map B8)) := hide (by
          have e : (hexM (l.take (k + 1))).map B8 = (hexM (l.take k)).map B8 ++ [B8 y0, B8 y1] := by
            rw [List.take_succ_eq_append_getElem (by omega), hexM, List.flatMap_append, List.map_append, HY0.out, HY1.out, HX.out]
            have hk2 : k < l.length := by omega
            simp [hexM, hex2, hk2]
          rw [e]
          exact hown4)
        clear hown4 hgrow4 hoD hnD h1c hoA hd1 hd2 hix
        simp [go_sem, Act.put]
        go_wp2
        go_roundw
        case rel => exact ⟨k + 1, _, _, by omega, by go_num, rfl, HB3.out, HO3.out⟩
        case measure => simp [intOf]; omega
    · obtain rfl : k = 32 := by omega
      have hown := HO.out
      rw [show l.take 32 = l from by rw [← hl, List.take_length]] at hown
      have hlen : (hexM l).length = 64 := by rw [hexM_len, hl]
      have hcv : (convert 31 9 (.slice A 64 c)).run Try.prog wr = .ok (S (hexM l)) wr :=
        conv_own Try.underlying31 Try.underlying5 Try.underlying9 (v := .slice A 64 c) (bs := hexM l) (by rw [hlen]; exact hown)
      clear hown hlen
      simp only [show 2 * 32 = 64 from rfl, show ((32 : Nat) : Int) = 32 from rfl]
      go_wp2_with fail
      go_ret
      exact ⟨rfl, HB.out⟩
end Go.Proofs.Ytdnpcpeibjckmaa
