/- Digest.Hex and sha.Parse, walked; no statement of the seat is proved here. -/
import Derived.Test.YtclgiapmbmbknaaMShaSumG
import Derived.Deep.RegionHeld3
import Derived.Test.YtclgiapmbmbknaaMRepDig
import Derived.ChangeKeysEq
namespace Go.Proofs.Ytclgiapmbmbknaa
open Go.RowKit

def hexd : List UInt8 := [48, 49, 50, 51, 52, 53, 54, 55, 56, 57, 97, 98, 99, 100, 101, 102]
def hdig (n : Nat) : UInt8 := hexd.getD n 0
def hex2 (c : UInt8) : List UInt8 := [hdig (c.toNat / 16), hdig (c.toNat % 16)]
def hexM (l : List UInt8) : List UInt8 := l.flatMap hex2
theorem hexM_len (l : List UInt8) : (hexM l).length = 2 * l.length := by
  induction l with
  | nil => rfl
  | cons a l ih => simp [hexM, hex2] at ih ⊢; omega

theorem run_index_str {P : Program} {t : TypeId} (hu : P.underlying t = some .string) (k : IntKind) (s : List UInt8) (j : Nat) (b : UInt8) (hb : s[j]? = some b) (w : World) : (Instr.index t (S s) (.int k (j : Int))).run P w = .ok (B8 b) w := by
  obtain ⟨hj, he⟩ := List.getElem?_eq_some_iff.1 hb
  have : (ByteArray.mk s.toArray)[j]? = some b := by
    rw [getElem?_pos (ByteArray.mk s.toArray) j hj]
    exact congrArg some he
  simp [Instr.index, asIntOf, run_underlying hu, this]
theorem hexd_at : ∀ (n : Nat) (_ : n < 16), hexd[n]? = some (hdig n) := by decide
theorem u8_and_15 (m : Nat) (h : m < 256) : bits .and .u8 (m : Int) 15 = ((m % 16 : Nat) : Int) := by
  have e := u8_and_nat m 15 h (by omega)
  rw [show ((15 : Nat) : Int) = (15 : Int) from rfl] at e
  rw [e, show m &&& 15 = m % 16 from Nat.and_two_pow_sub_one_eq_mod m 4]
theorem run_index_darr {P : Program} {t e : TypeId} {i : TypeInfo} (hu : P.underlying t = some (.array 32 e)) (he : P.underlying e = some (.int .u8)) (hi : P.info? e = some i) (hz : i.size = 1)
    (l : List UInt8) (j : Nat) (hj : j < 32) (hl : l.length = 32) (w : World) : (Instr.index t (.agg (darr l)) (.int .i64 (j : Int))).run P w = .ok (B8 (l.getD j 0)) w :=
  run_index_arr hu he hi hz (darr l) j hj _ (by simp [darr, hl, hj]) w

set_option maxRecDepth 100000 in
set_option maxHeartbeats 2000000 in
theorem hex_any (w : World) (l : List UInt8) (hl : l.length = 32) : Calls Try.prog 30 #[.agg (darr l)] w (Gives w (S (hexM l))) := by
  obtain ⟨dz, hdz⟩ : ∃ dz, dz = darr l := ⟨_, rfl⟩
  have HIX : Hid (∀ (j : Nat) (_ : j < 32) (w : World), (Instr.index 41 (.agg dz) (.int .i64 (j : Int))).run Try.prog w = .ok (B8 (l.getD j 0)) w) := hide (by
    subst hdz
    obtain ⟨i0, hi, _, hz1, _⟩ := info_parts u8_info
    exact fun j hj w => run_index_darr Try.underlying41 Try.underlying5 hi hz1 l j hj hl w)
  rw [← hdz]
  have HZ : Hid (∀ _ : Unit, dz.size = 32) := hide (fun _ => by rw [hdz]; simp [darr, hl])
  clear hdz
  go_enter Try.func30, Try.ntmps30
  go_wp2_with (refine wpList_load_row rfl 41 (.tmp 1) rfl w.heap.size rfl _ dz (0, 0) _ (heap_alloc_new _ _) Try.underlying41 rfl (by rw [HZ.out ()]; kernel_rfl) ?_)
  go_loopw [3, 7] (fun v i wr => ∃ (k : Nat) (A : Option Addr) (c : Nat), k ≤ 32 ∧ i = .int .i64 (k : Int) ∧ v = .slice A (2 * k) c ∧ Below w.heap.size w wr ∧ wr.ownsRow w.heap.size 5 1 (.slice A (2 * k) c) (2 * k) ((hexM (l.take k)).map B8)) (fun _ i _ => 32 - (intOf i).toNat)
  case atStart => exact ⟨0, none, 0, by omega, rfl, rfl, (Below.refl _ _).alloc (Nat.le_refl _) _, World.ownsRow_nil _ w.heap.size 5 1⟩
  case round =>
    obtain ⟨k, A, c, hk, rfl, rfl, hb, hown⟩ := hrel
    have HB := hide hb
    have HO := hide hown
    clear hb hown
    by_cases hlt : k < 32
    · have hix := HIX.out k hlt
      obtain ⟨x, hx⟩ : ∃ x, x = l.getD k 0 := ⟨_, rfl⟩
      rw [← hx] at hix
      have hxl := x.toNat_lt
      have hd1 : ∀ w, (Instr.index 9 (S hexd) (.int .u8 ((x.toNat : Int) / 16))).run Try.prog w = .ok (B8 (hdig (x.toNat / 16))) w := fun w => by
        have := run_index_str (P := Try.prog) Try.underlying9 .u8 hexd (x.toNat / 16) (hdig (x.toNat / 16)) (hexd_at _ (by omega)) w
        rwa [show ((x.toNat / 16 : Nat) : Int) = (x.toNat : Int) / 16 by omega] at this
      have hd2 : ∀ w, (Instr.index 9 (S hexd) (.int .u8 (bits .and .u8 (x.toNat : Int) 15))).run Try.prog w = .ok (B8 (hdig (x.toNat % 16))) w := fun w => by
        rw [u8_and_15 _ hxl]
        exact run_index_str (P := Try.prog) Try.underlying9 .u8 hexd (x.toNat % 16) (hdig (x.toNat % 16)) (hexd_at _ (by omega)) w
      simp only [hexd] at hd1 hd2
      have HX := hide hx
      clear hx
      go_wp2_with fail
      obtain ⟨y0, hy0⟩ : ∃ y, y = hdig (x.toNat / 16) := ⟨_, rfl⟩
      obtain ⟨y1, hy1⟩ : ∃ y, y = hdig (x.toNat % 16) := ⟨_, rfl⟩
      simp only [← hy0, ← hy1] at hd1 hd2
      have HY0 := hide hy0
      have HY1 := hide hy1
      clear hy0 hy1
      obtain ⟨i0, hi0, hz0, hz1, hz2⟩ := info_parts u8_info
      have hbs := HB.out.size
      have hoA := HO.out.alloc (.cells #[B8 y0, B8 y1] 5)
      have hoD : (wr.alloc (.cells #[B8 y0, B8 y1] 5)).drew.ownsRow w.heap.size 5 1 (.slice A (2 * k) c) (2 * k) ((hexM (l.take k)).map B8) := hoA
      have hnD := World.news_of_block (w := (wr.alloc (.cells #[B8 y0, B8 y1] 5)).drew) (heap_alloc_new wr _)
      have h1c : ∀ u ∈ [B8 y0, B8 y1], u.oneCell' = true := by simp [Value.oneCell']
      go_region_law (refine step_append_lies _ rfl (.tmp 10) (.tmp 17) 67 rfl w.heap.size 5 i0 (.int .u8 0) 1 1 Try.underlying67 hi0 hz0 hz1 hz2 rfl (by decide) _ _ _ rfl hoD ⟨wr.heap.size, 0, none⟩ 2 2 [B8 y0, B8 y1] rfl rfl hnD h1c (by decide) (by unfold maxLen; omega) (by omega) (by simp; omega) _ rfl ?_; intro g' cap' w4 hown4 hgrow4 _ _)
      all_goals
        have HB3 := hide (((HB.out.alloc hbs _).drew).grown hgrow4 (by simp; omega) (fun k hk => (hoD.lt k hk).1))
        have HO3 : Hid (w4.ownsRow w.heap.size 5 1 (.slice (some ⟨g', 0, none⟩) (2 * (k + 1)) cap') (2 * (k + 1)) ((hexM (l.take (k + 1))).map B8)) := hide (by
          have e : (hexM (l.take (k + 1))).map B8 = (hexM (l.take k)).map B8 ++ [B8 y0, B8 y1] := by
            rw [List.take_succ_eq_append_getElem (by omega), hexM, List.flatMap_append, List.map_append, HY0.out, HY1.out, HX.out]
            have hk2 : k < l.length := by omega
            simp [hexM, hex2, hk2]
          rw [e]
          exact hown4)
        clear hown4 hgrow4 hoD hnD h1c hoA hd1 hd2 hix
        simp [go_sem, Act.put]
        go_wp2
        go_roundw
        case rel => exact ⟨k + 1, _, _, by omega, by go_num, rfl, HB3.out, HO3.out⟩
        case measure => simp [intOf]; omega
    · obtain rfl : k = 32 := by omega
      have hown := HO.out
      rw [show l.take 32 = l from by rw [← hl, List.take_length]] at hown
      have hlen : (hexM l).length = 64 := by rw [hexM_len, hl]
      have hcv : (convert 67 9 (.slice A 64 c)).run Try.prog wr = .ok (S (hexM l)) wr :=
        conv_own Try.underlying67 Try.underlying5 Try.underlying9 (v := .slice A 64 c) (bs := hexM l) (by rw [hlen]; exact hown)
      clear hown hlen
      simp only [show 2 * 32 = 64 from rfl, show ((32 : Nat) : Int) = 32 from rfl]
      go_wp2_with fail
      go_ret
      exact ⟨rfl, HB.out⟩
end Go.Proofs.Ytclgiapmbmbknaa
/- sha.Parse, walked; no statement of the seat is proved here. -/
namespace Go.Proofs.Ytclgiapmbmbknaa
open Go.RowKit

def lowB (c : UInt8) : Bool := decide (97 ≤ c.toNat) && decide (c.toNat ≤ 102)
def digB (c : UInt8) : Bool := decide (48 ≤ c.toNat) && decide (c.toNat ≤ 57)
def goodB (c : UInt8) : Bool := lowB c || digB c
def valB (c : UInt8) : Nat := if lowB c then c.toNat - 87 else c.toNat - 48
def nib (d c : UInt8) : UInt8 := UInt8.ofNat (d.toNat % 16 * 16 + valB c)
def pd (l : List UInt8) : Nat → List UInt8
  | 0 => List.replicate 32 0
  | i + 1 => (pd l i).set (i / 2) (nib ((pd l i).getD (i / 2) 0) (l.getD i 0))
theorem pd_len (l : List UInt8) : ∀ i, (pd l i).length = 32
  | 0 => by simp [pd]
  | i + 1 => by simp [pd, pd_len l i]
def parseM (l : List UInt8) : List UInt8 × Bool := if l.length = 64 ∧ l.all goodB = true then (pd l 64, true) else (List.replicate 32 0, false)
theorem valB_lt {c : UInt8} (h : goodB c = true) : valB c < 16 := by
  simp [goodB, lowB, digB] at h
  unfold valB lowB
  split <;> simp_all <;> omega
theorem nib_val (d c : UInt8) (v : Int) (hv : v = (valB c : Int)) (h : goodB c = true) : Value.int .u8 (bits .or .u8 ((d.toNat : Int) * 16 % 256) v) = B8 (nib d c) := by
  have hl := valB_lt h
  have hd := d.toNat_lt
  subst hv
  have e := u8_or_nat (d.toNat * 16 % 256) (valB c) (by omega) (by omega)
  rw [show ((d.toNat * 16 % 256 : Nat) : Int) = (d.toNat : Int) * 16 % 256 by omega] at e
  rw [e]
  have e1 : d.toNat * 16 % 256 = d.toNat % 16 * 16 := by omega
  have e2 : d.toNat % 16 * 16 ||| valB c = d.toNat % 16 * 16 + valB c := by
    exact nat_join 4 (d.toNat % 16 * 16) (valB c) (by omega) hl
  rw [e1, e2]
  have e3 : (nib d c).toNat = d.toNat % 16 * 16 + valB c := by
    unfold nib
    rw [UInt8.toNat_ofNat']
    exact Nat.mod_eq_of_lt (by omega)
  rw [B8, e3]

theorem Z32_one : ZC.all (·.oneCell') = true := by decide +kernel
theorem dig_infoZ : (Try.prog.info? 41).map (·.size) = some ZC.size := by kernel_rfl

set_option maxRecDepth 100000 in
set_option maxHeartbeats 2000000 in
theorem parse_short (w : World) (l : List UInt8) (h : l.length ≠ 64) : Calls Try.prog 69 #[S l] w (Gives w (.tuple #[.agg (darr (parseM l).1), .bool (parseM l).2])) := by
  have hp : parseM l = (Z32, false) := by rw [parseM, if_neg (fun x => h x.1)]; rfl
  rw [hp]
  have ht : (((l.length : Int)) != 64) = true := by simp; omega
  obtain ⟨hb0, hb1, hbel⟩ := two_new w 41 ZC ZC
  obtain ⟨dz, hdz⟩ : ∃ d, d = ZC := ⟨_, rfl⟩
  have hone := Z32_one
  have hinf := dig_infoZ
  rw [← hdz] at hone hinf
  have hb0' : Blk ((w.alloc (.cells ZC 41)).alloc (.cells ZC 41)) w.heap.size 41 dz := by rw [hdz]; exact hb0
  have hb1' : Blk ((w.alloc (.cells ZC 41)).alloc (.cells ZC 41)) (w.heap.size + 1) 41 dz := by rw [hdz]; exact hb1
  clear hb0 hb1
  have HT := hide hb0'
  have HR := hide hb1'.range
  have HTH := hide (hb0'.there_ rfl)
  have HI := hide hinf
  have HO := hide hone
  have HZ : Hid (∀ _ : Unit, dz = darr Z32) := hide (fun _ => hdz.trans ZC_is)
  clear hb0' hb1' hone hinf hdz h hp
  go_enter Try.func69, Try.ntmps69
  go_wp2_with (first | (refine wpList_load_mid rfl 41 (.tmp 4) rfl (w.heap.size + 1) 0 rfl dz.toList _ HR.out Try.underlying41 rfl (by rw [Array.length_toList]; exact HI.out) ?_; rw [Array.toArray_toList]) | (refine wpList_store_mid rfl 41 (.tmp 2) (.tmp 11) rfl w.heap.size 0 dz rfl rfl HTH.out HI.out HO.out ?_))
  have HF := HT.out.cells_all dz.toList (by rw [Array.length_toList])
  rw [Array.toArray_toList] at HF
  refine bodyPost_ret (results_cell_slot rfl _ _ ⟨w.heap.size, 0, none⟩ (.agg dz) (.bool false) rfl (HF.loads Try.underlying41 rfl HI.out) rfl) rfl ⟨?_, bcells (Nat.le_refl _) _ _ hbel⟩
  rw [HZ.out ()]

theorem all_take {l : List UInt8} {k : Nat} (h : (l.take k).all goodB = true) (hk : k < l.length) (hc : goodB (l.getD k 0) = true) : (l.take (k + 1)).all goodB = true := by
  rw [List.take_succ_eq_append_getElem hk, List.all_append, h]
  simpa [hk] using hc
theorem not_all {l : List UInt8} {k : Nat} (hk : k < l.length) (hc : goodB (l.getD k 0) = false) : l.all goodB = false := by
  rw [List.all_eq_false]
  exact ⟨l[k], List.getElem_mem hk, by simpa [hk] using hc⟩
theorem pd_next {w : World} {g t k : Nat} {l : List UInt8} {d : UInt8} {v : Int} (h : Blk w g t (darr (pd l k))) (hd : d = (pd l k).getD (k / 2) 0) (hv : v = (valB (l.getD k 0) : Int)) (hg : goodB (l.getD k 0) = true) :
    Blk (w.setCell ⟨g, k / 2, none⟩ (.int .u8 (bits .or .u8 ((d.toNat : Int) * 16 % 256) v))) g t (darr (pd l (k + 1))) := by
  rw [nib_val d (l.getD k 0) v hv hg, pd, ← hd]
  exact h.darr_set _ _

set_option maxRecDepth 100000 in
set_option maxHeartbeats 4000000 in
theorem parse_full (w : World) (l : List UInt8) (h : l.length = 64) : Calls Try.prog 69 #[S l] w (Gives w (.tuple #[.agg (darr (parseM l).1), .bool (parseM l).2])) := by
  obtain ⟨hb0, hb1, hbel⟩ := two_new w 41 ZC ZC
  obtain ⟨dz, hdz⟩ : ∃ d, d = ZC := ⟨_, rfl⟩
  have hone := Z32_one
  have hinf := dig_infoZ
  rw [← hdz] at hone hinf
  have HT : Hid (Blk ((w.alloc (.cells ZC 41)).alloc (.cells ZC 41)) w.heap.size 41 dz) := hide (by rw [hdz]; exact hb0)
  have HD : Hid (Blk ((w.alloc (.cells ZC 41)).alloc (.cells ZC 41)) (w.heap.size + 1) 41 (darr (pd l 0))) := hide (by rw [show darr (pd l 0) = ZC from ZC_is.symm]; exact hb1)
  have HBE := hide hbel
  have HI := hide hinf
  have HO := hide hone
  have HZ : Hid (∀ _ : Unit, dz = darr Z32) := hide (fun _ => hdz.trans ZC_is)
  have HDZ : Hid (∀ _ : Unit, dz = ZC) := hide (fun _ => hdz)
  have HL := hide h
  have HB : Hid (∀ _ : Unit, l.all goodB = false → parseM l = (Z32, false)) := hide (fun _ hg => by rw [parseM, if_neg (by rw [hg]; simp)]; rfl)
  have HG : Hid (∀ _ : Unit, l.all goodB = true → parseM l = (pd l 64, true)) := hide (fun _ hg => by rw [parseM, if_pos ⟨h, hg⟩])
  have hsz : (ByteArray.mk l.toArray).size = 64 := h
  clear hb0 hb1 hbel hone hinf hdz h
  obtain ⟨PM, hPM⟩ : ∃ PM, PM = parseM l := ⟨_, rfl⟩
  rw [← hPM] at HB HG ⊢
  clear hPM
  go_enter Try.func69, Try.ntmps69
  go_wp2_with fail
  go_loopw [14] (fun i wr => ∃ k : Nat, k ≤ 64 ∧ i = .int .i64 (k : Int) ∧ (l.take k).all goodB = true ∧ Blk wr w.heap.size 41 dz ∧ Blk wr (w.heap.size + 1) 41 (darr (pd l k)) ∧ Below w.heap.size w wr) (fun i _ => 64 - (intOf i).toNat)
  case atStart => exact ⟨0, by omega, rfl, rfl, HT.out, HD.out, HBE.out⟩
  case round =>
    clear HT HD HBE
    obtain ⟨k, hk, rfl, ha, h0, h1, hb⟩ := hrel
    have HA := hide ha
    have H0 := hide h0
    have H1 := hide h1
    have HBE := hide hb
    clear ha h0 h1 hb
    by_cases hlt : k < 64
    · have hkl : k < l.length := by rw [HL.out]; exact hlt
      have hix : ∀ w, (Instr.index 9 (S l) (.int .i64 (k : Int))).run Try.prog w = .ok (B8 (l.getD k 0)) w := fun w => run_index_str Try.underlying9 .i64 l k _ (by simp [hkl]) w
      have HGD : Hid (∀ _ : Unit, goodB (l.getD k 0) = (lowB (l.getD k 0) || digB (l.getD k 0))) := hide (fun _ => rfl)
      have hpl := pd_len l k
      have hpc := H1.out.darr_at (i := k / 2) (by omega)
      have hpf := H1.out.frozen (k / 2)
      have hq : (k : Int) / 2 = ((k / 2 : Nat) : Int) := by omega
      obtain ⟨a0, ha0⟩ : ∃ a, a = k / 2 := ⟨_, rfl⟩
      rw [← ha0] at hpc hpf hq
      obtain ⟨d, hd⟩ : ∃ d, d = (pd l k).getD a0 0 := ⟨_, rfl⟩
      rw [← hd] at hpc
      have r0 : (0 : Int) ≤ (a0 : Int) := by omega
      have q0 : (a0 : Int) < 32 := by omega
      have HD := hide hd
      have HA0 := hide ha0
      clear hpl hd ha0
      obtain ⟨c, hc⟩ : ∃ c, c = l.getD k 0 := ⟨_, rfl⟩
      rw [← hc] at hix
      have HC := hide hc
      clear hc
      have hcl := c.toNat_lt
      by_cases hlow : 97 ≤ c.toNat ∧ c.toNat ≤ 102
      · obtain ⟨hl1, hl2⟩ := hlow
        have HG1 : Hid (goodB c = true) := hide (by simp [goodB, lowB, hl1, hl2])
        have HV : Hid (valB c = c.toNat - 87) := hide (by simp [valB, lowB, hl1, hl2])
        go_wp2_with fail
        go_roundw
        case rel => exact ⟨k + 1, by omega, by go_num, all_take HA.out hkl (by rw [← HC.out]; exact HG1.out), H0.out.far (by simp) _, by rw [HA0.out]; exact pd_next H1.out (by rw [HD.out, HA0.out]) (by rw [← HC.out, HV.out]; omega) (by rw [← HC.out]; exact HG1.out), HBE.out.setCell (by simp) _⟩
        case measure => simp [intOf]; omega
      · have HLO : Hid (lowB c = false) := hide (by unfold lowB; rw [Bool.and_eq_false_iff]; simp only [decide_eq_false_iff_not]; omega)
        by_cases hdg : 48 ≤ c.toNat ∧ c.toNat ≤ 57
        · obtain ⟨hl1, hl2⟩ := hdg
          clear hlow
          have t1 : decide (97 ≤ (c.toNat : Int)) = false := by simp; omega
          have HG1 : Hid (goodB c = true) := hide (by simp [goodB, digB, hl1, hl2])
          have HV : Hid (valB c = c.toNat - 48) := hide (by simp [valB, HLO.out])
          go_wp2_with fail
          go_roundw
          case rel => exact ⟨k + 1, by omega, by go_num, all_take HA.out hkl (by rw [← HC.out]; exact HG1.out), H0.out.far (by simp) _, by rw [HA0.out]; exact pd_next H1.out (by rw [HD.out, HA0.out]) (by rw [← HC.out, HV.out]; omega) (by rw [← HC.out]; exact HG1.out), HBE.out.setCell (by simp) _⟩
          case measure => simp [intOf]; omega
        · have HG0 : Hid (goodB c = false) := hide (by unfold goodB digB; rw [HLO.out, Bool.false_or, Bool.and_eq_false_iff]; simp only [decide_eq_false_iff_not]; omega)
          have HPB : Hid (∀ _ : Unit, PM = (Z32, false)) := hide (fun _ => HB.out () (not_all hkl (by rw [← HC.out]; exact HG0.out)))
          have HTH : Hid (wr.there w.heap.size 0 ZC.size) := hide (H0.out.there_ (by rw [HDZ.out ()]))
          have HIC := hide dig_infoZ
          have HOC := hide Z32_one
          have HF : Hid (∀ _ : Unit, Blk (wr.setCells w.heap.size 0 ZC.toList) w.heap.size 41 ZC) := hide (fun _ => by
            have := H0.out.cells_all ZC.toList (by rw [HDZ.out ()]; rfl)
            rwa [Array.toArray_toList] at this)
          have HBF := hide (bcells (Nat.le_refl _) ZC.toList 0 HBE.out)
          clear hpc hpf hq r0 q0 HD HA0 HLO HG0
          go_wp2_with (refine wpList_store_mid rfl 41 (.tmp 2) (.tmp 39) rfl w.heap.size 0 ZC rfl rfl HTH.out HIC.out HOC.out ?_)
          all_goals
            refine bodyPost_ret (results_cell_slot rfl _ _ ⟨w.heap.size, 0, none⟩ (.agg ZC) (.bool false) rfl ((HF.out ()).loads Try.underlying41 rfl HIC.out) rfl) rfl ⟨?_, HBF.out⟩
            rw [HPB.out ()]
            rw [ZC_is]
    · obtain rfl : k = 64 := by omega
      have hall : l.all goodB = true := by
        have := HA.out
        rwa [show l.take 64 = l from by rw [← HL.out, List.take_length]] at this
      have HPG : Hid (∀ _ : Unit, PM = (pd l 64, true)) := hide (fun _ => HG.out () hall)
      have hlen : (darr (pd l 64)).size = 32 := by simp [darr, pd_len]
      have hi32 : (Try.prog.info? 41).map (·.size) = some 32 := by kernel_rfl
      obtain ⟨dd, hdd⟩ : ∃ dd, dd = darr (pd l 64) := ⟨_, rfl⟩
      have h1 := H1.out
      rw [← hdd] at h1 hlen
      have HIC := hide hi32
      have HLN := hide hlen
      have HOC : Hid (dd.all (·.oneCell') = true) := hide (by rw [hdd]; simp [darr, Value.oneCell'])
      have HDD : Hid (∀ _ : Unit, dd = darr (pd l 64)) := hide (fun _ => hdd)
      have hz32 : dz.size = 32 := by rw [HDZ.out ()]; rfl
      have HTH : Hid (wr.there w.heap.size 0 dd.size) := hide (H0.out.there_ (by rw [hlen, hz32]))
      have HRG := hide h1.range
      have HF : Hid (∀ _ : Unit, Blk (wr.setCells w.heap.size 0 dd.toList) w.heap.size 41 dd) := hide (fun _ => by
        have := H0.out.cells_all dd.toList (by rw [Array.length_toList, hlen, hz32])
        rwa [Array.toArray_toList] at this)
      have HBF := hide (bcells (Nat.le_refl _) dd.toList 0 HBE.out)
      clear h1 hlen hi32 hdd hz32 hall HB HG
      go_wp2_with (first | (refine wpList_load_mid rfl 41 (.tmp 4) rfl (w.heap.size + 1) 0 rfl dd.toList _ HRG.out Try.underlying41 rfl (by rw [Array.length_toList, HLN.out]; exact HIC.out) ?_; rw [Array.toArray_toList]) | (refine wpList_store_mid rfl 41 (.tmp 2) (.tmp 51) rfl w.heap.size 0 dd rfl rfl HTH.out (by rw [HLN.out]; exact HIC.out) HOC.out ?_))
      refine bodyPost_ret (results_cell_slot rfl _ _ ⟨w.heap.size, 0, none⟩ (.agg dd) (.bool true) rfl ((HF.out ()).loads Try.underlying41 rfl (by rw [HLN.out]; exact HIC.out)) rfl) rfl ⟨?_, HBF.out⟩
      rw [HPG.out (), HDD.out ()]

theorem parse_any (w : World) (l : List UInt8) : Calls Try.prog 69 #[S l] w (Gives w (.tuple #[.agg (darr (parseM l).1), .bool (parseM l).2])) := by
  by_cases h : l.length = 64
  · exact parse_full w l h
  · exact parse_short w l h
end Go.Proofs.Ytclgiapmbmbknaa
/- Digests compared; the plain laws of hex; no statement of the seat is proved here. -/
namespace Go.Proofs.Ytclgiapmbmbknaa
open Go.RowKit

section
variable {P : Program}
theorem eqItems_bytes (w : World) (d : Nat) {e : TypeId} (he : P.underlying e = some (.int .u8)) (xs ys : List UInt8) : ∀ is : List Nat, (∀ i ∈ is, i < xs.length ∧ i < ys.length) →
    (Op.eqItems (d + 1) e 1 (darr xs) (darr ys) is).run P w = .ok (is.all fun i => xs.getD i 0 == ys.getD i 0) w
  | [], _ => by simp [Op.eqItems]
  | i :: is, h => by
    obtain ⟨h1, h2⟩ := h i (by simp)
    have ih := eqItems_bytes w d he xs ys is fun j hj => h j (by simp [hj])
    have p1 : (Go.part e (darr xs) (i * 1)).run P w = .ok (B8 (xs.getD i 0)) w := by
      simp [Go.part, isAgg, run_underlying he, darr, h1]
    have p2 : (Go.part e (darr ys) (i * 1)).run P w = .ok (B8 (ys.getD i 0)) w := by
      simp [Go.part, isAgg, run_underlying he, darr, h2]
    have p3 : (Op.equalIn (d + 1) e (B8 (xs.getD i 0)) (B8 (ys.getD i 0))).run P w = .ok (xs.getD i 0 == ys.getD i 0) w := by
      rw [run_equalIn_int w d e .u8 .u8 _ _ he]
      congr 1
      generalize xs.getD i 0 = a
      generalize ys.getD i 0 = b
      by_cases hab : a = b
      · subst hab; simp
      · have : a.toNat ≠ b.toNat := fun h => hab (UInt8.toNat_inj.1 h)
        rw [beq_eq_false_iff_ne.2 hab, beq_eq_false_iff_ne]
        omega
    simp only [Op.eqItems, Sem.run_bind, p1, p2, p3, Result.andThen_ok, List.all_cons]
    cases xs.getD i 0 == ys.getD i 0
    · simp
    · simp [ih]
theorem all_eq {a b : List UInt8} (ha : a.length = 32) (hb : b.length = 32) : ((List.range 32).all fun i => a.getD i 0 == b.getD i 0) = (a == b) := by
  rw [Bool.eq_iff_iff, List.all_eq_true, beq_iff_eq]
  constructor
  · intro h
    apply List.ext_getElem (by omega)
    intro i h1 h2
    have := h i (by simp; omega)
    simpa [h1, h2] using this
  · rintro rfl i _
    simp
end
theorem run_equal_darr (a b : List UInt8) (ha : a.length = 32) (hb : b.length = 32) (w : World) : (Op.equal 41 (.agg (darr a)) (.agg (darr b))).run Try.prog w = .ok (a == b) w := by
  obtain ⟨i0, hi, _, hz1, _⟩ := info_parts u8_info
  have hc : Try.prog.cellsOf 5 = 1 := by simp [Program.cellsOf, hi, hz1]
  rw [Op.equal, show Op.maxDepth = 9999 + 1 from rfl, run_equalIn_array w 9999 _ _ Try.underlying41 hi, hc, eqItems_bytes w 9998 Try.underlying5 a b _ (by intro i hi; rw [List.mem_range] at hi; omega), all_eq ha hb]
theorem run_eql_darr (a b : List UInt8) (ha : a.length = 32) (hb : b.length = 32) (w : World) : (binOp .eql 41 (.agg (darr a)) (.agg (darr b))).run Try.prog w = .ok (.bool (a == b)) w := by
  simp [binOp, run_equal_darr a b ha hb w]
theorem run_neq_darr (a b : List UInt8) (ha : a.length = 32) (hb : b.length = 32) (w : World) : (binOp .neq 41 (.agg (darr a)) (.agg (darr b))).run Try.prog w = .ok (.bool (a != b)) w := by
  simp [binOp, run_equal_darr a b ha hb w, bne]

/-! ### Hex and back -/
def byteAt (l : List UInt8) (j : Nat) : UInt8 := nib (nib 0 (l.getD (2 * j) 0)) (l.getD (2 * j + 1) 0)
theorem pd_two (l : List UInt8) (k : Nat) (hk : k < 32) : pd l (2 * (k + 1)) = (pd l (2 * k)).set k (nib (nib ((pd l (2 * k)).getD k 0) (l.getD (2 * k) 0)) (l.getD (2 * k + 1) 0)) := by
  rw [show 2 * (k + 1) = (2 * k + 1) + 1 by omega, pd, pd, show (2 * k) / 2 = k by omega, show (2 * k + 1) / 2 = k by omega]
  have := pd_len l (2 * k)
  simp [this, hk]
theorem pd_map (l : List UInt8) : ∀ k, k ≤ 32 → pd l (2 * k) = (List.range k).map (byteAt l) ++ List.replicate (32 - k) 0
  | 0, _ => by simp [pd]
  | k + 1, h => by
    rw [pd_two l k (by omega), pd_map l k (by omega), List.range_succ, List.map_append]
    have e : List.replicate (32 - k) (0 : UInt8) = 0 :: List.replicate (32 - (k + 1)) 0 := by rw [show 32 - k = (32 - (k + 1)) + 1 by omega, List.replicate_succ]
    rw [e]
    simp [byteAt]
theorem pd_64 (l : List UInt8) : pd l 64 = (List.range 32).map (byteAt l) := by
  have := pd_map l 32 (Nat.le_refl _)
  simpa using this
theorem hdig_good : ∀ c : Fin 256, nib (nib 0 (hdig (c.val / 16))) (hdig (c.val % 16)) = UInt8.ofNat c.val ∧ goodB (hdig (c.val / 16)) = true ∧ goodB (hdig (c.val % 16)) = true := by decide +kernel
theorem hdig_val : ∀ c : Fin 256, goodB (UInt8.ofNat c.val) = true → hdig (valB (UInt8.ofNat c.val)) = UInt8.ofNat c.val := by decide +kernel
theorem hdig_val' (c : UInt8) (h : goodB c = true) : hdig (valB c) = c := by
  have := hdig_val ⟨c.toNat, c.toNat_lt⟩
  simpa using this (by simpa using h)
theorem nib_back (a b : UInt8) (ha : goodB a = true) (hb : goodB b = true) : hex2 (nib (nib 0 a) b) = [a, b] := by
  have h1 := valB_lt ha
  have h2 := valB_lt hb
  have e1 : (nib 0 a).toNat = valB a := by
    unfold nib
    rw [UInt8.toNat_ofNat']
    simp
    omega
  have e2 : (nib (nib 0 a) b).toNat = valB a * 16 + valB b := by
    rw [nib, UInt8.toNat_ofNat', e1, Nat.mod_eq_of_lt h1]
    exact Nat.mod_eq_of_lt (by omega)
  rw [hex2, e2, show (valB a * 16 + valB b) / 16 = valB a by omega, show (valB a * 16 + valB b) % 16 = valB b by omega, hdig_val' a ha, hdig_val' b hb]
theorem hexM_cons (c : UInt8) (d : List UInt8) : hexM (c :: d) = hdig (c.toNat / 16) :: hdig (c.toNat % 16) :: hexM d := by simp [hexM, hex2]
theorem hexM_at : ∀ (d : List UInt8) (j : Nat), j < d.length → (hexM d).getD (2 * j) 0 = hdig ((d.getD j 0).toNat / 16) ∧ (hexM d).getD (2 * j + 1) 0 = hdig ((d.getD j 0).toNat % 16)
  | [], _, h => by simp at h
  | c :: d, 0, _ => by rw [hexM_cons]; simp
  | c :: d, j + 1, h => by
    have := hexM_at d j (by simpa using h)
    rw [hexM_cons]
    rw [show 2 * (j + 1) = (2 * j + 1) + 1 by omega, show 2 * j + 1 + 1 + 1 = (2 * j + 1) + 1 + 1 by omega]
    simpa using this
theorem hexM_good : ∀ d : List UInt8, (hexM d).all goodB = true
  | [] => rfl
  | c :: d => by
    have := hdig_good ⟨c.toNat, c.toNat_lt⟩
    rw [hexM_cons, List.all_cons, List.all_cons, this.2.1, this.2.2, hexM_good d]
    rfl
/-- A digest's digits, read: the digest. -/
theorem parse_hex (d : List UInt8) (hd : d.length = 32) : parseM (hexM d) = (d, true) := by
  rw [parseM, if_pos ⟨by rw [hexM_len, hd], hexM_good d⟩, pd_64]
  congr 1
  apply List.ext_getElem (by simp [hd])
  intro j h1 h2
  simp only [List.getElem_map, List.getElem_range, byteAt]
  obtain ⟨e1, e2⟩ := hexM_at d j h2
  rw [e1, e2]
  have := (hdig_good ⟨(d.getD j 0).toNat, UInt8.toNat_lt _⟩).1
  rw [this]
  simp [h2]
theorem hexM_map : ∀ (f : Nat → UInt8) (n : Nat), hexM ((List.range n).map f) = (List.range n).flatMap fun j => hex2 (f j)
  | f, n => by simp [hexM, List.flatMap_map]
theorem flatMap_same {α β : Type} {f g : α → List β} : ∀ {l : List α}, (∀ x ∈ l, f x = g x) → l.flatMap f = l.flatMap g
  | [], _ => rfl
  | a :: l, h => by rw [List.flatMap_cons, List.flatMap_cons, h a (by simp), flatMap_same fun x hx => h x (by simp [hx])]
theorem pairs : ∀ (n : Nat) (l : List UInt8), l.length = 2 * n → ((List.range n).flatMap fun j => [l.getD (2 * j) 0, l.getD (2 * j + 1) 0]) = l
  | 0, l, h => by simp at h; simp [h]
  | n + 1, a :: b :: l, h => by
    have := pairs n l (by simp at h; omega)
    rw [List.range_succ_eq_map, List.flatMap_cons, List.flatMap_map]
    have e : ∀ j ∈ List.range n, [(a :: b :: l).getD (2 * (j + 1)) 0, (a :: b :: l).getD (2 * (j + 1) + 1) 0] = [l.getD (2 * j) 0, l.getD (2 * j + 1) 0] := fun j _ => by
      rw [show 2 * (j + 1) = 2 * j + 1 + 1 by omega]
      simp
    rw [flatMap_same e, this]
    rfl
  | n + 1, [a], h => by simp at h; omega
  | n + 1, [], h => by simp at h
theorem parse_yes {l : List UInt8} (h : l.length = 64) (hg : l.all goodB = true) : parseM l = ((List.range 32).map (byteAt l), true) := by
  rw [parseM, if_pos ⟨h, hg⟩, pd_64]
theorem parse_no {l : List UInt8} (h : ¬ (l.length = 64 ∧ l.all goodB = true)) : parseM l = (Z32, false) := by
  rw [parseM, if_neg h]
  rfl
/-- What was read, as digits: the text. -/
theorem hex_parse (l : List UInt8) (h : (parseM l).2 = true) : hexM (parseM l).1 = l := by
  by_cases hc : l.length = 64 ∧ l.all goodB = true
  · rw [parse_yes hc.1 hc.2]
    simp only [hexM_map]
    have e : ∀ j ∈ List.range 32, hex2 (byteAt l j) = [l.getD (2 * j) 0, l.getD (2 * j + 1) 0] := fun j hj => by
      rw [List.mem_range] at hj
      have hg := List.all_eq_true.1 hc.2
      refine nib_back _ _ ?_ ?_
      · have hl : 2 * j < l.length := by omega
        simpa [hl] using hg l[2 * j] (List.getElem_mem hl)
      · have hl : 2 * j + 1 < l.length := by omega
        simpa [hl] using hg l[2 * j + 1] (List.getElem_mem hl)
    rw [flatMap_same e]
    exact pairs 32 l hc.1
  · rw [parse_no hc] at h
    cases h
theorem parse_is (l : List UInt8) : (parseM l).2 = (decide (l.length = 64) && l.all goodB) := by
  by_cases hc : l.length = 64 ∧ l.all goodB = true
  · rw [parse_yes hc.1 hc.2, hc.2]
    simp [hc.1]
  · rw [parse_no hc]
    cases h1 : decide (l.length = 64)
    · rfl
    · cases h2 : l.all goodB
      · rfl
      · exact absurd ⟨by simpa using h1, h2⟩ hc
theorem parse_none (l : List UInt8) (h : (parseM l).2 = false) : (parseM l).1 = Z32 := by
  by_cases hc : l.length = 64 ∧ l.all goodB = true
  · rw [parse_yes hc.1 hc.2] at h
    cases h
  · rw [parse_no hc]
theorem parse_len (l : List UInt8) : (parseM l).1.length = 32 := by
  by_cases hc : l.length = 64 ∧ l.all goodB = true
  · rw [parse_yes hc.1 hc.2]
    simp
  · rw [parse_no hc]
    rfl
end Go.Proofs.Ytclgiapmbmbknaa
