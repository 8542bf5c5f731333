/- sha.Parse, walked; no statement of the seat is proved here. -/
import Derived.Test.YtdnpcpeibjckmaaShaHead
namespace Go.Proofs.Ytdnpcpeibjckmaa
open Go.RowKit

def lowB (c : UInt8) : Bool := decide (97 ≤ c.toNat) && decide (c.toNat ≤ 102)
def digB (c : UInt8) : Bool := decide (48 ≤ c.toNat) && decide (c.toNat ≤ 57)
def goodB (c : UInt8) : Bool := lowB c || digB c
def valB (c : UInt8) : Nat := if lowB c then c.toNat - 87 else c.toNat - 48
def nib (d c : UInt8) : UInt8 := UInt8.ofNat (d.toNat % 16 * 16 + valB c)
def pd (l : List UInt8) : Nat → List UInt8
  | 0 => List.replicate 32 0
  | i + 1 => (pd l i).set (i / 2) (nib ((pd l i).getD (i / 2) 0) (l.getD i 0))
theorem pd_len (l : List UInt8) : ∀ i, (pd l i).length = 32
  | 0 => by simp [pd]
  | i + 1 => by simp [pd, pd_len l i]
def parseM (l : List UInt8) : List UInt8 × Bool := if l.length = 64 ∧ l.all goodB = true then (pd l 64, true) else (List.replicate 32 0, false)
theorem valB_lt {c : UInt8} (h : goodB c = true) : valB c < 16 := by
  simp [goodB, lowB, digB] at h
  unfold valB lowB
  split <;> simp_all <;> omega
theorem nib_val (d c : UInt8) (v : Int) (hv : v = (valB c : Int)) (h : goodB c = true) : Value.int .u8 (bits .or .u8 ((d.toNat : Int) * 16 % 256) v) = B8 (nib d c) := by
  have hl := valB_lt h
  have hd := d.toNat_lt
  subst hv
  have e := u8_or_nat (d.toNat * 16 % 256) (valB c) (by omega) (by omega)
  rw [show ((d.toNat * 16 % 256 : Nat) : Int) = (d.toNat : Int) * 16 % 256 by omega] at e
  rw [e]
  have e1 : d.toNat * 16 % 256 = d.toNat % 16 * 16 := by omega
  have e2 : d.toNat % 16 * 16 ||| valB c = d.toNat % 16 * 16 + valB c := by
    exact nat_join 4 (d.toNat % 16 * 16) (valB c) (by omega) hl
  rw [e1, e2]
  have e3 : (nib d c).toNat = d.toNat % 16 * 16 + valB c := by
    unfold nib
    rw [UInt8.toNat_ofNat']
    exact Nat.mod_eq_of_lt (by omega)
  rw [B8, e3]

theorem results_cell_slot {P : Program} {fn : Func} {p q : Tmp} {tp : TypeId} (h : fn.results = #[.cell p tp, .tmp q]) (tmps : Array Value) (w : World) (a : Addr) (v u : Value)
    (hp : tmps.getD p undef = .pointer (some a)) (hl : (loadVar tp a).run P w = .ok v w) (hq : tmps.getD q undef = u) : (results fn tmps).run P w = .ok (.tuple #[v, u]) w := by
  have hp' : tmps[p]?.getD undef = .pointer (some a) := by simpa using hp
  have hq' : tmps[q]?.getD undef = u := by simpa using hq
  simp [results, h, hp', hq', asAddr, hl]

/-- Two new digests of noughts. -/
theorem two_new (w : World) (t : TypeId) (cs ds : Array Value) : Blk ((w.alloc (.cells cs t)).alloc (.cells ds t)) w.heap.size t cs ∧ Blk ((w.alloc (.cells cs t)).alloc (.cells ds t)) (w.heap.size + 1) t ds ∧ Below w.heap.size w ((w.alloc (.cells cs t)).alloc (.cells ds t)) := by
  refine ⟨(Blk.new _ _ _).alloc _, ?_, ((Below.refl _ _).alloc (Nat.le_refl _) _).alloc (by simp) _⟩
  have := Blk.new (w.alloc (.cells cs t)) t ds
  rwa [show (w.alloc (.cells cs t)).heap.size = w.heap.size + 1 by simp] at this

def Z32 : List UInt8 := List.replicate 32 0
def ZC : Array Value := #[.int .u8 0, .int .u8 0, .int .u8 0, .int .u8 0, .int .u8 0, .int .u8 0, .int .u8 0, .int .u8 0, .int .u8 0, .int .u8 0, .int .u8 0, .int .u8 0, .int .u8 0, .int .u8 0, .int .u8 0, .int .u8 0, .int .u8 0, .int .u8 0, .int .u8 0, .int .u8 0, .int .u8 0, .int .u8 0, .int .u8 0, .int .u8 0, .int .u8 0, .int .u8 0, .int .u8 0, .int .u8 0, .int .u8 0, .int .u8 0, .int .u8 0, .int .u8 0]
theorem ZC_is : ZC = darr Z32 := by rfl
theorem Z32_one : ZC.all (·.oneCell') = true := by decide +kernel
theorem dig_info : (Try.prog.info? 24).map (·.size) = some ZC.size := by kernel_rfl

set_option maxRecDepth 100000 in
set_option maxHeartbeats 2000000 in
theorem parse_short (w : World) (l : List UInt8) (h : l.length ≠ 64) : Calls Try.prog 12 #[S l] w (Gives w (.tuple #[.agg (darr (parseM l).1), .bool (parseM l).2])) := by
  have hp : parseM l = (Z32, false) := by rw [parseM, if_neg (fun x => h x.1)]; rfl
  rw [hp]
  have ht : (((l.length : Int)) != 64) = true := by simp; omega
  obtain ⟨hb0, hb1, hbel⟩ := two_new w 24 ZC ZC
  obtain ⟨dz, hdz⟩ : ∃ d, d = ZC := ⟨_, rfl⟩
  have hone := Z32_one
  have hinf := dig_info
  rw [← hdz] at hone hinf
  have hb0' : Blk ((w.alloc (.cells ZC 24)).alloc (.cells ZC 24)) w.heap.size 24 dz := by rw [hdz]; exact hb0
  have hb1' : Blk ((w.alloc (.cells ZC 24)).alloc (.cells ZC 24)) (w.heap.size + 1) 24 dz := by rw [hdz]; exact hb1
  clear hb0 hb1
  have HT := hide hb0'
  have HR := hide hb1'.range
  have HTH := hide (hb0'.there_ rfl)
  have HI := hide hinf
  have HO := hide hone
  have HZ : Hid (∀ _ : Unit, dz = darr Z32) := hide (fun _ => hdz.trans ZC_is)
  clear hb0' hb1' hone hinf hdz h hp
  go_enter Try.func12, Try.ntmps12
  go_wp2_with (first | (refine wpList_load_mid rfl 24 (.tmp 4) rfl (w.heap.size + 1) 0 rfl dz.toList _ HR.out Try.underlying24 rfl (by rw [Array.length_toList]; exact HI.out) ?_; rw [Array.toArray_toList]) | (refine wpList_store_mid rfl 24 (.tmp 2) (.tmp 11) rfl w.heap.size 0 dz rfl rfl HTH.out HI.out HO.out ?_))
  have HF := HT.out.cells_all dz.toList (by rw [Array.length_toList])
  rw [Array.toArray_toList] at HF
  refine bodyPost_ret (results_cell_slot rfl _ _ ⟨w.heap.size, 0, none⟩ (.agg dz) (.bool false) rfl (HF.loads Try.underlying24 rfl HI.out) rfl) rfl ⟨?_, bcells (Nat.le_refl _) _ _ hbel⟩
  rw [HZ.out ()]

theorem all_take {l : List UInt8} {k : Nat} (h : (l.take k).all goodB = true) (hk : k < l.length) (hc : goodB (l.getD k 0) = true) : (l.take (k + 1)).all goodB = true := by
  rw [List.take_succ_eq_append_getElem hk, List.all_append, h]
  simpa [hk] using hc
theorem not_all {l : List UInt8} {k : Nat} (hk : k < l.length) (hc : goodB (l.getD k 0) = false) : l.all goodB = false := by
  rw [List.all_eq_false]
  exact ⟨l[k], List.getElem_mem hk, by simpa [hk] using hc⟩
theorem pd_next {w : World} {g t k : Nat} {l : List UInt8} {d : UInt8} {v : Int} (h : Blk w g t (darr (pd l k))) (hd : d = (pd l k).getD (k / 2) 0) (hv : v = (valB (l.getD k 0) : Int)) (hg : goodB (l.getD k 0) = true) :
    Blk (w.setCell ⟨g, k / 2, none⟩ (.int .u8 (bits .or .u8 ((d.toNat : Int) * 16 % 256) v))) g t (darr (pd l (k + 1))) := by
  rw [nib_val d (l.getD k 0) v hv hg, pd, ← hd]
  exact h.darr_set _ _

set_option maxRecDepth 100000 in
set_option maxHeartbeats 4000000 in
theorem parse_full (w : World) (l : List UInt8) (h : l.length = 64) : Calls Try.prog 12 #[S l] w (Gives w (.tuple #[.agg (darr (parseM l).1), .bool (parseM l).2])) := by
  obtain ⟨hb0, hb1, hbel⟩ := two_new w 24 ZC ZC
  obtain ⟨dz, hdz⟩ : ∃ d, d = ZC := ⟨_, rfl⟩
  have hone := Z32_one
  have hinf := dig_info
  rw [← hdz] at hone hinf
  have HT : Hid (Blk ((w.alloc (.cells ZC 24)).alloc (.cells ZC 24)) w.heap.size 24 dz) := hide (by rw [hdz]; exact hb0)
  have HD : Hid (Blk ((w.alloc (.cells ZC 24)).alloc (.cells ZC 24)) (w.heap.size + 1) 24 (darr (pd l 0))) := hide (by rw [show darr (pd l 0) = ZC from ZC_is.symm]; exact hb1)
  have HBE := hide hbel
  have HI := hide hinf
  have HO := hide hone
  have HZ : Hid (∀ _ : Unit, dz = darr Z32) := hide (fun _ => hdz.trans ZC_is)
  have HDZ : Hid (∀ _ : Unit, dz = ZC) := hide (fun _ => hdz)
  have HL := hide h
  have HB : Hid (∀ _ : Unit, l.all goodB = false → parseM l = (Z32, false)) := hide (fun _ hg => by rw [parseM, if_neg (by rw [hg]; simp)]; rfl)
  have HG : Hid (∀ _ : Unit, l.all goodB = true → parseM l = (pd l 64, true)) := hide (fun _ hg => by rw [parseM, if_pos ⟨h, hg⟩])
  have hsz : (ByteArray.mk l.toArray).size = 64 := h
  clear hb0 hb1 hbel hone hinf hdz h
  obtain ⟨PM, hPM⟩ : ∃ PM, PM = parseM l := ⟨_, rfl⟩
  rw [← hPM] at HB HG ⊢
  clear hPM
  go_enter Try.func12, Try.ntmps12
  go_wp2_with fail
  go_loopw [14] (fun i wr => ∃ k : Nat, k ≤ 64 ∧ i = .int .i64 (k : Int) ∧ (l.take k).all goodB = true ∧ Blk wr w.heap.size 24 dz ∧ Blk wr (w.heap.size + 1) 24 (darr (pd l k)) ∧ Below w.heap.size w wr) (fun i _ => 64 - (intOf i).toNat)
  case atStart => exact ⟨0, by omega, rfl, rfl, HT.out, HD.out, HBE.out⟩
  case round =>
    clear HT HD HBE
    obtain ⟨k, hk, rfl, ha, h0, h1, hb⟩ := hrel
    have HA := hide ha
    have H0 := hide h0
    have H1 := hide h1
    have HBE := hide hb
    clear ha h0 h1 hb
    by_cases hlt : k < 64
    · have hkl : k < l.length := by rw [HL.out]; exact hlt
      have hix : ∀ w, (Instr.index 9 (S l) (.int .i64 (k : Int))).run Try.prog w = .ok (B8 (l.getD k 0)) w := fun w => run_index_str Try.underlying9 .i64 l k _ (by simp [hkl]) w
      have HGD : Hid (∀ _ : Unit, goodB (l.getD k 0) = (lowB (l.getD k 0) || digB (l.getD k 0))) := hide (fun _ => rfl)
      have hpl := pd_len l k
      have hpc := H1.out.darr_at (i := k / 2) (by omega)
      have hpf := H1.out.frozen (k / 2)
      have hq : (k : Int) / 2 = ((k / 2 : Nat) : Int) := by omega
      obtain ⟨a0, ha0⟩ : ∃ a, a = k / 2 := ⟨_, rfl⟩
      rw [← ha0] at hpc hpf hq
      obtain ⟨d, hd⟩ : ∃ d, d = (pd l k).getD a0 0 := ⟨_, rfl⟩
      rw [← hd] at hpc
      have r0 : (0 : Int) ≤ (a0 : Int) := by omega
      have q0 : (a0 : Int) < 32 := by omega
      have HD := hide hd
      have HA0 := hide ha0
      clear hpl hd ha0
      obtain ⟨c, hc⟩ : ∃ c, c = l.getD k 0 := ⟨_, rfl⟩
      rw [← hc] at hix
      have HC := hide hc
      clear hc
      have hcl := c.toNat_lt
      by_cases hlow : 97 ≤ c.toNat ∧ c.toNat ≤ 102
      · obtain ⟨hl1, hl2⟩ := hlow
        have HG1 : Hid (goodB c = true) := hide (by simp [goodB, lowB, hl1, hl2])
        have HV : Hid (valB c = c.toNat - 87) := hide (by simp [valB, lowB, hl1, hl2])
        go_wp2_with fail
        go_roundw
        case rel => exact ⟨k + 1, by omega, by go_num, all_take HA.out hkl (by rw [← HC.out]; exact HG1.out), H0.out.far (by simp) _, by rw [HA0.out]; exact pd_next H1.out (by rw [HD.out, HA0.out]) (by rw [← HC.out, HV.out]; omega) (by rw [← HC.out]; exact HG1.out), HBE.out.setCell (by simp) _⟩
        case measure => simp [intOf]; omega
      · have HLO : Hid (lowB c = false) := hide (by unfold lowB; rw [Bool.and_eq_false_iff]; simp only [decide_eq_false_iff_not]; omega)
        by_cases hdg : 48 ≤ c.toNat ∧ c.toNat ≤ 57
        · obtain ⟨hl1, hl2⟩ := hdg
          clear hlow
          have t1 : decide (97 ≤ (c.toNat : Int)) = false := by simp; omega
          have HG1 : Hid (goodB c = true) := hide (by simp [goodB, digB, hl1, hl2])
          have HV : Hid (valB c = c.toNat - 48) := hide (by simp [valB, HLO.out])
          go_wp2_with fail
          go_roundw
          case rel => exact ⟨k + 1, by omega, by go_num, all_take HA.out hkl (by rw [← HC.out]; exact HG1.out), H0.out.far (by simp) _, by rw [HA0.out]; exact pd_next H1.out (by rw [HD.out, HA0.out]) (by rw [← HC.out, HV.out]; omega) (by rw [← HC.out]; exact HG1.out), HBE.out.setCell (by simp) _⟩
          case measure => simp [intOf]; omega
        · have HG0 : Hid (goodB c = false) := hide (by unfold goodB digB; rw [HLO.out, Bool.false_or, Bool.and_eq_false_iff]; simp only [decide_eq_false_iff_not]; omega)
          have HPB : Hid (∀ _ : Unit, PM = (Z32, false)) := hide (fun _ => HB.out () (not_all hkl (by rw [← HC.out]; exact HG0.out)))
          have HTH : Hid (wr.there w.heap.size 0 ZC.size) := hide (H0.out.there_ (by rw [HDZ.out ()]))
          have HIC := hide dig_info
          have HOC := hide Z32_one
          have HF : Hid (∀ _ : Unit, Blk (wr.setCells w.heap.size 0 ZC.toList) w.heap.size 24 ZC) := hide (fun _ => by
            have := H0.out.cells_all ZC.toList (by rw [HDZ.out ()]; rfl)
            rwa [Array.toArray_toList] at this)
          have HBF := hide (bcells (Nat.le_refl _) ZC.toList 0 HBE.out)
          clear hpc hpf hq r0 q0 HD HA0 HLO HG0
          go_wp2_with (refine wpList_store_mid rfl 24 (.tmp 2) (.tmp 39) rfl w.heap.size 0 ZC rfl rfl HTH.out HIC.out HOC.out ?_)
          all_goals
            refine bodyPost_ret (results_cell_slot rfl _ _ ⟨w.heap.size, 0, none⟩ (.agg ZC) (.bool false) rfl ((HF.out ()).loads Try.underlying24 rfl HIC.out) rfl) rfl ⟨?_, HBF.out⟩
            rw [HPB.out ()]
            rw [ZC_is]
    · obtain rfl : k = 64 := by omega
      have hall : l.all goodB = true := by
        have := HA.out
        rwa [show l.take 64 = l from by rw [← HL.out, List.take_length]] at this
      have HPG : Hid (∀ _ : Unit, PM = (pd l 64, true)) := hide (fun _ => HG.out () hall)
      have hlen : (darr (pd l 64)).size = 32 := by simp [darr, pd_len]
      have hi32 : (Try.prog.info? 24).map (·.size) = some 32 := by kernel_rfl
      obtain ⟨dd, hdd⟩ : ∃ dd, dd = darr (pd l 64) := ⟨_, rfl⟩
      have h1 := H1.out
      rw [← hdd] at h1 hlen
      have HIC := hide hi32
      have HLN := hide hlen
      have HOC : Hid (dd.all (·.oneCell') = true) := hide (by rw [hdd]; simp [darr, Value.oneCell'])
      have HDD : Hid (∀ _ : Unit, dd = darr (pd l 64)) := hide (fun _ => hdd)
      have hz32 : dz.size = 32 := by rw [HDZ.out ()]; rfl
      have HTH : Hid (wr.there w.heap.size 0 dd.size) := hide (H0.out.there_ (by rw [hlen, hz32]))
      have HRG := hide h1.range
      have HF : Hid (∀ _ : Unit, Blk (wr.setCells w.heap.size 0 dd.toList) w.heap.size 24 dd) := hide (fun _ => by
        have := H0.out.cells_all dd.toList (by rw [Array.length_toList, hlen, hz32])
        rwa [Array.toArray_toList] at this)
      have HBF := hide (bcells (Nat.le_refl _) dd.toList 0 HBE.out)
      clear h1 hlen hi32 hdd hz32 hall HB HG
      go_wp2_with (first | (refine wpList_load_mid rfl 24 (.tmp 4) rfl (w.heap.size + 1) 0 rfl dd.toList _ HRG.out Try.underlying24 rfl (by rw [Array.length_toList, HLN.out]; exact HIC.out) ?_; rw [Array.toArray_toList]) | (refine wpList_store_mid rfl 24 (.tmp 2) (.tmp 51) rfl w.heap.size 0 dd rfl rfl HTH.out (by rw [HLN.out]; exact HIC.out) HOC.out ?_))
      refine bodyPost_ret (results_cell_slot rfl _ _ ⟨w.heap.size, 0, none⟩ (.agg dd) (.bool true) rfl ((HF.out ()).loads Try.underlying24 rfl (by rw [HLN.out]; exact HIC.out)) rfl) rfl ⟨?_, HBF.out⟩
      rw [HPG.out (), HDD.out ()]

theorem parse_any (w : World) (l : List UInt8) : Calls Try.prog 12 #[S l] w (Gives w (.tuple #[.agg (darr (parseM l).1), .bool (parseM l).2])) := by
  by_cases h : l.length = 64
  · exact parse_full w l h
  · exact parse_short w l h
end Go.Proofs.Ytdnpcpeibjckmaa
