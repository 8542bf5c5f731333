/- A face's digest, walked; no statement of the seat is proved here. -/
import Derived.Test.YthehimjdjgmnjaaShaSumG
import Derived.Test.YthehimjdjgmnjaaFaceLayD
namespace Go.Proofs.Ythehimjdjgmnjaa
open Go.RowKit

/-- Thirty-two noughts. -/
def ZC : Array Value := #[.int .u8 0, .int .u8 0, .int .u8 0, .int .u8 0, .int .u8 0, .int .u8 0, .int .u8 0, .int .u8 0, .int .u8 0, .int .u8 0, .int .u8 0, .int .u8 0, .int .u8 0, .int .u8 0, .int .u8 0, .int .u8 0, .int .u8 0, .int .u8 0, .int .u8 0, .int .u8 0, .int .u8 0, .int .u8 0, .int .u8 0, .int .u8 0, .int .u8 0, .int .u8 0, .int .u8 0, .int .u8 0, .int .u8 0, .int .u8 0, .int .u8 0, .int .u8 0]
/-- A face's digest. -/
def faceT : List UInt8 := [102, 97, 99, 101, 32]
def digF (f : FcP) : List UInt8 := sumM (faceT ++ fcL f)

set_option maxRecDepth 100000 in
set_option maxHeartbeats 4000000 in
theorem dig_any (f : Fc) (w : World) (h : f.at_ w (fun k => w.heap.size ≤ k)) (hb : (fcL f.pl).length ≤ 1099511627000) : Calls Try.prog 13 #[f.val] w fun e w' => e = .returned (.agg (darr (digF f.pl))) ∧ Below w.heap.size w w' := by
  obtain ⟨wA, hwA⟩ : ∃ wA, wA = ((w.alloc (.cells #[S f.n, S f.su, .slice f.fA f.fl f.fc, .slice f.mA f.ml f.mc] 47)).alloc (.cells ZC 35)).alloc (.cells #[.slice none 0 0] 87) := ⟨_, rfl⟩
  have hBA : Below w.heap.size w wA := by rw [hwA]; exact (((Below.refl _ _).alloc (Nat.le_refl _) _).alloc (by simp) _).alloc (by simp; omega) _
  have hF : Blk wA w.heap.size 47 #[S f.n, S f.su, .slice f.fA f.fl f.fc, .slice f.mA f.ml f.mc] := by rw [hwA]; exact ((Blk.new _ _ _).alloc _).alloc _
  have hD : Blk wA (w.heap.size + 1) 35 ZC := by
    rw [hwA]
    have := Blk.new (w.alloc (.cells #[S f.n, S f.su, .slice f.fA f.fl f.fc, .slice f.mA f.ml f.mc] 47)) 35 ZC
    rw [World.size_alloc] at this
    exact this.alloc _
  have hW : Wr wA (w.heap.size + 1 + 1) (.slice none 0 0) [] := by
    rw [hwA]
    have := wr_new ((w.alloc (.cells #[S f.n, S f.su, .slice f.fA f.fl f.fc, .slice f.mA f.ml f.mc] 47)).alloc (.cells ZC 35))
    simpa using this
  have HL := hide (flay_any f (w.heap.size + 1 + 1) (.slice none 0 0) [] wA hW ((h.below hBA).weak (fun k hk => by rcases hk with hk | hk <;> first | omega | (simp [Value.ownBlock] at hk))) (by simp; omega))
  rw [List.nil_append] at HL
  have HBA := hide hBA
  have HF := hide hF
  have HD := hide hD
  have HFL := hide hb
  have HZC : Hid (∀ _ : Unit, ZC.size = 32) := hide (fun _ => rfl)
  clear hW hBA hF hD hb h
  obtain ⟨zc, hzc⟩ : ∃ zc, zc = ZC := ⟨_, rfl⟩
  rw [← hzc] at hwA HD HZC
  obtain ⟨dg, hdg⟩ : ∃ dg, dg = digF f.pl := ⟨_, rfl⟩
  rw [← hdg]
  obtain ⟨bs, hbs⟩ : ∃ bs, bs = fcL f.pl := ⟨_, rfl⟩
  have hdg2 : dg = sumM (faceT ++ bs) := by rw [hdg, digF, hbs]
  rw [← hbs] at HL HFL
  have HDG := hide (fun _ : Unit => hdg2)
  clear hdg hdg2 hbs
  obtain ⟨n, su, fA, fl, fc, fs, mA, ml, mc, ms⟩ := f
  simp only [Fc.val] at HL ⊢
  simp only at HF hwA
  go_enter Try.func13, Try.ntmps13
  go_upto_region 2 with fail
  simp only [show (#[Value.int IntKind.u8 0, .int .u8 0, .int .u8 0, .int .u8 0, .int .u8 0, .int .u8 0, .int .u8 0, .int .u8 0, .int .u8 0, .int .u8 0, .int .u8 0, .int .u8 0, .int .u8 0, .int .u8 0, .int .u8 0, .int .u8 0, .int .u8 0, .int .u8 0, .int .u8 0, .int .u8 0, .int .u8 0, .int .u8 0, .int .u8 0, .int .u8 0, .int .u8 0, .int .u8 0, .int .u8 0, .int .u8 0, .int .u8 0, .int .u8 0, .int .u8 0, .int .u8 0] : Array Value) = zc from hzc.symm]
  rw [← hwA]
  have HZS : Hid (zc.size = 32) := hide (HZC.out ())
  clear hwA hzc HZC
  have k0 := HF.out.cell 0
  have k1 := HF.out.cell 1
  have k2 := HF.out.cell 2
  have k3 := HF.out.cell 3
  simp at k0 k1 k2 k3
  go_upto_region 3 with (go_at_call 25; refine HL.out.mono ?_; rintro e w2 ⟨rfl, ⟨v', hwr⟩, hst⟩)
  clear k0 k1 k2 k3 HL
  have HD2 : Hid (Blk w2 (w.heap.size + 1) 35 zc) := hide (hst _ _ _ (by decide) HD.out)
  have HB2 : Hid (Below w.heap.size w w2) := hide (((Keep.of_below (F := fun i => w.heap.size ≤ i) HBA.out (fun i _ h => h)).trans (hwr.2.1.mono (fun i _ h => by rcases h with h | h <;> first | omega | (simp [Value.ownBlock] at h)))).below (Nat.le_refl _) (fun i h => h))
  have HST := hide (string_any (w.heap.size + 1 + 1) v' bs w2 hwr.1)
  have HSUM := hide (sum_any (w2.alloc (.cells #[S faceT, S bs] 9)) (some ⟨w2.heap.size, 0, none⟩) 2 2 [faceT, bs] (Rd.blk (l := [faceT, bs].map S) (Blk.new _ _ _) (by simp)) rfl (by have := HFL.out; simp [faceT]; omega) (by decide))
  clear hwr hst HD HF
  have hinfo : (Try.prog.info? 35).map (·.size) = some 32 := by kernel_rfl
  have hlen : (darr dg).size = 32 := by rw [HDG.out ()]; simp [darr, sumM_len]
  have hone : (darr dg).all (·.oneCell') = true := by simp [darr, Value.oneCell']
  obtain ⟨dz, hdz⟩ : ∃ dz, dz = darr dg := ⟨_, rfl⟩
  have hsm : darr (sumM ([faceT, bs].flatten)) = dz := by rw [hdz, HDG.out ()]; simp
  rw [hsm] at HSUM
  rw [← hdz] at hlen hone
  have HDZ := hide (fun _ : Unit => hdz)
  have HL2 := hide hlen
  have HO2 := hide hone
  have HI2 := hide hinfo
  clear hinfo hlen hone hdz hsm HDG HFL HBA
  simp only [faceT] at HSUM
  go_wp2_with (first
    | (go_at_call 26; refine HST.out.mono ?_; rintro e w3 ⟨rfl, hw3⟩; subst w3)
    | (go_at_call 8; refine HSUM.out.mono ?_; rintro e w5 ⟨rfl, hb5⟩; have HD5 := hide ((HD2.out.alloc (.cells #[S faceT, S bs] 9)).below hb5 (HD2.out.alloc _).lt); have HB5 := hide ((HB2.out.alloc HB2.out.size (.cells #[S faceT, S bs] 9)).trans (hb5.mono (HB2.out.alloc HB2.out.size _).size)); clear hb5)
    | (refine wpList_store_mid rfl 35 (.tmp 2) (.tmp 8) rfl (w.heap.size + 1) 0 dz rfl rfl (HD5.out.there_ (by rw [HL2.out, HZS.out])) (by rw [HL2.out]; exact HI2.out) HO2.out ?_))
  have HFF := HD5.out.cells_all dz.toList (by rw [Array.length_toList, HL2.out, HZS.out])
  rw [Array.toArray_toList] at HFF
  refine bodyPost_ret (results_cell1 rfl _ _ ⟨w.heap.size + 1, 0, none⟩ (.agg dz) rfl (HFF.loads Try.underlying35 rfl (by rw [HL2.out]; exact HI2.out))) rfl ⟨by rw [HDZ.out ()], bcells (by omega) _ _ HB5.out⟩
end Go.Proofs.Ythehimjdjgmnjaa
