/- ShaOrders, walked; no statement of the seat is proved here. -/
import Derived.Test.YtdnpcpeibjckmaaShaOrdL
import Derived.Deep.RegionHeld3
namespace Go.Proofs.Ytdnpcpeibjckmaa
open Go.RowKit

/-- What stays while the region runs: both digests lie in their boxes. -/
theorem os_keep {w w1 w2 : World} {da db : List Value} {g h : Nat} (hs : w1.rangeAt g 0 da ∧ w1.rangeAt h 0 db ∧ (g < w1.heap.size ∧ h < w1.heap.size) ∧ Below w.heap.size w w1) (hb : Below w1.heap.size w1 w2) :
    w2.rangeAt g 0 da ∧ w2.rangeAt h 0 db ∧ (g < w2.heap.size ∧ h < w2.heap.size) ∧ Below w.heap.size w w2 := by
  obtain ⟨h1, h2, ⟨h3, h4⟩, h5⟩ := hs
  have := hb.size
  exact ⟨fun j v hv => (hb.cell (p := ⟨g, 0 + j, none⟩) h3).trans (h1 j v hv), fun j v hv => (hb.cell (p := ⟨h, 0 + j, none⟩) h4).trans (h2 j v hv), ⟨by omega, by omega⟩, h5.trans (hb.mono h5.size)⟩

set_option maxRecDepth 100000 in
set_option maxHeartbeats 4000000 in
theorem orders_any (w : World) (D E : List UInt8) (hD : D.length = 32) (hE : E.length = 32) : Calls Try.prog 6 #[.agg (darr D), .agg (darr E)] w (Gives w (.bool true)) := by
  have HX := fun w => hide (hex_any w D hD)
  have HY := fun w => hide (hex_any w E hE)
  have heq := fun w => run_eql_darr D E hD hE w
  obtain ⟨c, hc⟩ : ∃ c, c = (D == E) := ⟨_, rfl⟩
  rw [← hc] at heq
  obtain ⟨b, hb⟩ : ∃ b, b = Op.bytesLess D E := ⟨_, rfl⟩
  have q1 : (hexM D == hexM E) = c := by rw [hex_inj D E hD hE, hc]
  have q2 : Op.bytesLess (hexM D) (hexM E) = b := by rw [hex_less D E (by rw [hD, hE]), hb]
  have q3 : Op.bytesLess D E = b := hb.symm
  have bl : ∀ l : List UInt8, (ByteArray.mk l.toArray).toList = l := fun l => by rw [ByteArray.toList_eq]
  clear hb hc
  obtain ⟨dz, hdz⟩ : ∃ dz, dz = darr D := ⟨_, rfl⟩
  obtain ⟨ez, hez⟩ : ∃ dz, dz = darr E := ⟨_, rfl⟩
  have hsz : dz.size = 32 := by rw [hdz]; simp [darr, hD]
  have hsz' : ez.size = 32 := by rw [hez]; simp [darr, hE]
  simp only [← hdz, ← hez] at HX HY heq
  rw [← hdz, ← hez]
  have HSZ : Hid (∀ _ : Unit, dz.size = 32) := hide (fun _ => hsz)
  have HSE : Hid (∀ _ : Unit, ez.size = 32) := hide (fun _ => hsz')
  have HDZ : Hid (∀ _ : Unit, dz = darr D) := hide (fun _ => hdz)
  have HEZ : Hid (∀ _ : Unit, ez = darr E) := hide (fun _ => hez)
  generalize hexM D = hx at HX q1 q2
  generalize hexM E = hy at HY q1 q2
  have Q1 := hide q1
  have Q2 := hide q2
  have Q3 := hide q3
  have HEQ := hide heq
  have BL := hide bl
  clear hsz hsz' hdz hez q1 q2 q3 heq bl
  go_enter Try.func6, Try.ntmps6
  go_upto_region 3 with (first | (go_at_call 8; refine (head_any _).mono ?_; rintro e w1 ⟨rfl, hb1⟩; have HB1 := hide hb1; clear hb1))
  have hbd : Blk w1 w.heap.size 24 dz := ((Blk.new w 24 dz).alloc (.cells ez 24)).below HB1.out (by simp; omega)
  have hbe : Blk w1 (w.heap.size + 1) 24 ez := by
    have := Blk.new (w.alloc (.cells dz 24)) 24 ez
    rw [show (w.alloc (.cells dz 24)).heap.size = w.heap.size + 1 by simp] at this
    exact this.below HB1.out (by simp)
  have K1 := hide ((((Below.refl _ _).alloc (Nat.le_refl _) (.cells dz 24)).alloc (by simp) (.cells ez 24)).trans (HB1.out.mono (by simp; omega)))
  have hcD : (convert 31 9 (.slice (some ⟨w.heap.size, 0, none⟩) 32 32)).run Try.prog w1 = .ok (S D) w1 := by
    have := run_convert_bytes_back (P := Try.prog) w1 31 9 5 ⟨w.heap.size, 0, none⟩ 32 D Try.underlying31 Try.underlying5 Try.underlying9 (fun j hj => by
      rw [HDZ.out ()] at hbd
      rw [Addr.add_mid, hbd.darr_at (i := 0 + j) (by omega)]
      simp [hj])
    rwa [hD] at this
  have hcE : (convert 31 9 (.slice (some ⟨w.heap.size + 1, 0, none⟩) 32 32)).run Try.prog w1 = .ok (S E) w1 := by
    have := run_convert_bytes_back (P := Try.prog) w1 31 9 5 ⟨w.heap.size + 1, 0, none⟩ 32 E Try.underlying31 Try.underlying5 Try.underlying9 (fun j hj => by
      rw [HEZ.out ()] at hbe
      rw [Addr.add_mid, hbe.darr_at (i := 0 + j) (by omega)]
      simp [hj])
    rwa [hE] at this
  have HRD := hide hbd.range
  have HRE := hide hbe.range
  have hlt1 := hbd.lt
  have hlt2 := hbe.lt
  clear hbd hbe HB1
  go_wp2_with fail
  clear hcD hcE
  have H0 : w1.drew.rangeAt w.heap.size 0 dz.toList ∧ w1.drew.rangeAt (w.heap.size + 1) 0 ez.toList ∧ (w.heap.size < w1.drew.heap.size ∧ w.heap.size + 1 < w1.drew.heap.size) ∧ Below w.heap.size w w1.drew := ⟨HRD.out, HRE.out, ⟨hlt1, hlt2⟩, K1.out.drew⟩
  have hdu := Try.underlying24
  have hdi : (Try.prog.info? 24).map (·.size) = some dz.toList.length := by rw [Array.length_toList, HSZ.out ()]; exact dig32
  have hei : (Try.prog.info? 24).map (·.size) = some ez.toList.length := by rw [Array.length_toList, HSE.out ()]; exact dig32
  have q1 := Q1.out
  have q2 := Q2.out
  have q3 := Q3.out
  have heq := HEQ.out
  have bl := BL.out
  have q4 : ((ByteArray.mk hx.toArray).toList == (ByteArray.mk hy.toArray).toList) = c := by rw [bl, bl]; exact q1
  have q5 : Op.bytesLess (ByteArray.mk hx.toArray).toList (ByteArray.mk hy.toArray).toList = b := by rw [bl, bl]; exact q2
  have q6 : Op.bytesLess (ByteArray.mk D.toArray).toList (ByteArray.mk E.toArray).toList = b := by rw [bl, bl]; exact q3
  -- REGION
  refine wp_region_noPanic ?_
  refine wp_region_held_drew (S := fun w' => w'.rangeAt w.heap.size 0 dz.toList ∧ w'.rangeAt (w.heap.size + 1) 0 ez.toList ∧ (w.heap.size < w'.heap.size ∧ w.heap.size + 1 < w'.heap.size) ∧ Below w.heap.size w w') (by kernel_rfl) H0 (fun hHeld => ?_)
  refine wpAnyH_take (i := 0) (by simp only [List.getElem?_toArray, List.getElem?_cons_zero]; rfl) (by kernel_rfl) (by kernel_rfl) (by kernel_rfl) (fun _ _ _ h => h) (yieldsIf_load_mid (by rfl) _ _ rfl _ _ rfl dz.toList _ (fun _ h => h.1) hdu rfl hdi) (by assumption) ?_
  simp only [Act.put, List.setIfInBounds_toArray, List.set_cons_zero, List.set_cons_succ, Array.toArray_toList]
  refine wpAnyH_take (i := 2) (by simp only [List.getElem?_toArray, List.getElem?_cons_zero, List.getElem?_cons_succ]; rfl) (by kernel_rfl) (by kernel_rfl) (by kernel_rfl) (fun _ _ _ h => h) (yieldsIf_load_mid (by rfl) _ _ rfl _ _ rfl ez.toList _ (fun _ h => h.2.1) hdu rfl hei) (by assumption) ?_
  simp only [Act.put, List.setIfInBounds_toArray, List.set_cons_zero, List.set_cons_succ, Array.toArray_toList]
  refine wpAnyH_take (i := 5) (v := ?_) (by simp only [List.getElem?_toArray, List.getElem?_cons_zero, List.getElem?_cons_succ]; rfl) (by kernel_rfl) (by kernel_rfl) (by kernel_rfl) (fun _ _ _ h => h) (Or.inl ⟨by rfl, ?_⟩) (by assumption) ?_
  rotate_left
  · (intro w hSw; go_simp; try with_reducible rfl)
  try simp only [Act.put, List.setIfInBounds_toArray, List.set_cons_zero, List.set_cons_succ]
  refine wpAnyH_take (i := 6) (v := ?_) (by simp only [List.getElem?_toArray, List.getElem?_cons_zero, List.getElem?_cons_succ]; rfl) (by kernel_rfl) (by kernel_rfl) (by kernel_rfl) (fun _ _ _ h => h) (Or.inl ⟨by rfl, ?_⟩) (by assumption) ?_
  rotate_left
  · (intro w hSw; go_simp; try with_reducible rfl)
  try simp only [Act.put, List.setIfInBounds_toArray, List.set_cons_zero, List.set_cons_succ]
  refine wpAnyH_take (i := 7) (v := ?_) (by simp only [List.getElem?_toArray, List.getElem?_cons_zero, List.getElem?_cons_succ]; rfl) (by kernel_rfl) (by kernel_rfl) (by kernel_rfl) (fun _ _ _ h => h) (Or.inl ⟨by rfl, ?_⟩) (by assumption) ?_
  rotate_left
  · (intro w hSw; go_simp; try with_reducible rfl)
  try simp only [Act.put, List.setIfInBounds_toArray, List.set_cons_zero, List.set_cons_succ]
  refine wpAnyH_ready (rs := [1]) (by kernel_rfl) (by simp) ?_
  refine AllReadyH.cons (by simp only [List.getElem?_toArray, List.getElem?_cons_zero, List.getElem?_cons_succ]; rfl) (fun K hK => ?_) AllReadyH.nil
  go_simp
  go_at_call 11
  refine (HX _).out.mono ?_
  rintro e w2 ⟨rfl, hb2⟩
  go_wp2_with fail
  refine hK.out _ _ (os_keep hHeld hb2) (fun hHeld => ?_)
  clear hK K hb2
  try simp only [Act.put, List.setIfInBounds_toArray, List.set_cons_zero, List.set_cons_succ]
  refine wpAnyH_ready (rs := [3]) (by kernel_rfl) (by simp) ?_
  refine AllReadyH.cons (by simp only [List.getElem?_toArray, List.getElem?_cons_zero, List.getElem?_cons_succ]; rfl) (fun K hK => ?_) AllReadyH.nil
  go_simp
  go_at_call 11
  refine (HY _).out.mono ?_
  rintro e w2 ⟨rfl, hb2⟩
  go_wp2_with fail
  refine hK.out _ _ (os_keep hHeld hb2) (fun hHeld => ?_)
  clear hK K hb2
  try simp only [Act.put, List.setIfInBounds_toArray, List.set_cons_zero, List.set_cons_succ]
  refine wpAnyH_take (i := 4) (v := ?_) (by simp only [List.getElem?_toArray, List.getElem?_cons_zero, List.getElem?_cons_succ]; rfl) (by kernel_rfl) (by kernel_rfl) (by kernel_rfl) (fun _ _ _ h => h) (Or.inl ⟨by rfl, ?_⟩) (by assumption) ?_
  rotate_left
  · (intro w hSw; go_simp; try with_reducible rfl)
  try simp only [Act.put, List.setIfInBounds_toArray, List.set_cons_zero, List.set_cons_succ]
  refine wpAnyH_take (i := 8) (v := ?_) (by simp only [List.getElem?_toArray, List.getElem?_cons_zero, List.getElem?_cons_succ]; rfl) (by kernel_rfl) (by kernel_rfl) (by kernel_rfl) (fun _ _ _ h => h) (Or.inl ⟨by rfl, ?_⟩) (by assumption) ?_
  rotate_left
  · (intro w hSw; go_simp; try with_reducible rfl)
  try simp only [Act.put, List.setIfInBounds_toArray, List.set_cons_zero, List.set_cons_succ]
  refine wpAnyH_take (i := 9) (v := ?_) (by simp only [List.getElem?_toArray, List.getElem?_cons_zero, List.getElem?_cons_succ]; rfl) (by kernel_rfl) (by kernel_rfl) (by kernel_rfl) (fun _ _ _ h => h) (Or.inl ⟨by rfl, ?_⟩) (by assumption) ?_
  rotate_left
  · (intro w hSw; go_simp; try with_reducible rfl)
  try simp only [Act.put, List.setIfInBounds_toArray, List.set_cons_zero, List.set_cons_succ]
  refine wpAnyH_take (i := 10) (by simp only [List.getElem?_toArray, List.getElem?_cons_zero, List.getElem?_cons_succ]; rfl) (by kernel_rfl) (by kernel_rfl) (by kernel_rfl) (fun _ _ _ h => h) (yieldsIf_load_mid (by rfl) _ _ rfl _ _ rfl dz.toList _ (fun _ h => h.1) hdu rfl hdi) (by assumption) ?_
  simp only [Act.put, List.setIfInBounds_toArray, List.set_cons_zero, List.set_cons_succ, Array.toArray_toList]
  refine wpAnyH_take (i := 12) (by simp only [List.getElem?_toArray, List.getElem?_cons_zero, List.getElem?_cons_succ]; rfl) (by kernel_rfl) (by kernel_rfl) (by kernel_rfl) (fun _ _ _ h => h) (yieldsIf_load_mid (by rfl) _ _ rfl _ _ rfl ez.toList _ (fun _ h => h.2.1) hdu rfl hei) (by assumption) ?_
  simp only [Act.put, List.setIfInBounds_toArray, List.set_cons_zero, List.set_cons_succ, Array.toArray_toList]
  refine wpAnyH_take (i := 15) (by simp only [List.getElem?_toArray, List.getElem?_cons_zero, List.getElem?_cons_succ]; rfl) (by kernel_rfl) (by kernel_rfl) (by kernel_rfl) (fun _ _ _ h => h) (yieldsIf_load_mid (by rfl) _ _ rfl _ _ rfl dz.toList _ (fun _ h => h.1) hdu rfl hdi) (by assumption) ?_
  simp only [Act.put, List.setIfInBounds_toArray, List.set_cons_zero, List.set_cons_succ, Array.toArray_toList]
  refine wpAnyH_take (i := 16) (by simp only [List.getElem?_toArray, List.getElem?_cons_zero, List.getElem?_cons_succ]; rfl) (by kernel_rfl) (by kernel_rfl) (by kernel_rfl) (fun _ _ _ h => h) (yieldsIf_load_mid (by rfl) _ _ rfl _ _ rfl ez.toList _ (fun _ h => h.2.1) hdu rfl hei) (by assumption) ?_
  simp only [Act.put, List.setIfInBounds_toArray, List.set_cons_zero, List.set_cons_succ, Array.toArray_toList]
  refine wpAnyH_take (i := 17) (v := ?_) (by simp only [List.getElem?_toArray, List.getElem?_cons_zero, List.getElem?_cons_succ]; rfl) (by kernel_rfl) (by kernel_rfl) (by kernel_rfl) (fun _ _ _ h => h) (Or.inl ⟨by rfl, ?_⟩) (by assumption) ?_
  rotate_left
  · (intro w hSw; go_simp; try with_reducible rfl)
  try simp only [Act.put, List.setIfInBounds_toArray, List.set_cons_zero, List.set_cons_succ]
  refine wpAnyH_ready (rs := [11]) (by kernel_rfl) (by simp) ?_
  refine AllReadyH.cons (by simp only [List.getElem?_toArray, List.getElem?_cons_zero, List.getElem?_cons_succ]; rfl) (fun K hK => ?_) AllReadyH.nil
  go_simp
  go_at_call 11
  refine (HX _).out.mono ?_
  rintro e w2 ⟨rfl, hb2⟩
  go_wp2_with fail
  refine hK.out _ _ (os_keep hHeld hb2) (fun hHeld => ?_)
  clear hK K hb2
  try simp only [Act.put, List.setIfInBounds_toArray, List.set_cons_zero, List.set_cons_succ]
  refine wpAnyH_ready (rs := [13]) (by kernel_rfl) (by simp) ?_
  refine AllReadyH.cons (by simp only [List.getElem?_toArray, List.getElem?_cons_zero, List.getElem?_cons_succ]; rfl) (fun K hK => ?_) AllReadyH.nil
  go_simp
  go_at_call 11
  refine (HY _).out.mono ?_
  rintro e w2 ⟨rfl, hb2⟩
  go_wp2_with fail
  refine hK.out _ _ (os_keep hHeld hb2) (fun hHeld => ?_)
  clear hK K hb2
  try simp only [Act.put, List.setIfInBounds_toArray, List.set_cons_zero, List.set_cons_succ]
  refine wpAnyH_take (i := 14) (v := ?_) (by simp only [List.getElem?_toArray, List.getElem?_cons_zero, List.getElem?_cons_succ]; rfl) (by kernel_rfl) (by kernel_rfl) (by kernel_rfl) (fun _ _ _ h => h) (Or.inl ⟨by rfl, ?_⟩) (by assumption) ?_
  rotate_left
  · (intro w hSw; go_simp; try with_reducible rfl)
  try simp only [Act.put, List.setIfInBounds_toArray, List.set_cons_zero, List.set_cons_succ]
  refine wpAnyH_take (i := 18) (v := ?_) (by simp only [List.getElem?_toArray, List.getElem?_cons_zero, List.getElem?_cons_succ]; rfl) (by kernel_rfl) (by kernel_rfl) (by kernel_rfl) (fun _ _ _ h => h) (Or.inl ⟨by rfl, ?_⟩) (by assumption) ?_
  rotate_left
  · (intro w hSw; go_simp; try with_reducible rfl)
  try simp only [Act.put, List.setIfInBounds_toArray, List.set_cons_zero, List.set_cons_succ]
  refine wpAnyH_take (i := 19) (v := ?_) (by simp only [List.getElem?_toArray, List.getElem?_cons_zero, List.getElem?_cons_succ]; rfl) (by kernel_rfl) (by kernel_rfl) (by kernel_rfl) (fun _ _ _ h => h) (Or.inl ⟨by rfl, ?_⟩) (by assumption) ?_
  rotate_left
  · (intro w hSw; go_simp; try with_reducible rfl)
  try simp only [Act.put, List.setIfInBounds_toArray, List.set_cons_zero, List.set_cons_succ]
  refine wpAnyH_take (i := 20) (v := ?_) (by simp only [List.getElem?_toArray, List.getElem?_cons_zero, List.getElem?_cons_succ]; rfl) (by kernel_rfl) (by kernel_rfl) (by kernel_rfl) (fun _ _ _ h => h) (Or.inl ⟨by rfl, ?_⟩) (by assumption) ?_
  rotate_left
  · (intro w hSw; go_simp; try with_reducible rfl)
  try simp only [Act.put, List.setIfInBounds_toArray, List.set_cons_zero, List.set_cons_succ]
  refine wpAnyH_done (by kernel_rfl) ?_ _
  refine NoPanic.normal ?_
  have HF := hide hHeld.2.2.2
  go_wp2_with fail
  go_ret
  exact ⟨rfl, HF.out⟩
  -- END
end Go.Proofs.Ytdnpcpeibjckmaa
