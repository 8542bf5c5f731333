/- Table.Check, walked; no statement of the seat is proved here. -/
import Derived.Test.YtmhnfilingebfaaHierChk
import Derived.Deep.DeepCutAuto
namespace Go.Proofs.Ytmhnfilingebfaa
open Go.RowKit

theorem fcells {w : World} {g : Nat} {t : TypeId} {x0 x1 x2 x3 : Value} (h : Blk w g t #[x0, x1, x2, x3]) :
    w.cell? ⟨g, 0, none⟩ = some x0 ∧ w.cell? ⟨g, 1, none⟩ = some x1 ∧ w.cell? ⟨g, 2, none⟩ = some x2 ∧ w.cell? ⟨g, 3, none⟩ = some x3 := ⟨h.cell 0, h.cell 1, h.cell 2, h.cell 3⟩
abbrev Fc.arr (f : Fc) : Array Value := #[S f.n, S f.su, .slice f.fA f.fl f.fc, .slice f.mA f.ml f.mc]

theorem ty_info : (Try.prog.info? 45).map (fun i => (i.zero, i.size, i.bytes)) = some (some (.agg #[.string { data := #[] }, .bool false]), 2, 24) := by kernel_rfl
theorem ty_one (l : List Ty) : ∀ u ∈ l.flatMap Ty.cells, u.oneCell' = true := by
  intro u hu
  obtain ⟨m, _, hm⟩ := List.mem_flatMap.1 hu
  simp only [Ty.cells, List.mem_cons, List.not_mem_nil, or_false] at hm
  rcases hm with rfl | rfl <;> rfl
theorem cells1 {w : World} {g : Nat} {t : TypeId} {x0 x1 x2 x3 x4 : Value} (h : Blk w g t #[x0, x1, x2, x3, x4]) :
    w.cell? ⟨g, 0, none⟩ = some x0 ∧ w.cell? ⟨g, 1, none⟩ = some x1 ∧ w.cell? ⟨g, 2, none⟩ = some x2 ∧ w.cell? ⟨g, 3, none⟩ = some x3 ∧ w.cell? ⟨g, 4, none⟩ = some x4 := ⟨h.cell 0, h.cell 1, h.cell 2, h.cell 3, h.cell 4⟩
theorem ovr_eq {T : List Fc} {su : List UInt8} {m o : Sg} (h : ∀ x, memM T m.n false (up T 20 [] su).1 = some x → x.2 = o) : ovr T su m = ((memM T m.n false (up T 20 [] su).1).isSome && !m.st && !decide (m.p = o.p)) := by
  unfold ovr
  cases hm : memM T m.n false (up T 20 [] su).1 with
  | none => rfl
  | some x =>
    obtain ⟨c, y⟩ := x
    have : y = o := h _ hm
    subst this
    simp

theorem retF_form2 (C : Option (List UInt8 × Ty)) : ∃ (c tn : List UInt8) (ta : Bool), retF C = .tuple #[S c, .agg #[S tn, .bool ta], .bool C.isSome] := by
  cases C with
  | none => exact ⟨_, _, _, rfl⟩
  | some p => obtain ⟨c, t⟩ := p; exact ⟨_, _, _, rfl⟩
theorem retM_form2 {T : List Fc} {w : World} {F : Nat → Prop} (hat : ∀ f ∈ T, f.at_ w F) (k : List UInt8) (st : Bool) (l : List (List UInt8)) :
    ∃ (c : List UInt8) (o : Sg), retM (memM T k st l) = .tuple #[S c, o.val, .bool (memM T k st l).isSome] ∧ o.at_ w F ∧ ∀ x, memM T k st l = some x → x.2 = o := by
  cases h : memM T k st l with
  | none => exact ⟨_, zeroSg, rfl, ⟨Rd.nil _ _ _ _, rfl, by simp [zeroSg], by simp [short, zeroSg], by simp [Ty.ok, short, zeroSg], by simp [zeroSg]⟩, by simp⟩
  | some p =>
    obtain ⟨c, m⟩ := p
    refine ⟨c, m, rfl, ?_, fun x hx => by injection hx with hx; rw [← hx]⟩
    unfold memM at h
    obtain ⟨c0, _, h2⟩ := List.exists_of_findSome?_eq_some h
    cases hm : methOf (faceF T c0) k with
    | none => rw [hm] at h2; simp at h2
    | some v =>
      rw [hm] at h2
      simp only [Option.bind_some] at h2
      split at h2
      · injection h2 with h2
        injection h2 with _ h2
        subst h2
        exact (face_at2 hat c0).2.1.2.2.2 v (List.mem_of_find?_eq_some hm)
      · cases h2

theorem face_few {T : List Fc} {nm : List UInt8} (h : ∀ f ∈ T, f.few) (hg : (get T nm).isSome = true) : (faceF T nm).few := by
  obtain ⟨f, hf⟩ := Option.isSome_iff_exists.1 hg
  unfold faceF
  rw [hf]
  exact h f (get_mem hf).1

set_option maxRecDepth 100000 in
set_option maxHeartbeats 8000000 in
theorem check_any (g m s n B : Nat) (T : List Fc) (nm : List UInt8) (w : World) (h : Tab w g m s T n) (hn : n ≤ 700000) (hT : T.length ≤ 8) (hs : ∀ f ∈ T, short f.su) (hnm : short nm) (hat : ∀ f ∈ T, f.at_ w (fun k => B ≤ k)) (hBs : B ≤ s) (hBw : B ≤ w.heap.size)
    (hfew : ∀ f ∈ T, f.few) :
    Calls Try.prog 29 #[.pointer (some ⟨g, 0, none⟩), S nm] w
      (fun e w' => e = .returned (.int .i64 (chk T nm)) ∧ Tab w' g m s T (n + 3000) ∧ Keep (fun b => b = s) w w') := by
  have hsw : s < w.heap.size := h.slt
  have hfa := face_any g m s n T nm w h (by omega) hnm
  obtain ⟨F, hF⟩ : ∃ F, F = faceF T nm := ⟨_, rfl⟩
  obtain ⟨Y, hY⟩ : ∃ Y, Y = (get T nm).isSome := ⟨_, rfl⟩
  rw [← hF, ← hY] at hfa
  obtain ⟨R, hR⟩ : ∃ R, R = chk T nm := ⟨_, rfl⟩
  rw [← hR]
  have HR := hide hR
  have HF := hide hF
  have HY := hide hY
  have HFA := hide hfa
  have HS := hide hs
  have HAT := hide hat
  have HFW := hide hfew
  clear hR hF hY hfa h hs hat hfew
  go_enter Try.func29, Try.ntmps29
  go_wp2_with fail
  refine HFA.out.mono ?_
  rintro e w1 ⟨rfl, ht1, hk1⟩
  have hC1 : Cx w (w1.alloc (.cells F.arr 38)) g m s T (n + 1) := Cx.alloc ⟨ht1, hk1⟩ _
  have hf1 : Blk (w1.alloc (.cells F.arr 38)) w1.heap.size 38 F.arr := Blk.new _ _ _
  have hs1 : s < w1.heap.size := ht1.slt
  clear ht1 hk1 HFA
  cases Y
  case false =>
    have HX : Hid (R = 23) := hide (by rw [HR.out]; unfold chk; rw [if_neg (fun hh => by rw [← HY.out] at hh; exact absurd hh.1 (by decide))])
    go_wp2_with fail
    go_ret
    exact ⟨by rw [HX.out] <;> rfl, hC1.tab.mono (by omega), hC1.kp⟩
  case true =>
  by_cases e0 : nm = []
  · have HX : Hid (R = 23) := hide (by rw [HR.out]; unfold chk; rw [if_neg (fun hh => hh.2 e0)])
    subst e0
    go_wp2_with fail
    go_ret
    exact ⟨by rw [HX.out] <;> rfl, hC1.tab.mono (by omega), hC1.kp⟩
  have d0 : (nm == []) = false := by simpa using e0
  have hpos := up_pos HY.out.symm e0
  have HR2 : Hid (R = (if (up T 20 [] nm).2 = true then (if twiceB F = true then 6 else chkL T F F.fs) else if (faceF T (lastOf (up T 20 [] nm).1)).su ∈ (up T 20 [] nm).1 then 26 else 23)) := hide (by
    rw [HR.out, HF.out]; unfold chk; rw [if_pos ⟨HY.out.symm, e0⟩])
  have hus := up_short T HS.out 20 [] nm (by simp) hnm
  have hab : ∀ ww nn, Tab ww g m s T nn → nn ≤ 900000 → _ := fun ww nn h1 h2 => above_any g m s nn T nm ww h1 h2 hT HS.out hnm
  have hle := up_le T 20 [] nm
  obtain ⟨U, hU⟩ : ∃ U, U = up T 20 [] nm := ⟨_, rfl⟩
  rw [← hU] at hab hpos HR2 hus hle
  obtain ⟨l, q⟩ := U
  simp only [List.length_nil, Nat.zero_add] at hab hpos HR2 hus hle
  have hla := last_at hpos
  have hlm : lastOf l ∈ l := by rw [← hla]; exact List.getElem_mem _
  have hls := hus _ hlm
  obtain ⟨N, hN⟩ : ∃ N, l.length = N + 1 := ⟨l.length - 1, by omega⟩
  rw [hN] at hab
  have HLA : Hid ((l.map S)[N]? = some (S (lastOf l))) := hide (by
    rw [List.getElem?_map, List.getElem?_eq_getElem (by omega)]
    have : l[N]'(by omega) = lastOf l := by rw [← hla]; congr 1; omega
    rw [this]; rfl)
  obtain ⟨la, hlaE⟩ : ∃ la, la = lastOf l := ⟨_, rfl⟩
  have hfl : ∀ ww nn, Tab ww g m s T nn → nn ≤ 1000000 → _ := fun ww nn h1 h2 => face_any g m s nn T (lastOf l) ww h1 h2 hls
  obtain ⟨G, hG⟩ : ∃ G, G = faceF T (lastOf l) := ⟨_, rfl⟩
  obtain ⟨Z, hZ⟩ : ∃ Z, Z = (get T (lastOf l)).isSome := ⟨_, rfl⟩
  rw [← hG, ← hZ] at hfl
  rw [← hG] at HR2
  rw [← hlaE] at hfl HLA
  have HYY : Hid ((get T nm).isSome = true) := hide HY.out.symm
  clear HY
  have HAB := hide hab
  have HFL := hide hfl
  have HN := hide hN
  have hNb : N ≤ 20 := by omega
  clear hU hab hpos hus hla hlm hls hN hlaE hG hZ hfl HR hle hnm
  go_wp2_with fail
  refine (HAB.out _ _ hC1.tab (by omega)).mono ?_
  rintro e w2 ⟨A2, c2, rfl, ht2, hk2, hr2⟩
  have hC2 := hC1.step ht2 hk2
  have hf2 := hf1.keep hk2 (by omega)
  have hsz1 := hf1.lt
  have hR2 : Rd w2 (fun b => b = s) 1 A2 (N + 1) (l.map S) := hr2.weak (fun k _ e => by omega)
  have HRD := hide hR2
  obtain ⟨x, o, rfl, hxs, _, hcl⟩ := hR2.2 (by omega)
  have hlast := hcl N _ HLA.out
  have hn1 : (0 : Int) ≤ (N : Int) := by omega
  have hn2 : (N : Int) < (N : Int) + 1 := by omega
  have hn3 : IntKind.i64.wrap ((N : Int) + 1 - 1) = (N : Int) := by rw [IntKind.wrap_i64]; omega
  clear ht2 hk2 hr2 hR2 hcl HAB hC1 hf1
  go_wp2_with fail
  refine (HFL.out _ _ hC2.tab (by omega)).mono ?_
  rintro e w3 ⟨rfl, ht3, hk3⟩
  have hC3 := hC2.step ht3 hk3
  have hf3 := hf2.keep hk3 (by omega)
  have hg3 : Blk (w3.alloc (.cells G.arr 38)) w3.heap.size 38 G.arr := Blk.new _ _ _
  have hC4 := hC3.alloc (.cells G.arr 38)
  have hf4 := hf3.alloc (.cells G.arr 38)
  have hR4 : Rd (w3.alloc (.cells G.arr 38)) (fun b => b = s) 1 (some ⟨x, o, none⟩) (N + 1) (l.map S) := (HRD.out.keep hk3).alloc _
  have hsz3 := hf3.lt
  clear ht3 hk3 hC3 hf3 hlast HFL hC2 hf2 HRD
  cases q
  case false =>
    have hco := contains_any (some ⟨x, o, none⟩) (N + 1) c2 l G.su (w3.alloc (.cells G.arr 38)) hR4 (by omega)
    obtain ⟨D, hD⟩ : ∃ D, D = decide (G.su ∈ l) := ⟨_, rfl⟩
    rw [← hD] at hco
    have HCO := hide hco
    have HX : Hid (R = if D = true then 26 else 23) := hide (by
      rw [HR2.out, if_neg (by simp), hD]
      by_cases hh : G.su ∈ l
      · rw [if_pos hh, if_pos (decide_eq_true hh)]
      · rw [if_neg hh, decide_eq_false hh]; rfl)
    obtain ⟨a0, a1, a2, a3⟩ := fcells hg3
    clear hco hD HR2 hR4
    go_wp2_with fail
    refine HCO.out.mono ?_
    rintro e wz ⟨rfl, hwz⟩
    subst hwz
    cases D
    all_goals
      go_wp2_with fail
      go_ret
      exact ⟨by rw [HX.out] <;> rfl, hC4.tab.mono (by omega), hC4.kp⟩
  case true =>
    have HR3 : Hid (R = if twiceB F = true then 6 else chkL T F F.fs) := hide (by rw [HR2.out, if_pos rfl])
    have hFat : ∀ ww, Below B w ww → F.at_ ww (fun k => B ≤ k) := fun ww hb => by rw [HF.out]; exact face_at2 (fun f hf => (HAT.out f hf).below hb) nm
    have hFew : F.few := by rw [HF.out]; exact face_few HFW.out HYY.out
    have HFAT := hide hFat
    have HFEW := hide hFew
    have hb4 := hC4.bel hBs hBw
    have htw := twice_any F (w3.alloc (.cells G.arr 38)) ((hFat _ hb4).weak (fun k hk => by have := hC4.kp.size; omega))
    obtain ⟨D, hD⟩ : ∃ D, D = twiceB F := ⟨_, rfl⟩
    rw [← hD] at htw HR3
    have HTW := hide htw
    obtain ⟨a0, a1, a2, a3⟩ := fcells hf4
    clear hFat hFew htw hD HR2 hR4 hg3
    go_wp2_with fail
    refine HTW.out.mono ?_
    rintro e w5 ⟨rfl, hb5⟩
    have hC5 := hC4.below hb5
    have hf5 := hf4.below hb5 hf4.lt
    clear a0 a1 a2 a3 hb5 hf4 hC4 HTW
    cases D
    case true =>
      have HX : Hid (R = 6) := hide (by rw [HR3.out, if_pos rfl])
      go_wp2_with fail
      go_ret
      exact ⟨by rw [HX.out] <;> rfl, hC5.tab.mono (by omega), hC5.kp⟩
    case false =>
    have HR4 : Hid (R = chkL T F F.fs) := hide (by rw [HR3.out, if_neg (by simp)])
    obtain ⟨fn, fsu, ffA, ffl, ffc, ffs, fmA, fml, fmc, fms⟩ := F
    have hss : short fsu := (HFAT.out w (Below.refl _ _)).2.2.2
    have hff := (HFAT.out w (Below.refl _ _)).1
    have hfm := (HFAT.out w (Below.refl _ _)).2.1
    have hfw := HFEW.out
    simp only [Fc.few] at hff hfm hfw
    obtain ⟨hffr, hffl, hffm, hffo⟩ := hff
    obtain ⟨hfmr, hfml, hfmm, hfmo⟩ := hfm
    obtain ⟨hf12, hm12, _, _, _, hmfew⟩ := hfw
    have HFFL := hide hffl
    have HFML := hide hfml
    have HFFO := hide hffo
    have HFMO := hide hfmo
    have HMFEW := hide hmfew
    have hsf : ∀ (k : List UInt8) (ww : World) (nn : Nat), Cx w ww g m s T nn → nn ≤ 790000 → Calls Try.prog 24 #[.pointer (some ⟨g, 0, none⟩), S fsu, S k] ww (fun e w' => e = .returned (retF (memF T k (up T 20 [] fsu).1)) ∧ Tab w' g m s T (nn + 40) ∧ Keep (fun b => b = s) ww w') :=
      fun k ww nn hc hnn => tfield_any g m s nn B T fsu k ww hc.tab (by omega) hT HS.out hss (hc.faces hBs hBw HAT.out) hBs
    have hsm : ∀ (k : List UInt8) (ww : World) (nn : Nat), Cx w ww g m s T nn → nn ≤ 790000 → Calls Try.prog 26 #[.pointer (some ⟨g, 0, none⟩), S fsu, S k, .bool false] ww (fun e w' => e = .returned (retM (memM T k false (up T 20 [] fsu).1)) ∧ Tab w' g m s T (nn + 40) ∧ Keep (fun b => b = s) ww w') :=
      fun k ww nn hc hnn => tmethod_any g m s nn B T fsu k false ww hc.tab (by omega) hT HS.out hss (hc.faces hBs hBw HAT.out) hBs
    have HSF := hide hsf
    have HSM := hide hsm
    clear hffl hfml hffo hfmo hmfew hsf hsm HR3 hss
    obtain ⟨a0, a1, a2, a3⟩ := fcells hf5
    obtain ⟨bf, hbf⟩ : ∃ bf, bf = w1.heap.size := ⟨_, rfl⟩
    have hbs : s < bf := by omega
    rw [← hbf] at hf5 a0 a1 a2 a3
    rw [← hbf]
    clear hbf
    go_wp2_with fail
    clear a0 a1 a2 a3
    go_loopw [69] (fun i wr => ∃ k : Nat, k ≤ ffl ∧ i = .int .i64 k ∧ Cx w wr g m s T (n + 11 + 60 * k) ∧ Blk wr bf 38 #[S fn, S fsu, .slice ffA ffl ffc, .slice fmA fml fmc] ∧ chkL T ⟨fn, fsu, ffA, ffl, ffc, ffs, fmA, fml, fmc, fms⟩ ffs = chkL T ⟨fn, fsu, ffA, ffl, ffc, ffs, fmA, fml, fmc, fms⟩ (ffs.drop k)) (fun i _ => ffl - (intOf i).toNat)
    case atStart => exact ⟨0, Nat.zero_le _, rfl, hC5.mono (by omega), hf5, rfl⟩
    case round =>
      obtain ⟨k, hk, rfl, hC, hfb, hch⟩ := hrel
      have HCH := hide hch
      clear hch
      by_cases hlt : k < ffl
      · obtain ⟨x, o, rfl, _, _, hcell⟩ := Rd.rec_ (size := 3) (fun _ => rfl) (hffr.below (hC.bel hBs hBw)) HFFL.out k hlt
        have hlk : k < ffs.length := by have := HFFL.out; omega
        have hvo := HFFO.out _ (List.getElem_mem hlk)
        have HD : Hid (ffs.drop k = ffs[k] :: ffs.drop (k + 1)) := hide (List.drop_eq_getElem_cons hlk)
        obtain ⟨v, hv⟩ : ∃ v, v = ffs[k] := ⟨_, rfl⟩
        rw [← hv] at hcell HD hvo
        clear hv
        obtain ⟨vn, vt, va⟩ := v
        have hvs : short vt := hvo.2
        have q0 : wr.cell? ⟨x, o + k * 3, none⟩ = some (S vn) := hcell 0 _ rfl
        have q1 : wr.cell? ⟨x, o + k * 3 + 1, none⟩ = some (S vt) := hcell 1 _ rfl
        have q2 : wr.cell? ⟨x, o + k * 3 + 2, none⟩ = some (.bool va) := hcell 2 _ rfl
        obtain ⟨K, hK⟩ : ∃ K, K = knownT T ⟨vt, va⟩ := ⟨_, rfl⟩
        obtain ⟨M, hM⟩ : ∃ M, M = memF T vn (up T 20 [] fsu).1 := ⟨_, rfl⟩
        have HE : Hid (R = if K = true then (if M.isSome = true then 6 else chkL T ⟨fn, fsu, some ⟨x, o, none⟩, ffl, ffc, ffs, fmA, fml, fmc, fms⟩ (ffs.drop (k + 1))) else 23) := hide (by
          rw [HR4.out, HCH.out, HD.out, hK, hM]; rfl)
        have HE2 : Hid (K = true → M.isSome = false → chkL T ⟨fn, fsu, some ⟨x, o, none⟩, ffl, ffc, ffs, fmA, fml, fmc, fms⟩ ffs = chkL T ⟨fn, fsu, some ⟨x, o, none⟩, ffl, ffc, ffs, fmA, fml, fmc, fms⟩ (ffs.drop (k + 1))) := hide (fun h1 h2 => by
          rw [HCH.out, HD.out]
          show (if knownT T ⟨vt, va⟩ = true then (if (memF T vn (up T 20 [] fsu).1).isSome = true then 6 else _) else 23) = _
          rw [← hK, ← hM, if_pos h1, if_neg (by rw [h2]; simp)])
        have hC1 := hC.alloc (.cells #[S vn, S vt, .bool va] 69)
        have hfb1 := hfb.alloc (.cells #[S vn, S vt, .bool va] 69)
        have hv1 : Blk (wr.alloc (.cells #[S vn, S vt, .bool va] 69)) wr.heap.size 69 #[S vn, S vt, .bool va] := Blk.new _ _ _
        have hkn := known1_any g m s T vt va hvs _ _ hC1.tab (by omega)
        rw [← hK, World.size_alloc] at hkn
        have HKN := hide hkn
        have hse : ∀ (ww : World) (nn : Nat), Cx w ww g m s T nn → nn ≤ 790000 → _ := HSF.out vn
        obtain ⟨cc, tn, ta, hret⟩ := retF_form2 (memF T vn (up T 20 [] fsu).1)
        rw [hret] at hse
        rw [← hM] at hse
        have HSE := hide hse
        have hsr := hfb.lt
        clear hcell hK hM hkn hse hret hvo hvs
        go_wp2_with fail
        refine HKN.out.mono ?_
        rintro e w2 ⟨rfl, ht2, hk2⟩
        have hC2 := hC1.step ht2 hk2
        have hfb2 := hfb1.keep hk2 (by omega)
        have hv2 := hv1.keep hk2 (by omega)
        have c1 : w2.cell? ⟨bf, 1, none⟩ = some (S fsu) := hfb2.cell 1
        have v0 : w2.cell? ⟨wr.heap.size, 0, none⟩ = some (S vn) := hv2.cell 0
        clear ht2 hk2 hC1 hfb1 hv1 HKN q0 q1 q2
        cases K
        case false =>
          have HX : Hid (R = 23) := hide (by rw [HE.out]; simp)
          go_wp2_with fail
          go_ret
          exact ⟨by rw [HX.out] <;> rfl, hC2.tab.mono (by omega), hC2.kp⟩
        case true =>
          go_wp2_with fail
          refine (HSE.out _ _ hC2 (by omega)).mono ?_
          rintro e w3 ⟨rfl, ht3, hk3⟩
          have hC3 := (hC2.step ht3 hk3).alloc (.cells #[S tn, .bool ta] 45)
          have hfb3 := (hfb2.keep hk3 (by omega)).alloc (.cells #[S tn, .bool ta] 45)
          clear ht3 hk3 hC2 hfb2 hv2 c1 v0 HSE
          obtain ⟨Mi, hMi⟩ : ∃ Mi, Mi = M.isSome := ⟨_, rfl⟩
          rw [← hMi]
          rw [← hMi] at HE HE2
          clear hMi
          cases Mi
          case true =>
            have HX : Hid (R = 6) := hide (by rw [HE.out]; simp)
            go_wp2_with fail
            go_ret
            exact ⟨by rw [HX.out] <;> rfl, hC3.tab.mono (by omega), hC3.kp⟩
          case false =>
            have HZ := hide (HE2.out (by first | rfl | trivial) (by first | rfl | trivial))
            go_wp2_with fail
            go_roundw
            case rel => exact ⟨k + 1, by omega, by go_num, hC3.mono (by omega), hfb3, HZ.out⟩
            case measure => simp [intOf]; omega
      · have HRM : Hid (R = chkM T fsu fms) := hide (by rw [HR4.out, HCH.out, List.drop_of_length_le (by have := HFFL.out; omega)]; rfl)
        obtain rfl : k = ffl := by omega
        obtain ⟨wB, hwB⟩ : ∃ wB, wB = wr := ⟨_, rfl⟩
        rw [← hwB] at hC hfb
        rw [← hwB]
        clear hwB HCH HR4
        obtain ⟨a0, a1, a2, a3⟩ := fcells hfb
        have hCB : Cx w wB g m s T (n + 800) := hC.mono (by omega)
        clear hC
        go_wp2_with fail
        clear a0 a1 a2 a3
        go_loopw [94] (fun i wr => ∃ j : Nat, j ≤ fml ∧ i = .int .i64 j ∧ Cx w wr g m s T (n + 800 + 60 * j) ∧ Blk wr bf 38 #[S fn, S fsu, .slice ffA k ffc, .slice fmA fml fmc] ∧ chkM T fsu fms = chkM T fsu (fms.drop j)) (fun i _ => fml - (intOf i).toNat)
        case atStart => exact ⟨0, Nat.zero_le _, rfl, hCB, hfb, rfl⟩
        case round =>
          obtain ⟨j, hj, rfl, hC, hfb, hch⟩ := hrel
          have HCH := hide hch
          clear hch
          by_cases hlt2 : j < fml
          · obtain ⟨x, o, rfl, _, _, hcell⟩ := Rd.rec_ (size := 5) (fun _ => rfl) (hfmr.below (hC.bel hBs hBw)) HFML.out j hlt2
            have hlj : j < fms.length := by have := HFML.out; omega
            have hmw := HFMO.out _ (List.getElem_mem hlj)
            have hmf := HMFEW.out _ (List.getElem_mem hlj)
            have HD : Hid (fms.drop j = fms[j] :: fms.drop (j + 1)) := hide (List.drop_eq_getElem_cons hlj)
            obtain ⟨v, hv⟩ : ∃ v, v = fms[j] := ⟨_, rfl⟩
            rw [← hv] at hcell HD hmw hmf
            clear hv
            obtain ⟨oc, ov, hret, hoat, huniq⟩ := retM_form2 HAT.out v.n false (up T 20 [] fsu).1
            have hoe := ovr_eq huniq
            have hse : ∀ (ww : World) (nn : Nat), Cx w ww g m s T nn → nn ≤ 790000 → _ := HSM.out v.n
            rw [hret] at hse
            obtain ⟨K, hK⟩ : ∃ K, K = (v.r :: v.ps).all (knownT T) := ⟨_, rfl⟩
            obtain ⟨Mi, hMi⟩ : ∃ Mi, Mi = (memM T v.n false (up T 20 [] fsu).1).isSome := ⟨_, rfl⟩
            obtain ⟨D, hDD⟩ : ∃ D, D = decide (v.p = ov.p) := ⟨_, rfl⟩
            rw [← hMi] at hse
            have HE : Hid (R = if K = true then (if (Mi && !v.st && !D) = true then 27 else chkM T fsu (fms.drop (j + 1))) else 23) := hide (by
              rw [HRM.out, HCH.out, HD.out]
              show (if (v.r :: v.ps).all (knownT T) = true then (if ovr T fsu v = true then 27 else _) else 23) = _
              rw [hK, hMi, hDD, hoe])
            have HE2 : Hid (K = true → (Mi && !v.st && !D) = false → chkM T fsu fms = chkM T fsu (fms.drop (j + 1))) := hide (fun h1 h2 => by
              rw [HCH.out, HD.out]
              show (if (v.r :: v.ps).all (knownT T) = true then (if ovr T fsu v = true then 27 else _) else 23) = _
              rw [← hK, hoe, ← hMi, ← hDD, if_pos h1, if_neg (by rw [h2]; simp)])
            have hpar : ∀ ww nn A' c', Tab ww g m s T nn → nn ≤ 790000 → Rd ww (fun b => b = s) 2 A' (1 + v.k) ((v.r :: v.ps).flatMap Ty.cells) → Calls Try.prog 22 #[.pointer (some ⟨g, 0, none⟩), .slice A' (1 + v.k) c'] ww (fun e w' => e = .returned (.bool K) ∧ Tab w' g m s T (nn + (1 + v.k)) ∧ Keep (fun b => b = s) ww w') := fun ww nn A' c' h1 h2 h3 => by
              rw [hK]
              refine knownt_any g m s nn T A' (1 + v.k) c' (v.r :: v.ps) ww h1 (by omega) h3 (by have := hmw.2.1; simp; omega) (by have := hmf.2.2.1; omega) (fun t ht => ?_)
              rcases List.mem_cons.1 ht with rfl | ht
              · exact hmw.2.2.2.2.1
              · exact hmw.2.2.2.2.2 t ht
            have hsame : ∀ ww, Below B w ww → Calls Try.prog 28 #[v.val, ov.val] ww (Gives ww (.bool D)) := fun ww hb => by
              have hsz := hb.size
              rw [hDD]
              exact sigsame_any v ov ww ((hmw.below hb).weak (fun k hk => by omega)) ((hoat.below hb).weak (fun k hk => by omega))
            have HPAR := hide hpar
            have HSAME := hide hsame
            have HSE := hide hse
            have hmk : v.k ≤ 10 := hmf.2.2.1
            have HMW := hide hmw
            clear hmw hmf hret hoat huniq hoe hse hK hMi hDD hpar hsame
            obtain ⟨mn, mst, mA, mk, mc, mps, mrn, mra⟩ := v
            simp only at hmk
            have q0 : wr.cell? ⟨x, o + j * 5, none⟩ = some (S mn) := hcell 0 _ rfl
            have q1 : wr.cell? ⟨x, o + j * 5 + 1, none⟩ = some (.bool mst) := hcell 1 _ rfl
            have q2 : wr.cell? ⟨x, o + j * 5 + 2, none⟩ = some (.slice mA mk mc) := hcell 2 _ rfl
            have q3 : wr.cell? ⟨x, o + j * 5 + 3, none⟩ = some (S mrn) := hcell 3 _ rfl
            have q4 : wr.cell? ⟨x, o + j * 5 + 4, none⟩ = some (.bool mra) := hcell 4 _ rfl
            obtain ⟨w2, hw2⟩ : ∃ w2, w2 = (wr.alloc (.cells #[S mn, .bool mst, .slice mA mk mc, S mrn, .bool mra] 56)).alloc (.cells #[S mrn, .bool mra] 45) := ⟨_, rfl⟩
            have hk2 : Keep (fun _ => False) wr w2 := by rw [hw2]; exact ((Keep.refl _ wr).alloc _).alloc _
            have hm2 : Blk w2 wr.heap.size 56 #[S mn, .bool mst, .slice mA mk mc, S mrn, .bool mra] := by rw [hw2]; exact (Blk.new _ _ _).alloc _
            have hown2 : w2.ownsRow (wr.heap.size + 1) 45 2 (.slice (some ⟨wr.heap.size + 1, 0, none⟩) 1 1) 1 [S mrn, .bool mra] := by
              rw [hw2]
              refine ⟨by simp, .inr ⟨wr.heap.size + 1, 1, #[S mrn, .bool mra], rfl, by omega, ?_, by omega, by unfold maxLen; omega, by simp, by simp⟩⟩
              have := heap_alloc_new (wr.alloc (.cells #[S mn, .bool mst, .slice mA mk mc, S mrn, .bool mra] 56)) (.cells #[S mrn, .bool mra] 45)
              rw [World.size_alloc] at this
              exact this
            have hrd2 : Rd w2 (fun k => B ≤ k) 2 mA mk (mps.flatMap Ty.cells) := HMW.out.1.below ((hC.bel hBs hBw).trans (hk2.below (by have := hC.kp.size; omega) (fun k hk => absurd hk id)))
            have hsz2 : wr.heap.size + 1 ≤ w2.heap.size := by rw [hw2]; simp
            rw [hw2] at hown2 hrd2 hsz2
            have hbw := hfb.lt
            have hsr := hC.tab.slt
            clear hcell
            go_wp2_with (at_builtin; refine app_rd rfl (.tmp 101) (.tmp 103) 54 rfl (wr.heap.size + 1) 45 _ 2 24 Try.underlying54 ty_info rfl (by decide) (.slice (some ⟨wr.heap.size + 1, 0, none⟩) 1 1) 1 [S mrn, .bool mra] rfl hown2 mA mk mc (mps.flatMap Ty.cells) rfl hrd2 (ty_one _) (by unfold maxLen; omega) (by omega) hsz2 ?_; intro A' c' w3 hown3 hgrow3 _)
            have hgrow3' : w2.grownBy w3 (some (wr.heap.size + 1)) := by rw [hw2]; exact hgrow3
            have hk3 : Keep (fun _ => False) wr w3 := hk2.grown hgrow3' (fun k hk hlt => by injection hk with hk; omega)
            have hC3 := hC.step (hC.tab.keep hk3 id id id) (hk3.mono (fun _ _ h => absurd h id))
            have hfb3 := hfb.keep hk3 id
            have hm3 := hm2.grown hgrow3' (by simp)
            have hrd3 : Rd w3 (fun b => b = s) 2 A' (1 + mk) (((⟨mrn, mra⟩ : Ty) :: mps).flatMap Ty.cells) := Rd.of_own2 (base := wr.heap.size + 1) (e := 45) (c := c') (by simpa using hown3) (fun k hk e => by omega)
            have hpa := HPAR.out w3 _ A' c' hC3.tab (by omega) hrd3
            have HPA := hide hpa
            clear hgrow3 hgrow3' hk3 hk2 hown3 hown2 hrd2 hrd3 hpa hw2 hm2 hC hfb HPAR q0 q1 q2 q3 q4 hsz2
            refine HPA.out.mono ?_
            rintro e w4 ⟨rfl, ht4, hk4⟩
            have hC4 := hC3.step ht4 hk4
            have hfb4 := hfb3.keep hk4 (by omega)
            have hm4 := hm3.keep hk4 (by omega)
            have c1 : w4.cell? ⟨bf, 1, none⟩ = some (S fsu) := hfb4.cell 1
            have m0 : w4.cell? ⟨wr.heap.size, 0, none⟩ = some (S mn) := hm4.cell 0
            clear ht4 hk4 hC3 hfb3 hm3 HPA
            cases K
            case false =>
              have HX : Hid (R = 23) := hide (by rw [HE.out]; simp)
              go_wp2_with fail
              go_ret
              exact ⟨by rw [HX.out] <;> rfl, hC4.tab.mono (by omega), hC4.kp⟩
            case true =>
              go_wp2_with fail
              refine (HSE.out _ _ hC4 (by omega)).mono ?_
              rintro e w5 ⟨rfl, ht5, hk5⟩
              have hC5 := (hC4.step ht5 hk5).alloc (.cells #[S ov.n, .bool ov.st, .slice ov.A ov.k ov.c, S ov.r.n, .bool ov.r.a] 56)
              have hfb5 := (hfb4.keep hk5 (by omega)).alloc (.cells #[S ov.n, .bool ov.st, .slice ov.A ov.k ov.c, S ov.r.n, .bool ov.r.a] 56)
              have hm5 := (hm4.keep hk5 (by omega)).alloc (.cells #[S ov.n, .bool ov.st, .slice ov.A ov.k ov.c, S ov.r.n, .bool ov.r.a] 56)
              obtain ⟨m0', m1', m2', m3', m4'⟩ := cells1 hm5
              clear ht5 hk5 hC4 hfb4 hm4 c1 m0 HSE
              cases Mi
              case false =>
                have HZ := hide (HE2.out (by first | rfl | trivial) (by simp))
                go_wp2_with fail
                go_roundw
                case rel => exact ⟨j + 1, by omega, by go_num, hC5.mono (by omega), hfb5, HZ.out⟩
                case measure => simp [intOf]; omega
              case true =>
                cases mst
                case true =>
                  have HZ := hide (HE2.out (by first | rfl | trivial) (by simp))
                  go_wp2_with fail
                  go_roundw
                  case rel => exact ⟨j + 1, by omega, by go_num, hC5.mono (by omega), hfb5, HZ.out⟩
                  case measure => simp [intOf]; omega
                case false =>
                  have hb5 := hC5.bel hBs hBw
                  go_wp2_with fail
                  refine (HSAME.out _ hb5).mono ?_
                  rintro e w6 ⟨rfl, hb6⟩
                  have hC6 := hC5.below hb6
                  have hfb6 := hfb5.below hb6 hfb5.lt
                  clear hb6 hb5 hC5 hfb5 hm5 m0' m1' m2' m3' m4'
                  cases D
                  case true =>
                    have HZ := hide (HE2.out (by first | rfl | trivial) (by simp))
                    go_wp2_with fail
                    go_roundw
                    case rel => exact ⟨j + 1, by omega, by go_num, hC6.mono (by omega), hfb6, HZ.out⟩
                    case measure => simp [intOf]; omega
                  case false =>
                    have HX : Hid (R = 27) := hide (by rw [HE.out]; simp)
                    go_wp2_with fail
                    go_ret
                    exact ⟨by rw [HX.out] <;> rfl, hC6.tab.mono (by omega), hC6.kp⟩
          · have HX : Hid (R = 0) := hide (by rw [HRM.out, HCH.out, List.drop_of_length_le (by have := HFML.out; omega)]; rfl)
            go_wp2_with fail
            go_ret
            exact ⟨by rw [HX.out] <;> rfl, hC.tab.mono (by omega), hC.kp⟩
end Go.Proofs.Ytmhnfilingebfaa
