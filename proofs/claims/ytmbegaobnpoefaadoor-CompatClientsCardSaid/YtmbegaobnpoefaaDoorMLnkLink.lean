/- link.Link, walked; no statement of the seat is proved here. (Written by gen/vlnk2.py.) -/
import Derived.Test.YtmbegaobnpoefaaDoorMTk
import Derived.Test.YtmbegaobnpoefaaDoorMLnkOps
import Derived.Test.YtmbegaobnpoefaaDoorMLnkPool
import Derived.Test.YtmbegaobnpoefaaDoorMHierNewH
import Derived.Test.YtmbegaobnpoefaaDoorMOpRightC
import Derived.Test.YtmbegaobnpoefaaDoorMCliChkM
import Derived.BigRegion
import Derived.Deep.AppendLies
import Derived.Deep.RegionLaw
namespace Go.Proofs.YtmbegaobnpoefaaDoor
open Go.RowKit Go.Maps
set_option linter.unusedVariables false
set_option linter.unusedSimpArgs false
def FlsAt (w : World) (F : Nat → Prop) (A : Option Addr) (n : Nat) (Fs : List Fl) : Prop := Rd w F 10 A n (Fs.flatMap Fl.cells) ∧ Fs.length = n ∧ n ≤ 9223372036854775807 ∧ ∀ f ∈ Fs, f.at_ w F
structure LinkOk (Fs : List Fl) : Prop where
 right : ∀ f ∈ Fs, f.pl.right = true
 nodup : (Fs.map (·.f.n)).Nodup
 chk : ∀ f ∈ Fs, chk (Fs.map (·.f)) f.f.n = 0
 pool : ∀ f ∈ Fs, poolP (Fs.map (·.f)) f.ppl = true
theorem not_twice {Fs : List Fl} {j : Nat} (hj : j < Fs.length) (h : (fget (Fs.take j) Fs[j].f.n).isSome = true) : ¬ (Fs.map (·.f.n)).Nodup := by
 intro hn
 obtain ⟨g, hg⟩ := Option.isSome_iff_exists.1 h
 obtain ⟨h1, h2⟩ := fget_mem hg
 have e : Fs = Fs.take j ++ Fs[j] :: Fs.drop (j + 1) := by rw [← List.drop_eq_getElem_cons hj, List.take_append_drop]
 rw [e, List.map_append, List.nodup_append] at hn
 exact hn.2.2 _ (List.mem_map_of_mem h1) _ (List.mem_map_of_mem (List.mem_cons_self ..)) h2
theorem nodup_snoc {X : List Fl} {f : Fl} (h : (X.map (·.f.n)).Nodup) (hf : (fget X f.f.n).isSome = false) : ((X ++ [f]).map (·.f.n)).Nodup := by
 rw [List.map_append, List.nodup_append]
 refine ⟨h, by simp, fun a ha b hb e => ?_⟩
 rw [List.mem_map] at ha
 obtain ⟨g, hg, rfl⟩ := ha
 simp at hb
 exact fget_none hf g hg (e.trans hb)
def LinkEnd (Fs : List Fl) (w : World) (e : Ending) (w' : World) : Prop := ∃ (P : Value) (z : Int), e = .returned (.tuple #[P, .int .i64 z]) ∧ (z = 0 ↔ LinkOk Fs) ∧ Below w.heap.size w w' ∧
   (z = 0 → ∃ gi g m s mf nn nA nc, P = .pointer (some ⟨gi, 0, none⟩) ∧ Im w' (fun k => k = s ∨ w'.heap.size ≤ k) gi g m s nn mf (Fs.map (·.f)) Fs nA nc ∧ nn ≤ 50000 ∧ w.heap.size ≤ s)
theorem fc_info : (Tryd.prog.info? 43).map (fun i => (i.zero, i.size, i.bytes)) = some (some (.agg #[.string { data := #[] }, .string { data := #[] }, .slice none 0 0, .slice none 0 0]), 4, 80) := by kernel_rfl
set_option maxRecDepth 100000 in
set_option maxHeartbeats 8000000 in
theorem link_any (A : Option Addr) (n c : Nat) (Fs : List Fl) (w : World) (hm : Laid w) (h : FlsAt w (fun k => w.heap.size ≤ k) A n Fs) (hn : n ≤ 8) (hk : ∀ f ∈ Fs, f.f.fewM ∧ f.cl ≤ 20 ∧ f.tl ≤ 20 ∧ f.dl ≤ 20 ∧ f.ml ≤ 20) :
  Calls Tryd.prog 6 #[.slice A n c] w (LinkEnd Fs w) := by
 obtain ⟨hr, hl, _, hat⟩ := h
 obtain ⟨w2, hw2⟩ : ∃ y, y = (w.alloc (.map #[] 0)).alloc (.cells #[.pointer none, .map (some w.heap.size), .slice none 0 0] 39) := ⟨_, rfl⟩
 have hb2 : Below w.heap.size w w2 := by rw [hw2]; exact ((Below.refl _ _).alloc (Nat.le_refl _) _).alloc (by simp) _
 have HL2 : Hid (Lk w w2 (w.heap.size + 1) w.heap.size [] [] none 0 [] none 0) := hide (by
  refine ⟨?_, ?_, World.ownsRow_nil _ _ _ _, World.ownsRow_nil _ _ _ _, hb2, by omega, by omega⟩
  ·rw [hw2]
   have h9 := Blk.new (w.alloc (.map #[] 0)) 39 #[.pointer none, .map (some w.heap.size), .slice none 0 0]
   rwa [World.size_alloc] at h9
  ·rw [hw2]; exact (FMapIs.made w).of_block (Below.heap_alloc _ _ _ (by simp)))
 have HM := hide hm
 have HRD := hide hr
 have HAT := hide hat
 have HFW := hide hk
 have hmm := @run_makeMap Tryd.prog
 have hb2s := hb2.size
 clear hm hr hat hk hb2
 go_enter Tryd.func6, Tryd.ntmps6
 go_upto_region 5 with fail
 rw [← hw2]
 clear hw2 hmm
 obtain ⟨gi, hgi⟩ : ∃ y, y = w.heap.size + 1 := ⟨_, rfl⟩
 obtain ⟨mf, hmf⟩ : ∃ y, y = w.heap.size := ⟨_, rfl⟩
 rw [← hgi, ← hmf] at HL2
 rw [← hgi]
 have hgm : w.heap.size ≤ gi ∧ w.heap.size ≤ mf ∧ gi < w2.heap.size := ⟨by omega, by omega, HL2.out.bk.lt⟩
 clear hgi hmf
 go_wp2_with fail
 go_loopw [4, 21] (fun v4 v21 wr => ∃ (j : Nat) (nA fA : Option Addr) (nc fc : Nat) (X : List Fl), j ≤ n ∧ v21 = .int .i64 j ∧ v4 = .slice fA j fc ∧ Hid (X = Fs.take j) ∧ Hid (Lk w wr gi mf X (X.map (·.f.n)) nA nc (X.map (·.f)) fA fc) ∧ Hid (FUniq X ∧ (X.map (·.f.n)).Nodup ∧ ∀ f ∈ X, f.pl.right = true)) (fun _ v21 _ => n - (intOf v21).toNat)
 case atStart => exact ⟨0, none, none, 0, 0, [], Nat.zero_le _, rfl, rfl, hide (by simp), HL2, hide ⟨FUniq.nil, by simp, by simp⟩⟩
 case round =>
  obtain ⟨j, nA, fA, nc, fc, X, hj, rfl, rfl, HX, HL, HD⟩ := hrel
  clear HL2
  have hXl : X.length = j := by rw [HX.out, List.length_take]; omega
  by_cases hlt : j < n
  case pos =>
   have hj2 : j < Fs.length := by omega
   have hwrb := HL.out.be
   obtain ⟨bb, o, rfl, hbs, hbl2, hcx⟩ := Rd.rec_ (f := Fl.cells) (fun _ => rfl) (HRD.out.below hwrb) hl j hlt
   obtain ⟨f, hf⟩ : ∃ f, f = Fs[j] := ⟨_, rfl⟩
   rw [← hf] at hcx
   have hfm : f ∈ Fs := hf ▸ List.getElem_mem hj2
   have HFJ := hide hf
   have HFM := hide hfm
   have m0 : wr.cell? ⟨bb, o + j * 10, none⟩ = some (S f.f.n) := hcx 0 _ rfl
   have m1 : wr.cell? ⟨bb, o + j * 10 + 1, none⟩ = some (S f.f.su) := hcx 1 _ rfl
   have m2 : wr.cell? ⟨bb, o + j * 10 + 2, none⟩ = some (.slice f.f.fA f.f.fl f.f.fc) := hcx 2 _ rfl
   have m3 : wr.cell? ⟨bb, o + j * 10 + 3, none⟩ = some (.slice f.f.mA f.f.ml f.f.mc) := hcx 3 _ rfl
   have m4 : wr.cell? ⟨bb, o + j * 10 + 4, none⟩ = some (.slice f.nA f.nl f.nc) := hcx 4 _ rfl
   have m5 : wr.cell? ⟨bb, o + j * 10 + 5, none⟩ = some (.slice f.cA f.cl f.cc) := hcx 5 _ rfl
   have m6 : wr.cell? ⟨bb, o + j * 10 + 6, none⟩ = some (.slice f.tA f.tl f.tc) := hcx 6 _ rfl
   have m7 : wr.cell? ⟨bb, o + j * 10 + 7, none⟩ = some (.slice f.dA f.dl f.dc) := hcx 7 _ rfl
   have m8 : wr.cell? ⟨bb, o + j * 10 + 8, none⟩ = some (.slice f.mA f.ml f.mc) := hcx 8 _ rfl
   have m9 : wr.cell? ⟨bb, o + j * 10 + 9, none⟩ = some (.slice f.bA f.bl f.bc) := hcx 9 _ rfl
   have hfs : short f.f.n := (HAT.out f hfm).fa.2.2.1
   clear hf hfm hcx hwrb
   go_upto_region 8 with fail
   obtain ⟨w4, hw4⟩ : ∃ y, y = wr.alloc (.cells #[S f.f.n, S f.f.su, .slice f.f.fA f.f.fl f.f.fc, .slice f.f.mA f.f.ml f.f.mc, .slice f.nA f.nl f.nc, .slice f.cA f.cl f.cc, .slice f.tA f.tl f.tc, .slice f.dA f.dl f.dc, .slice f.mA f.ml f.mc, .slice f.bA f.bl f.bc] 52) := ⟨_, rfl⟩
   obtain ⟨b7, hb7⟩ : ∃ y, y = wr.heap.size := ⟨_, rfl⟩
   have hbe : Below wr.heap.size wr w4 := by rw [hw4]; exact (Below.refl _ _).alloc (Nat.le_refl _) _
   have HB7 : Hid (Blk w4 b7 52 #[S f.f.n, S f.f.su, .slice f.f.fA f.f.fl f.f.fc, .slice f.f.mA f.f.ml f.f.mc, .slice f.nA f.nl f.nc, .slice f.cA f.cl f.cc, .slice f.tA f.tl f.tc, .slice f.dA f.dl f.dc, .slice f.mA f.ml f.mc, .slice f.bA f.bl f.bc]) := hide (by rw [hw4, hb7]; exact Blk.new _ _ _)
   have HL4 := hide (HL.out.below hbe)
   have hwb7 : wr.heap.size ≤ b7 := by omega
   rw [show (wr.alloc (.cells #[.string { data := f.f.n.toArray }, .string { data := f.f.su.toArray }, .slice f.f.fA f.f.fl f.f.fc, .slice f.f.mA f.f.ml f.f.mc, .slice f.nA f.nl f.nc, .slice f.cA f.cl f.cc, .slice f.tA f.tl f.tc, .slice f.dA f.dl f.dc, .slice f.mA f.ml f.mc, .slice f.bA f.bl f.bc] 52)) = w4 from hw4.symm]
   rw [← hb7]
   clear hw4 hb7 hbe HL m0 m1 m2 m3 m4 m5 m6 m7 m8 m9
   obtain ⟨V, hV⟩ : ∃ y, y = fileF X f.f.n := ⟨_, rfl⟩
   obtain ⟨Q, hQ⟩ : ∃ y, y = (fget X f.f.n).isSome := ⟨_, rfl⟩
   have HQ := hide (fun _ : Unit => hQ)
   have hlk := HL4.out.drew.fm.look hfs
   have hlk2 : ∀ o, (Instr.lookup 36 (.map (some mf)) (S f.f.n) true).run Tryd.prog (w4.alloc o).drew = .ok (.tuple #[(fileF X f.f.n).val, .bool (fget X f.f.n).isSome]) (w4.alloc o).drew := fun o => (HL4.out.below ((Below.refl _ _).alloc (Nat.le_refl _) o)).drew.fm.look hfs
   rw [← hV, ← hQ] at hlk hlk2
   clear hV hQ
   have g1 : w4.cell? ⟨gi, 1, none⟩ = some (.map (some mf)) := HL4.out.bk.cell 1
   have g1' : ∀ o, (w4.alloc o).cell? ⟨gi, 1, none⟩ = some (.map (some mf)) := fun o => (HL4.out.bk.alloc o).cell 1
   have n0 : w4.cell? ⟨b7, 0, none⟩ = some (S f.f.n) := HB7.out.cell 0
   have n0' : ∀ o, (w4.alloc o).cell? ⟨b7, 0, none⟩ = some (S f.f.n) := fun o => (HB7.out.alloc o).cell 0
   go_region
   go_upto_region 9 with fail
   refine name_world ?_
   intro w6 hw6
   have HL6 := hide (show Lk w w6 gi mf X (X.map (·.f.n)) nA nc (X.map (·.f)) fA fc by rw [hw6]; exact (HL4.out.below ((Below.refl _ _).alloc (Nat.le_refl _) _)).drew)
   have HB6 : Hid (Blk w6 b7 52 #[S f.f.n, S f.f.su, .slice f.f.fA f.f.fl f.f.fc, .slice f.f.mA f.f.ml f.f.mc, .slice f.nA f.nl f.nc, .slice f.cA f.cl f.cc, .slice f.tA f.tl f.tc, .slice f.dA f.dl f.dc, .slice f.mA f.ml f.mc, .slice f.bA f.bl f.bc]) := hide (by rw [hw6]; exact (HB7.out.alloc _).drew)
   clear hw6 hlk hlk2 g1 g1' n0 n0' HL4 HB7
   have m0 : w6.cell? ⟨b7, 0, none⟩ = some (S f.f.n) := HB6.out.cell 0
   have m1 : w6.cell? ⟨b7, 1, none⟩ = some (S f.f.su) := HB6.out.cell 1
   have m2 : w6.cell? ⟨b7, 2, none⟩ = some (.slice f.f.fA f.f.fl f.f.fc) := HB6.out.cell 2
   have m3 : w6.cell? ⟨b7, 3, none⟩ = some (.slice f.f.mA f.f.ml f.f.mc) := HB6.out.cell 3
   have m4 : w6.cell? ⟨b7, 4, none⟩ = some (.slice f.nA f.nl f.nc) := HB6.out.cell 4
   have m5 : w6.cell? ⟨b7, 5, none⟩ = some (.slice f.cA f.cl f.cc) := HB6.out.cell 5
   have m6 : w6.cell? ⟨b7, 6, none⟩ = some (.slice f.tA f.tl f.tc) := HB6.out.cell 6
   have m7 : w6.cell? ⟨b7, 7, none⟩ = some (.slice f.dA f.dl f.dc) := HB6.out.cell 7
   have m8 : w6.cell? ⟨b7, 8, none⟩ = some (.slice f.mA f.ml f.mc) := HB6.out.cell 8
   have m9 : w6.cell? ⟨b7, 9, none⟩ = some (.slice f.bA f.bl f.bc) := HB6.out.cell 9
   obtain ⟨Y, hY⟩ : ∃ y, y = f.pl.right := ⟨_, rfl⟩
   have HRG : Hid (Calls Tryd.prog 14 #[f.val] w6 (Gives w6 (.bool Y))) := hide (by rw [hY]; exact fright_any f w6 (HM.out.below HL6.out.be (Nat.le_refl _)) (((HAT.out f HFM.out).below HL6.out.be).weak (fun k hk => by have := HL6.out.be.size; omega)))
   have HY := hide (fun _ : Unit => hY)
   clear hY
   cases Y
   case false =>
    go_wp2_with (go_at_call 14; refine HRG.out.mono ?_; rintro e w8 ⟨rfl, hb8⟩; have HB8 := hide hb8; clear hb8)
    go_ret2
    exact ⟨.pointer none, 2, rfl, ⟨fun e => absurd e (by decide), fun h => by have h9 := h.right f HFM.out; rw [← HY.out ()] at h9; cases h9⟩, HL6.out.be.trans (HB8.out.mono HL6.out.be.size), fun e => absurd e (by decide)⟩
   case true =>
    cases Q
    case true =>
     have hnt : ¬ (Fs.map (·.f.n)).Nodup := not_twice hj2 (by rw [← HFJ.out, ← HX.out]; exact (HQ.out ()).symm)
     have HNT := hide hnt
     clear hnt
     go_wp2_with (go_at_call 14; refine HRG.out.mono ?_; rintro e w8 ⟨rfl, hb8⟩; have HB8 := hide hb8; clear hb8)
     go_ret2
     exact ⟨.pointer none, 6, rfl, ⟨fun e => absurd e (by decide), fun h => absurd h.nodup HNT.out⟩, HL6.out.be.trans (HB8.out.mono HL6.out.be.size), fun e => absurd e (by decide)⟩
    case false =>
     go_upto_region 13 with (go_at_call 14; refine HRG.out.mono ?_; rintro e w8 ⟨rfl, hb8⟩; have HB8 := hide hb8; clear hb8)
     have HL8 := hide (HL6.out.below HB8.out)
     have HB78 := hide (HB6.out.below HB8.out HB6.out.lt)
     clear HL6 HB6 HB8 HRG m0 m1 m2 m3 m4 m5 m6 m7 m8 m9
     have m0 : w8.cell? ⟨b7, 0, none⟩ = some (S f.f.n) := HB78.out.cell 0
     have m1 : w8.cell? ⟨b7, 1, none⟩ = some (S f.f.su) := HB78.out.cell 1
     have m2 : w8.cell? ⟨b7, 2, none⟩ = some (.slice f.f.fA f.f.fl f.f.fc) := HB78.out.cell 2
     have m3 : w8.cell? ⟨b7, 3, none⟩ = some (.slice f.f.mA f.f.ml f.f.mc) := HB78.out.cell 3
     have m4 : w8.cell? ⟨b7, 4, none⟩ = some (.slice f.nA f.nl f.nc) := HB78.out.cell 4
     have m5 : w8.cell? ⟨b7, 5, none⟩ = some (.slice f.cA f.cl f.cc) := HB78.out.cell 5
     have m6 : w8.cell? ⟨b7, 6, none⟩ = some (.slice f.tA f.tl f.tc) := HB78.out.cell 6
     have m7 : w8.cell? ⟨b7, 7, none⟩ = some (.slice f.dA f.dl f.dc) := HB78.out.cell 7
     have m8 : w8.cell? ⟨b7, 8, none⟩ = some (.slice f.mA f.ml f.mc) := HB78.out.cell 8
     have m9 : w8.cell? ⟨b7, 9, none⟩ = some (.slice f.bA f.bl f.bc) := HB78.out.cell 9
     have g1 : w8.cell? ⟨gi, 1, none⟩ = some (.map (some mf)) := HL8.out.bk.cell 1
     obtain ⟨D, hD, hatD⟩ := HL8.out.fm
     have HDD := hide hD
     have HDA := hide hatD
     clear hD hatD
     have hkey := key_S hfs
     go_still_tail 8, (by kernel_rfl)
     refine wpList_mapUpdate_own w8.drew rfl _ _ _ 36 rfl 9 52 klaw Tryd.underlying36 heldR mf X.length D rfl HDD.out.drew (by unfold maxLen; omega) _ _ _ rfl rfl hkey (.held f.val) [] rfl ?_
     intro w9 hown hgrow
     have HL9 : Hid (Lk w w9 gi mf (X ++ [f]) (X.map (·.f.n)) nA nc (X.map (·.f)) fA fc) := hide (HL8.out.drew.put ⟨_, hown, fput_is HDD.out.isMap HDA.out⟩ (by simp) hgrow)
     have hb79 : Blk w9 b7 52 #[S f.f.n, S f.f.su, .slice f.f.fA f.f.fl f.f.fc, .slice f.f.mA f.f.ml f.f.mc, .slice f.nA f.nl f.nc, .slice f.cA f.cl f.cc, .slice f.tA f.tl f.tc, .slice f.dA f.dl f.dc, .slice f.mA f.ml f.mc, .slice f.bA f.bl f.bc] := HB78.out.drew.grown hgrow (fun e => by injection e with e; exact blk_map_ne HB78.out HDD.out e)
     have HB79 := hide hb79
     clear hown hgrow hb79 HL8 HB78 g1 HDD HDA m0 m1 m2 m3 m4 m5 m6 m7 m8 m9
     go_upto_region 14 with fail
     have hXn : (X.map (·.f.n)).length = j := by rw [List.length_map]; exact hXl
     have hXf : (X.map (·.f)).length = j := by rw [List.length_map]; exact hXl
     have n2 : w9.cell? ⟨gi, 2, none⟩ = some (.slice nA j nc) := by have h9 := HL9.out.bk.cell 2; rw [hXn] at h9; exact h9
     have n2' : ((w9.alloc (.cells #[S f.f.n] 9)).drew).cell? ⟨gi, 2, none⟩ = some (.slice nA j nc) := by have h9 := (HL9.out.bk.alloc (.cells #[S f.f.n] 9)).drew.cell 2; rw [hXn] at h9; exact h9
     have m0 : w9.cell? ⟨b7, 0, none⟩ = some (S f.f.n) := HB79.out.cell 0
     have m0' : ((w9.alloc (.cells #[S f.f.n] 9)).drew).cell? ⟨b7, 0, none⟩ = some (S f.f.n) := (HB79.out.alloc _).drew.cell 0
     have hoD : ((w9.alloc (.cells #[S f.f.n] 9)).drew).ownsRow w.heap.size 9 1 (.slice nA j nc) j ((X.map (·.f.n)).map S) := by have h9 := HL9.out.nr.alloc (.cells #[S f.f.n] 9); rw [hXn] at h9; exact h9
     have hnD : ∀ k u, [S f.f.n][k]? = some u → ((w9.alloc (.cells #[S f.f.n] 9)).drew).cell? ((⟨w9.heap.size, 0, none⟩ : Addr).add k) = some u := cell_one_new w9 _ _
     have h1c : ∀ u ∈ [S f.f.n], u.oneCell' = true := by intro u hu; rw [List.mem_singleton] at hu; subst hu; rfl
     obtain ⟨i0, hi0, hz0, hz1, hz2⟩ := info_parts str_info
     have hws9 := HL9.out.be.size
     have hgb : (Value.slice nA j nc).ownBlock ≠ some gi := by have h9 := own_blk_ne HL9.out.nr HL9.out.bk (by decide); rw [hXn] at h9; exact h9
     have hgl9 := HL9.out.bk.lt
     have hj5 : ∀ w5 : World, ((w9.alloc (.cells #[S f.f.n] 9)).drew).grownBy w5 (Value.slice nA j nc).ownBlock → w5.frozen? ⟨gi, 2, none⟩ = false ∧ w5.cell? ⟨gi, 2, none⟩ = some (.slice nA j nc) := fun w5 hg => by
      have e1 := (HL9.out.bk.alloc (.cells #[S f.f.n] 9)).drew.grown hg (fun e => hgb e.symm)
      have h9 := e1.cell 2
      rw [hXn] at h9
      exact ⟨e1.frozen 2, h9⟩
     go_region_law (refine step_append_lies _ rfl (.tmp 54) (.tmp 58) 37 rfl w.heap.size 9 i0 (.string { data := #[] }) 1 16 Tryd.underlying37 hi0 hz0 hz1 hz2 rfl (by decide) _ _ _ rfl hoD ⟨w9.heap.size, 0, none⟩ 1 1 [S f.f.n] rfl rfl hnD h1c (by decide) (by unfold maxLen; omega) (by omega) (by simp; omega) (w9.heap.size + 1) (by simp) ?_; intro g' cap' w5 hown5 hgrow5 hat5 _; obtain ⟨k0, k1⟩ := hj5 w5 hgrow5)
     all_goals
      have HL10 := hide (show Lk w ((w9.alloc (.cells #[S f.f.n] 9)).drew) gi mf (X ++ [f]) (X.map (·.f.n)) nA nc (X.map (·.f)) fA fc from (HL9.out.below ((Below.refl _ _).alloc (Nat.le_refl _) _)).drew)
      have HLN : Hid (Lk w (w5.setCell ⟨gi, 2, none⟩ (.slice (some ⟨g', 0, none⟩) (j + 1) cap')) gi mf (X ++ [f]) (X.map (·.f.n) ++ [f.f.n]) (some ⟨g', 0, none⟩) cap' (X.map (·.f)) fA fc) := hide (by have hg9 : ((w9.alloc (.cells #[S f.f.n] 9)).drew).grownBy w5 (Value.slice nA j nc).ownBlock := hgrow5; have h9 := HL10.out.name (nm := f.f.n) (nA' := some ⟨g', 0, none⟩) (nc' := cap') (w' := w5); rw [hXn] at h9; exact h9 hown5 hg9)
      have HBN : Hid (Blk (w5.setCell ⟨gi, 2, none⟩ (.slice (some ⟨g', 0, none⟩) (j + 1) cap')) b7 52 #[S f.f.n, S f.f.su, .slice f.f.fA f.f.fl f.f.fc, .slice f.f.mA f.f.ml f.f.mc, .slice f.nA f.nl f.nc, .slice f.cA f.cl f.cc, .slice f.tA f.tl f.tc, .slice f.dA f.dl f.dc, .slice f.mA f.ml f.mc, .slice f.bA f.bl f.bc]) := hide (by
       have hg9 : ((w9.alloc (.cells #[S f.f.n] 9)).drew).grownBy w5 (Value.slice nA j nc).ownBlock := hgrow5
       have h8 := (HB79.out.alloc (.cells #[S f.f.n] 9)).drew
       have hne : some b7 ≠ (Value.slice nA j nc).ownBlock := by have h9 := own_blk_ne HL9.out.nr HB79.out (by decide); rw [hXn] at h9; exact fun e => h9 e.symm
       have h7 : gi ≠ b7 := HL9.out.bk.ne_ HB79.out (by decide)
       exact (h8.grown hg9 hne).far (p := ⟨gi, 2, none⟩) (fun e => h7 e.symm) _)
      clear hown5 hgrow5 hat5 k0 k1 hj5 hoD hnD n2 n2' m0 m0' HL10 HL9 HB79
      simp [go_sem, Act.put]
      go_upto_region 15 with fail
      refine name_world ?_
      intro wE hwE
      rw [← hwE] at HLN HBN
      clear hwE
      have m0 : wE.cell? ⟨b7, 0, none⟩ = some (S f.f.n) := HBN.out.cell 0
      have m1 : wE.cell? ⟨b7, 1, none⟩ = some (S f.f.su) := HBN.out.cell 1
      have m2 : wE.cell? ⟨b7, 2, none⟩ = some (.slice f.f.fA f.f.fl f.f.fc) := HBN.out.cell 2
      have m3 : wE.cell? ⟨b7, 3, none⟩ = some (.slice f.f.mA f.f.ml f.f.mc) := HBN.out.cell 3
      have HLP := hide (HLN.out.below ((Below.refl _ _).alloc (Nat.le_refl _) (.cells #[S f.f.n, S f.f.su, .slice f.f.fA f.f.fl f.f.fc, .slice f.f.mA f.f.ml f.f.mc] 43)))
      have hfr : (wE.alloc (.cells #[S f.f.n, S f.f.su, .slice f.f.fA f.f.fl f.f.fc, .slice f.f.mA f.f.ml f.f.mc] 43)).ownsRow w.heap.size 43 4 (.slice fA j fc) j ((X.map (·.f)).flatMap Fc.cells) := by have h9 := HLP.out.fr; rw [hXf] at h9; exact h9
      have HFR := hide hfr
      clear hfr
      have HNB := hide (Blk.new wE 43 #[S f.f.n, S f.f.su, .slice f.f.fA f.f.fl f.f.fc, .slice f.f.mA f.f.ml f.f.mc])
      have hwEs := HLP.out.be.size
      go_wp2_with (at_builtin; refine app_rd rfl (.tmp 62) (.tmp 65) 65 rfl w.heap.size 43 (.agg #[.string { data := #[] }, .string { data := #[] }, .slice none 0 0, .slice none 0 0]) 4 80 Tryd.underlying65 fc_info rfl (by decide) (.slice fA j fc) j _ rfl HFR.out (F := fun _ => False) (some ⟨wE.heap.size, 0, none⟩) 1 1 f.f.cells rfl (Rd.of_blk HNB.out (fun h => h) rfl) (by intro u hu; simp at hu; rcases hu with rfl | rfl | rfl | rfl <;> rfl) (by unfold maxLen; omega) (by omega) (by simp at hwEs ⊢; omega) ?_; intro A9 c9 w10 hown9 hgrow9 _)
      have HLF : Hid (Lk w w10 gi mf (X ++ [f]) (X.map (·.f.n) ++ [f.f.n]) (some ⟨g', 0, none⟩) cap' (X.map (·.f) ++ [f.f]) A9 c9) := hide (by have h9 := HLP.out.face (f := f.f) (fA' := A9) (fc' := c9) (w' := w10); rw [hXf] at h9; exact h9 hown9 hgrow9)
      clear hown9 hgrow9 HLN HLP HFR HNB HBN m0 m1 m2 m3
      go_wp2_with fail
      go_roundw
      case rel => exact ⟨j + 1, some ⟨g', 0, none⟩, A9, cap', c9, X ++ [f], by omega, by go_num, rfl, hide (by rw [HX.out, HFJ.out, List.take_add_one, List.getElem?_eq_getElem hj2]; rfl), hide (by rw [List.map_append, List.map_append]; exact HLF.out), hide ⟨HD.out.1.snoc (HQ.out ()).symm, nodup_snoc HD.out.2.1 (HQ.out ()).symm, fun y hy => by rcases List.mem_append.1 hy with h9 | h9; exact HD.out.2.2 y h9; rw [List.mem_singleton] at h9; rw [h9]; exact (HY.out ()).symm⟩⟩
      case measure => simp [intOf]; omega
  case neg =>
   have hjn : j = n := by omega
   subst hjn
   have hXF : X = Fs := by rw [HX.out]; exact List.take_of_length_le (by omega)
   subst hXF
   obtain ⟨wo, rfl⟩ : ∃ y : World, y = wr := ⟨_, rfl⟩
   have hXn : (X.map (·.f.n)).length = X.length := by rw [List.length_map]
   have hXf : (X.map (·.f)).length = X.length := by rw [List.length_map]
   have hfr := HL.out.fr
   rw [hXf, hXl] at hfr
   have HFC : Hid (FcsAt wo (fun k => wo.heap.size ≤ k) fA j (X.map (·.f))) := hide ⟨(Rd.lt_ (Rd.of_own2 (F := fun k => k < w.heap.size) hfr (fun k hk h => by omega))).weak (fun k _ h => .inr h), by rw [hXf]; exact hXl, by omega, fun y hy => by rw [List.mem_map] at hy; obtain ⟨f, hf, rfl⟩ := hy; exact (((HAT.out f hf).fa.below HL.out.be).weak (fun k hk => by have := HL.out.be.size; omega))⟩
   clear hfr
   have HNEW := hide (new_any fA j fc (X.map (·.f)) wo HFC.out (by omega))
   have g0 : wo.cell? ⟨gi, 0, none⟩ = some (.pointer none) := HL.out.bk.cell 0
   have g0f := HL.out.bk.frozen
   have hgwo := HL.out.bk.lt
   have hmfl := HL.out.fm.lt
   have HNB : Hid (∀ k, (Value.slice nA X.length nc).ownBlock = some k → k < wo.heap.size) := hide (fun k hk => by have h9 := HL.out.nr; rw [hXn] at h9; exact (own_base h9 hk).2)
   have hwwo := HL.out.be.size
   go_upto_region 18 with (go_at_call 15; refine HNEW.out.mono ?_; rintro e w12 ⟨g, m, s, rfl, ht, hb12, hg12, hm12, hs12⟩; have HT12 := hide ht; have HB12 := hide hb12; have g1 : w12.cell? ⟨gi, 0, none⟩ = some (.pointer none) := (HL.out.bk.below hb12 HL.out.bk.lt).cell 0; have g1f := (HL.out.bk.below hb12 HL.out.bk.lt).frozen; clear ht hb12)
   refine name_world ?_
   intro w13 hw13
   have HL12 := hide (HL.out.below HB12.out)
   have hks : Keep (fun k => k = gi) w12 w13 := by rw [hw13]; exact (Keep.refl (fun k => k = gi) w12).setCell (p := ⟨gi, 0, none⟩) (fun _ => rfl) _
   have HBI : Hid (Blk w13 gi 39 #[.pointer (some ⟨g, 0, none⟩), .map (some mf), .slice nA X.length nc]) := hide (by rw [hw13]; have h9 := HL12.out.bk.set_ 0 (.pointer (some ⟨g, 0, none⟩)); rw [hXn] at h9; simpa using h9)
   have HT13 := hide (HT12.out.keep hks (by omega) (by omega) (by omega))
   have HFMm : Hid (FMapIs w13 mf X.length X) := hide (HL12.out.fm.keep hks (fun e => HL12.out.fm.blk_ne HL12.out.bk e.symm))
   have HNR : Hid (w13.ownsRow w.heap.size 9 1 (.slice nA X.length nc) X.length ((X.map (·.f.n)).map S)) := hide (by have h9 := own_keep HL12.out.nr hks (fun k hk e => own_blk_ne HL12.out.nr HL12.out.bk (by decide) (by rw [hk, e])); rw [hXn] at h9; exact h9)
   have HBE : Hid (Below w.heap.size w w13) := hide (HL12.out.be.trans (hks.below (B := w.heap.size) HL12.out.be.size (fun k e => by omega)))
   clear hw13 hks g0 g0f g1 g1f HT12 HL HNEW HFC HL12 HB12
   have hsl13 := HT13.out.slt
   have hwl13 := HBE.out.size
   have HT8 : Hid ((X.map (·.f)).length ≤ 8 ∧ (∀ y ∈ X.map (·.f), short y.su) ∧ (∀ y ∈ X.map (·.f), y.fewM) ∧ ∀ y ∈ X.map (·.f), y.at_ w13 (fun k => w.heap.size ≤ k)) := hide ⟨by rw [hXf]; omega, fun y hy => by rw [List.mem_map] at hy; obtain ⟨f, hf, rfl⟩ := hy; exact (HAT.out f hf).fa.2.2.2, fun y hy => by rw [List.mem_map] at hy; obtain ⟨f, hf, rfl⟩ := hy; exact (HFW.out f hf).1, fun y hy => by rw [List.mem_map] at hy; obtain ⟨f, hf, rfl⟩ := hy; exact (HAT.out f hf).fa.below HBE.out⟩
   have HLW : Hid (∀ ww, Keep (fun b => b = s) w13 ww → Below w.heap.size w13 ww) := hide (fun ww hk => hk.below (B := w.heap.size) (by omega) (fun k hk => by omega))
   have hgis : gi ≠ s := by omega
   go_wp2_with fail
   go_loopw [75] (fun v75 wr => ∃ (i nn : Nat), i ≤ j ∧ v75 = .int .i64 i ∧ nn ≤ 5000 * i ∧ Hid (Tab wr g m s (X.map (·.f)) nn) ∧ Hid (Keep (fun b => b = s) w13 wr) ∧ Hid (∀ (k : Nat) (hk : k < X.length), k < i → chk (X.map (·.f)) X[k].f.n = 0 ∧ poolP (X.map (·.f)) X[k].ppl = true)) (fun v75 _ => j - (intOf v75).toNat)
   case atStart => exact ⟨0, 0, Nat.zero_le _, rfl, Nat.le_refl _, HT13, hide (Keep.refl _ _), hide (fun k _ h => absurd h (Nat.not_lt_zero _))⟩
   case round =>
    obtain ⟨i, nn, hi, rfl, hnn, HTR, HKR, HDD⟩ := hrel
    clear HT13
    have hwrs := HKR.out.size
    by_cases hlt : i < j
    case pos =>
     have hi2 : i < X.length := by omega
     obtain ⟨bb, o, rfl, hbs, hbl2, hcx⟩ := Rd.rec_ (f := Fl.cells) (fun _ => rfl) (HRD.out.below (HBE.out.trans (HLW.out _ HKR.out))) hl i hlt
     obtain ⟨f, hf⟩ : ∃ f, f = X[i] := ⟨_, rfl⟩
     rw [← hf] at hcx
     have hfm : f ∈ X := hf ▸ List.getElem_mem hi2
     have HFJ := hide hf
     have HFM := hide hfm
     have m0 : wr.cell? ⟨bb, o + i * 10, none⟩ = some (S f.f.n) := hcx 0 _ rfl
     have m1 : wr.cell? ⟨bb, o + i * 10 + 1, none⟩ = some (S f.f.su) := hcx 1 _ rfl
     have m2 : wr.cell? ⟨bb, o + i * 10 + 2, none⟩ = some (.slice f.f.fA f.f.fl f.f.fc) := hcx 2 _ rfl
     have m3 : wr.cell? ⟨bb, o + i * 10 + 3, none⟩ = some (.slice f.f.mA f.f.ml f.f.mc) := hcx 3 _ rfl
     have m4 : wr.cell? ⟨bb, o + i * 10 + 4, none⟩ = some (.slice f.nA f.nl f.nc) := hcx 4 _ rfl
     have m5 : wr.cell? ⟨bb, o + i * 10 + 5, none⟩ = some (.slice f.cA f.cl f.cc) := hcx 5 _ rfl
     have m6 : wr.cell? ⟨bb, o + i * 10 + 6, none⟩ = some (.slice f.tA f.tl f.tc) := hcx 6 _ rfl
     have m7 : wr.cell? ⟨bb, o + i * 10 + 7, none⟩ = some (.slice f.dA f.dl f.dc) := hcx 7 _ rfl
     have m8 : wr.cell? ⟨bb, o + i * 10 + 8, none⟩ = some (.slice f.mA f.ml f.mc) := hcx 8 _ rfl
     have m9 : wr.cell? ⟨bb, o + i * 10 + 9, none⟩ = some (.slice f.bA f.bl f.bc) := hcx 9 _ rfl
     have hfs : short f.f.n := (HAT.out f hfm).fa.2.2.1
     clear hf hfm hcx
     go_upto_region 21 with fail
     obtain ⟨w14, hw14⟩ : ∃ y, y = wr.alloc (.cells #[S f.f.n, S f.f.su, .slice f.f.fA f.f.fl f.f.fc, .slice f.f.mA f.f.ml f.f.mc, .slice f.nA f.nl f.nc, .slice f.cA f.cl f.cc, .slice f.tA f.tl f.tc, .slice f.dA f.dl f.dc, .slice f.mA f.ml f.mc, .slice f.bA f.bl f.bc] 52) := ⟨_, rfl⟩
     obtain ⟨b11, hb11⟩ : ∃ y, y = wr.heap.size := ⟨_, rfl⟩
     have hbe : Below wr.heap.size wr w14 := by rw [hw14]; exact (Below.refl _ _).alloc (Nat.le_refl _) _
     have HB11 : Hid (Blk w14 b11 52 #[S f.f.n, S f.f.su, .slice f.f.fA f.f.fl f.f.fc, .slice f.f.mA f.f.ml f.f.mc, .slice f.nA f.nl f.nc, .slice f.cA f.cl f.cc, .slice f.tA f.tl f.tc, .slice f.dA f.dl f.dc, .slice f.mA f.ml f.mc, .slice f.bA f.bl f.bc]) := hide (by rw [hw14, hb11]; exact Blk.new _ _ _)
     have HT := hide (HTR.out.below hbe)
     have HK14 : Hid (Keep (fun b => b = s) w13 w14) := hide (HKR.out.tr (keep_s' (s := s) hbe))
     have hb11s : ¬ b11 = s := by omega
     rw [show (wr.alloc (.cells #[.string { data := f.f.n.toArray }, .string { data := f.f.su.toArray }, .slice f.f.fA f.f.fl f.f.fc, .slice f.f.mA f.f.ml f.f.mc, .slice f.nA f.nl f.nc, .slice f.cA f.cl f.cc, .slice f.tA f.tl f.tc, .slice f.dA f.dl f.dc, .slice f.mA f.ml f.mc, .slice f.bA f.bl f.bc] 52)) = w14 from hw14.symm]
     rw [← hb11]
     clear hw14 hb11 hbe m0 m1 m2 m3 m4 m5 m6 m7 m8 m9
     obtain ⟨zc, hzc⟩ : ∃ y, y = chk (X.map (·.f)) f.f.n := ⟨_, rfl⟩
     have HZC := hide (fun _ : Unit => hzc)
     have HCK : Hid (∀ ww n9, Tab ww g m s (X.map (·.f)) n9 → n9 ≤ 7000000000000000 → Keep (fun b => b = s) w13 ww → Calls Tryd.prog 16 #[.pointer (some ⟨g, 0, none⟩), S f.f.n] ww (fun e w' => e = .returned (.int .i64 zc) ∧ Tab w' g m s (X.map (·.f)) (n9 + 3000) ∧ Keep (fun b => b = s) ww w')) := hide (fun ww n9 ht hn hk => by rw [hzc]; exact check_any g m s n9 w.heap.size (X.map (·.f)) f.f.n ww ht hn HT8.out.1 HT8.out.2.1 hfs (fun y hy => (HT8.out.2.2.2 y hy).below (HLW.out ww hk)) (by omega) (by have := hk.size; omega) HT8.out.2.2.1)
     clear hzc
     have HS : Hid (∀ w', Keep (fun b => b = s) w14 w' → w'.cell? ⟨gi, 0, none⟩ = some (.pointer (some ⟨g, 0, none⟩)) ∧ w'.cell? ⟨b11, 0, none⟩ = some (S f.f.n)) := hide (fun w' hk => by
      exact ⟨((HBI.out.keep HK14.out hgis).keep hk hgis).cell 0, (HB11.out.keep hk hb11s).cell 0⟩
      )
     have HR : Hid (Keep (fun b => b = s) w14 w14.drew) := hide (Keep.refl _ _).drew
     replace HT := hide HT.out.drew
     refine wp_region_noPanic ?_
     refine tkB HS HR.out (fun hHeld => ?_)
     obtain ⟨w15, hw15⟩ : ∃ x, x = w14.drew := ⟨_, rfl⟩
     rw [← hw15] at hHeld HR HT ⊢
     clear hw15
     refine tkL 0 ?_ ?_ ?_
     rotate_left
     ·(rintro wS ⟨e0, e1⟩; go_simp; try with_reducible rfl)
     try simp only [sP]
     refine tkL 1 ?_ ?_ ?_
     rotate_left
     ·(rintro wS ⟨e0, e1⟩; go_simp; try with_reducible rfl)
     try simp only [sP]
     refine tkL 2 ?_ ?_ ?_
     rotate_left
     ·(rintro wS ⟨e0, e1⟩; go_simp; try with_reducible rfl)
     try simp only [sP]
     refine tkL 3 ?_ ?_ ?_
     rotate_left
     ·(rintro wS ⟨e0, e1⟩; go_simp; try with_reducible rfl)
     try simp only [sP]
     refine tkL 4 ?_ ?_ ?_
     rotate_left
     ·(rintro wS ⟨e0, e1⟩; go_simp; try with_reducible rfl)
     try simp only [sP]
     refine tkL 5 ?_ ?_ ?_
     rotate_left
     ·(rintro wS ⟨e0, e1⟩; go_simp; try with_reducible rfl)
     try simp only [sP]
     refine tkL 6 ?_ ?_ ?_
     rotate_left
     ·(rintro wS ⟨e0, e1⟩; go_simp; try with_reducible rfl)
     try simp only [sP]
     refine tkC 7 (fun K hK => ?_)
     try rw [if_pos (by rfl)]
     go_simp
     go_at_call 16
     refine (HCK.out _ _ HT.out (by omega) (HK14.out.tr HR.out)).mono ?_
     rintro e w16 ⟨rfl, ht16, hk16⟩
     replace HT := hide ht16
     replace HR := hide (HR.out.tr hk16)
     clear ht16 hk16
     try go_wp2_with fail
     refine hK.out _ _ (HS.out _ HR.out) (fun hHeld => ?_)
     clear hK K
     try simp only [sP]
     refine tkL 8 ?_ ?_ ?_
     rotate_left
     ·(rintro wS ⟨e0, e1⟩; go_simp; try with_reducible rfl)
     try simp only [sP]
     refine wpAnyH_done (by kernel_rfl) ?_ _
     refine NoPanic.normal ?_
     have HK16 : Hid (Keep (fun b => b = s) w13 w16) := hide (HK14.out.tr HR.out)
     have HB16 := hide (HB11.out.keep HR.out hb11s)
     clear HS HR HB11 HK14 HCK
     by_cases hz0 : zc = 0
     case neg =>
      go_wp2_with fail
      go_ret2
      exact ⟨.pointer none, zc, rfl, ⟨fun e => absurd e hz0, fun h => absurd ((HZC.out ()).trans (h.chk f HFM.out)) hz0⟩, HBE.out.trans (HLW.out _ HK16.out), fun e => absurd e hz0⟩
     case pos =>
      subst hz0
      have m4 : w16.cell? ⟨b11, 4, none⟩ = some (.slice f.nA f.nl f.nc) := HB16.out.cell 4
      have m5 : w16.cell? ⟨b11, 5, none⟩ = some (.slice f.cA f.cl f.cc) := HB16.out.cell 5
      have m6 : w16.cell? ⟨b11, 6, none⟩ = some (.slice f.tA f.tl f.tc) := HB16.out.cell 6
      have m7 : w16.cell? ⟨b11, 7, none⟩ = some (.slice f.dA f.dl f.dc) := HB16.out.cell 7
      have m8 : w16.cell? ⟨b11, 8, none⟩ = some (.slice f.mA f.ml f.mc) := HB16.out.cell 8
      obtain ⟨Q, hQ⟩ : ∃ y, y = poolP (X.map (·.f)) f.ppl := ⟨_, rfl⟩
      have HQ := hide (fun _ : Unit => hQ)
      have HPL : Hid (Calls Tryd.prog 17 #[.pointer (some ⟨gi, 0, none⟩), f.pval] w16 (fun e w' => e = .returned (.bool Q) ∧ Tab w' g m s (X.map (·.f)) (nn + 3000 + 2000) ∧ Keep (fun b => b = s) w16 w')) := hide (by rw [hQ]; exact lpool_any gi g m s (nn + 3000) w.heap.size (X.map (·.f)) f _ _ w16 (HBI.out.keep HK16.out hgis) HT.out (by omega) HT8.out.1 HT8.out.2.1 ((HAT.out f HFM.out).po.below (HBE.out.trans (HLW.out _ HK16.out))) (fun y hy => (HT8.out.2.2.2 y hy).below (HLW.out _ HK16.out)) (by omega) (by have := HK16.out.size; omega) (HFW.out f HFM.out).2)
      clear hQ
      cases Q
      case false =>
       go_wp2_with (go_at_call 17; refine HPL.out.mono ?_; rintro e w17 ⟨rfl, ht17, hk17⟩; have HT17 := hide ht17; have HK17 := hide hk17; clear ht17 hk17)
       go_ret2
       exact ⟨.pointer none, 30, rfl, ⟨fun e => absurd e (by decide), fun h => by have h9 := h.pool f HFM.out; rw [← HQ.out ()] at h9; cases h9⟩, HBE.out.trans (HLW.out _ (HK16.out.tr HK17.out)), fun e => absurd e (by decide)⟩
      case true =>
       have hok : chk (X.map (·.f)) f.f.n = 0 ∧ poolP (X.map (·.f)) f.ppl = true := ⟨(HZC.out ()).symm, (HQ.out ()).symm⟩
       have HOK := hide hok
       clear hok HZC HQ
       go_wp2_with (go_at_call 17; refine HPL.out.mono ?_; rintro e w17 ⟨rfl, ht17, hk17⟩; have HT17 := hide ht17; have HK17 := hide hk17; clear ht17 hk17)
       go_roundw
       case rel => exact ⟨i + 1, _, by omega, by go_num, by omega, HT17, hide (HK16.out.tr HK17.out), hide (fun k hk h9 => by by_cases e : k = i; subst e; rw [← HFJ.out]; exact HOK.out; exact HDD.out k hk (by omega))⟩
       case measure => simp [intOf]; omega
    case neg =>
     have hij : i = j := by omega
     have HOK : Hid (LinkOk X) := hide ⟨HD.out.2.2, HD.out.2.1, fun f hf => by obtain ⟨k, hk, rfl⟩ := List.getElem_of_mem hf; exact (HDD.out k hk (by omega)).1, fun f hf => by obtain ⟨k, hk, rfl⟩ := List.getElem_of_mem hf; exact (HDD.out k hk (by omega)).2⟩
     have HNW : Hid (Rd wr (fun k => k = s ∨ wr.heap.size ≤ k) 1 nA X.length (X.map fun f => S f.f.n)) := hide (by have h9 := own_rdF (F := fun k => k = s ∨ wr.heap.size ≤ k) (own_keep HNR.out HKR.out (fun k hk e => by have := HNB.out k hk; omega)) (fun k hk e => by have := HNB.out k hk; omega); rw [List.map_map] at h9; exact h9)
     have HIMG : Hid (Im wr (fun k => k = s ∨ wr.heap.size ≤ k) gi g m s nn mf (X.map (·.f)) X nA nc) := hide ⟨⟨⟨_, _, HBI.out.keep HKR.out hgis⟩, HTR.out, HT8.out.1, HT8.out.2.1⟩, HBI.out.keep HKR.out hgis, HFMm.out.keep HKR.out (by omega), HNW.out, fun f hf => ((HAT.out f hf).below (HBE.out.trans (HLW.out _ HKR.out))).weak (fun k e => by omega), HD.out.1, by omega⟩
     go_wp2_with fail
     refine bodyPost_ret (v := .tuple #[.pointer (some ⟨gi, 0, none⟩), .int .i64 0]) ?_ rfl ?_
     ·simp [results, Tryd.results6, go_sem]
     exact ⟨.pointer (some ⟨gi, 0, none⟩), 0, rfl, ⟨fun _ => HOK.out, fun _ => rfl⟩, HBE.out.trans (HLW.out _ HKR.out), fun _ => ⟨gi, g, m, s, mf, nn, nA, nc, rfl, HIMG.out, by omega, by omega⟩⟩
end Go.Proofs.YtmbegaobnpoefaaDoor
