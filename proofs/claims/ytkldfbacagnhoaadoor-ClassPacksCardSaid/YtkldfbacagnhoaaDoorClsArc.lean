/- Archives of classes: laid, read again; no statement of the seat is proved here. -/
import Derived.Test.YtkldfbacagnhoaaDoorClsDec
import Derived.Test.YtkldfbacagnhoaaDoorClsEnc
namespace Go.Proofs.YtkldfbacagnhoaaDoor
open Go.RowKit

def arL (F : FileP) : List UInt8 := tx (fileL F)
def arcL (Fs : List FileP) : List UInt8 := vi Fs.length ++ catAll arL Fs
/-- The texts that an archive holds. -/
def unpR (l : List UInt8) : List (List UInt8) × St := secR (textR l.length) 200 (some l)
def unpOk (l : List UInt8) : Bool := (unpR l).1.all decOk && (unpR l).2 == some []
def unpF (l : List UInt8) : List FileP := (unpR l).1.map fun t => (decR t).1
theorem catAll_map {α β : Type} (g : β → List UInt8) (f : α → β) (l : List α) : catAll g (l.map f) = catAll (fun x => g (f x)) l := by
  induction l with
  | nil => rfl
  | cons x l ih => rw [List.map_cons, catAll_cons, catAll_cons, ih]
theorem catAll_congr {α : Type} {f g : α → List UInt8} {l : List α} (h : ∀ x ∈ l, f x = g x) : catAll f l = catAll g l := by
  induction l with
  | nil => rfl
  | cons x l ih => rw [catAll_cons, catAll_cons, h x (List.mem_cons_self ..), ih fun y hy => h y (List.mem_cons_of_mem _ hy)]
theorem unp_back {l : List UInt8} (h : unpOk l = true) : arcL (unpF l) = l ∧ (unpF l).length ≤ 200 ∧ ∀ F ∈ unpF l, F.right = true ∧ F.nok := by
  simp only [unpOk, Bool.and_eq_true, List.all_eq_true, beq_iff_eq] at h
  have h1 := secI (textI l.length) 200 (some l) [] (by rw [← h.2]; rfl)
  have h2 := Option.some.inj h1
  rw [List.append_nil] at h2
  refine ⟨?_, ?_, fun F hF => ?_⟩
  · have e : catAll arL (unpF l) = catAll tx (unpR l).1 := by
      unfold unpF
      rw [catAll_map]
      exact catAll_congr fun t ht => by show tx (fileL (decR t).1) = tx t; rw [dec_back (h.1 t ht)]
    rw [arcL, e]
    unfold unpF
    rw [List.length_map]
    exact h2.symm
  · unfold unpF unpR secR
    rw [List.length_map, iterR_len]
    exact manyR_le 200 _
  · obtain ⟨t, ht, rfl⟩ := List.mem_map.1 hF
    have := h.1 t ht
    simp only [decOk, Bool.and_eq_true] at this
    exact ⟨this.2, decR_nok t⟩
/-- What was laid is read again. -/
theorem unp_lay {Fs : List FileP} (hn : Fs.length ≤ 200) (u : List UInt8) (hu : (arcL Fs ++ u).length < 9223372036854775808) :
    unpR (arcL Fs ++ u) = (Fs.map fileL, some u) := by
  unfold unpR
  have e : arcL Fs = secL tx (Fs.map fileL) := by
    unfold arcL secL
    rw [List.length_map, catAll_map]
    rfl
  have hb : ∀ t ∈ Fs.map fileL, t.length ≤ (arcL Fs ++ u).length := by
    intro t ht
    obtain ⟨F, hF, rfl⟩ := List.mem_map.1 ht
    rw [List.length_append, arcL, List.length_append]
    have : (fileL F).length ≤ (catAll arL Fs).length := by
      clear hu e hn ht
      induction Fs with
      | nil => cases hF
      | cons G Fs ih =>
        rw [catAll_cons, List.length_append]
        rcases List.mem_cons.1 hF with rfl | hF
        · simp only [arL, tx, List.length_append]; omega
        · have := ih hF; omega
    omega
  have := secF (textF (arcL Fs ++ u).length hu) tx_pos 200 (by omega) (Fs.map fileL) u ⟨by rw [List.length_map]; exact hn, hb⟩
  rw [e] at this ⊢
  exact this
theorem unp_ok {Fs : List FileP} (hn : Fs.length ≤ 200) (h : ∀ F ∈ Fs, F.right = true ∧ F.nok) (hl : (arcL Fs).length < 9223372036854775808) : unpOk (arcL Fs) = true ∧ unpF (arcL Fs) = Fs := by
  have e := unp_lay hn [] (by rw [List.append_nil]; exact hl)
  rw [List.append_nil] at e
  unfold unpOk unpF
  rw [e]
  refine ⟨?_, ?_⟩
  · simp only [Bool.and_eq_true, List.all_eq_true, beq_iff_eq, and_true]
    intro t ht
    obtain ⟨F, hF, rfl⟩ := List.mem_map.1 ht
    exact (dec_lay (h F hF).2 (h F hF).1).1
  · simp only [List.map_map]
    have : ∀ F ∈ Fs, ((fun t => (decR t).1) ∘ fileL) F = F := fun F hF => (dec_lay (h F hF).2 (h F hF).1).2
    exact (List.map_congr_left this).trans (List.map_id Fs)
/-- Cut off it is none. -/
theorem unp_cut {Fs : List FileP} (hn : Fs.length ≤ 200) (hl : (arcL Fs).length < 9223372036854775808) {t u : List UInt8} (hu : u ≠ []) (e : arcL Fs = t ++ u) : unpOk t = false := by
  cases hd : unpOk t with
  | false => rfl
  | true =>
    exfalso
    obtain ⟨h1, h2, _⟩ := unp_back hd
    have hlt : (arcL (unpF t) ++ u).length < 9223372036854775808 := by rw [h1, ← e]; exact hl
    have e2 := unp_lay h2 u hlt
    have e3 := unp_lay hn [] (by rw [List.append_nil]; exact hl)
    rw [h1, ← e] at e2
    rw [List.append_nil, e2] at e3
    injection e3 with _ e4
    injection e4 with e4
    exact hu e4

theorem textR_le (m : Nat) (st : St) : (textR m st).1.length ≤ m := textR_len m st
theorem Fl.at_.tight' {w : World} {F : Nat → Prop} {f : Fl} (h : f.at_ w F) : f.at_ w (fun k => F k ∨ w.heap.size ≤ k) :=
  have hs : ∀ k, k < w.heap.size → (F k ∨ w.heap.size ≤ k) → F k := fun k hk h => h.elim id (fun h => by omega)
  { fa := h.fa.tight, po := h.po.tight, br := h.br.weak hs, bL := h.bL, bB := h.bB, bW := fun b hb => ⟨(h.bW b hb).1.weak hs, (h.bW b hb).2⟩ }
/-- A slice of files. -/
def FlsAt (w : World) (F : Nat → Prop) (A : Option Addr) (n : Nat) (Fs : List Fl) : Prop := Rd w F 10 A n (Fs.flatMap Fl.cells) ∧ Fs.length = n ∧ n ≤ 9223372036854775807 ∧ ∀ f ∈ Fs, f.at_ w F

/-- 'append(v, e)' as before, and where the new row lies. -/
theorem wpList_appC {P : Program} {w : World} {ops : Array Oper} {rest : List Oper} {o : Oper} {a : Act} {Q : Exit → Act → World → Prop} (hgd : o.guard = none) (s x : Operand) (t : TypeId)
    (ho : o.op = .call { callee := .builtin .append, args := #[s, x], argTypes := #[t, t] })
    (base : Nat) (e : TypeId) (z : Value) (size bytes : Nat) (ht : P.underlying t = some (.slice e)) (hinfo : (P.info? e).map (fun i => (i.zero, i.size, i.bytes)) = some (some z, size, bytes)) (hzs : z.cells.size = size) (hsz : 0 < size)
    (v : Value) (n : Nat) (xs : List Value) (hs : a.eval s = v) (hown : w.ownsRow base e size v n xs) (b : Nat) (news : List Value) (hx : a.eval x = .slice (some ⟨b, 0, none⟩) 1 1) (hl : news.length = size) (hb : Blk w b e news.toArray) (h1 : ∀ u ∈ news, u.oneCell' = true)
    (h63 : n + 1 ≤ maxLen) (hbytes : (n + 1) * bytes ≤ 140737488355328) (hbase : base ≤ w.heap.size)
    (h : ∀ A c w', w'.ownsRow base e size (.slice A (n + 1) c) (n + 1) (xs ++ news) → w.grownBy w' v.ownBlock → ((Value.slice A (n + 1) c).ownBlock = v.ownBlock ∨ (Value.slice A (n + 1) c).ownBlock = some w.heap.size) → wpList P ops Q rest (a.put o.dst (.slice A (n + 1) c)) w') :
    wpList P ops Q (o :: rest) a w := by
  obtain ⟨i, hi, hz, hz1, hz2⟩ := info_parts hinfo
  refine wpList_append_own_at _ hgd s x t ho base e i z size bytes ht hi hz hz1 hz2 hzs hsz v n xs hs hown ⟨b, 0, none⟩ 1 1 news hx (by omega) (fun j u hu => World.news_of_block hb j u (by simpa using hu)) h1 h63 hbytes hbase ?_
  intro v' w' hown' hg _ hat
  obtain ⟨A, c, rfl⟩ := own_slice hown'
  exact h A c w' hown' hg hat

theorem Wrote.ext {g : Nat} {v v1 : Value} {wo w' w'' : World} {bs : List UInt8} (h : Wrote g v wo bs v1 w') (hb : Below w'.heap.size w' w'') : Wrote g v wo bs v1 w'' :=
  ⟨⟨h.1.blk.below hb h.1.blk.lt, own_keep h.1.own (Keep.of_below (F := fun _ => False) hb (fun k h1 h2 => by omega)) (fun _ _ h => h)⟩, h.2.1.trans (Keep.of_below (F := Same g v) hb (fun k h1 h2 => by omega)), h.2.2⟩
/-- What Archive answers. -/
def arcV (Fs : List FileP) : Value := if Fs.length ≤ 200 then (if Fs.all FileP.right then .tuple #[S (arcL Fs), .int .i64 0] else .tuple #[S [], .int .i64 1]) else .tuple #[S [], .int .i64 4]

theorem arL_bd {F : FileP} (hn : F.nok) (h : F.right = true) : (arL F).length ≤ 300000010 := by
  have h1 := fileL_bd (right_fit hn h)
  have h2 := vi_len_10 (fileL F).length (by omega)
  rw [arL, tx, List.length_append]; omega

set_option maxRecDepth 100000 in
set_option maxHeartbeats 8000000 in
theorem arc_any (Fs : List Fl) (A : Option Addr) (n c : Nat) (w : World) (hm : Laid w) (h : FlsAt w (fun k => w.heap.size ≤ k) A n Fs) : Calls Tryd.prog 14 #[.slice A n c] w (Gives w (arcV (Fs.map Fl.pl))) := by
  obtain ⟨hr, hl, hn, hat⟩ := h
  obtain ⟨R, hR⟩ : ∃ R, R = arcV (Fs.map Fl.pl) := ⟨_, rfl⟩
  rw [← hR]
  by_cases hgt : n ≤ 200
  · have hR2 : R = if (Fs.map Fl.pl).all FileP.right then .tuple #[S (arcL (Fs.map Fl.pl)), .int .i64 0] else .tuple #[S [], .int .i64 1] := by
      rw [hR, arcV, if_pos (by rw [List.length_map, hl]; exact hgt)]
    have HRV := hide (fun _ : Unit => hR2)
    have HLD := hide hm
    have HR := hide hr
    have HL := hide hl
    have HAT := hide hat
    clear hR hR2 hm hr hl hat hn
    have hb : decide (200 < (n : Int)) = false := by simp; omega
    go_enter Tryd.func14, Tryd.ntmps14
    go_upto_region 2 with fail
    refine name_world ?_
    intro wo hwo
    have HB : Hid (Below w.heap.size w wo) := hide (by rw [hwo]; exact (Below.refl _ _).alloc (Nat.le_refl _) _)
    have HW : Hid (Wr wo w.heap.size (.slice none 0 0) []) := hide (by rw [hwo]; exact wr_new w)
    clear hwo
    obtain ⟨g, hg⟩ : ∃ g, g = w.heap.size := ⟨_, rfl⟩
    rw [← hg] at HW ⊢
    have HG := hide hg
    clear hg
    obtain ⟨v, hv⟩ : ∃ v : Value, v = .slice none 0 0 := ⟨_, rfl⟩
    have HVN : Hid (∀ k, v.ownBlock = some k → w.heap.size ≤ k) := hide (by rw [hv]; intro k hk; cases hk)
    rw [← hv] at HW
    clear hv
    have HBW : Hid (∀ bs w', Wk g v wo bs w' → Below w.heap.size w w') := hide (fun bs w' hk => HB.out.trans (hk.below HB.out.size (by rw [HG.out]; exact Nat.le_refl _) HVN.out))
    go_upto_region 5 with (go_at_call 22; refine (cnum1 (n : Int) ((Wk.start HW.out).alloc _) (Blk.new _ _ _) (by simp) (by omega)).mono ?_; rintro e w3 ⟨rfl, h1, h2⟩; have HK1 := hide h1; clear h1 h2)
    clear hb
    have HK2 : Hid (Wk g v wo (vi n) w3) := hide (by have := HK1.out; rwa [List.nil_append, Int.toNat_natCast] at this)
    clear HK1
    go_wp2_with fail
    go_loopw [18] (fun i wr => ∃ k : Nat, k ≤ n ∧ i = .int .i64 k ∧ Hid (Wk g v wo (vi n ++ catTo arL (Fs.map Fl.pl) k) wr) ∧ Hid (∀ i (hi : i < Fs.length), i < k → Fs[i].pl.right = true)) (fun i _ => n - (intOf i).toNat)
    case atStart => exact ⟨0, Nat.zero_le _, rfl, hide (by rw [catTo_zero, List.append_nil]; exact HK2.out), hide (fun i _ h => by omega)⟩
    case round =>
      obtain ⟨k, hk, rfl, HK, HRT⟩ := hrel
      clear HK2
      have HBR := hide (HBW.out _ _ HK.out)
      by_cases hlt : k < n
      · obtain ⟨b, o, hA, _, _, hcs⟩ := Rd.rec_ (f := Fl.cells) (fun _ => rfl) (HR.out.below HBR.out) HL.out k hlt
        have hlk : k < Fs.length := by have := HL.out; omega
        have hlm : k < (Fs.map Fl.pl).length := by rw [List.length_map]; exact hlk
        have HT := hide (catTo_succ arL (Fs.map Fl.pl) k hlm)
        have hge : (Fs.map Fl.pl)[k] = Fs[k].pl := by simp
        rw [hge] at HT
        have hatk := HAT.out Fs[k] (List.getElem_mem hlk)
        have HST := hide (fun h => all_step (p := fun f : Fl => f.pl.right = true) HRT.out hlk h)
        have HNR : Hid (Fs[k].pl.right = false → (Fs.map Fl.pl).all FileP.right = false) := hide (fun h => List.all_eq_false.2 ⟨Fs[k].pl, List.mem_map.2 ⟨Fs[k], List.getElem_mem hlk, rfl⟩, by rw [h]; decide⟩)
        have hlen : (catTo arL (Fs.map Fl.pl) k).length ≤ 300000010 * 200 := by
          have h1 : ∀ x ∈ (Fs.map Fl.pl).take k, (arL x).length ≤ 300000010 := by
            intro x hx
            obtain ⟨i, hi, rfl⟩ := List.mem_iff_getElem.1 hx
            have hi2 : i < k ∧ i < Fs.length := by simp at hi; omega
            have : ((Fs.map Fl.pl).take k)[i] = Fs[i].pl := by simp
            rw [this]
            exact arL_bd (HAT.out Fs[i] (List.getElem_mem hi2.2)).nok (HRT.out i hi2.2 hi2.1)
          exact catAll_bd h1 (by simp; omega)
        clear hge
        generalize Fs[k] = f at hcs HT hatk HST HNR
        have c0 := hcs 0 _ rfl
        have c1 := hcs 1 _ rfl
        have c2 := hcs 2 _ rfl
        have c3 := hcs 3 _ rfl
        have c4 := hcs 4 _ rfl
        have c5 := hcs 5 _ rfl
        have c6 := hcs 6 _ rfl
        have c7 := hcs 7 _ rfl
        have c8 := hcs 8 _ rfl
        have c9 := hcs 9 _ rfl
        clear hcs
        simp only [Nat.add_zero] at c0 c1 c2 c3 c4 c5 c6 c7 c8 c9
        rw [hA]
        go_upto_region 8 with fail
        refine name_world ?_
        intro wC hwC
        have HKC : Hid (Wk g v wo (vi n ++ catTo arL (Fs.map Fl.pl) k) wC) := hide (by rw [hwC]; exact HK.out.alloc _)
        have HBV : Hid (Blk wC wr.heap.size 36 f.cells.toArray) := hide (by rw [hwC]; exact Blk.new _ _ _)
        have HBC := hide (HBW.out _ _ HKC.out)
        clear hwC HK c0 c1 c2 c3 c4 c5 c6 c7 c8 c9
        generalize wr.heap.size = q1 at HBV ⊢
        have k0 := HBV.out.cell 0
        have k1 := HBV.out.cell 1
        have k2 := HBV.out.cell 2
        have k3 := HBV.out.cell 3
        have k4 := HBV.out.cell 4
        have k5 := HBV.out.cell 5
        have k6 := HBV.out.cell 6
        have k7 := HBV.out.cell 7
        have k8 := HBV.out.cell 8
        have k9 := HBV.out.cell 9
        simp at k0 k1 k2 k3 k4 k5 k6 k7 k8 k9
        have hatC : f.at_ wC (fun i => wC.heap.size ≤ i) := (hatk.below HBC.out).weak (fun i hi => by have := HBC.out.size; omega)
        have HLC := HLD.out.below HBC.out (Nat.le_refl _)
        have HNK := hide hatC.nok
        cases hrt : f.pl.right with
        | false =>
          have HE := hide (enc_bad f wC HLC hatC hrt)
          have HRF : Hid (∀ _ : Unit, R = .tuple #[S [], .int .i64 1]) := hide (fun _ => by rw [HRV.out (), if_neg (by rw [HNR.out hrt]; decide)])
          clear hatC HLC hrt hatk
          go_wp2_with (go_at_call 11; refine HE.out.mono ?_; rintro e w5 ⟨rfl, hb5⟩)
          go_ret2
          exact ⟨by rw [HRF.out ()] <;> rfl, HBC.out.trans (hb5.mono HBC.out.size)⟩
        | true =>
          have HE := hide (enc_ok f wC HLC hatC hrt)
          have HAL := hide (arL_bd HNK.out hrt)
          have HST2 := hide (HST.out hrt)
          clear hatC HLC hrt hatk
          obtain ⟨v1, h1⟩ := HKC.out
          have HFL : Hid (arL f.pl = tx (fileL f.pl)) := hide rfl
          have HLEN := hide hlen
          clear hlen
          generalize fileL f.pl = fb at HE HFL
          go_upto_region 12 with (first
            | (go_at_call 11; refine HE.out.mono ?_; rintro e w5 ⟨rfl, hb5⟩; have HK5 : Hid (Wk g v wo (vi n ++ catTo arL (Fs.map Fl.pl) k) w5) := hide ⟨v1, h1.ext hb5⟩; clear hb5)
            | (go_at_call 23; refine (ctext1 fb (HK5.out.alloc _) (Blk.new _ _ _) (by have h8 := HAL.out; rw [HFL.out, tx, List.length_append] at h8; have h9 := HLEN.out; have := vi_len_10 n (by omega); simp only [List.length_append]; omega)).mono ?_; rintro e w6 ⟨rfl, h2, h3⟩; have HK6 := hide h2; clear h2 h3))
          have HK7 : Hid (Wk g v wo (vi n ++ catTo arL (Fs.map Fl.pl) (k + 1)) w6) := hide (by rw [HT.out, HFL.out, ← List.append_assoc]; exact HK6.out)
          clear k0 k1 k2 k3 k4 k5 k6 k7 k8 k9 HK5 HK6 HKC h1 HBV
          go_wp2_with fail
          go_roundw
          case rel => exact ⟨k + 1, by omega, by go_num, HK7, HST2⟩
          case measure => simp [intOf]; omega
      · have HAR : Hid (∀ _ : Unit, R = .tuple #[S (arcL (Fs.map Fl.pl)), .int .i64 0]) := hide (fun _ => by
          rw [HRV.out (), if_pos]
          rw [List.all_eq_true]
          intro F hF
          obtain ⟨f, hf, rfl⟩ := List.mem_map.1 hF
          exact all_done (p := fun f : Fl => f.pl.right = true) HRT.out (by have := HL.out; omega) f hf)
        have HFI : Hid (Wk g v wo (arcL (Fs.map Fl.pl)) wr) := hide (by
          have e : (Fs.map Fl.pl).length = n := by rw [List.length_map]; exact HL.out
          rw [arcL, e, ← catTo_all arL (Fs.map Fl.pl) k (by omega)]
          exact HK.out)
        obtain ⟨v2, h2⟩ := HFI.out
        have HS := hide (string_any g v2 _ wr h2.1)
        clear h2 HK
        generalize arcL (Fs.map Fl.pl) = bs at HS HAR
        go_wp2_with (go_at_call 24; refine HS.out.mono ?_; rintro e w6 ⟨rfl, hw6⟩; subst w6)
        go_ret2
        exact ⟨by rw [HAR.out ()] <;> rfl, HBR.out⟩
  · have HRV : Hid (∀ _ : Unit, R = .tuple #[S [], .int .i64 4]) := hide (fun _ => by rw [hR, arcV, if_neg (by rw [List.length_map, hl]; exact hgt)])
    have hb : decide (200 < (n : Int)) = true := by simp; omega
    clear hR hm hr hl hat
    go_enter Tryd.func14, Tryd.ntmps14
    go_wp2_with fail
    go_ret2
    exact ⟨by rw [HRV.out ()] <;> rfl, (Below.refl _ _).alloc (Nat.le_refl _) _⟩

theorem fl_info : (Tryd.prog.info? 36).map (fun i => (i.zero, i.size, i.bytes)) = some (some (.agg #[S [], S [], .slice none 0 0, .slice none 0 0, .slice none 0 0, .slice none 0 0, .slice none 0 0, .slice none 0 0, .slice none 0 0, .slice none 0 0]), 10, 224) := by kernel_rfl

/-- What Unpack answers. -/
def Unpacks (l : List UInt8) (w : World) (e : Ending) (w' : World) : Prop :=
  Below w.heap.size w w' ∧ ((unpOk l = true ∧ ∃ (A : Option Addr) (n c : Nat) (Fs : List Fl), e = .returned (.tuple #[.slice A n c, .int .i64 0]) ∧ Fs.map Fl.pl = unpF l ∧ FlsAt w' (fun k => k < w.heap.size) A n Fs) ∨
    (unpOk l = false ∧ e = .returned (.tuple #[.slice none 0 0, .int .i64 2])))

set_option maxRecDepth 100000 in
set_option maxHeartbeats 8000000 in
theorem unp_any (l : List UInt8) (w : World) (hl : l.length ≤ 9223372036854775807) (hm : Laid w) : Calls Tryd.prog 13 #[S l] w (Unpacks l w) := by
  have HLD := hide hm
  clear hm
  have HP := hide (pread_any l w)
  have HR0 := hide (Rl.new w l hl)
  have HB0 : Hid (Below w.heap.size w (w.alloc (.cells #[S l, .bool false] 104))) := hide ((Below.refl _ _).alloc (Nat.le_refl _) _)
  obtain ⟨wA, hwA⟩ : ∃ wA, wA = w.alloc (.cells #[S l, .bool false] 104) := ⟨_, rfl⟩
  rw [← hwA] at HP HR0 HB0
  have HGW : Hid (w.heap.size < wA.heap.size) := hide HR0.out.lt
  clear hwA
  obtain ⟨g, hg⟩ : ∃ g, g = w.heap.size := ⟨_, rfl⟩
  rw [← hg] at HP HR0 HGW
  have HG := hide hg
  clear hg
  have HU : Hid (∀ _ : Unit, unpR l = iterR (textR l.length) (manyR 200 (some l)).1 (manyR 200 (some l)).2) := hide (fun _ => rfl)
  have HM := hide (rmany200 g (some l) wA HR0.out)
  have hn := manyR_le 200 (some l)
  generalize (manyR 200 (some l)).1 = n at *
  generalize (manyR 200 (some l)).2 = s0 at *
  go_enter Tryd.func13, Tryd.ntmps13
  go_upto_region 4 with (first
    | (go_at_call 25; refine HP.out.mono ?_; rintro e w1 ⟨rfl, hw1⟩; subst w1)
    | (go_at_call 29; refine HM.out.mono ?_; rintro e wo ⟨rfl, h2, k2⟩))
  have HBO : Hid (Below w.heap.size w wo) := hide (HB0.out.trans (Keep.below k2 HB0.out.size (fun k hk => by have := HG.out; omega)))
  have HRO := hide h2
  have HGO : Hid (g < wo.heap.size) := hide h2.lt
  clear h2 k2 HM HP HR0 HB0
  go_wp2_with fail
  go_loopw [5, 12] (fun v i wr => ∃ (k : Nat) (A : Option Addr) (c : Nat) (Fs : List Fl), k ≤ n ∧ v = .slice A k c ∧ i = .int .i64 k ∧ Hid (wr.ownsRow wo.heap.size 36 10 (.slice A k c) k (Fs.flatMap Fl.cells)) ∧ Hid (∀ f ∈ Fs, f.at_ wr (fun i => i < wo.heap.size ∨ some i = (Value.slice A k c).ownBlock ∨ wr.heap.size ≤ i)) ∧ Hid (Fs.length = k ∧ (iterR (textR l.length) k s0).1.all decOk = true ∧ Fs.map Fl.pl = (iterR (textR l.length) k s0).1.map fun t => (decR t).1) ∧ Hid (Rl wr g (iterR (textR l.length) k s0).2) ∧ Hid (Keep (fun i => i = g) wo wr)) (fun _ i _ => n - (intOf i).toNat)
  case atStart => exact ⟨0, none, 0, [], Nat.zero_le _, rfl, rfl, hide (World.ownsRow_nil _ _ _ _), hide (fun f hf => by cases hf), hide ⟨rfl, rfl, rfl⟩, HRO, hide (Keep.refl _ _)⟩
  case round =>
    obtain ⟨k, A, c, Fs, hk, rfl, rfl, HOW, HAT, HPL, HRL, HKP⟩ := hrel
    obtain ⟨wu, rfl⟩ : ∃ wu : World, wu = wr := ⟨_, rfl⟩
    have HBU : Hid (Below w.heap.size w wu) := hide (HBO.out.trans (HKP.out.below HBO.out.size (fun i hi => by have := HG.out; omega)))
    by_cases hlt : k < n
    · have HXX : Hid ((iterR (textR l.length) (k + 1) s0).1 = (iterR (textR l.length) k s0).1 ++ [(textR l.length (iterR (textR l.length) k s0).2).1] ∧ (iterR (textR l.length) (k + 1) s0).2 = (textR l.length (iterR (textR l.length) k s0).2).2 ∧ (textR l.length (iterR (textR l.length) k s0).2).1 ∈ (iterR (textR l.length) n s0).1) := hide ⟨rfl, rfl, iterR_sub _ n k s0 hlt⟩
      generalize (iterR (textR l.length) k s0).2 = X at HRL HXX
      have H1 : Hid (Calls Tryd.prog 37 #[.pointer (some ⟨g, 0, none⟩), .int .i64 (l.length : Int)] wu (ReadsTo g (S (textR l.length X).1) (textR l.length X).2 wu)) := hide (by
        have := rtext_any g (l.length : Int) X wu HRL.out (by omega)
        rwa [Int.toNat_natCast] at this)
      have htl := textR_le l.length X
      generalize (textR l.length X).1 = tt at *
      generalize (textR l.length X).2 = X1 at *
      go_wp2_with (first | fail)
      refine H1.out.mono ?_
      rintro e w1 ⟨rfl, h1, k1⟩
      have HB1 : Hid (Below w.heap.size w w1) := hide (HBU.out.trans (k1.below HBU.out.size (fun i hi => by have := HG.out; omega)))
      have H2 := hide (dec_any tt w1 (by omega) (HLD.out.below HB1.out (Nat.le_refl _)))
      have HR1 := hide h1
      have HK1 := hide k1
      clear h1 k1 H1 htl
      go_wp2_with (first | fail)
      refine H2.out.mono ?_
      rintro e w2 ⟨hb2, ⟨hd, f, rfl, hfp, hfa⟩ | ⟨hd, rfl⟩⟩
      · have HB2 := hide hb2
        have HD := hide (fun _ : Unit => hd)
        have HFP := hide (fun _ : Unit => hfp)
        have HFA := hide hfa
        clear hb2 hd hfp hfa H2
        go_upto_region 6 with fail
        refine name_world ?_
        intro w3 hw3
        have HX3 : Hid (Blk w3 w2.heap.size 36 f.cells.toArray) := hide (by rw [hw3]; exact Blk.new _ _ _)
        have HB3 : Hid (Below w1.heap.size w1 w3) := hide (by rw [hw3]; exact HB2.out.alloc HB2.out.size _)
        have HFA3 : Hid (f.at_ w3 (fun i => i < w1.heap.size ∨ w3.heap.size ≤ i)) := hide (by
          rw [hw3]
          have h1 := HFA.out.tight'
          exact (h1.keep' ((Keep.refl _ w2).alloc _)).weak (fun i hi => hi.imp id (fun h => by simp at h; omega)))
        have HQ3 : Hid (w2.heap.size < w3.heap.size) := hide HX3.out.lt
        obtain ⟨q, hq⟩ : ∃ q, q = w2.heap.size := ⟨_, rfl⟩
        have HQ1 : Hid (w1.heap.size ≤ q) := hide (by rw [hq]; exact HB2.out.size)
        rw [← hq] at HX3 HQ3 ⊢
        clear hw3 hq HB2 HFA
        have HS1 : Hid (wu.heap.size ≤ w1.heap.size) := hide HK1.out.size
        have HSO : Hid (wo.heap.size ≤ wu.heap.size) := hide HKP.out.size
        have HR3 : Hid (Rl w3 g X1) := hide ⟨HR1.out.rs.below HB3.out HR1.out.lt, HR1.out.len⟩
        have HK3 : Hid (Keep (fun i => i = g) wu w3) := hide (HK1.out.trans (Keep.of_below HB3.out (fun i h1 h2 => by have := HS1.out; omega)))
        have HO3 : Hid (w3.ownsRow wo.heap.size 36 10 (.slice A k c) k (Fs.flatMap Fl.cells)) := hide (own_keep HOW.out HK3.out (fun i hi h => by have := own_base HOW.out hi; have := HGO.out; omega))
        have HAT3 : Hid (∀ f ∈ Fs, f.at_ w3 (fun i => i < wo.heap.size ∨ some i = (Value.slice A k c).ownBlock ∨ w3.heap.size ≤ i)) := hide (fun f hf => ((HAT.out f hf).keep' (HK3.out.mono (fun i _ h => .inl (by have := HGO.out; omega)))).weak (fun i h => by
          rcases h with h | h | h
          · exact .inl h
          · exact .inr (.inl h)
          · exact .inr (.inr (Nat.le_trans HK3.out.size h))))
        have HKW : Hid (Keep (fun i => i = g) wo w3) := hide (HKP.out.trans HK3.out)
        have HSW : Hid (wo.heap.size ≤ w3.heap.size) := hide HKW.out.size
        have HRW : Hid (∀ i, (Value.slice A k c).ownBlock = some i → i < w1.heap.size) := hide (fun i hi => by have := (HOW.out.lt i hi).2; have := HS1.out; omega)
        have k0 := HX3.out.cell 0
        have k1 := HX3.out.cell 1
        have k2 := HX3.out.cell 2
        have k3 := HX3.out.cell 3
        have k4 := HX3.out.cell 4
        have k5 := HX3.out.cell 5
        have k6 := HX3.out.cell 6
        have k7 := HX3.out.cell 7
        have k8 := HX3.out.cell 8
        have k9 := HX3.out.cell 9
        simp at k0 k1 k2 k3 k4 k5 k6 k7 k8 k9
        clear HOW HAT HKP HK1 HRL HB3 HX3 HR1 HB1 HBU
        go_wp2_with (at_builtin; refine wpList_appC rfl (.tmp 25) (.tmp 27) 42 rfl wo.heap.size 36 (.agg #[S [], S [], .slice none 0 0, .slice none 0 0, .slice none 0 0, .slice none 0 0, .slice none 0 0, .slice none 0 0, .slice none 0 0, .slice none 0 0]) 10 224 Tryd.underlying42 fl_info rfl (by decide) (.slice A k c) k (Fs.flatMap Fl.cells) rfl (HO3.out.alloc _) w3.heap.size f.cells rfl rfl (Blk.new _ _ _) (by intro u hu; simp only [Fl.cells, List.mem_cons, List.not_mem_nil, or_false] at hu; rcases hu with rfl | rfl | rfl | rfl | rfl | rfl | rfl | rfl | rfl | rfl <;> rfl) (by unfold maxLen; omega) (by omega) (by have := HSW.out; simp; omega) ?_)
        intro A4 c4 w9 hown9 hg9 hat9
        have HO9 : Hid (w9.ownsRow wo.heap.size 36 10 (.slice A4 (k + 1) c4) (k + 1) ((Fs ++ [f]).flatMap Fl.cells)) := hide (by rw [List.flatMap_append, List.flatMap_singleton]; exact hown9)
        have hkr : Keep (fun i => some i = (Value.slice A k c).ownBlock) w3 w9 := (((Keep.refl _ w3).alloc _).grown hg9 (fun i hi _ => hi.symm))
        have hzone : ∀ i, (i < wo.heap.size ∨ some i = (Value.slice A4 (k + 1) c4).ownBlock ∨ w9.heap.size ≤ i) → (i < wo.heap.size ∨ some i = (Value.slice A k c).ownBlock ∨ w3.heap.size ≤ i) := by
          intro i h
          rcases h with h | h | h
          · exact .inl h
          · rcases hat9 with h9 | h9
            · exact .inr (.inl (by rw [h, h9]))
            · rw [h9] at h
              injection h with h
              exact .inr (.inr (by first | omega | (simp at h; omega)))
          · exact .inr (.inr (Nat.le_trans hkr.size h))
        have HAT9 : Hid (∀ f' ∈ Fs ++ [f], f'.at_ w9 (fun i => i < wo.heap.size ∨ some i = (Value.slice A4 (k + 1) c4).ownBlock ∨ w9.heap.size ≤ i)) := hide (by
          intro f' hf'
          rcases List.mem_append.1 hf' with hf' | hf'
          · exact ((HAT3.out f' hf').keep' (hkr.mono (fun i _ h => .inr (.inl h)))).weak hzone
          · obtain rfl := List.mem_singleton.1 hf'
            refine (HFA3.out.keep' (hkr.mono (fun i _ h => .inl (HRW.out i h.symm)))).weak (fun i h => ?_)
            rcases hzone i h with h | h | h
            · exact .inl (by have := HSO.out; have := HS1.out; omega)
            · exact .inl (HRW.out i h.symm)
            · exact .inr h)
        have HR9 : Hid (Rl w9 g (iterR (textR l.length) (k + 1) s0).2) := hide (by
          rw [HXX.out.2.1]
          exact ⟨(HR3.out.alloc _).rs.grown hg9 (fun e => by have := own_base HO3.out e.symm; have := HGO.out; omega), HR3.out.len⟩)
        have HK9 : Hid (Keep (fun i => i = g) wo w9) := hide (HKW.out.trans' hkr (fun i hi h => by have := own_base HO3.out h.symm; omega))
        have HP9 : Hid ((Fs ++ [f]).length = k + 1 ∧ (iterR (textR l.length) (k + 1) s0).1.all decOk = true ∧ (Fs ++ [f]).map Fl.pl = (iterR (textR l.length) (k + 1) s0).1.map fun t => (decR t).1) := hide (by
          rw [HXX.out.1]
          refine ⟨by rw [List.length_append, HPL.out.1]; rfl, ?_, ?_⟩
          · rw [List.all_append, HPL.out.2.1]; simp [HD.out ()]
          · rw [List.map_append, List.map_append, HPL.out.2.2, List.map_singleton, List.map_singleton, HFP.out ()])
        clear hown9 hg9 hat9 hkr hzone k0 k1 k2 k3 k4 k5 k6 k7 k8 k9 HXX HPL HD HFP HO3 HAT3 HR3 HK3 HKW HFA3
        go_wp2_with fail
        go_roundw
        case rel => first | exact ⟨k + 1, A4, c4, _, by omega, rfl, by go_num, HO9, HAT9, HP9, HR9, HK9⟩ | ((repeat apply Exists.intro); exact ⟨⟨k + 1, A4, c4, _, by omega, rfl, by go_num, HO9, HAT9, HP9, HR9, HK9⟩, rfl⟩)
        case measure => simp [intOf]; omega
      · have HN : Hid (∀ _ : Unit, unpOk l = false) := hide (fun _ => by
          have hm := HXX.out.2.2
          unfold unpOk
          rw [HU.out ()]
          have : (iterR (textR l.length) n s0).1.all decOk = false := List.all_eq_false.2 ⟨tt, hm, by rw [hd]; decide⟩
          rw [this]
          rfl)
        have HBF : Hid (Below w.heap.size w w2) := hide (HB1.out.trans (hb2.mono HB1.out.size))
        clear hd H2 hb2
        go_wp2_with fail
        go_ret2
        exact ⟨HBF.out.alloc HBF.out.size _, .inr ⟨HN.out (), rfl⟩⟩
    · obtain rfl : n = k := by omega
      have HD := hide (rdone_any g (iterR (textR l.length) n s0).2 wu HRL.out)
      have HFS : Hid (FlsAt wu (fun i => i < w.heap.size) A n Fs) := hide ⟨(Rd.of_ownB HOW.out).weak (fun i _ h => by have := HBO.out.size; omega), HPL.out.1, by omega, fun f hf => (HAT.out f hf).weak (fun i h => .inl (by have := HBO.out.size; omega))⟩
      by_cases hst : (iterR (textR l.length) n s0).2 = some []
      · have hd0 : doneR (iterR (textR l.length) n s0).2 = 0 := by unfold doneR; rw [if_pos hst]
        rw [hd0] at HD
        have HY : Hid (∀ _ : Unit, unpOk l = true ∧ Fs.map Fl.pl = unpF l) := hide (fun _ => by
          unfold unpOk unpF
          rw [HU.out (), HPL.out.2.1, hst]
          exact ⟨rfl, HPL.out.2.2⟩)
        clear hst hd0 HOW HAT HPL HRL HKP
        go_wp2_with (go_at_call 30; refine HD.out.mono ?_; rintro e w7 ⟨rfl, hw7⟩; subst w7)
        go_ret2
        exact ⟨HBU.out, .inl ⟨(HY.out ()).1, A, n, c, Fs, rfl, (HY.out ()).2, HFS.out⟩⟩
      · have hd0 : doneR (iterR (textR l.length) n s0).2 = 2 := by unfold doneR; rw [if_neg hst]
        rw [hd0] at HD
        have HN : Hid (∀ _ : Unit, unpOk l = false) := hide (fun _ => by
          unfold unpOk
          rw [HU.out ()]
          have : ((iterR (textR l.length) n s0).2 == some []) = false := by simpa using hst
          rw [this]
          simp)
        clear hst hd0 HOW HAT HPL HRL HKP
        go_wp2_with (go_at_call 30; refine HD.out.mono ?_; rintro e w7 ⟨rfl, hw7⟩; subst w7)
        go_ret2
        exact ⟨HBU.out, .inr ⟨HN.out (), rfl⟩⟩
end Go.Proofs.YtkldfbacagnhoaaDoor
