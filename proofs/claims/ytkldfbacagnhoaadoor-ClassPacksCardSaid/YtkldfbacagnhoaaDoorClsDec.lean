/- The class that bytes are, walked; no statement of the seat is proved here. -/
import Derived.Test.YtkldfbacagnhoaaDoorPoolRead
import Derived.Test.YtkldfbacagnhoaaDoorClsRight
import Derived.Test.YtkldfbacagnhoaaDoorClsHead
namespace Go.Proofs.YtkldfbacagnhoaaDoor
open Go.RowKit

section
variable {w w' : World} {F G : Nat → Prop}
theorem Sg.at_.keep {m : Sg} (h : m.at_ w F) (hk : Keep F w w') : m.at_ w' F := ⟨h.1.keep hk, h.2⟩
theorem Fc.at_.keep {f : Fc} (h : f.at_ w F) (hk : Keep F w w') : f.at_ w' F := ⟨⟨h.1.1.keep hk, h.1.2⟩, ⟨h.2.1.1.keep hk, h.2.1.2.1, h.2.1.2.2.1, fun m hm => (h.2.1.2.2.2 m hm).keep hk⟩, h.2.2⟩
theorem Mt.at_.keep {x : Mt} (h : x.at_ w F) (hk : Keep F w w') : x.at_ w' F := ⟨h.1.keep hk, h.2⟩
theorem Fl.pat.keep {f : Fl} (h : f.pat w F) (hk : Keep F w w') : f.pat w' F :=
  { h with nr := h.nr.keep hk, cr := h.cr.keep hk, tr := h.tr.keep hk, dr := h.dr.keep hk, mr := h.mr.keep hk, mW := fun x hx => (h.mW x hx).keep hk }
/-- What was read lies below the end of memory, too. -/
theorem Fc.at_.tight {f : Fc} (h : f.at_ w F) : f.at_ w (fun k => F k ∨ w.heap.size ≤ k) :=
  have hs : ∀ k, k < w.heap.size → (F k ∨ w.heap.size ≤ k) → F k := fun k hk h => h.elim id (fun h => by omega)
  ⟨⟨h.1.1.weak hs, h.1.2⟩, ⟨h.2.1.1.weak hs, h.2.1.2.1, h.2.1.2.2.1, fun m hm => ⟨(h.2.1.2.2.2 m hm).1.weak hs, (h.2.1.2.2.2 m hm).2⟩⟩, h.2.2⟩
theorem Fl.pat.tight {f : Fl} (h : f.pat w F) : f.pat w (fun k => F k ∨ w.heap.size ≤ k) :=
  have hs : ∀ k, k < w.heap.size → (F k ∨ w.heap.size ≤ k) → F k := fun k hk h => h.elim id (fun h => by omega)
  { h with nr := h.nr.weak hs, cr := h.cr.weak hs, tr := h.tr.weak hs, dr := h.dr.weak hs, mr := h.mr.weak hs, mW := fun x hx => ⟨⟨(h.mW x hx).1.1.weak hs, (h.mW x hx).1.2⟩, (h.mW x hx).2⟩ }
end

theorem Bd.at_.keep {w w' : World} {F : Nat → Prop} {b : Bd} (h : b.at_ w F) (hk : Keep F w w') : b.at_ w' F := ⟨h.1.keep hk, h.2⟩
theorem Fl.at_.keep' {w w' : World} {F : Nat → Prop} {f : Fl} (h : f.at_ w F) (hk : Keep F w w') : f.at_ w' F :=
  { fa := h.fa.keep hk, po := h.po.keep hk, br := h.br.keep hk, bL := h.bL, bB := h.bB, bW := fun b hb => (h.bW b hb).keep hk }
/-- A file's parts by themselves. -/
def Fl.of (f : Fc) (p : Fl) (bA : Option Addr) (bl bc : Nat) (bs : List Bd) : Fl := ⟨f, p.nA, p.nl, p.nc, p.nums, p.cA, p.cl, p.cc, p.cls, p.tA, p.tl, p.tc, p.tys, p.dA, p.dl, p.dc, p.fds, p.mA, p.ml, p.mc, p.mts, bA, bl, bc, bs⟩
theorem Fl.pat.of {w : World} {F : Nat → Prop} {f : Fc} {p : Fl} {bA : Option Addr} {bl bc : Nat} {bs : List Bd} (h : p.pat w F) : (Fl.of f p bA bl bc bs).pat w F := { h with }

/-- Bodies whose instructions lie in blocks of their own. -/
def BdsOwn (w : World) (B : Nat) (bs : List Bd) : Prop := ∀ b ∈ bs, w.ownsRow B 55 2 (.slice b.A b.k b.c) b.k (b.code.flatMap coC) ∧ b.code.length = b.k ∧ b.k ≤ 16384 ∧ i64In b.lo ∧ i64In b.sk ∧ ∀ x ∈ b.code, i64In x.1 ∧ i64In x.2
theorem BdsOwn.keep {w w' : World} {B : Nat} {bs : List Bd} {F : Nat → Prop} (h : BdsOwn w B bs) (hk : Keep F w w') (hF : ∀ b ∈ bs, ∀ k, (Value.slice b.A b.k b.c).ownBlock = some k → ¬ F k) : BdsOwn w' B bs :=
  fun b hb => ⟨own_keep (h b hb).1 hk (hF b hb), (h b hb).2⟩
theorem BdsOwn.at_ {w : World} {B : Nat} {bs : List Bd} (h : BdsOwn w B bs) : ∀ b ∈ bs, b.at_ w (fun k => k < B) := fun b hb => by
  obtain ⟨h1, h2, h3, h4, h5, h6⟩ := h b hb
  exact ⟨Rd.of_ownB h1, h2, by omega, h4, h5, h6⟩

theorem coR_in (st : St) : i64In (coR st).1.1 ∧ i64In (coR st).1.2 := by
  have h1 := numR_le 16384 st
  have h2 := numR_le 16384 (numR 16384 st).2
  unfold coR i64In
  split <;> simp only <;> omega
theorem iterR_none {α : Type} {f : St → α × St} (h : (f none).2 = none) : ∀ k, (iterR f k none).2 = none
  | 0 => rfl
  | k + 1 => by rw [iterR, iterR_none h k]; exact h
theorem coR_none : (coR none).2 = none := by unfold coR; split <;> rfl
theorem manyR_none (m : Nat) : (manyR m none).2 = none := by unfold manyR; split <;> rfl
theorem bdR_none : (bdR none).2 = none := by
  rw [bdR_eq]
  unfold secR
  have e1 : (numR 1000 (numR 401 none).2).2 = none := rfl
  simp only [e1, manyR_none]
  exact iterR_none coR_none _
theorem co_info : (Tryd.prog.info? 55).map (fun i => (i.zero, i.size, i.bytes)) = some (some (.agg #[.int .i64 0, .int .i64 0]), 2, 16) := by kernel_rfl
theorem bd_info : (Tryd.prog.info? 58).map (fun i => (i.zero, i.size, i.bytes)) = some (some (.agg #[.int .i64 0, .int .i64 0, .slice none 0 0]), 3, 40) := by kernel_rfl
theorem rnum401 (g : Nat) (st : St) (w : World) (h : Rl w g st) : Calls Tryd.prog 28 #[.pointer (some ⟨g, 0, none⟩), .int .i64 401] w (ReadsTo g (.int .i64 ((numR 401 st).1 : Int)) (numR 401 st).2 w) := rnum_any g 401 st w h (by omega)
theorem rnum1000 (g : Nat) (st : St) (w : World) (h : Rl w g st) : Calls Tryd.prog 28 #[.pointer (some ⟨g, 0, none⟩), .int .i64 1000] w (ReadsTo g (.int .i64 ((numR 1000 st).1 : Int)) (numR 1000 st).2 w) := rnum_any g 1000 st w h (by omega)
theorem rnum16 (g : Nat) (st : St) (w : World) (h : Rl w g st) : Calls Tryd.prog 28 #[.pointer (some ⟨g, 0, none⟩), .int .i64 16384] w (ReadsTo g (.int .i64 ((numR 16384 st).1 : Int)) (numR 16384 st).2 w) := rnum_any g 16384 st w h (by omega)

theorem fcR_ms_le (st : St) : (fcR st).1.ms.length ≤ 200 := by
  rw [fcR_eq]
  show (iterR sgR (manyR 200 (secR vrR 200 (textR 40 (textR 40 st).2).2).2).1 _).1.length ≤ 200
  rw [iterR_len]
  exact manyR_le 200 _
/-- What Decode answers. -/
def Decodes (l : List UInt8) (w : World) (e : Ending) (w' : World) : Prop :=
  Below w.heap.size w w' ∧ ((decOk l = true ∧ ∃ f : Fl, e = .returned (.tuple #[f.val, .int .i64 0]) ∧ f.pl = (decR l).1 ∧ f.at_ w' (fun k => k < w.heap.size)) ∨
    (decOk l = false ∧ e = .returned (.tuple #[.agg #[S [], S [], .slice none 0 0, .slice none 0 0, .slice none 0 0, .slice none 0 0, .slice none 0 0, .slice none 0 0, .slice none 0 0, .slice none 0 0], .int .i64 2])))

set_option maxRecDepth 100000 in
set_option maxHeartbeats 16000000 in
theorem dec_any (l : List UInt8) (w : World) (hl : l.length ≤ 9223372036854775807) (hm : Laid w) : Calls Tryd.prog 10 #[S l] w (Decodes l w) := by
  have HLD : Hid (∀ w', Below w.heap.size w w' → Laid w') := hide (fun w' h => hm.below h (Nat.le_refl _))
  clear hm
  go_enter Tryd.func10, Tryd.ntmps10
  go_upto_region 1 with fail
  refine name_world ?_
  intro wA hwA
  have HT : Hid (Blk wA w.heap.size 36 #[S [], S [], .slice none 0 0, .slice none 0 0, .slice none 0 0, .slice none 0 0, .slice none 0 0, .slice none 0 0, .slice none 0 0, .slice none 0 0]) := hide (by rw [hwA]; exact Blk.new _ _ _)
  have HB : Hid (Keep (fun k => w.heap.size ≤ k) w wA) := hide (by rw [hwA]; exact (Keep.refl _ w).alloc _)
  have HNA : Hid (w.heap.size < wA.heap.size) := hide HT.out.lt
  obtain ⟨N, hN⟩ : ∃ N, N = w.heap.size := ⟨_, rfl⟩
  have HNN : Hid (w.heap.size = N) := hide hN.symm
  rw [← hN] at HT HB HNA ⊢
  clear hwA hN
  have HP := hide (pread_any l wA)
  go_upto_region 2 with (go_at_call 25; refine HP.out.mono ?_; rintro e w1 ⟨rfl, hw1⟩)
  have HR1 : Hid (Rl w1 wA.heap.size (some l)) := hide (by rw [← hw1]; exact Rl.new wA l hl)
  have HT1 : Hid (Blk w1 N 36 #[S [], S [], .slice none 0 0, .slice none 0 0, .slice none 0 0, .slice none 0 0, .slice none 0 0, .slice none 0 0, .slice none 0 0, .slice none 0 0]) := hide (by rw [← hw1]; exact HT.out.alloc _)
  have HB1 : Hid (Keep (fun k => N ≤ k) w w1) := hide (by rw [← hw1]; exact HB.out.alloc _)
  have HNG : Hid (N < wA.heap.size) := HNA
  obtain ⟨g, hg⟩ : ∃ g, g = wA.heap.size := ⟨_, rfl⟩
  rw [← hg] at HR1 HNG ⊢
  clear hw1 hg HP HT HB HNA
  have HF := hide (fread_any g (some l) w1 HR1.out)
  have HGR : Hid (g < w1.heap.size) := hide HR1.out.lt
  go_upto_region 3 with (go_at_call 26; refine HF.out.mono ?_; rintro e w2 ⟨F, rfl, hpl, hat, hso, hr2, hk2⟩)
  clear hso HF
  refine name_world ?_
  intro w3 hw3
  have HFP := hide hpl
  have HFA : Hid (F.at_ w2 (fun k => k < w1.heap.size ∨ w2.heap.size ≤ k)) := hide hat.tight
  have HM1 : Hid (w1.heap.size ≤ w2.heap.size) := hide hk2.size
  have HR3 : Hid (Rl w3 g (fcR (some l)).2) := hide (by rw [hw3]; exact hr2.alloc _)
  have HT3 : Hid (Blk w3 N 36 #[S [], S [], .slice none 0 0, .slice none 0 0, .slice none 0 0, .slice none 0 0, .slice none 0 0, .slice none 0 0, .slice none 0 0, .slice none 0 0]) := hide (by rw [hw3]; exact (HT1.out.keep hk2 (by have := HNG.out; omega)).alloc _)
  have HB3 : Hid (Keep (fun k => N ≤ k) w w3) := hide (by rw [hw3]; exact (HB1.out.trans (hk2.mono (fun k _ h => by have := HNG.out; omega))).alloc _)
  have HX3 : Hid (Blk w3 w2.heap.size 36 #[S F.n, S F.su, .slice F.fA F.fl F.fc, .slice F.mA F.ml F.mc, .slice none 0 0, .slice none 0 0, .slice none 0 0, .slice none 0 0, .slice none 0 0, .slice none 0 0]) := hide (by rw [hw3]; exact Blk.new _ _ _)
  have HFA3 : Hid (F.at_ w3 (fun k => k < w1.heap.size ∨ w2.heap.size ≤ k)) := hide (by rw [hw3]; exact HFA.out.keep ((Keep.refl _ w2).alloc _))
  obtain ⟨q, hq⟩ : ∃ q, q = w2.heap.size := ⟨_, rfl⟩
  rw [← hq] at HX3 HFA3 HM1 ⊢
  have HGQ : Hid (g < q) := hide (by have := HGR.out; have := HM1.out; omega)
  have hfml : F.ml ≤ 200 := by have := fcR_ms_le (some l); rw [← hpl] at this; simpa [Fc.pl, hat.2.1.2.1] using this
  have HFL : Hid (F.pl.ms.length = F.ml) := hide (by simp [Fc.pl, hat.2.1.2.1])
  clear hw3 hq hpl hat hr2 hk2 HFA HT1 HB1 HR1
  generalize hs3 : (fcR (some l)).2 = s3 at HR3
  have HS3 := hide hs3
  clear hs3
  have HPD := hide (pread_pool g s3 w3 HR3.out)
  have HQ3 : Hid (q < w3.heap.size) := hide HX3.out.lt
  go_upto_region 4 with (go_at_call 27; refine HPD.out.mono ?_; rintro e w4 ⟨p, ok, s4, rfl, hown, hr4, hk4, hok, hyes⟩; have HOK := hide (fun _ : Unit => hok); have HYES := hide hyes; clear hok hyes)
  refine name_world ?_
  intro w5 hw5
  have HPAT : Hid (p.pat w4 (fun k => k < w3.heap.size ∨ w4.heap.size ≤ k)) := hide hown.pat.tight
  have HM3 : Hid (w3.heap.size ≤ w4.heap.size) := hide hk4.size
  have HR5 : Hid (Rl w5 g s4) := hide (by rw [hw5]; exact hr4.alloc _)
  have HT5 : Hid (Blk w5 N 36 #[S [], S [], .slice none 0 0, .slice none 0 0, .slice none 0 0, .slice none 0 0, .slice none 0 0, .slice none 0 0, .slice none 0 0, .slice none 0 0]) := hide (by rw [hw5]; exact (HT3.out.keep hk4 (by have := HNG.out; omega)).alloc _)
  have HB5 : Hid (Keep (fun k => N ≤ k) w w5) := hide (by rw [hw5]; exact (HB3.out.trans (hk4.mono (fun k _ h => by have := HNG.out; omega))).alloc _)
  have HX5 : Hid (Blk w5 q 36 #[S F.n, S F.su, .slice F.fA F.fl F.fc, .slice F.mA F.ml F.mc, .slice none 0 0, .slice none 0 0, .slice none 0 0, .slice none 0 0, .slice none 0 0, .slice none 0 0]) := hide (by rw [hw5]; exact (HX3.out.keep hk4 (by have := HGQ.out; omega)).alloc _)
  have HP5 : Hid (Blk w5 w4.heap.size 33 p.pcells.toArray) := hide (by rw [hw5]; exact Blk.new _ _ _)
  have HFA5 : Hid (F.at_ w5 (fun k => k < w1.heap.size ∨ q ≤ k)) := hide (by rw [hw5]; exact HFA3.out.keep ((hk4.mono (fun k _ h => .inl (by have := HGR.out; omega))).alloc _))
  have HPA5 : Hid (p.pat w5 (fun k => k < w3.heap.size ∨ w4.heap.size ≤ k)) := hide (by rw [hw5]; exact HPAT.out.keep ((Keep.refl _ w4).alloc _))
  obtain ⟨q2, hq2⟩ : ∃ q2, q2 = w4.heap.size := ⟨_, rfl⟩
  rw [← hq2] at HP5 HPA5 HM3 ⊢
  clear hw5 hq2 hown hr4 hk4 HPAT HT3 HB3 HR3 HX3 HFA3 HPD
  have k0 := HP5.out.cell 0
  have k1 := HP5.out.cell 1
  have k2 := HP5.out.cell 2
  have k3 := HP5.out.cell 3
  have k4 := HP5.out.cell 4
  have x4 := HX5.out.cell 4
  have x5 := HX5.out.cell 5
  have x6 := HX5.out.cell 6
  have x7 := HX5.out.cell 7
  have x8 := HX5.out.cell 8
  have f4 := HX5.out.frozen 4
  have f5 := HX5.out.frozen 5
  have f6 := HX5.out.frozen 6
  have f7 := HX5.out.frozen 7
  have f8 := HX5.out.frozen 8
  simp at k0 k1 k2 k3 k4 x4 x5 x6 x7 x8
  go_upto_region 5 with fail
  refine name_world ?_
  intro wo hwo
  have hwo' : wo = ((((w5.setCell ⟨q, 4, none⟩ (.slice p.nA p.nl p.nc)).setCell ⟨q, 5, none⟩ (.slice p.cA p.cl p.cc)).setCell ⟨q, 6, none⟩ (.slice p.tA p.tl p.tc)).setCell ⟨q, 7, none⟩ (.slice p.dA p.dl p.dc)).setCell ⟨q, 8, none⟩ (.slice p.mA p.ml p.mc) := hwo
  have HKQ : Hid (Keep (fun k => k = q) w5 wo) := hide (by rw [hwo']; exact ((((((Keep.refl (fun k => k = q) w5).setCell (p := ⟨q, 4, none⟩) (fun _ => rfl) _).setCell (p := ⟨q, 5, none⟩) (fun _ => rfl) _).setCell (p := ⟨q, 6, none⟩) (fun _ => rfl) _).setCell (p := ⟨q, 7, none⟩) (fun _ => rfl) _).setCell (p := ⟨q, 8, none⟩) (fun _ => rfl) _))
  have HXO : Hid (Blk wo q 36 #[S F.n, S F.su, .slice F.fA F.fl F.fc, .slice F.mA F.ml F.mc, .slice p.nA p.nl p.nc, .slice p.cA p.cl p.cc, .slice p.tA p.tl p.tc, .slice p.dA p.dl p.dc, .slice p.mA p.ml p.mc, .slice none 0 0]) := hide (by rw [hwo']; have := ((((HX5.out.set_ 4 (.slice p.nA p.nl p.nc)).set_ 5 (.slice p.cA p.cl p.cc)).set_ 6 (.slice p.tA p.tl p.tc)).set_ 7 (.slice p.dA p.dl p.dc)).set_ 8 (.slice p.mA p.ml p.mc); simpa using this)
  clear hwo hwo' k0 k1 k2 k3 k4 x4 x5 x6 x7 x8 f4 f5 f6 f7 f8
  have HRO : Hid (Rl wo g s4) := hide (HR5.out.keep HKQ.out (by have := HGQ.out; omega))
  have HTO : Hid (Blk wo N 36 #[S [], S [], .slice none 0 0, .slice none 0 0, .slice none 0 0, .slice none 0 0, .slice none 0 0, .slice none 0 0, .slice none 0 0, .slice none 0 0]) := hide (HT5.out.keep HKQ.out (by have := HGQ.out; have := HNG.out; omega))
  have HBO : Hid (Keep (fun k => N ≤ k) w wo) := hide (HB5.out.trans (HKQ.out.mono (fun k _ h => by have := HGQ.out; have := HNG.out; omega)))
  have HFO : Hid (F.at_ wo (fun k => k < N ∨ k = N ∨ k = g ∨ k = q ∨ wo.heap.size ≤ k)) := hide ((HFA5.out.keep (HKQ.out.mono (fun k _ h => .inr (by omega)))).weak (fun k h => by
    have h1 := HNG.out; have h2 := HGR.out; have h3 := HQ3.out; have h4 := HM3.out; have h5 := HP5.out.lt; have h6 := HKQ.out.size
    rcases h with h | h | h | h | h
    · exact .inl (by omega)
    · exact .inl (by omega)
    · exact .inl (by omega)
    · exact .inr (by omega)
    · exact .inr (by omega)))
  have HPO : Hid (p.pat wo (fun k => k < N ∨ k = N ∨ k = g ∨ k = q ∨ wo.heap.size ≤ k)) := hide ((HPA5.out.keep (HKQ.out.mono (fun k _ h => .inl (by have := HQ3.out; omega)))).weak (fun k h => by
    have h1 := HNG.out; have h2 := HGR.out; have h3 := HQ3.out; have h4 := HM3.out; have h5 := HP5.out.lt; have h6 := HKQ.out.size; have h7 := HGQ.out
    rcases h with h | h | h | h | h
    · exact .inl (by omega)
    · exact .inl (by omega)
    · exact .inl (by omega)
    · exact .inl (by omega)
    · exact .inr (by omega)))
  clear HR5 HT5 HB5 HX5 HP5 HFA5 HPA5 HKQ HM1 HM3 HQ3 HGR
  have HGO : Hid (g < wo.heap.size) := hide HRO.out.lt
  have HQO : Hid (q < wo.heap.size) := hide HXO.out.lt
  have c3 := HXO.out.cell 3
  simp at c3
  go_upto_region 6 with fail
  clear c3
  go_wp2_with fail
  go_loopw [26] (fun i wr => ∃ (k : Nat) (A : Option Addr) (c : Nat) (bs : List Bd), k ≤ F.ml ∧ i = .int .i64 k ∧ Hid (Gx wr q 36 [S F.n, S F.su, .slice F.fA F.fl F.fc, .slice F.mA F.ml F.mc, .slice p.nA p.nl p.nc, .slice p.cA p.cl p.cc, .slice p.tA p.tl p.tc, .slice p.dA p.dl p.dc, .slice p.mA p.ml p.mc, .slice A k c] 9 wo.heap.size 58 3 k (bs.flatMap Bd.cells) (.slice A k c)) ∧ Hid (BdsOwn wr wo.heap.size bs) ∧ Hid (bs.map Bd.pl = (iterR bdR k s4).1) ∧ Hid (Rl wr g (iterR bdR k s4).2) ∧ Hid (Keep (fun i => i = g ∨ i = q) wo wr)) (fun i _ => F.ml - (intOf i).toNat)
  case atStart => exact ⟨0, none, 0, [], Nat.zero_le _, rfl, hide ⟨HXO.out, rfl, World.ownsRow_nil _ _ _ _, by decide⟩, hide (fun m hm => by cases hm), hide rfl, HRO, hide (Keep.refl _ _)⟩
  case round =>
    obtain ⟨k, A, c, bs, hk, rfl, HGX, HBW, HPL, HRL, HKP⟩ := hrel
    obtain ⟨wu, rfl⟩ : ∃ wu : World, wu = wr := ⟨_, rfl⟩
    clear HXO
    have HMR : Hid (wo.heap.size ≤ wu.heap.size) := hide HKP.out.size
    by_cases hlt : k < F.ml
    · skip
      have HXX : Hid ((iterR bdR (k + 1) s4).1 = (iterR bdR k s4).1 ++ [(bdR (iterR bdR k s4).2).1] ∧ (iterR bdR (k + 1) s4).2 = (bdR (iterR bdR k s4).2).2) := hide ⟨rfl, rfl⟩
      generalize (iterR bdR k s4).2 = X at HRL HXX
      have HBE := hide (bdR_eq X)
      have HLR : Hid (g < wu.heap.size) := hide HRL.out.lt
      have H1 := hide (rnum401 g X wu HRL.out)
      go_wp2_with (first | fail)
      refine H1.out.mono ?_
      rintro e w1 ⟨rfl, h1, k1⟩
      have H2 := hide (rnum1000 g (numR 401 X).2 w1 h1)
      have hlo := numR_le 401 X
      have hsk := numR_le 1000 (numR 401 X).2
      clear h1 H1
      generalize (numR 401 X).1 = lo at *
      generalize (numR 1000 (numR 401 X).2).1 = sk at *
      generalize (numR 1000 (numR 401 X).2).2 = s6 at *
      go_wp2_with (first | fail)
      refine H2.out.mono ?_
      rintro e w2 ⟨rfl, h2, k2⟩
      have HK12 := hide (k1.trans k2)
      clear k1 k2 H2
      go_upto_region 8 with fail
      refine name_world ?_
      intro w4 hw4
      have HR4 : Hid (Rl w4 g s6) := hide (by rw [hw4]; exact h2.alloc _)
      have HX4 : Hid (Blk w4 w2.heap.size 58 #[.int .i64 (lo : Int), .int .i64 (sk : Int), .slice none 0 0]) := hide (by rw [hw4]; exact Blk.new _ _ _)
      have HB4 : Hid (Keep (fun k => k = g) wu w4) := hide (by rw [hw4]; exact HK12.out.alloc _)
      have HQ4 : Hid (wu.heap.size ≤ w2.heap.size) := hide HK12.out.size
      obtain ⟨q4, hq4⟩ : ∃ q4, q4 = w2.heap.size := ⟨_, rfl⟩
      rw [← hq4] at HX4 HQ4 ⊢
      clear hw4 hq4 h2 HK12
      have HGQ4 : Hid (g ≠ q4) := hide (by have := HLR.out; have := HQ4.out; omega)
      have H5 := hide (rmany16 g s6 w4 HR4.out)
      go_wp2_with (first | fail)
      refine H5.out.mono ?_
      rintro e wi ⟨rfl, h5, k5⟩
      have HX5 : Hid (Blk wi q4 58 #[.int .i64 (lo : Int), .int .i64 (sk : Int), .slice none 0 0]) := hide (HX4.out.keep k5 (fun e => HGQ4.out e.symm))
      have HB5 := hide (HB4.out.trans k5)
      have HR5 := hide h5
      have hN3 := manyR_le 16384 s6
      have HSEC : Hid (secR coR 16384 s6 = iterR coR (manyR 16384 s6).1 (manyR 16384 s6).2) := hide rfl
      clear H5 HX4 HB4 HR4 h5 k5
      generalize (manyR 16384 s6).1 = N3 at *
      generalize (manyR 16384 s6).2 = s7 at *
      have HGI : Hid (g < wi.heap.size) := hide HR5.out.lt
      have HMI : Hid (wo.heap.size ≤ wi.heap.size) := hide (Nat.le_trans HMR.out HB5.out.size)
      have HBI : Hid (∀ w', Keep (fun i => i = g ∨ i = q4) wi w' → Laid w') := hide (fun w' h => HLD.out w' (by
        have h1 : Keep (fun k => N ≤ k) w w' := ((HBO.out.trans (HKP.out.mono (fun k _ h => by have := HNG.out; have := HGQ.out; rcases h with h | h <;> omega))).trans (HB5.out.mono (fun k _ h => by have := HNG.out; omega))).trans (h.mono (fun k _ h => by have := HNG.out; have := HQ4.out; have := HMR.out; have := HQO.out; have := HGQ.out; rcases h with h | h <;> omega))
        exact h1.below (by omega) (fun k hk => by have := HNN.out; omega)))
      go_wp2_with fail
      go_loopw [35] (fun i wp => ∃ (j : Nat) (Aj : Option Addr) (cj : Nat), j ≤ N3 ∧ i = .int .i64 j ∧ Hid (Gx wp q4 58 [.int .i64 (lo : Int), .int .i64 (sk : Int), .slice Aj j cj] 2 wi.heap.size 55 2 j ((iterR coR j s7).1.flatMap coC) (.slice Aj j cj)) ∧ Hid (Rl wp g (iterR coR j s7).2) ∧ Hid (Keep (fun i => i = g ∨ i = q4) wi wp)) (fun i _ => N3 - (intOf i).toNat)
      case atStart => exact ⟨0, none, 0, Nat.zero_le _, rfl, hide ⟨HX5.out, rfl, World.ownsRow_nil _ _ _ _, by decide⟩, HR5, hide (Keep.refl _ _)⟩
      case round =>
        obtain ⟨j, Aj, cj, hj, rfl, HGP, HRP, HKJ⟩ := hrel
        clear HX5 HR5
        by_cases hlt3 : j < N3
        · skip
          obtain ⟨wv, rfl⟩ : ∃ wv : World, wv = wr := ⟨_, rfl⟩
          have HXJ : Hid ((iterR coR (j + 1) s7).1 = (iterR coR j s7).1 ++ [(coR (iterR coR j s7).2).1] ∧ (iterR coR (j + 1) s7).2 = (coR (iterR coR j s7).2).2) := hide ⟨rfl, rfl⟩
          generalize (iterR coR j s7).2 = Y at HRP HXJ
          have HCE : Hid (∀ _ : Unit, coR Y = if pl ((numR 16384 Y).1 : Int) == 0 then ((((numR 16384 Y).1 : Int), (0 : Int)), (numR 16384 Y).2) else ((((numR 16384 Y).1 : Int), ((numR 16384 (numR 16384 Y).2).1 : Int)), (numR 16384 (numR 16384 Y).2).2)) := hide (fun _ => rfl)
          have HLV : Hid (g < wv.heap.size) := hide HRP.out.lt
          have HMV : Hid (wi.heap.size ≤ wv.heap.size) := hide HKJ.out.size
          have H1 := hide (rnum16 g Y wv HRP.out)
          have hxc := numR_le 16384 Y
          go_upto_region 11 with (go_at_call 28; refine H1.out.mono ?_; rintro e w5 ⟨rfl, h5, k5⟩)
          generalize (numR 16384 Y).1 = xc at *
          generalize (numR 16384 Y).2 = Y1 at *
          refine name_world ?_
          intro w6 hw6
          have HR6 : Hid (Rl w6 g Y1) := hide (by rw [hw6]; exact h5.alloc _)
          have HX6 : Hid (Blk w6 w5.heap.size 55 #[.int .i64 (xc : Int), .int .i64 0]) := hide (by rw [hw6]; exact Blk.new _ _ _)
          have HB6 : Hid (Keep (fun k => k = g) wv w6) := hide (by rw [hw6]; exact k5.alloc _)
          have HQ9 : Hid (wv.heap.size ≤ w5.heap.size) := hide k5.size
          obtain ⟨q9, hq9⟩ : ∃ q9, q9 = w5.heap.size := ⟨_, rfl⟩
          rw [← hq9] at HX6 HQ9 ⊢
          clear hw6 hq9 h5 k5 H1
          have HGQ9 : Hid (g ≠ q9) := hide (by have := HLV.out; have := HQ9.out; omega)
          have HPL6 := hide (pool_any (xc : Int) w6 (HBI.out w6 (HKJ.out.trans (HB6.out.mono (fun _ _ h => .inl h)))))
          have k0 := HX6.out.cell 0
          simp at k0
          have hi1 : i64In (xc : Int) := by unfold i64In; omega
          cases hz : (pl (xc : Int) == 0) with
          | true =>
            go_upto_region 13 with (go_at_call 17; refine HPL6.out.mono ?_; rintro e w7 ⟨rfl, hw7⟩; subst w7)
            have HKZ : Hid (Keep (fun i => i = g ∨ i = q9) wv w6) := hide (HB6.out.mono (fun _ _ h => .inl h))
            have HG7 : Hid (Gx w6 q4 58 [.int .i64 (lo : Int), .int .i64 (sk : Int), .slice Aj j cj] 2 wi.heap.size 55 2 j ((iterR coR j s7).1.flatMap coC) (.slice Aj j cj)) := hide (HGP.out.keep HKZ.out (fun h => by have := HQ9.out; have := HGP.out.blk.lt; exact h.elim (fun h => HGQ4.out h.symm) (fun h => by omega)) (fun i hi h => by have := (HGP.out.own.lt i hi).2; have := own_base HGP.out.own hi; have := HGI.out; have := HQ9.out; rcases h with h | h <;> omega))
            have HK7 : Hid (Keep (fun i => i = g ∨ i = q4) wi w6) := hide (HKJ.out.trans' HKZ.out (fun i hi h => by have := HQ9.out; have := HMV.out; exact h.elim .inl (fun h => by omega)))
            have HMW : Hid (wi.heap.size ≤ w6.heap.size) := hide HK7.out.size
            have c2' : w6.cell? ⟨q4, 2, none⟩ = some (.slice Aj j cj) := HG7.out.cell
            have m0 := HX6.out.cell 0
            have m1 := HX6.out.cell 1
            simp at m0 m1
            have HRZ := HR6
            have HCZ : Hid ((coR Y).1 = ((xc : Int), (0 : Int)) ∧ (coR Y).2 = Y1) := hide (by rw [HCE.out (), if_pos hz]; exact ⟨rfl, rfl⟩)
            clear HGP HKZ HKJ HQ9 HPL6
            go_wp2_with (at_builtin; refine wpList_appB rfl (.tmp 48) (.tmp 50) 56 rfl wi.heap.size 55 (.agg #[.int .i64 0, .int .i64 0]) 2 16 Tryd.underlying56 co_info rfl (by decide) (.slice Aj j cj) j ((iterR coR j s7).1.flatMap coC) rfl (HG7.out.own.alloc _) w6.heap.size [.int .i64 (xc : Int), .int .i64 (0 : Int)] rfl rfl (Blk.new _ _ _) (by intro u hu; simp only [List.mem_cons, List.not_mem_nil, or_false] at hu; rcases hu with rfl | rfl <;> rfl) (by unfold maxLen; omega) (by omega) (by have := HMW.out; simp; omega) ?_)
            intro A4 c4 w9 hown9 hg9
            obtain ⟨hn9, hc9, hf9⟩ := (HG7.out.alloc _).next hown9 hg9
            simp only [List.set_cons_zero, List.set_cons_succ] at hn9
            have HG9 := hide hn9
            have HGV9 : Hid ((Value.slice Aj j cj).ownBlock ≠ some g) := hide (fun e => by have := own_base HG7.out.own e; have := HGI.out; omega)
            have HR9 : Hid (Rl (w9.setCell ⟨q4, 2, none⟩ (.slice A4 (j + 1) c4)) g (iterR coR (j + 1) s7).2) := hide (by
              rw [HXJ.out.2, HCZ.out.2]
              have h1 : Rl w9 g (Y1) := ⟨(HRZ.out.alloc _).rs.grown hg9 (fun e => HGV9.out e.symm), HRZ.out.len⟩
              exact ⟨h1.rs.far HGQ4.out _, h1.len⟩)
            have HK9 : Hid (Keep (fun i => i = g ∨ i = q4) wi (w9.setCell ⟨q4, 2, none⟩ (.slice A4 (j + 1) c4))) := hide (by
              have h1 : Keep (fun i => i = g ∨ i = q4) wi w9 := (HK7.out.alloc _).grown hg9 (fun i hi hlt => by have := own_base HG7.out.own hi; omega)
              exact h1.setCell (fun _ => .inr rfl) _)
            have HZZ : Hid ((iterR coR (j + 1) s7).1.flatMap coC = (iterR coR j s7).1.flatMap coC ++ [.int .i64 (xc : Int), .int .i64 (0 : Int)]) := hide (by rw [HXJ.out.1, List.flatMap_append, List.flatMap_singleton, HCZ.out.1])
            rw [← HZZ.out] at HG9
            clear hn9 hown9 hg9 m0 m1 c2' HG7 HK7 HRZ
            go_wp2_with fail
            go_roundw
            case rel => first | exact ⟨j + 1, A4, c4, by omega, by go_num, HG9, HR9, HK9⟩ | ((repeat apply Exists.intro); exact ⟨⟨j + 1, A4, c4, by omega, by go_num, HG9, HR9, HK9⟩, rfl⟩)
            case measure => simp [intOf]; omega
          | false =>
            have H2 := hide (rnum16 g Y1 w6 HR6.out)
            have hxa := numR_le 16384 Y1
            generalize (numR 16384 Y1).1 = xa at *
            generalize (numR 16384 Y1).2 = Y2 at *
            go_upto_region 12 with (go_at_call 17; refine HPL6.out.mono ?_; rintro e w7 ⟨rfl, hw7⟩; subst w7)
            go_wp2_with (first | fail)
            refine H2.out.mono ?_
            rintro e w8 ⟨rfl, h8, k8⟩
            have HX8 : Hid (Blk w8 q9 55 #[.int .i64 (xc : Int), .int .i64 0]) := hide (HX6.out.keep k8 (fun e => HGQ9.out e.symm))
            have d1 := HX8.out.cell 1
            have f1 := HX8.out.frozen 1
            simp at d1
            go_upto_region 13 with fail
            refine name_world ?_
            intro w10 hw10
            have hw10' : w10 = w8.setCell ⟨q9, 1, none⟩ (.int .i64 (xa : Int)) := hw10
            have HR10 : Hid (Rl w10 g Y2) := hide (by rw [hw10']; exact ⟨h8.rs.far HGQ9.out _, h8.len⟩)
            have HX10 : Hid (Blk w10 q9 55 #[.int .i64 (xc : Int), .int .i64 (xa : Int)]) := hide (by rw [hw10']; have := HX8.out.set_ 1 (.int .i64 (xa : Int)); simpa using this)
            have HB10 : Hid (Keep (fun i => i = g ∨ i = q9) wv w10) := hide (by rw [hw10']; exact ((HB6.out.trans k8).mono (fun _ _ h => .inl h)).setCell (fun _ => .inr rfl) _)
            clear hw10 hw10' d1 f1 h8 k8 HX8 HX6 HR6 HB6 H2 k0
            have HKZ : Hid (Keep (fun i => i = g ∨ i = q9) wv w10) := hide (HB10.out)
            have HG7 : Hid (Gx w10 q4 58 [.int .i64 (lo : Int), .int .i64 (sk : Int), .slice Aj j cj] 2 wi.heap.size 55 2 j ((iterR coR j s7).1.flatMap coC) (.slice Aj j cj)) := hide (HGP.out.keep HKZ.out (fun h => by have := HQ9.out; have := HGP.out.blk.lt; exact h.elim (fun h => HGQ4.out h.symm) (fun h => by omega)) (fun i hi h => by have := (HGP.out.own.lt i hi).2; have := own_base HGP.out.own hi; have := HGI.out; have := HQ9.out; rcases h with h | h <;> omega))
            have HK7 : Hid (Keep (fun i => i = g ∨ i = q4) wi w10) := hide (HKJ.out.trans' HKZ.out (fun i hi h => by have := HQ9.out; have := HMV.out; exact h.elim .inl (fun h => by omega)))
            have HMW : Hid (wi.heap.size ≤ w10.heap.size) := hide HK7.out.size
            have c2' : w10.cell? ⟨q4, 2, none⟩ = some (.slice Aj j cj) := HG7.out.cell
            have m0 := HX10.out.cell 0
            have m1 := HX10.out.cell 1
            simp at m0 m1
            have HRZ := HR10
            have HCZ : Hid ((coR Y).1 = ((xc : Int), (xa : Int)) ∧ (coR Y).2 = Y2) := hide (by rw [HCE.out (), if_neg (by rw [hz]; decide)]; exact ⟨rfl, rfl⟩)
            clear HGP HKZ HKJ HQ9 HPL6
            go_wp2_with (at_builtin; refine wpList_appB rfl (.tmp 48) (.tmp 50) 56 rfl wi.heap.size 55 (.agg #[.int .i64 0, .int .i64 0]) 2 16 Tryd.underlying56 co_info rfl (by decide) (.slice Aj j cj) j ((iterR coR j s7).1.flatMap coC) rfl (HG7.out.own.alloc _) w10.heap.size [.int .i64 (xc : Int), .int .i64 (xa : Int)] rfl rfl (Blk.new _ _ _) (by intro u hu; simp only [List.mem_cons, List.not_mem_nil, or_false] at hu; rcases hu with rfl | rfl <;> rfl) (by unfold maxLen; omega) (by omega) (by have := HMW.out; simp; omega) ?_)
            intro A4 c4 w9 hown9 hg9
            obtain ⟨hn9, hc9, hf9⟩ := (HG7.out.alloc _).next hown9 hg9
            simp only [List.set_cons_zero, List.set_cons_succ] at hn9
            have HG9 := hide hn9
            have HGV9 : Hid ((Value.slice Aj j cj).ownBlock ≠ some g) := hide (fun e => by have := own_base HG7.out.own e; have := HGI.out; omega)
            have HR9 : Hid (Rl (w9.setCell ⟨q4, 2, none⟩ (.slice A4 (j + 1) c4)) g (iterR coR (j + 1) s7).2) := hide (by
              rw [HXJ.out.2, HCZ.out.2]
              have h1 : Rl w9 g (Y2) := ⟨(HRZ.out.alloc _).rs.grown hg9 (fun e => HGV9.out e.symm), HRZ.out.len⟩
              exact ⟨h1.rs.far HGQ4.out _, h1.len⟩)
            have HK9 : Hid (Keep (fun i => i = g ∨ i = q4) wi (w9.setCell ⟨q4, 2, none⟩ (.slice A4 (j + 1) c4))) := hide (by
              have h1 : Keep (fun i => i = g ∨ i = q4) wi w9 := (HK7.out.alloc _).grown hg9 (fun i hi hlt => by have := own_base HG7.out.own hi; omega)
              exact h1.setCell (fun _ => .inr rfl) _)
            have HZZ : Hid ((iterR coR (j + 1) s7).1.flatMap coC = (iterR coR j s7).1.flatMap coC ++ [.int .i64 (xc : Int), .int .i64 (xa : Int)]) := hide (by rw [HXJ.out.1, List.flatMap_append, List.flatMap_singleton, HCZ.out.1])
            rw [← HZZ.out] at HG9
            clear hn9 hown9 hg9 m0 m1 c2' HG7 HK7 HRZ
            go_wp2_with fail
            go_roundw
            case rel => first | exact ⟨j + 1, A4, c4, by omega, by go_num, HG9, HR9, HK9⟩ | ((repeat apply Exists.intro); exact ⟨⟨j + 1, A4, c4, by omega, by go_num, HG9, HR9, HK9⟩, rfl⟩)
            case measure => simp [intOf]; omega
        · skip
          obtain rfl : N3 = j := by omega
          obtain ⟨wv, rfl⟩ : ∃ wv : World, wv = wr := ⟨_, rfl⟩
          have HPO2 : Hid (∀ x ∈ (iterR coR N3 s7).1, i64In x.1 ∧ i64In x.2) := hide (iterR_all (p := fun x : Int × Int => i64In x.1 ∧ i64In x.2) coR_in N3 s7)
          have HPN : Hid ((iterR coR N3 s7).1.length = N3) := hide (iterR_len _ _ _)
          have HNW : Hid ((bdR X).1 = ⟨(lo : Int), (sk : Int), (iterR coR N3 s7).1⟩ ∧ (bdR X).2 = (iterR coR N3 s7).2) := hide (by rw [HBE.out, HSEC.out]; exact ⟨rfl, rfl⟩)
          generalize (iterR coR N3 s7).1 = code at *
          generalize (iterR coR N3 s7).2 = s8 at *
          have HKW : Hid (Keep (fun i => i = g ∨ i = q4) wu wv) := hide ((HB5.out.mono (fun _ _ h => .inl h)).trans HKJ.out)
          have hfar : ∀ i, i < wu.heap.size → wo.heap.size ≤ i → ¬ (i = g ∨ i = q4) := fun i h1 h2 h => by have := HGO.out; have := HQ4.out; rcases h with h | h <;> omega
          have HG7 : Hid (Gx wv q 36 [S F.n, S F.su, .slice F.fA F.fl F.fc, .slice F.mA F.ml F.mc, .slice p.nA p.nl p.nc, .slice p.cA p.cl p.cc, .slice p.tA p.tl p.tc, .slice p.dA p.dl p.dc, .slice p.mA p.ml p.mc, .slice A k c] 9 wo.heap.size 58 3 k (bs.flatMap Bd.cells) (.slice A k c)) := hide (HGX.out.keep HKW.out (fun h => by have := HQ4.out; have := HGX.out.blk.lt; have := HGQ.out; exact h.elim (fun h => by omega) (fun h => by omega)) (fun i hi => hfar i (HGX.out.own.lt i hi).2 (own_base HGX.out.own hi)))
          have HS7 : Hid (BdsOwn wv wo.heap.size bs) := hide (HBW.out.keep HKW.out (fun m hm i hi => hfar i ((HBW.out m hm).1.lt i hi).2 (own_base (HBW.out m hm).1 hi)))
          have HK7 : Hid (Keep (fun i => i = g ∨ i = q) wo wv) := hide (HKP.out.trans' HKW.out (fun i hi h => by have := HQ4.out; have := HMR.out; exact h.elim .inl (fun h => by omega)))
          have HMW : Hid (wo.heap.size ≤ wv.heap.size) := hide HK7.out.size
          have c9' : wv.cell? ⟨q, 9, none⟩ = some (.slice A k c) := HG7.out.cell
          have m0 := HGP.out.blk.cell 0
          have m1 := HGP.out.blk.cell 1
          have m2 := HGP.out.blk.cell 2
          simp at m0 m1 m2
          clear hfar HGX HBW HKW HKJ HB5 HQ4 HKP
          go_wp2_with (at_builtin; refine wpList_appB rfl (.tmp 55) (.tmp 57) 34 rfl wo.heap.size 58 (.agg #[.int .i64 0, .int .i64 0, .slice none 0 0]) 3 40 Tryd.underlying34 bd_info rfl (by decide) (.slice A k c) k (bs.flatMap Bd.cells) rfl (HG7.out.own.alloc _) wv.heap.size [.int .i64 (lo : Int), .int .i64 (sk : Int), .slice Aj N3 cj] rfl rfl (Blk.new _ _ _) (by intro u hu; simp only [List.mem_cons, List.not_mem_nil, or_false] at hu; rcases hu with rfl | rfl | rfl <;> rfl) (by unfold maxLen; omega) (by omega) (by have := HMW.out; simp; omega) ?_)
          intro A4 c4 w9 hown9 hg9
          obtain ⟨hn9, hc9, hf9⟩ := (HG7.out.alloc _).next hown9 hg9
          simp only [List.set_cons_zero, List.set_cons_succ] at hn9
          have HG9 := hide hn9
          have HGV9 : Hid ((Value.slice A k c).ownBlock ≠ some g) := hide (fun e => by have := own_base HG7.out.own e; have := HGO.out; omega)
          have HGQN : Hid (g ≠ q) := hide (by have := HGQ.out; omega)
          have HR9 : Hid (Rl (w9.setCell ⟨q, 9, none⟩ (.slice A4 (k + 1) c4)) g (iterR bdR (k + 1) s4).2) := hide (by
            rw [HXX.out.2, HNW.out.2]
            have h1 : Rl w9 g s8 := ⟨(HRP.out.alloc _).rs.grown hg9 (fun e => HGV9.out e.symm), HRP.out.len⟩
            exact ⟨h1.rs.far HGQN.out _, h1.len⟩)
          have HK9 : Hid (Keep (fun i => i = g ∨ i = q) wo (w9.setCell ⟨q, 9, none⟩ (.slice A4 (k + 1) c4))) := hide (by
            have h1 : Keep (fun i => i = g ∨ i = q) wo w9 := (HK7.out.alloc _).grown hg9 (fun i hi hlt => by have := own_base HG7.out.own hi; omega)
            exact h1.setCell (fun _ => .inr rfl) _)
          have HP9 : Hid ((bs ++ [(⟨(lo : Int), (sk : Int), Aj, N3, cj, code⟩ : Bd)]).map Bd.pl = (iterR bdR (k + 1) s4).1) := hide (by rw [HXX.out.1, HNW.out.1, List.map_append, HPL.out]; rfl)
          have HS9 : Hid (BdsOwn (w9.setCell ⟨q, 9, none⟩ (.slice A4 (k + 1) c4)) wo.heap.size (bs ++ [(⟨(lo : Int), (sk : Int), Aj, N3, cj, code⟩ : Bd)])) := hide (by
            have hko : ∀ (B n' : Nat) (v' : Value) (xs' : List Value), wv.ownsRow B 55 2 v' n' xs' → (w9.setCell ⟨q, 9, none⟩ (.slice A4 (k + 1) c4)).ownsRow B 55 2 v' n' xs' := by
              intro B n' v' xs' ho
              have hkk : Keep (fun i => some i = (Value.slice A k c).ownBlock ∨ i = q) wv (w9.setCell ⟨q, 9, none⟩ (.slice A4 (k + 1) c4)) := ((((Keep.refl (fun i => some i = (Value.slice A k c).ownBlock ∨ i = q) wv).alloc _).grown hg9 (fun i hi _ => .inl hi.symm)).setCell (fun _ => .inr rfl) _)
              refine own_keep ho hkk (fun i hi h => ?_)
              rcases h with h | h
              · exact own_own_ne ho HG7.out.own (by decide) i hi h.symm
              · exact own_blk_ne ho HG7.out.blk (by decide) (by rw [hi, h])
            intro m hm
            rcases List.mem_append.1 hm with hm | hm
            · exact ⟨hko _ _ _ _ (HS7.out m hm).1, (HS7.out m hm).2⟩
            · obtain rfl := List.mem_singleton.1 hm
              exact ⟨hko _ _ _ _ (own_base_mono HGP.out.own HMI.out), HPN.out, hN3, by show i64In (lo : Int); unfold i64In; omega, by show i64In (sk : Int); unfold i64In; omega, HPO2.out⟩)
          have HXC : Hid ((bs ++ [(⟨(lo : Int), (sk : Int), Aj, N3, cj, code⟩ : Bd)]).flatMap Bd.cells = bs.flatMap Bd.cells ++ [.int .i64 (lo : Int), .int .i64 (sk : Int), .slice Aj N3 cj]) := hide (by rw [List.flatMap_append, List.flatMap_singleton])
          rw [← HXC.out] at HG9
          clear hn9 hown9 hg9 m0 m1 m2 c9' HG7 HS7 HK7 HRP HGP
          go_wp2_with fail
          go_roundw
          case rel => first | exact ⟨k + 1, A4, c4, _, by omega, by go_num, HG9, HS9, HP9, HR9, HK9⟩ | ((repeat apply Exists.intro); exact ⟨⟨k + 1, A4, c4, _, by omega, by go_num, HG9, HS9, HP9, HR9, HK9⟩, rfl⟩)
          case measure => simp [intOf]; omega
    · skip
      obtain rfl : k = F.ml := by omega
      have HDEC : Hid (∀ _ : Unit, decR l = (⟨F.pl, (poR s3).1.1, (iterR bdR F.ml (poR s3).2).1⟩, (iterR bdR F.ml (poR s3).2).2, (poR s3).1.2.all isMt)) := hide (by
        intro _
        unfold decR
        simp only [HS3.out, ← HFP.out, HFL.out])
      have hbl : bs.length = F.ml := by have := congrArg List.length HPL.out; rwa [List.length_map, iterR_len] at this
      have HFU : Hid ((Fl.of F p A F.ml c bs).at_ wu (fun i => i ≤ N ∨ wu.heap.size ≤ i)) := hide ⟨(HFO.out.keep (HKP.out.mono (fun i _ h => by rcases h with h | h <;> omega))).weak (fun i h => by have := HMR.out; rcases h with h | h <;> omega), ((HPO.out.keep (HKP.out.mono (fun i _ h => by rcases h with h | h <;> omega))).weak (fun i h => by have := HMR.out; rcases h with h | h <;> omega)).of, (Rd.of_ownB HGX.out.own).weak (fun i hi h => by have := HQO.out; have := HNG.out; have := HGQ.out; rcases h with h | h <;> omega), hbl, by show F.ml ≤ 9223372036854775807; omega, fun b hb => by
        obtain ⟨h1, h2, h3, h4, h5, h6⟩ := HBW.out b hb
        exact ⟨(Rd.of_ownB h1).weak (fun i hi h => by have := HQO.out; have := HNG.out; have := HGQ.out; rcases h with h | h <;> omega), h2, by omega, h4, h5, h6⟩⟩
      have HKU : Hid (Keep (fun k => N ≤ k) w wu) := hide (HBO.out.trans (HKP.out.mono (fun k _ h => by have := HNG.out; have := HGQ.out; rcases h with h | h <;> omega)))
      have HTU := hide (HTO.out.keep HKP.out (fun h => by have := HNG.out; have := HGQ.out; rcases h with h | h <;> omega))
      have HLU : Hid (Laid wu) := hide (HLD.out wu (HKU.out.below (by have := HNN.out; omega) (fun k hk => by have := HNN.out; omega)))
      have HRT : Hid (Calls Tryd.prog 12 #[.agg #[S F.n, S F.su, .slice F.fA F.fl F.fc, .slice F.mA F.ml F.mc, .slice p.nA p.nl p.nc, .slice p.cA p.cl p.cc, .slice p.tA p.tl p.tc, .slice p.dA p.dl p.dc, .slice p.mA p.ml p.mc, .slice A F.ml c]] wu (Gives wu (.bool (Fl.of F p A F.ml c bs).pl.right))) := hide (fright_any (Fl.of F p A F.ml c bs) wu HLU.out (HFU.out.weak (fun i h => .inr h)))
      have HPV : Hid (∀ _ : Unit, ok = true → (Fl.of F p A F.ml c bs).pl = (decR l).1 ∧ (iterR bdR F.ml s4).2 = (decR l).2.1 ∧ (decR l).2.2 = true) := hide (by
        intro _ h
        obtain ⟨h1, h2⟩ := HYES.out h
        have h3 := HOK.out ()
        rw [h] at h3
        have h4 := (Bool.and_eq_true_iff.1 h3.symm).1
        rw [HDEC.out ()]
        dsimp only
        rw [← h2, ← h1, ← HPL.out]
        generalize (poR s3).1.2.all isMt = Q4 at h4 ⊢
        generalize (iterR bdR F.ml s4).2 = Q5
        exact ⟨rfl, rfl, h4⟩)
      have HNO : Hid (∀ _ : Unit, ok = false → decOk l = false) := hide (by
        intro _ h
        have h3 := HOK.out ()
        rw [h] at h3
        unfold decOk
        rw [HDEC.out ()]
        simp only
        cases h4 : (poR s3).1.2.all isMt with
        | false => rfl
        | true =>
          rw [h4] at h3
          have h5 : (poR s3).2 = none := by simpa using h3.symm
          rw [h5, iterR_none bdR_none]
          rfl)
      have hdn := hide (rdone_any g (iterR bdR F.ml s4).2 wu HRL.out)
      have HXU := hide HGX.out.blk
      obtain ⟨RT, hRT⟩ : ∃ RT, RT = (Fl.of F p A F.ml c bs).pl.right := ⟨_, rfl⟩
      rw [← hRT] at HRT
      have HRTE := hide (fun _ : Unit => hRT)
      have HP10 : Hid (∀ w', Below wu.heap.size wu w' → Blk w' N 36 #[S [], S [], .slice none 0 0, .slice none 0 0, .slice none 0 0, .slice none 0 0, .slice none 0 0, .slice none 0 0, .slice none 0 0, .slice none 0 0] ∧ Blk w' q 36 #[S F.n, S F.su, .slice F.fA F.fl F.fc, .slice F.mA F.ml F.mc, .slice p.nA p.nl p.nc, .slice p.cA p.cl p.cc, .slice p.tA p.tl p.tc, .slice p.dA p.dl p.dc, .slice p.mA p.ml p.mc, .slice A F.ml c] ∧ Keep (fun k => N ≤ k) w w' ∧ (Fl.of F p A F.ml c bs).at_ w' (fun i => i ≤ N ∨ wu.heap.size ≤ i)) := hide (fun w' h => ⟨HTU.out.below h HTU.out.lt, HXU.out.below h HXU.out.lt, HKU.out.trans (Keep.of_below h (fun k hk hge => by omega)), HFU.out.keep' (Keep.of_below h (fun k hk hge => .inr hge))⟩)
      generalize hst : (iterR bdR F.ml s4).2 = st5 at *
      clear HGX HBW HPL HRL HKP HFU HKU HTU HLU HDEC HYES HOK hRT hst HFO HPO HTO HBO HRO HLD
      cases ok with
      | false =>
        go_upto_region 18 with fail
        obtain ⟨HTN, HQN, HKN, HFN⟩ := HP10.out wu (Below.refl _ _)
        have d0 := HTN.cell 0
        have f0 := HTN.frozen 0
        have d1 := HTN.cell 1
        have f1 := HTN.frozen 1
        have d2 := HTN.cell 2
        have f2 := HTN.frozen 2
        have d3 := HTN.cell 3
        have f3 := HTN.frozen 3
        have d4 := HTN.cell 4
        have f4 := HTN.frozen 4
        have d5 := HTN.cell 5
        have f5 := HTN.frozen 5
        have d6 := HTN.cell 6
        have f6 := HTN.frozen 6
        have d7 := HTN.cell 7
        have f7 := HTN.frozen 7
        have d8 := HTN.cell 8
        have f8 := HTN.frozen 8
        have d9 := HTN.cell 9
        have f9 := HTN.frozen 9
        simp at d0 d1 d2 d3 d4 d5 d6 d7 d8 d9
        obtain ⟨wF, hwF⟩ : ∃ wF, wF = ((((((((((wu.setCell ⟨N, 0, none⟩ (S [])).setCell ⟨N, 1, none⟩ (S [])).setCell ⟨N, 2, none⟩ (.slice none 0 0)).setCell ⟨N, 3, none⟩ (.slice none 0 0)).setCell ⟨N, 4, none⟩ (.slice none 0 0)).setCell ⟨N, 5, none⟩ (.slice none 0 0)).setCell ⟨N, 6, none⟩ (.slice none 0 0)).setCell ⟨N, 7, none⟩ (.slice none 0 0)).setCell ⟨N, 8, none⟩ (.slice none 0 0)).setCell ⟨N, 9, none⟩ (.slice none 0 0)) := ⟨_, rfl⟩
        have HKF : Keep (fun i => i = N) wu wF := by rw [hwF]; exact (((((((((((Keep.refl (fun i => i = N) wu).setCell (p := ⟨N, 0, none⟩) (fun _ => rfl) _).setCell (p := ⟨N, 1, none⟩) (fun _ => rfl) _).setCell (p := ⟨N, 2, none⟩) (fun _ => rfl) _).setCell (p := ⟨N, 3, none⟩) (fun _ => rfl) _).setCell (p := ⟨N, 4, none⟩) (fun _ => rfl) _).setCell (p := ⟨N, 5, none⟩) (fun _ => rfl) _).setCell (p := ⟨N, 6, none⟩) (fun _ => rfl) _).setCell (p := ⟨N, 7, none⟩) (fun _ => rfl) _).setCell (p := ⟨N, 8, none⟩) (fun _ => rfl) _).setCell (p := ⟨N, 9, none⟩) (fun _ => rfl) _)
        have HBN : Blk wF N 36 #[S [], S [], .slice none 0 0, .slice none 0 0, .slice none 0 0, .slice none 0 0, .slice none 0 0, .slice none 0 0, .slice none 0 0, .slice none 0 0] := by rw [hwF]; have := ((((((((((HTN.set_ 0 (S [])).set_ 1 (S [])).set_ 2 (.slice none 0 0)).set_ 3 (.slice none 0 0)).set_ 4 (.slice none 0 0)).set_ 5 (.slice none 0 0)).set_ 6 (.slice none 0 0)).set_ 7 (.slice none 0 0)).set_ 8 (.slice none 0 0)).set_ 9 (.slice none 0 0)); simpa using this
        have HBL : Hid (Below w.heap.size w wF) := hide ((HKN.trans (HKF.mono (fun k _ h => by omega))).below (Nat.le_refl _) (fun k hk => by have := HNN.out; omega))
        have r0 := HBN.cell 0
        have r1 := HBN.cell 1
        have r2 := HBN.cell 2
        have r3 := HBN.cell 3
        have r4 := HBN.cell 4
        have r5 := HBN.cell 5
        have r6 := HBN.cell 6
        have r7 := HBN.cell 7
        have r8 := HBN.cell 8
        have r9 := HBN.cell 9
        simp at r0 r1 r2 r3 r4 r5 r6 r7 r8 r9
        rw [hwF] at HBL r0 r1 r2 r3 r4 r5 r6 r7 r8 r9
        clear HKF HBN hwF HTN HQN HKN HFN HP10
        go_wp2_with fail
        refine bodyPost_ret (v := .tuple #[.agg #[S [], S [], .slice none 0 0, .slice none 0 0, .slice none 0 0, .slice none 0 0, .slice none 0 0, .slice none 0 0, .slice none 0 0, .slice none 0 0], .int .i64 2]) ?_ rfl ?_
        · simp [results, Tryd.results10, go_sem, r0, r1, r2, r3, r4, r5, r6, r7, r8, r9]
        exact ⟨HBL.out, .inr ⟨HNO.out () (by simp), rfl⟩⟩
      | true =>
        obtain ⟨hv1, hv2, hv3⟩ := HPV.out () rfl
        by_cases hst5 : st5 = some []
        · have hd0 : doneR st5 = 0 := by unfold doneR; rw [if_pos hst5]
          rw [hd0] at hdn
          have HV := hide (fun _ : Unit => And.intro hv1 (And.intro hv2 (And.intro hv3 hst5)))
          clear hv1 hv2 hv3 hst5 hd0
          cases RT with
          | false =>
            have x0 := HXU.out.cell 0
            have x1 := HXU.out.cell 1
            have x2 := HXU.out.cell 2
            have x3 := HXU.out.cell 3
            have x4 := HXU.out.cell 4
            have x5 := HXU.out.cell 5
            have x6 := HXU.out.cell 6
            have x7 := HXU.out.cell 7
            have x8 := HXU.out.cell 8
            have x9 := HXU.out.cell 9
            simp at x0 x1 x2 x3 x4 x5 x6 x7 x8 x9
            go_upto_region 18 with (first | (go_at_call 30; refine hdn.out.mono ?_; rintro e w7 ⟨rfl, hw7⟩; subst w7) | (go_at_call 12; refine HRT.out.mono ?_; rintro e w8 ⟨rfl, hb8⟩))
            clear x0 x1 x2 x3 x4 x5 x6 x7 x8 x9
            have HNN2 : Hid (∀ _ : Unit, decOk l = false) := hide (by
              intro _
              obtain ⟨h1, h2, h3, h4⟩ := HV.out ()
              unfold decOk
              rw [← h1, ← HRTE.out ()]
              simp)
            obtain ⟨HTN, HQN, HKN, HFN⟩ := HP10.out w8 (hb8)
            have d0 := HTN.cell 0
            have f0 := HTN.frozen 0
            have d1 := HTN.cell 1
            have f1 := HTN.frozen 1
            have d2 := HTN.cell 2
            have f2 := HTN.frozen 2
            have d3 := HTN.cell 3
            have f3 := HTN.frozen 3
            have d4 := HTN.cell 4
            have f4 := HTN.frozen 4
            have d5 := HTN.cell 5
            have f5 := HTN.frozen 5
            have d6 := HTN.cell 6
            have f6 := HTN.frozen 6
            have d7 := HTN.cell 7
            have f7 := HTN.frozen 7
            have d8 := HTN.cell 8
            have f8 := HTN.frozen 8
            have d9 := HTN.cell 9
            have f9 := HTN.frozen 9
            simp at d0 d1 d2 d3 d4 d5 d6 d7 d8 d9
            obtain ⟨wF, hwF⟩ : ∃ wF, wF = ((((((((((w8.setCell ⟨N, 0, none⟩ (S [])).setCell ⟨N, 1, none⟩ (S [])).setCell ⟨N, 2, none⟩ (.slice none 0 0)).setCell ⟨N, 3, none⟩ (.slice none 0 0)).setCell ⟨N, 4, none⟩ (.slice none 0 0)).setCell ⟨N, 5, none⟩ (.slice none 0 0)).setCell ⟨N, 6, none⟩ (.slice none 0 0)).setCell ⟨N, 7, none⟩ (.slice none 0 0)).setCell ⟨N, 8, none⟩ (.slice none 0 0)).setCell ⟨N, 9, none⟩ (.slice none 0 0)) := ⟨_, rfl⟩
            have HKF : Keep (fun i => i = N) w8 wF := by rw [hwF]; exact (((((((((((Keep.refl (fun i => i = N) w8).setCell (p := ⟨N, 0, none⟩) (fun _ => rfl) _).setCell (p := ⟨N, 1, none⟩) (fun _ => rfl) _).setCell (p := ⟨N, 2, none⟩) (fun _ => rfl) _).setCell (p := ⟨N, 3, none⟩) (fun _ => rfl) _).setCell (p := ⟨N, 4, none⟩) (fun _ => rfl) _).setCell (p := ⟨N, 5, none⟩) (fun _ => rfl) _).setCell (p := ⟨N, 6, none⟩) (fun _ => rfl) _).setCell (p := ⟨N, 7, none⟩) (fun _ => rfl) _).setCell (p := ⟨N, 8, none⟩) (fun _ => rfl) _).setCell (p := ⟨N, 9, none⟩) (fun _ => rfl) _)
            have HBN : Blk wF N 36 #[S [], S [], .slice none 0 0, .slice none 0 0, .slice none 0 0, .slice none 0 0, .slice none 0 0, .slice none 0 0, .slice none 0 0, .slice none 0 0] := by rw [hwF]; have := ((((((((((HTN.set_ 0 (S [])).set_ 1 (S [])).set_ 2 (.slice none 0 0)).set_ 3 (.slice none 0 0)).set_ 4 (.slice none 0 0)).set_ 5 (.slice none 0 0)).set_ 6 (.slice none 0 0)).set_ 7 (.slice none 0 0)).set_ 8 (.slice none 0 0)).set_ 9 (.slice none 0 0)); simpa using this
            have HBL : Hid (Below w.heap.size w wF) := hide ((HKN.trans (HKF.mono (fun k _ h => by omega))).below (Nat.le_refl _) (fun k hk => by have := HNN.out; omega))
            have r0 := HBN.cell 0
            have r1 := HBN.cell 1
            have r2 := HBN.cell 2
            have r3 := HBN.cell 3
            have r4 := HBN.cell 4
            have r5 := HBN.cell 5
            have r6 := HBN.cell 6
            have r7 := HBN.cell 7
            have r8 := HBN.cell 8
            have r9 := HBN.cell 9
            simp at r0 r1 r2 r3 r4 r5 r6 r7 r8 r9
            rw [hwF] at HBL r0 r1 r2 r3 r4 r5 r6 r7 r8 r9
            clear HKF HBN hwF HTN HQN HKN HFN HP10
            go_wp2_with fail
            refine bodyPost_ret (v := .tuple #[.agg #[S [], S [], .slice none 0 0, .slice none 0 0, .slice none 0 0, .slice none 0 0, .slice none 0 0, .slice none 0 0, .slice none 0 0, .slice none 0 0], .int .i64 2]) ?_ rfl ?_
            · simp [results, Tryd.results10, go_sem, r0, r1, r2, r3, r4, r5, r6, r7, r8, r9]
            exact ⟨HBL.out, .inr ⟨HNN2.out (), rfl⟩⟩
          | true =>
            have x0 := HXU.out.cell 0
            have x1 := HXU.out.cell 1
            have x2 := HXU.out.cell 2
            have x3 := HXU.out.cell 3
            have x4 := HXU.out.cell 4
            have x5 := HXU.out.cell 5
            have x6 := HXU.out.cell 6
            have x7 := HXU.out.cell 7
            have x8 := HXU.out.cell 8
            have x9 := HXU.out.cell 9
            simp at x0 x1 x2 x3 x4 x5 x6 x7 x8 x9
            go_upto_region 19 with (first | (go_at_call 30; refine hdn.out.mono ?_; rintro e w7 ⟨rfl, hw7⟩; subst w7) | (go_at_call 12; refine HRT.out.mono ?_; rintro e w8 ⟨rfl, hb8⟩))
            clear x0 x1 x2 x3 x4 x5 x6 x7 x8 x9
            have HYY : Hid (∀ _ : Unit, decOk l = true ∧ (Fl.of F p A F.ml c bs).pl = (decR l).1) := hide (by
              intro _
              obtain ⟨h1, h2, h3, h4⟩ := HV.out ()
              refine ⟨?_, h1⟩
              unfold decOk
              rw [← h1, ← HRTE.out (), ← h2, h3, h4]
              rfl)
            obtain ⟨HTN, HQN, HKN, HFN⟩ := HP10.out w8 (hb8)
            have d0 := HTN.cell 0
            have f0 := HTN.frozen 0
            have x0 := HQN.cell 0
            have d1 := HTN.cell 1
            have f1 := HTN.frozen 1
            have x1 := HQN.cell 1
            have d2 := HTN.cell 2
            have f2 := HTN.frozen 2
            have x2 := HQN.cell 2
            have d3 := HTN.cell 3
            have f3 := HTN.frozen 3
            have x3 := HQN.cell 3
            have d4 := HTN.cell 4
            have f4 := HTN.frozen 4
            have x4 := HQN.cell 4
            have d5 := HTN.cell 5
            have f5 := HTN.frozen 5
            have x5 := HQN.cell 5
            have d6 := HTN.cell 6
            have f6 := HTN.frozen 6
            have x6 := HQN.cell 6
            have d7 := HTN.cell 7
            have f7 := HTN.frozen 7
            have x7 := HQN.cell 7
            have d8 := HTN.cell 8
            have f8 := HTN.frozen 8
            have x8 := HQN.cell 8
            have d9 := HTN.cell 9
            have f9 := HTN.frozen 9
            have x9 := HQN.cell 9
            simp at d0 d1 d2 d3 d4 d5 d6 d7 d8 d9 x0 x1 x2 x3 x4 x5 x6 x7 x8 x9
            obtain ⟨wF, hwF⟩ : ∃ wF, wF = ((((((((((w8.setCell ⟨N, 0, none⟩ (S F.n)).setCell ⟨N, 1, none⟩ (S F.su)).setCell ⟨N, 2, none⟩ (.slice F.fA F.fl F.fc)).setCell ⟨N, 3, none⟩ (.slice F.mA F.ml F.mc)).setCell ⟨N, 4, none⟩ (.slice p.nA p.nl p.nc)).setCell ⟨N, 5, none⟩ (.slice p.cA p.cl p.cc)).setCell ⟨N, 6, none⟩ (.slice p.tA p.tl p.tc)).setCell ⟨N, 7, none⟩ (.slice p.dA p.dl p.dc)).setCell ⟨N, 8, none⟩ (.slice p.mA p.ml p.mc)).setCell ⟨N, 9, none⟩ (.slice A F.ml c)) := ⟨_, rfl⟩
            have HKF : Keep (fun i => i = N) w8 wF := by rw [hwF]; exact (((((((((((Keep.refl (fun i => i = N) w8).setCell (p := ⟨N, 0, none⟩) (fun _ => rfl) _).setCell (p := ⟨N, 1, none⟩) (fun _ => rfl) _).setCell (p := ⟨N, 2, none⟩) (fun _ => rfl) _).setCell (p := ⟨N, 3, none⟩) (fun _ => rfl) _).setCell (p := ⟨N, 4, none⟩) (fun _ => rfl) _).setCell (p := ⟨N, 5, none⟩) (fun _ => rfl) _).setCell (p := ⟨N, 6, none⟩) (fun _ => rfl) _).setCell (p := ⟨N, 7, none⟩) (fun _ => rfl) _).setCell (p := ⟨N, 8, none⟩) (fun _ => rfl) _).setCell (p := ⟨N, 9, none⟩) (fun _ => rfl) _)
            have HBN : Blk wF N 36 #[S F.n, S F.su, .slice F.fA F.fl F.fc, .slice F.mA F.ml F.mc, .slice p.nA p.nl p.nc, .slice p.cA p.cl p.cc, .slice p.tA p.tl p.tc, .slice p.dA p.dl p.dc, .slice p.mA p.ml p.mc, .slice A F.ml c] := by rw [hwF]; have := ((((((((((HTN.set_ 0 (S F.n)).set_ 1 (S F.su)).set_ 2 (.slice F.fA F.fl F.fc)).set_ 3 (.slice F.mA F.ml F.mc)).set_ 4 (.slice p.nA p.nl p.nc)).set_ 5 (.slice p.cA p.cl p.cc)).set_ 6 (.slice p.tA p.tl p.tc)).set_ 7 (.slice p.dA p.dl p.dc)).set_ 8 (.slice p.mA p.ml p.mc)).set_ 9 (.slice A F.ml c)); simpa using this
            have HBL : Hid (Below w.heap.size w wF) := hide ((HKN.trans (HKF.mono (fun k _ h => by omega))).below (Nat.le_refl _) (fun k hk => by have := HNN.out; omega))
            have HFF : Hid ((Fl.of F p A F.ml c bs).at_ wF (fun i => i < w.heap.size)) := hide ((HFN.keep' (HKF.mono (fun i _ h => .inl (by omega)))).weak (fun i h => .inl (by have := HNN.out; omega)))
            have r0 := HBN.cell 0
            have r1 := HBN.cell 1
            have r2 := HBN.cell 2
            have r3 := HBN.cell 3
            have r4 := HBN.cell 4
            have r5 := HBN.cell 5
            have r6 := HBN.cell 6
            have r7 := HBN.cell 7
            have r8 := HBN.cell 8
            have r9 := HBN.cell 9
            simp at r0 r1 r2 r3 r4 r5 r6 r7 r8 r9
            rw [hwF] at HBL HFF r0 r1 r2 r3 r4 r5 r6 r7 r8 r9
            clear HKF HBN hwF HTN HQN HKN HFN HP10
            go_wp2_with fail
            refine bodyPost_ret (v := .tuple #[.agg #[S F.n, S F.su, .slice F.fA F.fl F.fc, .slice F.mA F.ml F.mc, .slice p.nA p.nl p.nc, .slice p.cA p.cl p.cc, .slice p.tA p.tl p.tc, .slice p.dA p.dl p.dc, .slice p.mA p.ml p.mc, .slice A F.ml c], .int .i64 0]) ?_ rfl ?_
            · simp [results, Tryd.results10, go_sem, r0, r1, r2, r3, r4, r5, r6, r7, r8, r9]
            exact ⟨HBL.out, .inl ⟨(HYY.out ()).1, Fl.of F p A F.ml c bs, rfl, (HYY.out ()).2, HFF.out⟩⟩
        · have hd2 : doneR st5 = 2 := by unfold doneR; rw [if_neg hst5]
          rw [hd2] at hdn
          have HNN2 : Hid (∀ _ : Unit, decOk l = false) := hide (by
            intro _
            unfold decOk
            rw [← hv2]
            have : (st5 == some []) = false := by simpa using hst5
            rw [this]
            simp)
          clear hv1 hv2 hv3 hst5 hd2
          go_upto_region 18 with (go_at_call 30; refine hdn.out.mono ?_; rintro e w7 ⟨rfl, hw7⟩; subst w7)
          obtain ⟨HTN, HQN, HKN, HFN⟩ := HP10.out wu (Below.refl _ _)
          have d0 := HTN.cell 0
          have f0 := HTN.frozen 0
          have d1 := HTN.cell 1
          have f1 := HTN.frozen 1
          have d2 := HTN.cell 2
          have f2 := HTN.frozen 2
          have d3 := HTN.cell 3
          have f3 := HTN.frozen 3
          have d4 := HTN.cell 4
          have f4 := HTN.frozen 4
          have d5 := HTN.cell 5
          have f5 := HTN.frozen 5
          have d6 := HTN.cell 6
          have f6 := HTN.frozen 6
          have d7 := HTN.cell 7
          have f7 := HTN.frozen 7
          have d8 := HTN.cell 8
          have f8 := HTN.frozen 8
          have d9 := HTN.cell 9
          have f9 := HTN.frozen 9
          simp at d0 d1 d2 d3 d4 d5 d6 d7 d8 d9
          obtain ⟨wF, hwF⟩ : ∃ wF, wF = ((((((((((wu.setCell ⟨N, 0, none⟩ (S [])).setCell ⟨N, 1, none⟩ (S [])).setCell ⟨N, 2, none⟩ (.slice none 0 0)).setCell ⟨N, 3, none⟩ (.slice none 0 0)).setCell ⟨N, 4, none⟩ (.slice none 0 0)).setCell ⟨N, 5, none⟩ (.slice none 0 0)).setCell ⟨N, 6, none⟩ (.slice none 0 0)).setCell ⟨N, 7, none⟩ (.slice none 0 0)).setCell ⟨N, 8, none⟩ (.slice none 0 0)).setCell ⟨N, 9, none⟩ (.slice none 0 0)) := ⟨_, rfl⟩
          have HKF : Keep (fun i => i = N) wu wF := by rw [hwF]; exact (((((((((((Keep.refl (fun i => i = N) wu).setCell (p := ⟨N, 0, none⟩) (fun _ => rfl) _).setCell (p := ⟨N, 1, none⟩) (fun _ => rfl) _).setCell (p := ⟨N, 2, none⟩) (fun _ => rfl) _).setCell (p := ⟨N, 3, none⟩) (fun _ => rfl) _).setCell (p := ⟨N, 4, none⟩) (fun _ => rfl) _).setCell (p := ⟨N, 5, none⟩) (fun _ => rfl) _).setCell (p := ⟨N, 6, none⟩) (fun _ => rfl) _).setCell (p := ⟨N, 7, none⟩) (fun _ => rfl) _).setCell (p := ⟨N, 8, none⟩) (fun _ => rfl) _).setCell (p := ⟨N, 9, none⟩) (fun _ => rfl) _)
          have HBN : Blk wF N 36 #[S [], S [], .slice none 0 0, .slice none 0 0, .slice none 0 0, .slice none 0 0, .slice none 0 0, .slice none 0 0, .slice none 0 0, .slice none 0 0] := by rw [hwF]; have := ((((((((((HTN.set_ 0 (S [])).set_ 1 (S [])).set_ 2 (.slice none 0 0)).set_ 3 (.slice none 0 0)).set_ 4 (.slice none 0 0)).set_ 5 (.slice none 0 0)).set_ 6 (.slice none 0 0)).set_ 7 (.slice none 0 0)).set_ 8 (.slice none 0 0)).set_ 9 (.slice none 0 0)); simpa using this
          have HBL : Hid (Below w.heap.size w wF) := hide ((HKN.trans (HKF.mono (fun k _ h => by omega))).below (Nat.le_refl _) (fun k hk => by have := HNN.out; omega))
          have r0 := HBN.cell 0
          have r1 := HBN.cell 1
          have r2 := HBN.cell 2
          have r3 := HBN.cell 3
          have r4 := HBN.cell 4
          have r5 := HBN.cell 5
          have r6 := HBN.cell 6
          have r7 := HBN.cell 7
          have r8 := HBN.cell 8
          have r9 := HBN.cell 9
          simp at r0 r1 r2 r3 r4 r5 r6 r7 r8 r9
          rw [hwF] at HBL r0 r1 r2 r3 r4 r5 r6 r7 r8 r9
          clear HKF HBN hwF HTN HQN HKN HFN HP10
          go_wp2_with fail
          refine bodyPost_ret (v := .tuple #[.agg #[S [], S [], .slice none 0 0, .slice none 0 0, .slice none 0 0, .slice none 0 0, .slice none 0 0, .slice none 0 0, .slice none 0 0, .slice none 0 0], .int .i64 2]) ?_ rfl ?_
          · simp [results, Tryd.results10, go_sem, r0, r1, r2, r3, r4, r5, r6, r7, r8, r9]
          exact ⟨HBL.out, .inr ⟨HNN2.out (), rfl⟩⟩
end Go.Proofs.YtkldfbacagnhoaaDoor
