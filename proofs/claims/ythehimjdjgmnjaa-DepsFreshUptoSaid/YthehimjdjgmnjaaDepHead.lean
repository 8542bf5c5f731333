/- The document's example, walked; no statement of the seat is proved here. (Written by gen/dephead.py.) -/
import Derived.Test.YthehimjdjgmnjaaDepSum
namespace Go.Proofs.Ythehimjdjgmnjaa
open Go.RowKit Go.Maps
set_option linter.unusedVariables false
set_option linter.unusedSimpArgs false

set_option maxRecDepth 100000 in
theorem astint_any (w : World) : Calls Try.prog 14 #[] w (Gives w (.agg #[S [105, 110, 116], .bool false])) := by
  go_enter Try.func14, Try.ntmps14
  have hb : ∀ o, Below w.heap.size w (w.alloc o) := fun o => (Below.refl _ _).alloc (Nat.le_refl _) o
  go_wp2_with fail
  refine bodyPost_ret (v := .agg #[S [105, 110, 116], .bool false]) ?_ rfl ?_
  · simp [results, Try.results14, go_sem]
  · first
      | exact ⟨rfl, hb _⟩
      | exact ⟨rfl, (hb _).setCell (by simp) _⟩
theorem Rd.of_blk {w : World} {g : Nat} {t : TypeId} {cs : Array Value} {F : Nat → Prop} {size n : Nat} (h : Blk w g t cs) (hF : ¬ F g) (hl : cs.size = n * size) : Rd w F size (some ⟨g, 0, none⟩) n cs.toList := by
  refine ⟨by simpa using hl, fun _ => ⟨g, 0, rfl, hF, h.lt, fun j u hu => ?_⟩⟩
  have := h.cell (0 + j)
  rw [this]
  simpa using hu
theorem hA_at (w : World) (F : Nat → Prop) : hA.at_ w F := by
  refine ⟨⟨Rd.nil _ _ _ _, rfl, by simp [hA], by simp [hA]⟩, ⟨Rd.nil _ _ _ _, rfl, by simp [hA], by simp [hA]⟩, by simp [hA, short], by simp [hA, short]⟩
theorem hU_at {w : World} {b : Nat} (h : Blk w b 59 #[S [102], S [105, 110, 116], .bool false]) : (hU b).at_ w (fun k => w.heap.size ≤ k) := by
  refine ⟨⟨Rd.of_blk h (by have := h.lt; omega) rfl, rfl, by simp [hU], fun v hv => ?_⟩, ⟨Rd.nil _ _ _ _, rfl, by simp [hU], by simp [hU]⟩, by simp [hU, short], by simp [hU, short]⟩
  obtain rfl : v = ⟨[102], ⟨[105, 110, 116], false⟩⟩ := by simpa [hU] using hv
  exact ⟨by simp [short], by simp [Ty.ok, short]⟩

/-- A world cut short: what lies below N. -/
def cutW (w : World) (N : Nat) : World := { w with heap := w.heap.extract 0 N }
theorem cutW_size {w : World} {N : Nat} (h : N ≤ w.heap.size) : (cutW w N).heap.size = N := by simp [cutW]; omega
theorem cutW_below {w : World} {N : Nat} (h : N ≤ w.heap.size) : Below (cutW w N).heap.size (cutW w N) w := by
  rw [cutW_size h]
  refine ⟨rfl, rfl, rfl, by rw [cutW_size h]; exact h, fun k hk => ?_⟩
  simp [cutW, Array.getElem?_extract]
  omega
theorem cutW_blk {w : World} {N b : Nat} {t : TypeId} {cs : Array Value} (h : Blk w b t cs) (hb : b < N) : Blk (cutW w N) b t cs := by
  unfold Blk at h ⊢
  simp only [cutW, Array.getElem?_extract]
  have hl := (Array.getElem?_eq_some_iff.1 h).1
  simp only [Nat.zero_add, h, Nat.sub_zero]
  rw [if_pos (by omega)]
/-- All that the example holds: two tables, an entry. -/
structure Hx (w : World) (N q g1 m1 s1 g2 m2 s2 b n1 n2 : Nat) (ev : Array Value) (e : Enq) (w' : World) : Prop where
  t1 : Tab w' g1 m1 s1 [hA] n1
  t2 : Tab w' g2 m2 s2 [hU b] n2
  q : Blk w' q 39 ev
  r : Rd w' (fun b => b = s1 ∨ b = s2) 33 e.A e.k (e.rs.flatMap Rdq.cells)
  v : Blk w' b 59 #[S [102], S [105, 110, 116], .bool false]
  bw : Below w.heap.size w w'
  ws : w.heap.size ≤ s1
  us : N ≤ s2
  bN : b < N
  n12 : g1 ≠ s2 ∧ m1 ≠ s2 ∧ s1 ≠ s2 ∧ g2 ≠ s1 ∧ m2 ≠ s1
  ws2 : w.heap.size ≤ s2
section
variable {w w' w'' : World} {N q g1 m1 s1 g2 m2 s2 b n1 n2 : Nat} {ev : Array Value} {e : Enq}
theorem Hx.below_ (h : Hx w N q g1 m1 s1 g2 m2 s2 b n1 n2 ev e w') (hb : Below w'.heap.size w' w'') : Hx w N q g1 m1 s1 g2 m2 s2 b n1 n2 ev e w'' :=
  { h with t1 := h.t1.below hb, t2 := h.t2.below hb, q := h.q.below hb h.q.lt, r := h.r.keep (Keep.of_below hb (fun k h1 h2 => by omega)), v := h.v.below hb h.v.lt, bw := h.bw.trans (hb.mono h.bw.size) }
theorem Hx.f1 (h : Hx w N q g1 m1 s1 g2 m2 s2 b n1 n2 ev e w') {src : List UInt8} {dz : Array Value} (hn : n1 ≤ 100) (hk : e.k = 2) (hrk : e.rs.length = e.k) (hok : RdsOk e.rs) (hes : e.s.length = 32) (hsr : src.length = 32) (hT : FcsOk w [hA]) (hev : ev = e.cells.toArray) (hdz : dz = darr src) :
    Calls Try.prog 12 #[.pointer (some ⟨g1, 0, none⟩), .agg ev, .agg dz] w' (fun x w'' => x = .returned (.bool (freshM [hA] e src)) ∧ Hx w N q g1 m1 s1 g2 m2 s2 b (n1 + 2) n2 ev e w'') := by
  refine (fresh_any w g1 m1 s1 n1 [hA] e src ev dz w' h.t1 (by omega) hrk hok hes hsr (h.r.weak (fun k _ hk => .inl hk)) hT h.bw h.ws hev hdz).mono ?_
  rintro x w'' ⟨rfl, ht, hkp⟩
  obtain ⟨D1, hD1⟩ := h.t1.seen
  refine ⟨rfl, { h with t1 := by rw [hk] at ht; exact ht, t2 := h.t2.keep hkp h.n12.2.2.2.1 h.n12.2.2.2.2 (fun e => h.n12.2.2.1 e.symm), q := h.q.keep hkp (blk_map_ne h.q hD1), r := h.r.keep ((Keep.refl _ w').trans' hkp (fun _ _ h => .inl h)), v := h.v.keep hkp (blk_map_ne h.v hD1), bw := h.bw.trans (hkp.below h.bw.size (fun k hk => by rw [hk]; exact h.ws)) }⟩
theorem Hx.f2 (h : Hx w N q g1 m1 s1 g2 m2 s2 b n1 n2 ev e w') {src : List UInt8} {dz : Array Value} (hn : n2 ≤ 100) (hk : e.k = 2) (hrk : e.rs.length = e.k) (hok : RdsOk e.rs) (hes : e.s.length = 32) (hsr : src.length = 32) (hev : ev = e.cells.toArray) (hdz : dz = darr src) :
    Calls Try.prog 12 #[.pointer (some ⟨g2, 0, none⟩), .agg ev, .agg dz] w' (fun x w'' => x = .returned (.bool (freshM [hU b] e src)) ∧ Hx w N q g1 m1 s1 g2 m2 s2 b n1 (n2 + 2) ev e w'') := by
  have hN : N ≤ w'.heap.size := by have := h.t2.slt; have := h.us; omega
  have hT : FcsOk (cutW w' N) [hU b] := fun f hf => by obtain rfl := List.mem_singleton.1 hf; exact ⟨hU_at (cutW_blk h.v h.bN), Nat.le_trans len_u (by omega)⟩
  refine (fresh_any (cutW w' N) g2 m2 s2 n2 [hU b] e src ev dz w' h.t2 (by omega) hrk hok hes hsr (h.r.weak (fun k _ hk => .inr hk)) hT (cutW_below hN) (by rw [cutW_size hN]; exact h.us) hev hdz).mono ?_
  rintro x w'' ⟨rfl, ht, hkp⟩
  obtain ⟨D2, hD2⟩ := h.t2.seen
  refine ⟨rfl, { h with t2 := by rw [hk] at ht; exact ht, t1 := h.t1.keep hkp h.n12.1 h.n12.2.1 h.n12.2.2.1, q := h.q.keep hkp (blk_map_ne h.q hD2), r := h.r.keep ((Keep.refl _ w').trans' hkp (fun _ _ h => .inr h)), v := h.v.keep hkp (blk_map_ne h.v hD2), bw := h.bw.trans (hkp.below h.bw.size (fun k hk => by rw [hk]; exact h.ws2)) }⟩
end

theorem head_f1 (A : Option Addr) (k c : Nat) : freshM [hA] ⟨[66], sumM [98], A, k, c, [[65], [67]].map (rdOf [hA]), []⟩ (sumM [98]) = true := by
  have h : ([[65], [67]].map (rdOf [hA])).any (othr [hA]) = false := by
    rw [List.any_eq_false]
    intro x hx
    obtain ⟨y, _, rfl⟩ := List.mem_map.1 hx
    simp [othr, rdOf]
  simp only [freshM, h]
  simp
theorem head_f2 (A : Option Addr) (k c : Nat) (rs : List Rdq) (T : List Fc) : freshM T ⟨[66], sumM [98], A, k, c, rs, []⟩ (sumM [99]) = false := by
  unfold freshM
  show ((sumM [98] == sumM [99]) && _) = false
  rw [sum_bc]; rfl
theorem head_f3 (A : Option Addr) (k c b : Nat) (src : List UInt8) : freshM [hU b] ⟨[66], sumM [98], A, k, c, [[65], [67]].map (rdOf [hA]), []⟩ src = false := by
  have h : ([[65], [67]].map (rdOf [hA])).any (othr [hU b]) = true := by
    rw [List.any_eq_true]
    refine ⟨rdOf [hA] [65], by simp, ?_⟩
    show (digF (hU b).pl != digF hA.pl) = true
    rw [show (hU b).pl = (hU 0).pl from rfl, bne, dig_au]; rfl
  unfold freshM
  show (_ && !(([[65], [67]].map (rdOf [hA])).any (othr [hU b]))) = false
  rw [h]; simp

set_option maxRecDepth 100000 in
set_option maxHeartbeats 4000000 in
theorem head_any (w : World) : Calls Try.prog 5 #[] w (Gives w (.bool true)) := by
  obtain ⟨ze, hze⟩ : ∃ z, z = ZE := ⟨_, rfl⟩
  have hzero : ∀ w, (zeroValue 39).run Try.prog w = .ok (.agg ze) w := fun w => by rw [hze]; exact zero_en w
  have HZS : Hid (ze.size = 66) := hide (by rw [hze]; rfl)
  clear hze
  go_enter Try.func5, Try.ntmps5
  go_wp2_with fail
  obtain ⟨wA, hwA⟩ : ∃ wA, wA = (w.alloc (.cells #[.string { data := #[65] }, .string { data := #[] }, .slice none 0 0, .slice none 0 0] 47)).alloc (.cells #[.string { data := #[65] }, .string { data := #[] }, .slice none 0 0, .slice none 0 0] 47) := ⟨_, rfl⟩
  have hBA : Blk wA (w.heap.size + 1) 47 #[S [65], S [], .slice none 0 0, .slice none 0 0] := by
    rw [hwA]
    have := Blk.new (w.alloc (.cells #[.string { data := #[65] }, .string { data := #[] }, .slice none 0 0, .slice none 0 0] 47)) 47 #[S [65], S [], .slice none 0 0, .slice none 0 0]
    rwa [World.size_alloc] at this
  have hbA : Below w.heap.size w wA := by rw [hwA]; exact ((Below.refl _ _).alloc (Nat.le_refl _) _).alloc (by simp) _
  rw [← hwA]
  clear hwA
  refine (new_any (some ⟨w.heap.size + 1, 0, none⟩) 1 1 [hA] wA ⟨Rd.of_blk hBA (by have := hBA.lt; omega) rfl, rfl, by omega, fun f hf => by obtain rfl := List.mem_singleton.1 hf; exact hA_at _ _⟩ (by omega)).mono ?_
  rintro e w1 ⟨g1, m1, s1, rfl, hT1, hb1, hg1, hm1, hs1⟩
  have HT1 := hide hT1
  have HB1 : Hid (Below w.heap.size w w1) := hide (hbA.trans (hb1.mono hbA.size))
  have HG1 : Hid (w.heap.size ≤ s1) := hide (by have := hbA.size; omega)
  clear hBA hbA hT1 hb1 hg1 hm1 hs1
  go_wp2_with fail
  refine (astint_any w1).mono ?_
  rintro e w2 ⟨rfl, hb2⟩
  have HT2 := hide (HT1.out.below hb2)
  have HB2 : Hid (Below w.heap.size w w2) := hide (HB1.out.trans (hb2.mono HB1.out.size))
  clear hb2 HT1 HB1
  go_wp2_with fail
  obtain ⟨wU, hwU⟩ : ∃ wU, wU = (w2.alloc (.cells #[.string { data := #[102] }, .string { data := #[105, 110, 116] }, .bool false] 59)).alloc (.cells #[.string { data := #[65] }, .string { data := #[] }, .slice (some ⟨w2.heap.size, 0, none⟩) 1 1, .slice none 0 0] 47) := ⟨_, rfl⟩
  have hV : Blk wU w2.heap.size 59 #[S [102], S [105, 110, 116], .bool false] := by rw [hwU]; exact (Blk.new _ _ _).alloc _
  have hF : Blk wU (w2.heap.size + 1) 47 #[S [65], S [], .slice (some ⟨w2.heap.size, 0, none⟩) 1 1, .slice none 0 0] := by
    rw [hwU]
    have := Blk.new (w2.alloc (.cells #[.string { data := #[102] }, .string { data := #[105, 110, 116] }, .bool false] 59)) 47 #[S [65], S [], .slice (some ⟨w2.heap.size, 0, none⟩) 1 1, .slice none 0 0]
    rwa [World.size_alloc] at this
  have hbU : Below w2.heap.size w2 wU := by rw [hwU]; exact ((Below.refl _ _).alloc (Nat.le_refl _) _).alloc (by simp) _
  rw [← hwU]
  clear hwU
  obtain ⟨b, hb⟩ : ∃ b, b = w2.heap.size := ⟨_, rfl⟩
  rw [← hb] at hV hF ⊢
  have HOK2 : Hid (FcsOk wU [hU b]) := hide (fun f hf => by obtain rfl := List.mem_singleton.1 hf; exact ⟨hU_at hV, Nat.le_trans len_u (by omega)⟩)
  have HOK1 : Hid (FcsOk w [hA]) := hide (fun f hf => by obtain rfl := List.mem_singleton.1 hf; exact ⟨hA_at _ _, Nat.le_trans len_a (by omega)⟩)
  refine (new_any (some ⟨b + 1, 0, none⟩) 1 1 [hU b] wU ⟨Rd.of_blk hF (by have := hF.lt; omega) rfl, rfl, by omega, fun f hf => (HOK2.out f hf).1⟩ (by omega)).mono ?_
  rintro e w3 ⟨g2, m2, s2, rfl, hT2, hb3, hg2, hm2, hs2⟩
  have HT3 := hide hT2
  have HS3 : Hid (Tab w3 g1 m1 s1 [hA] 0) := hide ((HT2.out.below hbU).below (hb3.mono (by have := HT2.out.slt; omega)))
  have HB3 : Hid (Below w.heap.size w w3) := hide ((HB2.out.trans (hbU.mono HB2.out.size)).trans (hb3.mono (by have := HB2.out.size; have := hbU.size; omega)))
  have HGM : Hid (g1 < wU.heap.size ∧ m1 < wU.heap.size) := hide (by have := hbU.size; have := HT2.out.blk.lt; have := HT2.out.faces.lt; omega)
  have HUS : Hid (wU.heap.size ≤ s2 ∧ w.heap.size ≤ wU.heap.size ∧ s1 < wU.heap.size ∧ wU.heap.size ≤ g2 ∧ wU.heap.size ≤ m2) := hide (by have := HB2.out.size; have := hbU.size; have := HT2.out.slt; omega)
  have HBN : Hid (b < wU.heap.size) := hide hV.lt
  have HVB := hide (hV.below hb3 hV.lt)
  clear hV hF hbU hT2 hb3 hg2 hm2 hs2 HT2 HB2 hb
  go_wp2_with fail
  refine (sum_lit w3 [98] (by simp)).mono ?_
  rintro e w4 ⟨rfl, hb4⟩
  obtain ⟨bz, hbz⟩ : ∃ z, z = darr (sumM [98]) := ⟨_, rfl⟩
  rw [← hbz]
  have HBZ : Hid (∀ _ : Unit, bz = darr (sumM [98])) := hide (fun _ => hbz)
  clear hbz
  have HT4 := hide (HT3.out.below hb4)
  have HS4 := hide (HS3.out.below hb4)
  replace HVB := hide (HVB.out.below hb4 HVB.out.lt)
  have HB4 : Hid (Below w.heap.size w w4) := hide (HB3.out.trans (hb4.mono HB3.out.size))
  clear hb4 HT3 HS3 HB3
  go_wp2_with fail
  obtain ⟨wR, hwR⟩ : ∃ wR, wR = w4.alloc (.cells #[.string { data := #[65] }, .string { data := #[67] }] 9) := ⟨_, rfl⟩
  have hR : Blk wR w4.heap.size 9 #[S [65], S [67]] := by rw [hwR]; exact Blk.new _ _ _
  have hbR : Below w4.heap.size w4 wR := by rw [hwR]; exact (Below.refl _ _).alloc (Nat.le_refl _) _
  rw [← hwR]
  clear hwR
  refine (reads_any w g1 m1 s1 0 [hA] (some ⟨w4.heap.size, 0, none⟩) 2 2 [[65], [67]] wR (HS4.out.below hbR) (by omega) (by omega) rfl (by intro x hx; simp at hx; rcases hx with rfl | rfl <;> simp [short]) (Rd.of_blk hR (by have := HS4.out.slt; have := hR.lt; omega) rfl) HOK1.out (HB4.out.trans (hbR.mono HB4.out.size)) HG1.out).mono ?_
  rintro e w5 ⟨A, c, rfl, hown, hT5, hk5⟩
  obtain ⟨en, hen⟩ : ∃ e : Enq, e = ⟨[66], sumM [98], A, 2, c, [[65], [67]].map (rdOf [hA]), []⟩ := ⟨_, rfl⟩
  have HEN : Hid (∀ _ : Unit, en = ⟨[66], sumM [98], A, 2, c, [[65], [67]].map (rdOf [hA]), []⟩) := hide (fun _ => hen)
  obtain ⟨ev, hev⟩ : ∃ v, v = en.cells.toArray := ⟨_, rfl⟩
  have HEV : Hid (∀ _ : Unit, ev = en.cells.toArray) := hide (fun _ => hev)
  have HV := hide (EnV.mk_ en)
  rw [← hev] at HV
  clear hev
  have HE1 : Hid (en.k = 2) := hide (by rw [hen])
  have HE2 : Hid (en.rs.length = en.k) := hide (by rw [hen]; rfl)
  have HE3 : Hid (en.s.length = 32) := hide (by rw [hen]; exact sumM_len [98])
  have HE4 : Hid (RdsOk en.rs) := hide (by
    rw [hen]
    intro r hr
    obtain ⟨y, hy, rfl⟩ := List.mem_map.1 hr
    refine ⟨?_, digM_len _ _⟩
    simp at hy
    rcases hy with rfl | rfl <;> simp [short, rdOf])
  have HE5 : Hid (freshM [hA] en (sumM [98]) = true) := hide (by rw [hen]; exact head_f1 A 2 c)
  have HE6 : Hid (freshM [hA] en (sumM [99]) = false) := hide (by rw [hen]; exact head_f2 A 2 c _ _)
  have HE7 : Hid (freshM [hU b] en (sumM [98]) = false) := hide (by rw [hen]; exact head_f3 A 2 c b _)
  have HE8 : Hid (en.A = A ∧ en.rs = [[65], [67]].map (rdOf [hA])) := hide (by rw [hen]; exact ⟨rfl, rfl⟩)
  clear hen
  have HT5 := hide hT5
  have HS5 : Hid (Tab w5 g2 m2 s2 [hU b] 0) := hide ((HT4.out.below hbR).keep hk5 (by have := HUS.out; omega) (by have := HUS.out; omega) (by have := HUS.out; omega))
  have HV5 : Hid (Blk w5 b 59 #[S [102], S [105, 110, 116], .bool false]) := hide ((HVB.out.below hbR HVB.out.lt).keep hk5 (by obtain ⟨D, hD⟩ := (HS4.out.below hbR).seen; exact blk_map_ne (HVB.out.below hbR HVB.out.lt) hD))
  have HRD : Hid (Rd w5 (fun b => b = s1 ∨ b = s2) 33 A 2 (([[65], [67]].map (rdOf [hA])).flatMap Rdq.cells)) := hide (Rd.of_own2 hown (fun k hk => by have := HS4.out.slt; have := HT4.out.slt; have := hbR.size; omega))
  have HB5 : Hid (Below w.heap.size w w5) := hide ((HB4.out.trans (hbR.mono HB4.out.size)).trans (hk5.below (Nat.le_trans HB4.out.size hbR.size) (fun k hk => by rw [hk]; exact HG1.out)))
  clear hown hT5 hk5 hbR hR HT4 HS4 HB4 HVB
  have HT5n : Hid (g1 < wU.heap.size ∧ m1 < wU.heap.size) := HGM
  obtain ⟨q, hq⟩ : ∃ q, q = w5.heap.size := ⟨_, rfl⟩
  have HBX := hide (box_any w5 39 ze ev (by rw [HV.out.size, HZS.out]))
  obtain ⟨w6, hw6⟩ : ∃ w6, w6 = (w5.alloc (.cells ze 39)).setCells w5.heap.size 0 ev.toList := ⟨_, rfl⟩
  rw [← hw6] at HBX
  have HZT : Hid ((w5.alloc (.cells ze 39)).there w5.heap.size 0 ev.size) := hide ((Blk.new w5 39 ze).there_ (by rw [HV.out.size, HZS.out]))
  go_upto_region 5 with (first
    | (refine wpList_enOf3 rfl (.const (.string { data := #[66] })) (.tmp 16) (.tmp 19) rfl [66] (sumM [98]) bz A 2 c ([[65], [67]].map (rdOf [hA])) rfl rfl rfl (HBZ.out ()) (sumM_len _) ev (by rw [HEV.out (), HEN.out ()]) ?_)
    | (refine wpList_store_mid rfl 39 (.tmp 4) (.tmp 20) rfl w5.heap.size 0 ev rfl rfl HZT.out (by rw [HV.out.size]; exact en_info) HV.out.one ?_))
  rw [← hw6]
  have HX_w6 : Hid (Hx w wU.heap.size q g1 m1 s1 g2 m2 s2 b 2 0 ev en w6.drew) := hide (by
    have hb := HBX.out.2
    have h0 : Hx w wU.heap.size q g1 m1 s1 g2 m2 s2 b 2 0 ev en w6 :=
      ⟨HT5.out.below hb, HS5.out.below hb, by rw [hq]; exact HBX.out.1, by rw [HE8.out.1, HE1.out, HE8.out.2]; exact HRD.out.keep (Keep.of_below hb (fun k h1 h2 => by omega)), HV5.out.below hb HV5.out.lt, HB5.out.trans (hb.mono HB5.out.size), HG1.out, HUS.out.1, HBN.out, by have := HUS.out; have := HT5n.out; omega, by have := HUS.out; omega⟩
    exact h0.below_ (Below.refl _ _).drew)
  have HQ_w6 : Hid (Blk w6.drew q 39 ev) := hide HX_w6.out.q
  rw [← hq]
  clear hw6 hq HBX HZT hzero HT5 HS5 HRD HV5 HB5 HG1 HUS HBN HT5n HOK2 HGM
  try simp only [show ∀ (x : Act), x.put none undef = x from fun _ => rfl]
  have HSB : Hid (∀ w, Calls Try.prog 8 #[.slice (some ⟨w.heap.size, 0, none⟩) 1 1] (w.alloc (.cells #[S [98]] 9)) fun e w' => e = .returned (.agg bz) ∧ Below w.heap.size w w') := hide (fun w => by rw [HBZ.out ()]; exact sum_lit w [98] (by simp))
  obtain ⟨cz, hcz⟩ : ∃ z, z = darr (sumM [99]) := ⟨_, rfl⟩
  have HSC : Hid (∀ w, Calls Try.prog 8 #[.slice (some ⟨w.heap.size, 0, none⟩) 1 1] (w.alloc (.cells #[S [99]] 9)) fun e w' => e = .returned (.agg cz) ∧ Below w.heap.size w w') := hide (fun w => by rw [hcz]; exact sum_lit w [99] (by simp))
  have HC1 : Hid (∀ w', Hx w wU.heap.size q g1 m1 s1 g2 m2 s2 b 2 0 ev en w' → Calls Try.prog 12 #[.pointer (some ⟨g1, 0, none⟩), .agg ev, .agg bz] w' (fun x w'' => x = .returned (.bool true) ∧ Hx w wU.heap.size q g1 m1 s1 g2 m2 s2 b 4 0 ev en w'')) := hide (fun w' h => by
    have := h.f1 (src := sumM [98]) (dz := bz) (by omega) HE1.out HE2.out HE4.out HE3.out (sumM_len _) HOK1.out (HEV.out ()) (HBZ.out ())
    rwa [HE5.out] at this)
  have HC2 : Hid (∀ w', Hx w wU.heap.size q g1 m1 s1 g2 m2 s2 b 4 0 ev en w' → Calls Try.prog 12 #[.pointer (some ⟨g1, 0, none⟩), .agg ev, .agg cz] w' (fun x w'' => x = .returned (.bool false) ∧ Hx w wU.heap.size q g1 m1 s1 g2 m2 s2 b 6 0 ev en w'')) := hide (fun w' h => by
    have := h.f1 (src := sumM [99]) (dz := cz) (by omega) HE1.out HE2.out HE4.out HE3.out (sumM_len _) HOK1.out (HEV.out ()) hcz
    rwa [HE6.out] at this)
  have HC3 : Hid (∀ w', Hx w wU.heap.size q g1 m1 s1 g2 m2 s2 b 6 0 ev en w' → Calls Try.prog 12 #[.pointer (some ⟨g2, 0, none⟩), .agg ev, .agg bz] w' (fun x w'' => x = .returned (.bool false) ∧ Hx w wU.heap.size q g1 m1 s1 g2 m2 s2 b 6 2 ev en w'')) := hide (fun w' h => by
    have := h.f2 (src := sumM [98]) (dz := bz) (by omega) HE1.out HE2.out HE4.out HE3.out (sumM_len _) (HEV.out ()) (HBZ.out ())
    rwa [HE7.out] at this)
  have hdu := Try.underlying39
  have hdi : (Try.prog.info? 39).map (·.size) = some ev.toList.length := by rw [Array.length_toList, HV.out.size]; exact en_info
  clear hcz HEV HBZ HOK1 HEN
  refine wp_region_noPanic ?_
  refine wp_region_held_drew (S := fun w' => w'.rangeAt q 0 ev.toList) (by kernel_rfl) HQ_w6.out.range (fun hHeld => ?_)
  refine wpAnyH_take (i := 0) (v := ?_) (by simp only [List.getElem?_toArray, List.getElem?_cons_zero]; rfl) (by kernel_rfl) (by kernel_rfl) (by kernel_rfl) (fun _ _ _ h => h) (Or.inl ⟨by rfl, ?_⟩) (by assumption) ?_
  rotate_left
  · (intro wS hSw; go_simp; try with_reducible rfl)
  try simp only [Act.put, List.setIfInBounds_toArray, List.set_cons_zero, List.set_cons_succ]
  refine wpAnyH_take (i := 1) (by simp only [List.getElem?_toArray, List.getElem?_cons_zero, List.getElem?_cons_succ]; rfl) (by kernel_rfl) (by kernel_rfl) (by kernel_rfl) (fun _ _ _ h => h) (yieldsIf_load_mid (by rfl) _ _ rfl q 0 rfl ev.toList _ (fun _ h => h) hdu rfl hdi) (by assumption) ?_
  simp only [Act.put, List.setIfInBounds_toArray, List.set_cons_zero, List.set_cons_succ, Array.toArray_toList]
  refine wpAnyH_ready (rs := [2]) (by kernel_rfl) (by simp) ?_
  refine AllReadyH.cons (by simp only [List.getElem?_toArray, List.getElem?_cons_zero, List.getElem?_cons_succ]; rfl) (fun K hK => ?_) AllReadyH.nil
  go_simp
  go_wp2_with fail
  refine hK.out _ _ (HQ_w6.out.alloc (.cells #[S [98]] 9)).range (fun hHeld => ?_)
  clear hK K
  try simp only [Act.put, List.setIfInBounds_toArray, List.set_cons_zero, List.set_cons_succ]
  refine wpAnyH_ready (rs := [3]) (by kernel_rfl) (by simp) ?_
  refine AllReadyH.cons (by simp only [List.getElem?_toArray, List.getElem?_cons_zero, List.getElem?_cons_succ]; rfl) (fun K hK => ?_) AllReadyH.nil
  go_simp
  go_at_call 8
  refine (HSB.out w6.drew).mono ?_
  rintro e w7 ⟨rfl, hb⟩
  have HX_w7 := hide (HX_w6.out.below_ hb)
  have HQ_w7 : Hid (Blk w7 q 39 ev) := hide HX_w7.out.q
  clear hb
  go_wp2_with fail
  refine hK.out _ _ HQ_w7.out.range (fun hHeld => ?_)
  clear hK K
  try simp only [Act.put, List.setIfInBounds_toArray, List.set_cons_zero, List.set_cons_succ]
  refine wpAnyH_ready (rs := [4]) (by kernel_rfl) (by simp) ?_
  refine AllReadyH.cons (by simp only [List.getElem?_toArray, List.getElem?_cons_zero, List.getElem?_cons_succ]; rfl) (fun K hK => ?_) AllReadyH.nil
  go_simp
  go_at_call 12
  refine (HC1.out w7 HX_w7.out).mono ?_
  rintro e w8 ⟨rfl, hx⟩
  have HX_w8 := hide hx
  have HQ_w8 : Hid (Blk w8 q 39 ev) := hide hx.q
  clear hx
  go_wp2_with fail
  refine hK.out _ _ HQ_w8.out.range (fun hHeld => ?_)
  clear hK K
  try simp only [Act.put, List.setIfInBounds_toArray, List.set_cons_zero, List.set_cons_succ]
  refine wpAnyH_take (i := 5) (v := ?_) (by simp only [List.getElem?_toArray, List.getElem?_cons_zero, List.getElem?_cons_succ]; rfl) (by kernel_rfl) (by kernel_rfl) (by kernel_rfl) (fun _ _ _ h => h) (Or.inl ⟨by rfl, ?_⟩) (by assumption) ?_
  rotate_left
  · (intro wS hSw; go_simp; try with_reducible rfl)
  try simp only [Act.put, List.setIfInBounds_toArray, List.set_cons_zero, List.set_cons_succ]
  refine wpAnyH_take (i := 6) (v := ?_) (by simp only [List.getElem?_toArray, List.getElem?_cons_zero, List.getElem?_cons_succ]; rfl) (by kernel_rfl) (by kernel_rfl) (by kernel_rfl) (fun _ _ _ h => h) (Or.inl ⟨by rfl, ?_⟩) (by assumption) ?_
  rotate_left
  · (intro wS hSw; go_simp; try with_reducible rfl)
  try simp only [Act.put, List.setIfInBounds_toArray, List.set_cons_zero, List.set_cons_succ]
  refine wpAnyH_take (i := 7) (by simp only [List.getElem?_toArray, List.getElem?_cons_zero, List.getElem?_cons_succ]; rfl) (by kernel_rfl) (by kernel_rfl) (by kernel_rfl) (fun _ _ _ h => h) (yieldsIf_load_mid (by rfl) _ _ rfl q 0 rfl ev.toList _ (fun _ h => h) hdu rfl hdi) (by assumption) ?_
  simp only [Act.put, List.setIfInBounds_toArray, List.set_cons_zero, List.set_cons_succ, Array.toArray_toList]
  refine wpAnyH_ready (rs := [8]) (by kernel_rfl) (by simp) ?_
  refine AllReadyH.cons (by simp only [List.getElem?_toArray, List.getElem?_cons_zero, List.getElem?_cons_succ]; rfl) (fun K hK => ?_) AllReadyH.nil
  go_simp
  go_wp2_with fail
  refine hK.out _ _ (HQ_w8.out.alloc (.cells #[S [99]] 9)).range (fun hHeld => ?_)
  clear hK K
  try simp only [Act.put, List.setIfInBounds_toArray, List.set_cons_zero, List.set_cons_succ]
  refine wpAnyH_ready (rs := [9]) (by kernel_rfl) (by simp) ?_
  refine AllReadyH.cons (by simp only [List.getElem?_toArray, List.getElem?_cons_zero, List.getElem?_cons_succ]; rfl) (fun K hK => ?_) AllReadyH.nil
  go_simp
  go_at_call 8
  refine (HSC.out w8).mono ?_
  rintro e w9 ⟨rfl, hb⟩
  have HX_w9 := hide (HX_w8.out.below_ hb)
  have HQ_w9 : Hid (Blk w9 q 39 ev) := hide HX_w9.out.q
  clear hb
  go_wp2_with fail
  refine hK.out _ _ HQ_w9.out.range (fun hHeld => ?_)
  clear hK K
  try simp only [Act.put, List.setIfInBounds_toArray, List.set_cons_zero, List.set_cons_succ]
  refine wpAnyH_ready (rs := [10]) (by kernel_rfl) (by simp) ?_
  refine AllReadyH.cons (by simp only [List.getElem?_toArray, List.getElem?_cons_zero, List.getElem?_cons_succ]; rfl) (fun K hK => ?_) AllReadyH.nil
  go_simp
  go_at_call 12
  refine (HC2.out w9 HX_w9.out).mono ?_
  rintro e wa ⟨rfl, hx⟩
  have HX_wa := hide hx
  have HQ_wa : Hid (Blk wa q 39 ev) := hide hx.q
  clear hx
  go_wp2_with fail
  refine hK.out _ _ HQ_wa.out.range (fun hHeld => ?_)
  clear hK K
  try simp only [Act.put, List.setIfInBounds_toArray, List.set_cons_zero, List.set_cons_succ]
  refine wpAnyH_take (i := 11) (v := ?_) (by simp only [List.getElem?_toArray, List.getElem?_cons_zero, List.getElem?_cons_succ]; rfl) (by kernel_rfl) (by kernel_rfl) (by kernel_rfl) (fun _ _ _ h => h) (Or.inl ⟨by rfl, ?_⟩) (by assumption) ?_
  rotate_left
  · (intro wS hSw; go_simp; try with_reducible rfl)
  try simp only [Act.put, List.setIfInBounds_toArray, List.set_cons_zero, List.set_cons_succ]
  refine wpAnyH_take (i := 12) (v := ?_) (by simp only [List.getElem?_toArray, List.getElem?_cons_zero, List.getElem?_cons_succ]; rfl) (by kernel_rfl) (by kernel_rfl) (by kernel_rfl) (fun _ _ _ h => h) (Or.inl ⟨by rfl, ?_⟩) (by assumption) ?_
  rotate_left
  · (intro wS hSw; go_simp; try with_reducible rfl)
  try simp only [Act.put, List.setIfInBounds_toArray, List.set_cons_zero, List.set_cons_succ]
  refine wpAnyH_take (i := 13) (v := ?_) (by simp only [List.getElem?_toArray, List.getElem?_cons_zero, List.getElem?_cons_succ]; rfl) (by kernel_rfl) (by kernel_rfl) (by kernel_rfl) (fun _ _ _ h => h) (Or.inl ⟨by rfl, ?_⟩) (by assumption) ?_
  rotate_left
  · (intro wS hSw; go_simp; try with_reducible rfl)
  try simp only [Act.put, List.setIfInBounds_toArray, List.set_cons_zero, List.set_cons_succ]
  refine wpAnyH_take (i := 14) (v := ?_) (by simp only [List.getElem?_toArray, List.getElem?_cons_zero, List.getElem?_cons_succ]; rfl) (by kernel_rfl) (by kernel_rfl) (by kernel_rfl) (fun _ _ _ h => h) (Or.inl ⟨by rfl, ?_⟩) (by assumption) ?_
  rotate_left
  · (intro wS hSw; go_simp; try with_reducible rfl)
  try simp only [Act.put, List.setIfInBounds_toArray, List.set_cons_zero, List.set_cons_succ]
  refine wpAnyH_take (i := 15) (by simp only [List.getElem?_toArray, List.getElem?_cons_zero, List.getElem?_cons_succ]; rfl) (by kernel_rfl) (by kernel_rfl) (by kernel_rfl) (fun _ _ _ h => h) (yieldsIf_load_mid (by rfl) _ _ rfl q 0 rfl ev.toList _ (fun _ h => h) hdu rfl hdi) (by assumption) ?_
  simp only [Act.put, List.setIfInBounds_toArray, List.set_cons_zero, List.set_cons_succ, Array.toArray_toList]
  refine wpAnyH_ready (rs := [16]) (by kernel_rfl) (by simp) ?_
  refine AllReadyH.cons (by simp only [List.getElem?_toArray, List.getElem?_cons_zero, List.getElem?_cons_succ]; rfl) (fun K hK => ?_) AllReadyH.nil
  go_simp
  go_wp2_with fail
  refine hK.out _ _ (HQ_wa.out.alloc (.cells #[S [98]] 9)).range (fun hHeld => ?_)
  clear hK K
  try simp only [Act.put, List.setIfInBounds_toArray, List.set_cons_zero, List.set_cons_succ]
  refine wpAnyH_ready (rs := [17]) (by kernel_rfl) (by simp) ?_
  refine AllReadyH.cons (by simp only [List.getElem?_toArray, List.getElem?_cons_zero, List.getElem?_cons_succ]; rfl) (fun K hK => ?_) AllReadyH.nil
  go_simp
  go_at_call 8
  refine (HSB.out wa).mono ?_
  rintro e wb ⟨rfl, hb⟩
  have HX_wb := hide (HX_wa.out.below_ hb)
  have HQ_wb : Hid (Blk wb q 39 ev) := hide HX_wb.out.q
  clear hb
  go_wp2_with fail
  refine hK.out _ _ HQ_wb.out.range (fun hHeld => ?_)
  clear hK K
  try simp only [Act.put, List.setIfInBounds_toArray, List.set_cons_zero, List.set_cons_succ]
  refine wpAnyH_ready (rs := [18]) (by kernel_rfl) (by simp) ?_
  refine AllReadyH.cons (by simp only [List.getElem?_toArray, List.getElem?_cons_zero, List.getElem?_cons_succ]; rfl) (fun K hK => ?_) AllReadyH.nil
  go_simp
  go_at_call 12
  refine (HC3.out wb HX_wb.out).mono ?_
  rintro e wc ⟨rfl, hx⟩
  have HX_wc := hide hx
  have HQ_wc : Hid (Blk wc q 39 ev) := hide hx.q
  clear hx
  go_wp2_with fail
  refine hK.out _ _ HQ_wc.out.range (fun hHeld => ?_)
  clear hK K
  try simp only [Act.put, List.setIfInBounds_toArray, List.set_cons_zero, List.set_cons_succ]
  refine wpAnyH_take (i := 19) (v := ?_) (by simp only [List.getElem?_toArray, List.getElem?_cons_zero, List.getElem?_cons_succ]; rfl) (by kernel_rfl) (by kernel_rfl) (by kernel_rfl) (fun _ _ _ h => h) (Or.inl ⟨by rfl, ?_⟩) (by assumption) ?_
  rotate_left
  · (intro wS hSw; go_simp; try with_reducible rfl)
  try simp only [Act.put, List.setIfInBounds_toArray, List.set_cons_zero, List.set_cons_succ]
  refine wpAnyH_take (i := 20) (v := ?_) (by simp only [List.getElem?_toArray, List.getElem?_cons_zero, List.getElem?_cons_succ]; rfl) (by kernel_rfl) (by kernel_rfl) (by kernel_rfl) (fun _ _ _ h => h) (Or.inl ⟨by rfl, ?_⟩) (by assumption) ?_
  rotate_left
  · (intro wS hSw; go_simp; try with_reducible rfl)
  try simp only [Act.put, List.setIfInBounds_toArray, List.set_cons_zero, List.set_cons_succ]
  refine wpAnyH_take (i := 21) (v := ?_) (by simp only [List.getElem?_toArray, List.getElem?_cons_zero, List.getElem?_cons_succ]; rfl) (by kernel_rfl) (by kernel_rfl) (by kernel_rfl) (fun _ _ _ h => h) (Or.inl ⟨by rfl, ?_⟩) (by assumption) ?_
  rotate_left
  · (intro wS hSw; go_simp; try with_reducible rfl)
  try simp only [Act.put, List.setIfInBounds_toArray, List.set_cons_zero, List.set_cons_succ]
  refine wpAnyH_done (by kernel_rfl) ?_ _
  refine NoPanic.normal ?_
  go_wp2_with fail
  go_ret
  exact ⟨rfl, HX_wc.out.bw⟩
end Go.Proofs.Ythehimjdjgmnjaa
