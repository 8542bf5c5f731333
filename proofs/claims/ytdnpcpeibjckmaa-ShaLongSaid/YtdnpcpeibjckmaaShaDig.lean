/- The law's own digest, walked; no statement of the seat is proved here. -/
import Derived.Test.YtdnpcpeibjckmaaShaReg2
import Derived.Test.YtdnpcpeibjckmaaShaReg3
import Derived.Test.YtdnpcpeibjckmaaShaReg4
namespace Go.Proofs.Ytdnpcpeibjckmaa
open Go.RowKit

set_option maxRecDepth 100000 in
theorem const_any (w : World) : Calls Try.prog 16 #[] w fun e w' => e = .returned (.slice (some ⟨w.heap.size, 0, none⟩) 64 64) ∧ Blk w' w.heap.size 38 (arr KT) ∧ Below w.heap.size w w' ∧ w'.heap.size = w.heap.size + 1 := by
  go_enter Try.func16, Try.ntmps16
  go_wp2_with fail
  go_ret
  exact ⟨rfl, Blk.new _ _ _, (Below.refl _ _).alloc (Nat.le_refl _) _, by simp⟩

/-- What holds in digest's loops over the text. -/
structure DI (w wr : World) (hh : List Int) : Prop where
  bd : Blk wr w.heap.size 24 ZC
  bh : Blk wr (w.heap.size + 1) 38 (arr hh)
  bk : Blk wr (w.heap.size + 1 + 1) 38 (arr KT)
  bel : Below w.heap.size w wr
  lt : w.heap.size + 1 + 1 < wr.heap.size
theorem DI.below {w wr w2 : World} {hh : List Int} (h : DI w wr hh) {B : Nat} (hb : Below B wr w2) (hB : w.heap.size + 1 + 1 < B) : DI w w2 hh :=
  ⟨h.bd.below hb (by omega), h.bh.below hb (by omega), h.bk.below hb (by omega), h.bel.trans (hb.mono (by omega)), Nat.lt_of_lt_of_le h.lt hb.size⟩
theorem DI.keep {w wr w2 : World} {hh : List Int} (h : DI w wr hh) {F : Nat → Prop} (hb : Keep F wr w2) (hF : ∀ k, F k → w.heap.size + 1 + 1 < k) : DI w w2 hh :=
  ⟨h.bd.keep hb (fun x => by have := hF _ x; omega), h.bh.keep hb (fun x => by have := hF _ x; omega), h.bk.keep hb (fun x => by have := hF _ x; omega),
    ⟨hb.os.trans h.bel.os, hb.tape.trans h.bel.tape, hb.output.trans h.bel.output, Nat.le_trans h.bel.size hb.size, fun i hi => (hb.block i (Nat.lt_of_lt_of_le hi h.bel.size) (fun x => by have := hF _ x; omega)).trans (h.bel.block i hi)⟩, Nat.lt_of_lt_of_le h.lt hb.size⟩

/-- What holds in digest's loops over the blocks. -/
structure RI (w wr : World) (hh : List Int) (B gb N c : Nat) (P : List UInt8) : Prop where
  di : DI w wr hh
  base : B ≤ wr.heap.size
  br : BR wr B (some ⟨gb, 0, none⟩) N c P
theorem RI.keep {w wr w2 : World} {hh : List Int} {B gb N c : Nat} {P : List UInt8} (h : RI w wr hh B gb N c P) {F : Nat → Prop} (hk : Keep F wr w2) (hF : ∀ k, F k → w.heap.size + 1 + 1 < k ∧ k ≠ gb) : RI w w2 hh B gb N c P :=
  ⟨h.di.keep hk fun k x => (hF k x).1, Nat.le_trans h.base hk.size, h.br.keep hk fun x => (hF gb x).2 rfl⟩
theorem RI.alloc {w wr : World} {hh : List Int} {B gb N c : Nat} {P : List UInt8} (h : RI w wr hh B gb N c P) (o : Obj) : RI w (wr.alloc o) hh B gb N c P := h.keep (F := fun _ => False) ((Keep.refl _ _).alloc o) fun _ x => x.elim
theorem RI.drewN {w wr : World} {hh : List Int} {B gb N c : Nat} {P : List UInt8} (h : RI w wr hh B gb N c P) (n : Nat) : RI w (wr.drewN n) hh B gb N c P := h.keep (F := fun _ => False) ((Keep.refl _ _).drewN n) fun _ x => x.elim
theorem RI.drew {w wr : World} {hh : List Int} {B gb N c : Nat} {P : List UInt8} (h : RI w wr hh B gb N c P) : RI w wr.drew hh B gb N c P := h.keep (F := fun _ => False) (Keep.refl _ _).drew fun _ x => x.elim
theorem RI.set {w wr : World} {hh : List Int} {B gb N c : Nat} {P : List UInt8} (h : RI w wr hh B gb N c P) {g j : Nat} (hg : w.heap.size + 1 + 1 < g ∧ g ≠ gb) (u : Value) : RI w (wr.setCell ⟨g, j, none⟩ u) hh B gb N c P :=
  h.keep (F := fun k => k = g) (Keep.setCell (F := fun k => k = g) (Keep.refl _ _) (p := ⟨g, j, none⟩) (fun _ => rfl) u) fun k x => by subst x; exact hg
theorem RI.lt {w wr : World} {hh : List Int} {B gb N c : Nat} {P : List UInt8} (h : RI w wr hh B gb N c P) : gb < wr.heap.size := by
  obtain ⟨g, hg, _, h2, _⟩ := h.br.at_
  injection hg with hg
  injection hg with hg
  omega
theorem RI.byte {w wr : World} {hh : List Int} {B gb N c : Nat} {P : List UInt8} (h : RI w wr hh B gb N c P) {j : Nat} (hj : j < N) : wr.cell? ⟨gb, j, none⟩ = some (B8 (P.getD j 0)) := by
  obtain ⟨g, hg, _, _, h3, _⟩ := h.br.at_
  injection hg with hg
  injection hg with hg
  subst hg
  have hl := h.br.len
  exact h3 j _ (by simp [show j < P.length by omega])
theorem RI.grown {w wr w2 : World} {hh : List Int} {B gb N c : Nat} {P : List UInt8} (h : RI w wr hh B gb N c P) {row : Option Nat} (hg : wr.grownBy w2 row) (hr : ∀ k, row = some k → w.heap.size + 1 + 1 < k ∧ k ≠ gb) : RI w w2 hh B gb N c P :=
  h.keep (F := fun k => some k = row) ⟨hg.os, hg.tape, hg.output, hg.size, fun k hk hn => hg.block k hk hn⟩ fun k x => hr k x.symm
/-- A slice of eight words. -/
def Eight (w : World) (B : Nat) (A : Option Addr) (c : Nat) (xs : List Int) : Prop := w.ownsRow B 38 1 (.slice A 8 c) 8 (xs.map U)
theorem Eight.open_ {w : World} {B : Nat} {A : Option Addr} {c : Nat} {xs : List Int} (h : Eight w B A c xs) : ∃ g, A = some ⟨g, 0, none⟩ ∧ B ≤ g ∧ g < w.heap.size ∧ ∀ j x, xs[j]? = some x → w.cell? ⟨g, j, none⟩ = some (U x) := by
  obtain ⟨g, cap, hv, hbg, hlt⟩ := World.ownsRow.form h (by decide)
  injection hv with hv
  subst hv
  refine ⟨g, rfl, hbg, hlt, fun j x hj => ?_⟩
  have := World.ownsRow.cells h (g := g) rfl j (U x) (by simp [hj])
  rwa [Addr.add_mid, Nat.zero_add] at this
theorem Eight.next {w : World} {B : Nat} (hB : B ≤ w.heap.size) {xs : List Int} {y0 y1 y2 y3 y4 y5 y6 y7 : Int} (hx : xs = [y0, y1, y2, y3, y4, y5, y6, y7]) : Eight (w.alloc (.cells #[.int .u32 y0, .int .u32 y1, .int .u32 y2, .int .u32 y3, .int .u32 y4, .int .u32 y5, .int .u32 y6, .int .u32 y7] 38)) B (some ⟨w.heap.size, 0, none⟩) 8 xs := by
  subst hx
  exact World.ownsRow_lit w #[.int .u32 y0, .int .u32 y1, .int .u32 y2, .int .u32 y3, .int .u32 y4, .int .u32 y5, .int .u32 y6, .int .u32 y7] 8 hB (by unfold maxLen; omega) rfl
theorem RI.seth {w wr : World} {hh : List Int} {B gb N c : Nat} {P : List UInt8} (h : RI w wr hh B gb N c P) (hB : w.heap.size + 1 + 1 < B) (hgb : B ≤ gb) (i : Nat) (x : Int) : RI w (wr.setCell ⟨w.heap.size + 1, i, none⟩ (.int .u32 x)) (hh.set i x) B gb N c P :=
  ⟨⟨h.di.bd.far (by simp) _, h.di.bh.arr_set i x, h.di.bk.far (by simp) _, h.di.bel.setCell (by simp) _, by have := h.di.lt; simpa [World.setCell] using this⟩, by have := h.base; simpa [World.setCell] using this,
    h.br.keep (F := fun k => k = w.heap.size + 1) (Keep.setCell (F := fun k => k = w.heap.size + 1) (Keep.refl _ _) (p := ⟨w.heap.size + 1, i, none⟩) (fun _ => rfl) _) (by omega)⟩
theorem RI.drew' {w wr : World} {hh : List Int} {B gb N c : Nat} {P : List UInt8} (h : RI w wr hh B gb N c P) : RI w wr.drew hh B gb N c P := h.drew
theorem byteP (x : Int) (sh : Nat) : Value.int .u8 (x / 2 ^ sh % 256) = B8 (byteI x (2 ^ sh)) := by
  rw [← byteI_val, Int.natCast_pow]
  rfl
theorem DI.set {w wr : World} {hh : List Int} (h : DI w wr hh) {g j : Nat} (hg : w.heap.size + 1 + 1 < g) (u : Value) : DI w (wr.setCell ⟨g, j, none⟩ u) hh :=
  h.keep (F := fun k => k = g) (Keep.setCell (F := fun k => k = g) (Keep.refl _ _) (p := ⟨g, j, none⟩) (fun _ => rfl) u) fun k x => by subst x; exact hg
theorem dig_start {w w1 : World} {c0 c1 : Array Value} (hk : Blk w1 ((w.alloc (.cells c0 24)).alloc (.cells c1 38)).heap.size 38 (arr KT))
    (hb : Below ((w.alloc (.cells c0 24)).alloc (.cells c1 38)).heap.size ((w.alloc (.cells c0 24)).alloc (.cells c1 38)) w1)
    (hsz : w1.heap.size = ((w.alloc (.cells c0 24)).alloc (.cells c1 38)).heap.size + 1) (h0 : c0 = ZC) (h1 : c1 = arr HT) : DI w w1 HT ∧ w.heap.size + 1 + 1 < w1.heap.size := by
  have e1 : (w.alloc (.cells c0 24)).heap.size = w.heap.size + 1 := by simp
  have e2 : ((w.alloc (.cells c0 24)).alloc (.cells c1 38)).heap.size = w.heap.size + 1 + 1 := by simp
  rw [e2] at hk hb hsz
  subst h0
  have k1 := Blk.new (w.alloc (.cells ZC 24)) 38 c1
  rw [e1, h1] at k1
  rw [h1] at hb
  exact ⟨⟨((Blk.new w 24 ZC).alloc _).below hb (by omega), k1.below hb (by omega), hk, (((Below.refl _ _).alloc (Nat.le_refl _) _).alloc (by simp) _).trans (hb.mono (by omega)), by omega⟩, by omega⟩

set_option maxRecDepth 100000 in
set_option maxHeartbeats 8000000 in
theorem digest_any (w : World) (l : List UInt8) (hl : l.length ≤ 65536) : Calls Try.prog 10 #[S l] w fun e w' => e = .returned (.agg (darr (sumM l))) ∧ Below w.heap.size w w' := by
  go_enter Try.func10, Try.ntmps10
  go_upto_region 3 with (go_at_call 16; refine (const_any _).mono ?_; rintro e w1 ⟨rfl, hk, hb, hsz⟩; obtain ⟨hDI, hB⟩ := dig_start hk hb hsz rfl rfl; have HDI := hide hDI; clear hk hb hsz hDI)
  have hcv := Lib.run_convert_string_bytes (P := Try.prog) w1 9 31 5 ⟨l.toArray⟩ Try.underlying9 Try.underlying31 Try.underlying5
  have HBR0 := hide (BR.of_conv w1 l)
  have HD0 := hide (HDI.out.below (conv_below w1 l) hB)
  have HW0 := hide (conv_below w1 l).size
  rw [show (ByteArray.mk l.toArray).size = l.length from rfl] at hcv
  generalize Lib.bytesWorld w1 5 ⟨l.toArray⟩ = W at hcv HBR0 HD0 HW0
  generalize grownCap w1 l.length 0 5 = cp at hcv HBR0
  generalize w1.heap.size = B at hcv HBR0 hB HW0
  have hbase := HW0.out
  clear HDI HW0
  go_upto_region 5 with fail

  clear hcv
  have hB0 := HBR0.out
  go_wp2_with (at_builtin; refine appB rfl (.tmp 28) (.tmp 29) rfl rfl hB0 (128 : UInt8) rfl (by omega) hbase ?_)
  intro a3 c3 w3 hB3 hbel3
  have HB3 : Hid (BR w3 B a3 (l.length + 1 + 0) c3 (l ++ [128] ++ List.replicate 0 0)) := hide (by rw [List.replicate_zero, List.append_nil]; exact hB3)
  have HD3 := hide (HD0.out.below hbel3 hB)
  have hbase3 := Nat.le_trans hbase hbel3.size
  clear hB0 hB3 hbel3 HBR0 HD0 hbase
  go_wp2_with fail
  go_loopg [5] (zeros l.length) (fun g v wr => ∃ (j : Nat) (A' : Option Addr) (c' : Nat), j + g = zeros l.length ∧ v = .slice A' (l.length + 1 + j) c' ∧ DI w wr HT ∧ B ≤ wr.heap.size ∧ BR wr B A' (l.length + 1 + j) c' (l ++ [128] ++ List.replicate j 0))
  case atStart => exact ⟨0, a3, c3, by omega, rfl, HD3.out, hbase3, HB3.out⟩
  case round =>
    clear HB3 HD3 hbase3
    obtain ⟨j, A2, c2, hj, rfl, hd, hbase, hbr⟩ := hrel
    have HD := hide hd
    clear hd
    have hz := zeros_lt l.length
    have HJ := hide hj
    have hzj : j ≤ zeros l.length := by omega
    clear hj
    have HE := hide (zeros_end l.length j hzj)
    by_cases hlt : j = zeros l.length
    · have he : (((l.length : Int) + 1 + (j : Int)) % 64 != 56) = false := by
        have := HE.out.2 hlt
        simp
        omega
      have hpl : (pad0 l).length = l.length + 1 + j := by rw [pad0_len, hlt]
      have HBR : Hid (BR wr B A2 ((pad0 l).length + 0) c2 (pad0 l ++ lenBs l.length 0)) := hide (by
        rw [lenBs, List.append_nil, hpl]
        rw [hlt] at hbr ⊢
        exact hbr)
      have HPL := hide hpl
      have hpb : (pad0 l).length ≤ 70000 := by rw [hpl]; omega
      have hll : (l.length : Int) * 8 ≤ 524288 := by omega
      clear hbr hlt hpl HE HJ hzj hz
      go_wp2_with fail
      go_loopw [5, 7] (fun v i wr => ∃ (k m : Nat) (A' : Option Addr) (c' : Nat), k + m = 8 ∧ i = .int .i64 ((m : Int) - 1) ∧ v = .slice A' ((pad0 l).length + k) c' ∧ DI w wr HT ∧ B ≤ wr.heap.size ∧ BR wr B A' ((pad0 l).length + k) c' (pad0 l ++ lenBs l.length k)) (fun _ i _ => (intOf i + 1).toNat)
      case atStart => exact ⟨0, 8, A2, c2, rfl, rfl, by rw [HPL.out]; rfl, HD.out, hbase, HBR.out⟩
      case round =>
        clear HD HBR hbase
        obtain ⟨k, m, A4, c4, hkm, rfl, rfl, hd, hbase, hbr⟩ := hrel
        have HD := hide hd
        clear hd
        have HKM := hide hkm
        cases m with
        | zero =>
          obtain rfl : k = 8 := by omega
          rw [show ((0 : Nat) : Int) - 1 = -1 by rfl]
          have hpm : (padM l).length = (pad0 l).length + 8 := by rw [padM, List.length_append, lenBs_len]
          have hP : pad0 l ++ lenBs l.length 8 = padM l := rfl
          rw [hP, ← hpm] at hbr
          have hm64 := padM_64 l
          have HS : Hid (∀ _ : Unit, sumM l = digK (hs (padM l) ((padM l).length / 64)) 8) := hide (fun _ => rfl)
          obtain ⟨P, hPP⟩ : ∃ P, P = padM l := ⟨_, rfl⟩
          rw [← hPP] at hbr HS hm64 hpm
          obtain ⟨q, hq⟩ : ∃ q, P.length = 64 * q := ⟨P.length / 64, by omega⟩
          rw [hq, Nat.mul_div_cancel_left _ (by decide)] at HS
          have hq2 : q ≤ 1200 := by omega
          have HPM : Hid ((pad0 l).length + 8 = 64 * q) := hide (by omega)
          have HPQ := hide hq
          have HBR := hide hbr
          rw [show (pad0 l).length + 8 = 64 * q from HPM.out]
          rw [hq] at HBR
          clear hbr hpm hP hPP hq hm64 HKM hkm HPM HPL
          have HN := hide (show 64 * q = 64 * q from rfl)
          obtain ⟨N, hN⟩ : ∃ N, N = 64 * q := ⟨_, rfl⟩
          rw [← hN] at HBR HPQ ⊢
          have HNQ := hide hN
          have hN2 : N ≤ 76800 := by omega
          clear HN hN
          go_wp2_with fail
          obtain ⟨gb, _, rfl, hgb, _⟩ : ∃ g, True ∧ A4 = some ⟨g, 0, none⟩ ∧ B ≤ g ∧ True := by
            obtain ⟨g, h1, h2, _⟩ := HBR.out.at_
            exact ⟨g, trivial, h1, h2, trivial⟩
          go_loopw [9] (fun v wr => ∃ (k o : Nat), o = 64 * k ∧ k ≤ q ∧ v = .int .i64 (o : Int) ∧ DI w wr (hs P k) ∧ B ≤ wr.heap.size ∧ BR wr B (some ⟨gb, 0, none⟩) N c4 P) (fun v _ => N - (intOf v).toNat)
          case atStart => exact ⟨0, 0, rfl, by omega, rfl, HD.out, hbase, HBR.out⟩
          case round =>
            clear HD HBR hbase
            obtain ⟨kb, o, ho, hkq, rfl, hd, hbase, hbr⟩ := hrel
            have HD := hide hd
            have HBR := hide hbr
            have HO := hide ho
            clear hd hbr ho
            by_cases hlt : kb < q
            · have hoN : o + 64 ≤ N := by have := HO.out; have := HNQ.out; omega
              have hoN2 : o < N := by omega
              clear hlt
              obtain ⟨bs, hbs⟩ : ∃ bs, bs = P.drop (64 * kb) := ⟨_, rfl⟩
              have HBS : Hid (∀ j, j < 64 → P.getD (o + j) 0 = bs.getD j 0) := hide (fun j _ => by rw [hbs, HO.out]; simp)
              have HNX : Hid (∀ _ : Unit, hs P (kb + 1) = blockM (hs P kb) KT bs) := hide (fun _ => by rw [hbs]; exact rfl)
              have HLH := hide (hs_len P kb)
              generalize hs P kb = hh at HD HNX HLH
              clear hbs
              have hmk := mk64 wr
              have HR0 := hide ((⟨HD.out, hbase, HBR.out⟩ : RI w wr hh B gb N c4 P).alloc (.cells (arr (List.replicate 64 0)) 38))
              have HW0 : Hid (Blk (wr.alloc (.cells (arr (List.replicate 64 0)) 38)) wr.heap.size 38 (arr (schA (word bs) 0))) := hide (Blk.new _ _ _)
              have hgw : w.heap.size + 1 + 1 < wr.heap.size ∧ wr.heap.size ≠ gb := ⟨by omega, by have := (⟨HD.out, hbase, HBR.out⟩ : RI w wr hh B gb N c4 P).lt; omega⟩
              clear HD hbase HBR
              generalize wr.heap.size = gw at hmk HW0 hgw
              generalize wr.alloc (.cells (arr (List.replicate 64 0)) 38) = wy at hmk HR0 HW0
              go_wp2_with fail
              clear hmk
              obtain ⟨hgw1, hgw2⟩ := hgw
              have HGW := hide (And.intro hgw1 hgw2)
              clear hgw1 hgw2
              go_loopw [11] (fun v wr => ∃ i : Nat, i ≤ 16 ∧ v = .int .i64 (i : Int) ∧ RI w wr hh B gb N c4 P ∧ Blk wr gw 38 (arr (schA (word bs) i))) (fun v _ => 16 - (intOf v).toNat)
              case atStart => exact ⟨0, by omega, rfl, HR0.out, HW0.out⟩
              case round =>
                clear HR0 HW0
                obtain ⟨i, hi, rfl, hr, hw⟩ := hrel
                have HR := hide hr
                have HW := hide hw
                clear hr hw
                by_cases hlt : i < 16
                ·
                  as_aux_lemma =>
                    obtain ⟨wo, hwo⟩ : ∃ wo : World, wo = wr := ⟨_, rfl⟩
                    rw [← hwo] at HR HW ⊢
                    clear hwo
                    go_wp2_with fail
                    go_loopw [12] (fun v wr => ∃ j : Nat, j ≤ 4 ∧ v = .int .i64 (j : Int) ∧ RI w wr hh B gb N c4 P ∧ Blk wr gw 38 (arr ((schA (word bs) i).set i (accI bs i j)))) (fun v _ => 4 - (intOf v).toNat)
                    case atStart => exact ⟨0, by omega, rfl, HR.out, by rw [accI, schA_set0]; exact HW.out⟩
                    case round =>
                      clear HR HW
                      obtain ⟨j, hj, rfl, hr, hw⟩ := hrel
                      have HR := hide hr
                      have HW := hide hw
                      clear hr hw
                      by_cases hlt4 : j < 4
                      · obtain ⟨a0, ha0⟩ : ∃ a, a = 4 * i := ⟨_, rfl⟩
                        obtain ⟨a1, ha1⟩ : ∃ a, a = o + a0 := ⟨_, rfl⟩
                        obtain ⟨p, hp⟩ : ∃ a, a = a1 + j := ⟨_, rfl⟩
                        have hpN : p < N := by omega
                        have hcb := HR.out.byte hpN
                        have HBY : Hid (P.getD p 0 = bs.getD (4 * i + j) 0) := hide (by rw [hp, ha1, ha0, Nat.add_assoc]; exact HBS.out _ (by omega))
                        have HAC : Hid (accI bs i (j + 1) = (accI bs i j * 256 + ((P.getD p 0).toNat : Int)) % 4294967296) := hide (by rw [HBY.out]; rfl)
                        generalize P.getD p 0 = y at hcb HAC HBY
                        have hll := schA_len (word bs) i
                        have hcw : wr.cell? ⟨gw, i, none⟩ = some (U (accI bs i j)) := by
                          rw [HW.out.arr_at (i := i) (by simp [hll]; omega)]
                          simp [hll, show i < 64 by omega]
                        generalize accI bs i j = x at hcw HAC HW
                        have hfw := HW.out.frozen i
                        have e0 : IntKind.i64.wrap (4 * (i : Int)) = (a0 : Int) := by rw [IntWalk.i64_in _ (by omega)]; omega
                        have e1 : IntKind.i64.wrap ((o : Int) + (a0 : Int)) = (a1 : Int) := by rw [IntWalk.i64_in _ (by omega)]; omega
                        have e2 : IntKind.i64.wrap ((a1 : Int) + (j : Int)) = (p : Int) := by rw [IntWalk.i64_in _ (by omega)]; omega
                        have r0 : (0 : Int) ≤ (p : Int) := by omega
                        have r1 : (0 : Int) ≤ (i : Int) := by omega
                        have q0 : (i : Int) < 64 := by omega
                        have q1 : (p : Int) < (N : Int) := by omega
                        have q2 : i < 64 := by omega
                        have HA0 := hide ha0
                        clear ha0 ha1 hp hll
                        go_wp2_with fail
                        go_region
                        clear e0 e1 e2
                        go_wp2_with fail
                        clear hcb hcw hfw r0 r1 q0 q1 q2
                        go_roundw
                        case rel => exact ⟨j + 1, by omega, by go_num, (HR.out.set HGW.out _).drew, by
                          have := (HW.out.arr_set i ((x * 256 + (y.toNat : Int)) % 4294967296)).drew
                          rw [List.set_set] at this
                          rw [HAC.out]
                          exact this⟩
                        case measure => simp [intOf]; omega
                      · obtain rfl : j = 4 := by omega
                        have HW2 : Hid (Blk wr gw 38 (arr (schA (word bs) (i + 1)))) := hide (by
                          have := HW.out
                          rw [accI_4] at this
                          exact this)
                        simp only [show ((4 : Nat) : Int) = 4 from rfl]
                        clear HW hlt4 hj
                        go_wp2_with fail
                        go_roundw
                        case rel => exact ⟨i + 1, by omega, by go_num, HR.out, HW2.out⟩
                        case measure => simp [intOf]; omega
                · obtain rfl : i = 16 := by omega
                  have HL64 := hide (schA_len (word bs) 16)
                  obtain ⟨LA, hLA⟩ : ∃ LA, LA = schA (word bs) 16 := ⟨_, rfl⟩
                  rw [← hLA] at HW HL64
                  have HLA : Hid (∀ _ : Unit, LA = schA (word bs) 16) := hide (fun _ => hLA)
                  simp only [show ((16 : Nat) : Int) = 16 from rfl]
                  clear hLA hlt hi HBS
                  go_wp2_with fail
                  go_loopw [13] (fun v wr => ∃ k j : Nat, k ≤ 48 ∧ j = 16 + k ∧ v = .int .i64 (j : Int) ∧ RI w wr hh B gb N c4 P ∧ Blk wr gw 38 (arr (schB LA k))) (fun v _ => 64 - (intOf v).toNat)
                  case atStart => exact ⟨0, 16, by omega, rfl, rfl, HR.out, HW.out⟩
                  case round =>
                    clear HR HW
                    obtain ⟨k, j, hk, hj, rfl, hr, hw⟩ := hrel
                    have HR := hide hr
                    have HW := hide hw
                    have HJ := hide hj
                    clear hr hw hj
                    by_cases hlt : k < 48
                    ·
                      as_aux_lemma =>
                        have hL := schB_len LA k
                        rw [HL64.out] at hL
                        obtain ⟨a0, ha0⟩ : ∃ a0, a0 = k := ⟨_, rfl⟩
                        obtain ⟨a1, ha1⟩ : ∃ a0, a0 = k + 1 := ⟨_, rfl⟩
                        obtain ⟨a9, ha9⟩ : ∃ a0, a0 = k + 9 := ⟨_, rfl⟩
                        obtain ⟨ae, hae⟩ : ∃ a0, a0 = k + 14 := ⟨_, rfl⟩
                        have hj := HJ.out
                        have g0 := HW.out.arr_at (i := a0) (by omega)
                        have g1 := HW.out.arr_at (i := a1) (by omega)
                        have g9 := HW.out.arr_at (i := a9) (by omega)
                        have ge := HW.out.arr_at (i := ae) (by omega)
                        have gz := HW.out.arr_at (i := j) (by omega)
                        generalize ha : (schB LA k).getD a0 0 = a at g0
                        generalize hb : (schB LA k).getD a1 0 = b1 at g1
                        generalize hc : (schB LA k).getD a9 0 = c1 at g9
                        generalize hd : (schB LA k).getD ae 0 = d1 at ge
                        generalize (schB LA k).getD j 0 = z1 at gz
                        have HX : Hid (∀ _ : Unit, schB LA (k + 1) = (schB LA k).set j (sNext a b1 c1 d1)) := hide (fun _ => by rw [schB, ← ha, ← hb, ← hc, ← hd, ha0, ha1, ha9, hae, hj])
                        clear ha hb hc hd
                        have fz : wr.frozen? ⟨gw, j, none⟩ = false := HW.out.frozen _
                        have hlt64 : j < 64 := by omega
                        have h0 : a0 + 16 = j := by omega
                        have h1 : a1 + 15 = j := by omega
                        have h9 : a9 + 7 = j := by omega
                        have he : ae + 2 = j := by omega
                        clear hL ha0 ha1 ha9 hae hj
                        go_wp2_with fail
                        refine reg27 _ gw j a0 a1 a9 ae a b1 c1 d1 z1 g0 g1 g9 ge gz fz h0 h1 h9 he hlt64 ?_
                        clear g0 g1 g9 ge gz fz h0 h1 h9 he
                        intros
                        go_wp2_with fail
                        go_roundw
                        case rel => (repeat apply Exists.intro); exact ⟨⟨k + 1, j + 1, by omega, by have := HJ.out; omega, by go_num, (HR.out.set HGW.out _).drew, schB_next HW.out (HX.out ())⟩, rfl⟩
                        case measure => have := HJ.out; simp [intOf]; omega
                    · obtain rfl : k = 48 := by omega
                      obtain rfl : j = 64 := HJ.out
                      have HWL := hide (show (schB LA 48).length = 64 by rw [schB_len, HL64.out])
                      have HWM : Hid (∀ _ : Unit, schB LA 48 = schM bs) := hide (fun _ => by rw [HLA.out (), schM])
                      obtain ⟨WT, hWT⟩ : ∃ WT, WT = schB LA 48 := ⟨_, rfl⟩
                      rw [← hWT] at HW HWL HWM
                      clear hWT hlt hk HJ HL64 HLA
                      simp only [show ((64 : Nat) : Int) = 64 from rfl]
                      obtain ⟨i0, hi0, hz0, hz1, hz2⟩ := info_parts u32_info
                      have hbase := HR.out.base
                      have hown0 := World.ownsRow_made (base := B) (e := 38) (size := 1) wr #[] 0 hbase (by unfold maxLen; omega) rfl
                      have hnews : ∀ j u, (hh.map U)[j]? = some u → (wr.alloc (.cells #[] 38)).cell? ((⟨w.heap.size + 1, 0, none⟩ : Addr).add j) = some u := fun j u hu => by
                        rw [Addr.add_mid, Nat.zero_add, (HR.out.di.bh.alloc _).cell, arr]
                        simpa using hu
                      have hone : ∀ u ∈ hh.map U, u.oneCell' = true := fun u hu => by
                        obtain ⟨x, _, rfl⟩ := List.mem_map.1 hu
                        rfl
                      have hml : (hh.map U).length = 8 * 1 := by rw [List.length_map, HLH.out]
                      go_wp2_with (at_builtin; refine wpList_append_own_at _ rfl (.tmp 149) (.tmp 150) 48 rfl B 38 i0 (.int .u32 0) 1 4 Try.underlying48 hi0 hz0 hz1 hz2 rfl (by decide) (.slice (some ⟨wr.heap.size, 0, none⟩) 0 0) 0 [] rfl hown0 ⟨w.heap.size + 1, 0, none⟩ 8 8 (hh.map U) rfl hml hnews hone (by unfold maxLen; omega) (by omega) (by simp; omega) ?_)
                      intro v5 w5 hown5 hg5 _ _
                      obtain ⟨A5, c5, rfl⟩ := own_slice hown5
                      have hgw1 := HGW.out.1
                      have HV : Hid (Eight w5 B A5 c5 (rounds hh KT WT 0)) := hide (by exact hown5)
                      have HR5 := hide ((HR.out.alloc (.cells #[] 38)).grown hg5 (fun k hk => by
                        have hk : some wr.heap.size = some k := hk
                        injection hk with hk
                        subst hk
                        have := HR.out.lt
                        exact ⟨by omega, by omega⟩))
                      have HW5 := hide ((HW.out.alloc (.cells #[] 38)).grown hg5 (fun hk => by
                        have hk : some gw = some wr.heap.size := hk
                        injection hk with hk
                        have := HW.out.lt
                        omega))
                      clear hown0 hnews hone hml hown5 hg5 HR HW hi0 hz0 hz1 hz2 hbase
                      go_wp2_with fail
                      go_loopw [14, 15] (fun v t wr => ∃ (k : Nat) (A' : Option Addr) (c' : Nat), k ≤ 64 ∧ t = .int .i64 (k : Int) ∧ v = .slice A' 8 c' ∧ RI w wr hh B gb N c4 P ∧ Blk wr gw 38 (arr WT) ∧ Eight wr B A' c' (rounds hh KT WT k)) (fun _ t _ => 64 - (intOf t).toNat)
                      case atStart => exact ⟨0, A5, c5, by omega, rfl, rfl, HR5.out, HW5.out, HV.out⟩
                      case round =>
                        clear HR5 HW5 HV
                        obtain ⟨k, A6, c6, hk, rfl, rfl, hr, hw, hv⟩ := hrel
                        have HR := hide hr
                        have HW := hide hw
                        have HV := hide hv
                        clear hr hw hv
                        by_cases hlt : k < 64
                        ·
                          as_aux_lemma =>
                            obtain ⟨x0, x1, x2, x3, x4, x5, x6, x7, hx8⟩ := eight (rounds_len (kt := KT) (wt := WT) HLH.out k)
                            obtain ⟨gv, rfl, hgv1, hgv2, hgc⟩ := HV.out.open_
                            rw [hx8] at hgc
                            have c0 := hgc 0 x0 rfl
                            have c1 := hgc 1 x1 rfl
                            have c2 := hgc 2 x2 rfl
                            have c3 := hgc 3 x3 rfl
                            have c4 := hgc 4 x4 rfl
                            have c5 := hgc 5 x5 rfl
                            have c6' := hgc 6 x6 rfl
                            have c7 := hgc 7 x7 rfl
                            have ck := HR.out.di.bk.arr_at (i := k) hlt
                            have cw := HW.out.arr_at (i := k) (by rw [HWL.out]; exact hlt)
                            have HX : Hid (∀ _ : Unit, rounds hh KT WT (k + 1) = rnd [x0, x1, x2, x3, x4, x5, x6, x7] (KT.getD k 0) (WT.getD k 0)) := hide (fun _ => by rw [rounds, hx8])
                            generalize KT.getD k 0 = kv at ck HX
                            generalize WT.getD k 0 = wv at cw HX
                            clear hx8 hgc HV
                            go_wp2_with fail
                            refine reg32 wr (w.heap.size + 1 + 1) gw gv c6 k x0 x1 x2 x3 x4 x5 x6 x7 kv wv c0 c1 c2 c3 c4 c5 c6' c7 ck cw hlt ?_
                            intro m1
                            intros
                            clear ck cw
                            go_wp2_with fail
                            refine reg33 _ gv c6 x0 x1 x2 x3 x4 x5 x6 x7 c0 c1 c2 c3 c4 c5 c6' c7 ?_
                            intro m2
                            intros
                            go_wp2_with fail
                            refine reg34 _ gv c6 x0 x1 x2 x3 x4 x5 x6 x7 _ _ c0 c1 c2 c3 c4 c5 c6' c7 ?_
                            intros
                            clear c0 c1 c2 c3 c4 c5 c6' c7
                            go_wp2_with fail
                            go_roundw
                            case rel => (repeat apply Exists.intro); exact ⟨⟨k + 1, _, _, by omega, by go_num, rfl, ((HR.out.drewN (m1 + m2)).alloc _).drew, ((HW.out.drewN (m1 + m2)).alloc _).drew, Eight.next (w := wr.drewN (m1 + m2)) HR.out.base (HX.out ())⟩, rfl⟩
                            case measure => simp [intOf]; omega
                        · obtain rfl : k = 64 := by omega
                          have HXL := hide (rounds_len (kt := KT) (wt := WT) HLH.out 64)
                          have HBM : Hid (∀ _ : Unit, blockM hh KT bs = addK hh (rounds hh KT WT 64) 8) := hide (fun _ => by rw [blockM, ← HWM.out ()])
                          obtain ⟨XX, hXX⟩ : ∃ XX, XX = rounds hh KT WT 64 := ⟨_, rfl⟩
                          rw [← hXX] at HV HXL HBM
                          simp only [show ((64 : Nat) : Int) = 64 from rfl]
                          obtain ⟨gv, hgv0, hgv1, hgv2, hgc⟩ := HV.out.open_
                          subst hgv0
                          have HGC := hide hgc
                          have HV2 := hide (Nat.lt_of_lt_of_le hB hgv1)
                          clear hk hlt hXX hgc HV HWM HWL
                          go_wp2_with fail
                          go_loopw [18] (fun v wr => ∃ i : Nat, i ≤ 8 ∧ v = .int .i64 (i : Int) ∧ RI w wr (addK hh XX i) B gb N c4 P ∧ (∀ j x, XX[j]? = some x → wr.cell? ⟨gv, j, none⟩ = some (U x))) (fun v _ => 8 - (intOf v).toNat)
                          case atStart => exact ⟨0, by omega, rfl, HR.out, HGC.out⟩
                          case round =>
                            clear HR HGC
                            obtain ⟨i, hi, rfl, hr, hc⟩ := hrel
                            have HR := hide hr
                            have HC := hide hc
                            clear hr hc
                            by_cases hlt : i < 8
                            ·
                              as_aux_lemma =>
                                have hXL : i < XX.length := by rw [HXL.out]; exact hlt
                                have hcv := HC.out i (XX.getD i 0) (by simp [hXL])
                                have hal := addK_len hh XX i
                                rw [HLH.out] at hal
                                have hch := HR.out.di.bh.arr_at (i := i) (by omega)
                                have hfh := HR.out.di.bh.frozen i
                                have HX : Hid (∀ _ : Unit, addK hh XX (i + 1) = (addK hh XX i).set i (((addK hh XX i).getD i 0 + XX.getD i 0) % 4294967296)) := hide (fun _ => rfl)
                                generalize (addK hh XX i).getD i 0 = y at hch HX
                                generalize XX.getD i 0 = x at hcv HX
                                have r4 : (0 : Int) ≤ (i : Int) := by omega
                                have q4 : (i : Int) < 8 := by omega
                                clear hXL hal
                                go_wp2_with fail
                                go_region
                                clear hcv hch hfh
                                go_wp2_with fail
                                go_roundw
                                case rel => exact ⟨i + 1, by omega, by go_num, by rw [HX.out ()]; exact (HR.out.seth hB hgb _ _).drew, fun j x hj => by
                                  have := HC.out j x hj
                                  show (World.setCell _ _ _).cell? _ = _
                                  rw [World.cell?_setCell_far _ _ _ _ (by have := HV2.out; simp; omega)]
                                  exact this⟩
                                case measure => simp [intOf]; omega
                            · obtain rfl : i = 8 := by omega
                              have HR2 : Hid (RI w wr (hs P (kb + 1)) B gb N c4 P) := hide (by rw [HNX.out (), HBM.out ()]; exact HR.out)
                              clear HR HC hlt hi HBM HXL
                              go_wp2_with fail
                              go_roundw
                              case rel => exact ⟨kb + 1, o + 64, by have := HO.out; omega, by have := HO.out; have := HNQ.out; omega, by go_num, HR2.out.di, HR2.out.base, HR2.out.br⟩
                              case measure => simp [intOf]; omega
            · obtain rfl : kb = q := by omega
              have hoN : o = N := by have := HO.out; have := HNQ.out; omega
              have HSM : Hid (∀ _ : Unit, sumM l = dgI (hs P kb) 32) := hide (fun _ => by rw [HS.out (), dgI_32])
              have hhl := hs_len P kb
              have HDG := hide (dgI_len (hs P kb))
              have HDN : Hid (∀ i, dgI (hs P kb) (i + 1) = (dgI (hs P kb) i).set i (byteI ((hs P kb).getD (i / 4) 0) (2 ^ (24 - 8 * (i % 4))))) := hide (fun _ => rfl)
              have HDZ : Hid (∀ _ : Unit, dgI (hs P kb) 0 = Z32) := hide (fun _ => rfl)
              generalize hs P kb = hh at HD hhl HDG HDN HDZ HSM
              generalize dgI hh = dg at HDG HDN HDZ HSM
              have HHL := hide hhl
              subst hoN
              clear hlt hkq HO HNQ HPQ HS HBR hhl hN2
              have htt : (wr.alloc (.cells ZC 24)).there wr.heap.size 0 ZC.size := put_there rfl
              have HTT := hide htt
              have HIC := hide dig_info
              have HOC := hide Z32_one
              clear htt
              go_wp2_with (refine wpList_store_mid rfl 24 (.tmp 19) (.tmp 286) rfl wr.heap.size 0 ZC rfl rfl HTT.out HIC.out HOC.out ?_; obtain ⟨W9, hW9, h9, hk9, hs9⟩ := put_new (w := wr) (t := 24) (cs := ZC) ZC rfl; refine wpList_world (w' := W9) hW9 ?_; have H9 := hide h9; have HK9 := hide hk9; clear hW9 h9 hk9 HTT)
              have HD9 := hide (HD.out.keep HK9.out (fun _ x => x.elim))
              have H90 : Hid (Blk W9 wr.heap.size 24 (darr (dg 0))) := hide (by rw [HDZ.out (), ← ZC_is]; exact H9.out)
              have hltd := HD.out.lt
              clear HD H9 HK9 hbase
              generalize wr.heap.size = gd at H90 hs9 hltd ⊢

              go_loopw [20] (fun v wr => ∃ i : Nat, i ≤ 32 ∧ v = .int .i64 (i : Int) ∧ DI w wr hh ∧ Blk wr gd 24 (darr (dg i))) (fun v _ => 32 - (intOf v).toNat)
              case atStart => exact ⟨0, by omega, rfl, HD9.out, H90.out⟩
              case round =>
                clear HD9 H90
                obtain ⟨i, hi, rfl, hd, hb⟩ := hrel
                have HD := hide hd
                have HB := hide hb
                clear hd hb
                by_cases hlt : i < 32
                ·
                  as_aux_lemma =>
                    obtain ⟨a4, ha4⟩ : ∃ a, a = i / 4 := ⟨_, rfl⟩
                    obtain ⟨sh, hsh⟩ : ∃ a, a = 24 - 8 * (i % 4) := ⟨_, rfl⟩
                    have hch := HD.out.bh.arr_at (i := a4) (by rw [HHL.out]; omega)
                    have HX : Hid (∀ _ : Unit, dg (i + 1) = (dg i).set i (byteI (hh.getD a4 0) (2 ^ sh))) := hide (fun _ => by rw [HDN.out, ha4, hsh])
                    generalize hh.getD a4 0 = x at hch HX
                    have hlg := HDG.out i
                    have hcd := HB.out.darr_at (i := i) (by omega)
                    generalize (dg i).getD i 0 = y at hcd
                    have hfd := HB.out.frozen i
                    have r0 : (0 : Int) ≤ (a4 : Int) := by omega
                    have q0 : (a4 : Int) < 8 := by omega
                    have r1 : (0 : Int) ≤ (i : Int) := by omega
                    have q1 : (i : Int) < 32 := by omega
                    have hs2 : sh ≤ 24 := by omega
                    obtain ⟨m4, hm4⟩ : ∃ a, a = i % 4 := ⟨_, rfl⟩
                    obtain ⟨m8, hm8⟩ : ∃ a, a = 8 * m4 := ⟨_, rfl⟩
                    have s0 : (i : Int) / 4 = (a4 : Int) := by omega
                    have s1 : (i : Int) % 4 = (m4 : Int) := by omega
                    have s2 : 8 * (m4 : Int) = (m8 : Int) := by omega
                    have s3 : 24 - (m8 : Int) = (sh : Int) := by omega
                    have hm4' : m4 ≤ 3 := by omega
                    have hm8' : m8 ≤ 24 := by omega
                    clear ha4 hsh hlg hm4 hm8
                    go_wp2_with fail
                    clear s0 s1 s2 s3 hch hcd hfd r0 q0 r1 q1
                    go_roundw
                    case rel => exact ⟨i + 1, by omega, by go_num, HD.out.set hltd _, by
                      rw [HX.out (), byteP]
                      exact HB.out.darr_set _ _⟩
                    case measure => simp [intOf]; omega
                · obtain rfl : i = 32 := by omega
                  have hlen : (darr (dg 32)).size = 32 := by simp [darr, HDG.out]
                  obtain ⟨dd, hdd⟩ : ∃ dd, dd = darr (dg 32) := ⟨_, rfl⟩
                  have h1 := HB.out
                  rw [← hdd] at h1 hlen
                  have HI3 := hide dig32
                  have HLN := hide hlen
                  have HO3 : Hid (dd.all (·.oneCell') = true) := hide (by rw [hdd]; simp [darr, Value.oneCell'])
                  have HDD : Hid (∀ _ : Unit, dd = darr (sumM l)) := hide (fun _ => by rw [hdd, HSM.out ()])
                  have hz32 : ZC.size = 32 := rfl
                  have HTH : Hid (wr.there w.heap.size 0 dd.size) := hide (HD.out.bd.there_ (by rw [hlen, hz32]))
                  have HRG := hide h1.range
                  have HF : Hid (∀ _ : Unit, Blk (wr.setCells w.heap.size 0 dd.toList) w.heap.size 24 dd) := hide (fun _ => by
                    have := HD.out.bd.cells_all dd.toList (by rw [Array.length_toList, hlen, hz32])
                    rwa [Array.toArray_toList] at this)
                  have HBF := hide (bcells (Nat.le_refl _) dd.toList 0 HD.out.bel)
                  clear h1 hlen hdd hz32 HB HD HDN HDG HDZ HSM
                  go_wp2_with (first | (refine wpList_load_mid rfl 24 (.tmp 19) rfl gd 0 rfl dd.toList _ HRG.out Try.underlying24 rfl (by rw [Array.length_toList, HLN.out]; exact HI3.out) ?_; rw [Array.toArray_toList]) | (refine wpList_store_mid rfl 24 (.tmp 2) (.tmp 305) rfl w.heap.size 0 dd rfl rfl HTH.out (by rw [HLN.out]; exact HI3.out) HO3.out ?_))
                  refine bodyPost_ret (results_cell1 rfl _ _ ⟨w.heap.size, 0, none⟩ (.agg dd) rfl ((HF.out ()).loads Try.underlying24 rfl (by rw [HLN.out]; exact HI3.out))) rfl ⟨?_, HBF.out⟩
                  rw [HDD.out ()]
        | succ m =>
          as_aux_lemma =>
            rw [show ((m + 1 : Nat) : Int) - 1 = (m : Int) by omega]
            obtain ⟨sh, hsh⟩ : ∃ sh, sh = 8 * m := ⟨_, rfl⟩
            have s0 : 8 * (m : Int) = (sh : Int) := by omega
            have hs2 : sh ≤ 56 := by omega
            have hm : m ≤ 7 := by omega
            have HSH : Hid (sh = 56 - 8 * k) := hide (by omega)
            have hk7 : k ≤ 7 := by omega
            clear hsh hkm
            go_wp2_with (at_builtin; refine appBv rfl (.tmp 42) (.tmp 49) rfl rfl hbr (lenB l.length k) (show Value.int .u8 ((l.length : Int) * 8 / 2 ^ sh % 256) = B8 (lenB l.length k) by rw [HSH.out]; exact lenB_val l.length k) rfl (by omega) hbase ?_)
            intro a5 c5 w5 hb5 hbel5
            have HB5 : Hid (BR w5 B a5 ((pad0 l).length + (k + 1)) c5 (pad0 l ++ lenBs l.length (k + 1))) := hide (by
              rw [lenBs]
              show BR w5 B a5 ((pad0 l).length + k + 1) c5 _
              simpa using hb5)
            have HD5 := hide (HD.out.below hbel5 hB)
            have hbase5 := Nat.le_trans hbase hbel5.size
            clear hbr hb5 hbel5 HD hbase s0
            go_wp2_with fail
            go_roundw
            case rel => exact ⟨k + 1, m, a5, c5, by have := HKM.out; omega, rfl, rfl, HD5.out, hbase5, HB5.out⟩
            case measure => simp [intOf]; try omega
    · have hne : (((l.length : Int) + 1 + (j : Int)) % 64 != 56) = true := by
        simp
        intro h
        exact hlt (HE.out.1 (by omega))
      go_wp2_with (at_builtin; refine appB rfl (.tmp 35) (.tmp 36) rfl rfl hbr (0 : UInt8) rfl (by omega) hbase ?_)
      intro a4 c4 w4' hb4 hbel4
      have HB4 : Hid (BR w4' B a4 (l.length + 1 + (j + 1)) c4 (l ++ [128] ++ List.replicate (j + 1) 0)) := hide (by
        rw [List.replicate_succ']
        show BR w4' B a4 (l.length + 1 + j + 1) c4 _
        simpa using hb4)
      have HD4 := hide (HD.out.below hbel4 hB)
      have hbase4 := Nat.le_trans hbase hbel4.size
      clear hbr hb4 hbel4 HD hbase hne
      go_wp2_with fail
      go_roundg (gk - 1)
      case measure => have := HJ.out; omega
      case rel => exact ⟨j + 1, a4, c4, by have := HJ.out; omega, rfl, HD4.out, hbase4, HB4.out⟩
end Go.Proofs.Ytdnpcpeibjckmaa
