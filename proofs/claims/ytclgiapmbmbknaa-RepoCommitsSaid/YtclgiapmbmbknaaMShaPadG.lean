/- sha.padded, walked; no statement of the seat is proved here. -/
import Derived.Test.YtclgiapmbmbknaaMShaBlk
namespace Go.Proofs.Ytclgiapmbmbknaa
open Go.RowKit

theorem u8_info : (Try.prog.info? 5).map (fun i => (i.zero, i.size, i.bytes)) = some (some (.int .u8 0), 1, 1) := by kernel_rfl

/-- How many noughts go behind a text of n bytes, and its bit. -/
def zeros (n : Nat) : Nat := (119 - n % 64) % 64
theorem zeros_end (n j : Nat) (h : j ≤ zeros n) : (n + 1 + j) % 64 = 56 ↔ j = zeros n := by unfold zeros at *; omega
theorem zeros_lt (n : Nat) : zeros n < 64 := by unfold zeros; omega
/-- The k-th byte of a number of eight, the greatest first. -/
def lenB (n k : Nat) : UInt8 := UInt8.ofNat (n * 8 / 2 ^ (56 - 8 * k) % 256)
def lenBs (n : Nat) : Nat → List UInt8
  | 0 => []
  | k + 1 => lenBs n k ++ [lenB n k]
def pad0 (bs : List UInt8) : List UInt8 := bs ++ [128] ++ List.replicate (zeros bs.length) 0
def padM (bs : List UInt8) : List UInt8 := pad0 bs ++ lenBs bs.length 8
theorem lenBs_len (n : Nat) : ∀ k, (lenBs n k).length = k
  | 0 => rfl
  | k + 1 => by simp [lenBs, lenBs_len n k]
theorem pad0_len (bs : List UInt8) : (pad0 bs).length = bs.length + 1 + zeros bs.length := by simp [pad0]; omega
theorem padM_len (bs : List UInt8) : (padM bs).length = bs.length + 9 + zeros bs.length := by simp [padM, lenBs_len, pad0_len]; omega
theorem padM_64 (bs : List UInt8) : (padM bs).length % 64 = 0 := by
  rw [padM_len]
  have := (zeros_end bs.length (zeros bs.length) (Nat.le_refl _)).2 rfl
  omega

theorem lenB_val (n k : Nat) : Value.int .u8 ((n : Int) * 8 / 2 ^ (56 - 8 * k) % 256) = B8 (lenB n k) := by
  have h : n * 8 / 2 ^ (56 - 8 * k) % 256 < 256 := Nat.mod_lt _ (by decide)
  have e : (lenB n k).toNat = n * 8 / 2 ^ (56 - 8 * k) % 256 := by
    unfold lenB
    rw [UInt8.toNat_ofNat']
    exact Nat.mod_eq_of_lt h
  rw [B8, e]
  congr 1
theorem take_S (ls : List (List UInt8)) (k : Nat) (hk : k < ls.length) : (ls.take (k + 1)).flatten = (ls.take k).flatten ++ ls[k] := by
  rw [List.take_succ_eq_append_getElem hk, List.flatten_append]
  simp
theorem take_flat_le (ls : List (List UInt8)) (k : Nat) : (ls.take k).flatten.length ≤ ls.flatten.length := by
  have := congrArg (fun l => l.flatten.length) (List.take_append_drop k ls)
  simp only [List.flatten_append, List.length_append] at this
  omega

set_option maxRecDepth 100000 in
set_option maxHeartbeats 4000000 in
theorem padded_any (w : World) (A : Option Addr) (n c : Nat) (ls : List (List UInt8)) (hr : Rd w (fun k => w.heap.size ≤ k) 1 A n (ls.map S)) (hl : ls.length = n) (ht : ls.flatten.length ≤ 1099511627776) (hn : n ≤ 65536) :
    Calls Try.prog 49 #[.slice A n c] w fun e w' => ∃ A' c', e = .returned (.slice A' (padM ls.flatten).length c') ∧ Below w.heap.size w w' ∧
      w'.ownsRow w.heap.size 5 1 (.slice A' (padM ls.flatten).length c') (padM ls.flatten).length ((padM ls.flatten).map B8) := by
  have HR := hide hr
  have HL := hide hl
  clear hr hl
  obtain ⟨bs, hbs0⟩ : ∃ bs, bs = ls.flatten := ⟨_, rfl⟩
  rw [← hbs0] at ht ⊢
  have HBS := hide hbs0
  clear hbs0
  go_enter Try.func49, Try.ntmps49
  go_wp2_with fail
  go_loopw [3, 10] (fun v i wr => ∃ (k : Nat) (A' : Option Addr) (c' : Nat), k ≤ n ∧ i = .int .i64 (k : Int) ∧ v = .slice A' (ls.take k).flatten.length c' ∧ Below w.heap.size w wr ∧ wr.ownsRow w.heap.size 5 1 (.slice A' (ls.take k).flatten.length c') (ls.take k).flatten.length ((ls.take k).flatten.map B8)) (fun _ i _ => n - (intOf i).toNat)
  case atStart => exact ⟨0, none, 0, by omega, rfl, rfl, Below.refl _ _, World.ownsRow_nil w w.heap.size 5 1⟩
  case round =>
    obtain ⟨k, A1, c1, hk, rfl, rfl, hb, hown⟩ := hrel
    have HB := hide hb
    clear hb
    by_cases hlt : k < n
    · have hkl : k < ls.length := by rw [HL.out]; exact hlt
      obtain ⟨b, o, u, rfl, hu, hc0⟩ := (HR.out.below HB.out).at_ k hlt
      obtain rfl : S ls[k] = u := by simpa [hkl] using hu
      clear hu
      have HT := hide (take_S ls k hkl)
      have hle := take_flat_le ls (k + 1)
      rw [HT.out, List.length_append, ← HBS.out] at hle
      generalize hX : (ls.take (k + 1)).flatten = X at HT
      generalize (ls.take k).flatten = E at hown HT hle
      generalize ls[k] = s at hc0 HT hle
      have hbs := HB.out.size
      have hs1 : s.length ≤ 9223372036854775807 := by omega
      go_wp2_with (at_builtin; refine app_str rfl (.tmp 14) (.tmp 15) 67 9 rfl w.heap.size 5 Try.underlying67 Try.underlying9 u8_info _ E.length (E.map B8) rfl hown s rfl (by omega) (by omega) ?_)
      intro a3 c3 w3 hown3 hg3 _
      have HB3 := hide (HB.out.grown hg3 (by omega) (fun k hk => (hown.lt k hk).1))
      have HO3 := hide hown3
      clear hown hown3 hg3 hc0
      go_wp2_with fail
      go_roundw
      case rel => exact ⟨k + 1, a3, c3, by omega, by go_num, by rw [hX, HT.out, List.length_append], HB3.out, by rw [hX, HT.out, List.length_append, List.map_append]; exact HO3.out⟩
      case measure => simp [intOf]; omega
    · obtain rfl : k = n := by omega
      have hbs := HB.out.size
      rw [show ls.take k = ls from by rw [← HL.out, List.take_length], ← HBS.out] at hown ⊢
      clear HL HR HBS hlt hk
      go_wp2_with (at_builtin; refine app1 rfl (.tmp 22) (.tmp 23) 67 rfl w.heap.size 5 (.int .u8 0) 1 Try.underlying67 u8_info rfl _ bs.length (bs.map B8) rfl hown (.int .u8 128) rfl rfl (by omega) (by omega) hbs ?_)
      intro a3 c3 w3 hown3 hg3 _
      have HB3 := hide (HB.out.grown hg3 (by omega) (fun k hk => (hown.lt k hk).1))
      have HO3 : Hid (w3.ownsRow w.heap.size 5 1 (.slice a3 (bs.length + 1 + 0) c3) (bs.length + 1 + 0) ((bs ++ [128] ++ List.replicate 0 0).map B8)) := hide (by
        have e : (bs ++ [128] ++ List.replicate 0 0).map B8 = bs.map B8 ++ [.int .u8 128] := by simp [B8]
        rw [e]
        exact hown3)
      clear hown hown3 hg3 HB hbs
      go_wp2_with fail
      go_loopg [3] (zeros bs.length) (fun g v wr => ∃ (j : Nat) (A' : Option Addr) (c' : Nat), j + g = zeros bs.length ∧ v = .slice A' (bs.length + 1 + j) c' ∧ Below w.heap.size w wr ∧ wr.ownsRow w.heap.size 5 1 (.slice A' (bs.length + 1 + j) c') (bs.length + 1 + j) ((bs ++ [128] ++ List.replicate j 0).map B8))
      case atStart => exact ⟨0, a3, c3, by omega, rfl, HB3.out, HO3.out⟩
      case round =>
        clear HB3 HO3
        obtain ⟨j, A2, c2, hj, rfl, hb, hown⟩ := hrel
        have HB := hide hb
        have hbs := HB.out.size
        clear hb
        have hz := zeros_lt bs.length
        have HJ := hide hj
        have hzj : j ≤ zeros bs.length := by omega
        clear hj
        have HE := hide (zeros_end bs.length j hzj)
        by_cases hlt : j = zeros bs.length
        · have he : (((bs.length : Int) + 1 + (j : Int)) % 64 != 56) = false := by
            have := HE.out.2 hlt
            simp
            omega
          have HP0 : Hid (bs ++ [128] ++ List.replicate j 0 = pad0 bs) := by rw [hlt]; exact rfl
          have HPL : Hid (bs.length + 1 + j = (pad0 bs).length) := by rw [hlt, pad0_len]; exact rfl
          rw [HP0.out, HPL.out] at hown
          have HO := hide hown
          have hPl := (show (pad0 bs).length ≤ 1099511628000 by rw [pad0_len]; omega)
          have hnn : (bs.length : Int) * 8 ≤ 8796093022208 := by omega
          clear hown HE HJ hzj hlt
          go_wp2_with fail
          go_loopw [3, 32] (fun v i wr => ∃ (k : Nat) (A' : Option Addr) (c' : Nat), k ≤ 8 ∧ i = .int .i64 (k : Int) ∧ v = .slice A' ((pad0 bs).length + k) c' ∧ Below w.heap.size w wr ∧ wr.ownsRow w.heap.size 5 1 (.slice A' ((pad0 bs).length + k) c') ((pad0 bs).length + k) ((pad0 bs ++ lenBs bs.length k).map B8)) (fun _ i _ => 8 - (intOf i).toNat)
          case atStart => exact ⟨0, A2, c2, by omega, rfl, by rw [HPL.out]; rfl, HB.out, by rw [lenBs, List.append_nil]; exact HO.out⟩
          case round =>
            clear HB HO hbs
            obtain ⟨k, A5, c5, hk, rfl, rfl, hb, hown⟩ := hrel
            have HB := hide hb
            have hbs := HB.out.size
            clear hb
            by_cases hlt : k < 8
            · have e1 : IntKind.i64.wrap (8 * (k : Int)) = 8 * (k : Int) := by rw [IntWalk.i64_in _ (by omega)]
              have e2 : IntKind.i64.wrap (56 - 8 * (k : Int)) = ((56 - 8 * k : Nat) : Int) := by rw [IntWalk.i64_in _ (by omega)]; omega
              obtain ⟨sh, hsh⟩ : ∃ sh, sh = 56 - 8 * k := ⟨_, rfl⟩
              rw [← hsh] at e2
              have hs2 : sh ≤ 56 := by omega
              have HSH := hide hsh
              clear hsh
              have hbs2 : (pad0 bs).length + k + 1 ≤ 140737488355328 := by omega
              go_wp2_with (at_builtin; refine app1 rfl (.tmp 35) (.tmp 42) 67 rfl w.heap.size 5 (.int .u8 0) 1 Try.underlying67 u8_info rfl _ ((pad0 bs).length + k) _ rfl hown (.int .u8 ((bs.length : Int) * 8 / 2 ^ sh % 256)) rfl rfl (by omega) (by omega) hbs ?_)
              intro a4 c4 w4' hown4 hg4 _
              have HB4 := hide (HB.out.grown hg4 (by omega) (fun k hk => (hown.lt k hk).1))
              have HO4 : Hid (w4'.ownsRow w.heap.size 5 1 (.slice a4 ((pad0 bs).length + (k + 1)) c4) ((pad0 bs).length + (k + 1)) ((pad0 bs ++ lenBs bs.length (k + 1)).map B8)) := hide (by
                have e : (pad0 bs ++ lenBs bs.length (k + 1)).map B8 = (pad0 bs ++ lenBs bs.length k).map B8 ++ [.int .u8 ((bs.length : Int) * 8 / 2 ^ sh % 256)] := by
                  rw [lenBs, HSH.out, lenB_val]
                  simp
                rw [e, List.map_append, List.append_assoc]
                exact hown4)
              clear hown hown4 hg4 HB hbs hbs2 e1 e2
              go_wp2_with fail
              go_roundw
              case rel => exact ⟨k + 1, a4, c4, by omega, by go_num, rfl, HB4.out, HO4.out⟩
              case measure => simp [intOf]; omega
            · obtain rfl : k = 8 := by omega
              have HF : Hid (pad0 bs ++ lenBs bs.length 8 = padM bs) := hide rfl
              have HFL : Hid ((pad0 bs).length + 8 = (padM bs).length) := hide (by rw [padM, List.length_append, lenBs_len])
              rw [HF.out, HFL.out] at hown
              have HO := hide hown
              clear hown
              go_wp2_with fail
              go_ret
              rw [← HFL.out]
              exact ⟨A5, c5, rfl, HB.out, by rw [HFL.out]; exact HO.out⟩
        · have hne : (((bs.length : Int) + 1 + (j : Int)) % 64 != 56) = true := by
            simp
            intro h
            exact hlt (HE.out.1 (by omega))
          go_wp2_with (at_builtin; refine app1 rfl (.tmp 29) (.tmp 30) 67 rfl w.heap.size 5 (.int .u8 0) 1 Try.underlying67 u8_info rfl _ (bs.length + 1 + j) _ rfl hown (.int .u8 0) rfl rfl (by omega) (by omega) hbs ?_)
          intro a4 c4 w4' hown4 hg4 _
          have HB4 := hide (HB.out.grown hg4 (by omega) (fun k hk => (hown.lt k hk).1))
          have HO4 : Hid (w4'.ownsRow w.heap.size 5 1 (.slice a4 (bs.length + 1 + (j + 1)) c4) (bs.length + 1 + (j + 1)) ((bs ++ [128] ++ List.replicate (j + 1) 0).map B8)) := hide (by
            have e : (bs ++ [128] ++ List.replicate (j + 1) 0).map B8 = bs.map B8 ++ B8 128 :: (List.replicate j (B8 0) ++ [Value.int IntKind.u8 0]) := by
              rw [List.replicate_succ']
              simp [B8]
            rw [e]
            exact hown4)
          clear hown hown4 hg4 HB hbs hne
          go_wp2_with fail
          go_roundg (gk - 1)
          case measure => have := HJ.out; omega
          case rel => exact ⟨j + 1, a4, c4, by have := HJ.out; omega, rfl, HB4.out, HO4.out⟩
end Go.Proofs.Ytclgiapmbmbknaa
