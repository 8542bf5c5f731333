/- HierAll, walked: it returns true for every input. -/
import Derived.Test.YtmhnfilingebfaaHierAllRec
import Derived.Test.YtmhnfilingebfaaHierCheckT
import Derived.Test.YtmhnfilingebfaaHierHead
import Derived.WalkLawsBesides
namespace Go.Proofs.Ytmhnfilingebfaa
open Go.RowKit Go.Maps

theorem ba_toList (l : List UInt8) : (ByteArray.mk l.toArray).toList = l := Lib.toList_data _
attribute [go_sem] ba_toList

theorem lookup_held {P : Program} (w : World) {ops : Array Oper} {rest : List Oper} {o : Oper} {a : Act} {Q : Exit → Act → World → Prop} (hg : o.guard = none) (m x : Operand) (t : TypeId) (hop : o.op = Op.lookup t m x false)
    (k e : TypeId) (K : Keyed P k) (ht : P.underlying t = some (.map k e)) {z : Value} (hz : (zeroValue e).run P w = .ok z w) (b n : Nat) (D : DataW Value)
    (hm : a.eval m = .map (some b)) (hown : w.ownsMap P k heldR b n D) (key : Value) (kl : Lit) (hx : a.eval x = key) (hkey : keyOf P k key = some kl) (V : Value) (hV : D.atKey kl (.held z) = .held V)
    (hK : wpList P ops Q rest (a.put o.dst V) w) :
    wpList P ops Q (o :: rest) a w := by
  refine wpList_plain hg fun K' hK' => ?_
  obtain ⟨v, ps, hrun, hv⟩ := hown.lookup K ht hz (show heldR z = some (.held z, []) from rfl) hkey
  rw [hV] at hv
  have := heldR_inv hv
  subst this
  unfold Oper.wp
  simp [execOp, hop, hm, hx, hrun, Result.andThen]
  exact hK' _ _ hK

theorem zero_bool (w : World) : (zeroValue 4).run Try.prog w = .ok (.bool false) w := by kernel_rfl
theorem zero_sig (w : World) : (zeroValue 56).run Try.prog w = .ok zeroSg.val w := by kernel_rfl

theorem SetIs.mono {w : World} {b N N' : Nat} {L : List (List UInt8)} (h : SetIs w b N L) (hn : N ≤ N') : SetIs w b N' L := by obtain ⟨D, h1, h2⟩ := h; exact ⟨D, h1.mono hn, h2⟩
theorem SigIs.mono {w : World} {b N N' : Nat} {L : List Sg} (h : SigIs w b N L) (hn : N ≤ N') : SigIs w b N' L := by obtain ⟨D, h1, h2⟩ := h; exact ⟨D, h1.mono hn, h2⟩

/-- The table, the two maps, and all else as it was. -/
structure Hs (w0 wr : World) (g m s b1 b2 : Nat) (T : List Fc) (n N1 N2 : Nat) (L1 : List (List UInt8)) (L2 : List Sg) : Prop where
  tab : Tab wr g m s T n
  kp : Keep (fun b => b = s ∨ b = b1 ∨ b = b2) w0 wr
  set : SetIs wr b1 N1 L1
  sig : SigIs wr b2 N2 L2

section
variable {w0 w1 w2 : World} {g m s b1 b2 n n' N1 N2 N1' N2' : Nat} {T : List Fc} {L1 L1' : List (List UInt8)} {L2 L2' : List Sg}
theorem Hs.below (h : Hs w0 w1 g m s b1 b2 T n N1 N2 L1 L2) (hb : Below w1.heap.size w1 w2) : Hs w0 w2 g m s b1 b2 T n N1 N2 L1 L2 :=
  ⟨h.tab.below hb, h.kp.trans' (Keep.of_below (F := fun _ => False) hb (fun k a b => by omega)) (fun _ _ h => absurd h id), h.set.of_block (hb.block b1 h.set.lt), h.sig.of_block (hb.block b2 h.sig.lt)⟩
theorem Hs.alloc (h : Hs w0 w1 g m s b1 b2 T n N1 N2 L1 L2) (o : Obj) : Hs w0 (w1.alloc o) g m s b1 b2 T n N1 N2 L1 L2 := h.below ((Below.refl _ _).alloc (Nat.le_refl _) _)
theorem Hs.tabs (h : Hs w0 w1 g m s b1 b2 T n N1 N2 L1 L2) (ht : Tab w2 g m s T n') (hk : Keep (fun b => b = s) w1 w2) (h1 : b1 ≠ s) (h2 : b2 ≠ s) : Hs w0 w2 g m s b1 b2 T n' N1 N2 L1 L2 :=
  ⟨ht, h.kp.trans' hk (fun _ _ h => .inl h), h.set.of_block (hk.block b1 h.set.lt h1), h.sig.of_block (hk.block b2 h.sig.lt h2)⟩
theorem Hs.put1 (h : Hs w0 w1 g m s b1 b2 T n N1 N2 L1 L2) (hs : SetIs w2 b1 N1' L1') (hg : w1.grownBy w2 (some b1)) (hd : g ≠ b1 ∧ m ≠ b1 ∧ s ≠ b1 ∧ b2 ≠ b1) : Hs w0 w2 g m s b1 b2 T n N1' N2 L1' L2 := by
  have hk : Keep (fun b => b = b1) w1 w2 := (Keep.refl _ w1).grown hg (fun k hk _ => by injection hk with hk; exact hk.symm)
  exact ⟨h.tab.keep hk hd.1 hd.2.1 hd.2.2.1, h.kp.trans' hk (fun _ _ h => .inr (.inl h)), hs, h.sig.of_block (hk.block b2 h.sig.lt hd.2.2.2)⟩
theorem Hs.put2 (h : Hs w0 w1 g m s b1 b2 T n N1 N2 L1 L2) (hs : SigIs w2 b2 N2' L2') (hg : w1.grownBy w2 (some b2)) (hd : g ≠ b2 ∧ m ≠ b2 ∧ s ≠ b2 ∧ b1 ≠ b2) : Hs w0 w2 g m s b1 b2 T n N1 N2' L1 L2' := by
  have hk : Keep (fun b => b = b2) w1 w2 := (Keep.refl _ w1).grown hg (fun k hk _ => by injection hk with hk; exact hk.symm)
  exact ⟨h.tab.keep hk hd.1 hd.2.1 hd.2.2.1, h.kp.trans' hk (fun _ _ h => .inr (.inr h)), h.set.of_block (hk.block b1 h.set.lt hd.2.2.2), hs⟩
theorem Hs.mono (h : Hs w0 w1 g m s b1 b2 T n N1 N2 L1 L2) (h1 : n ≤ n') (h2 : N1 ≤ N1') (h3 : N2 ≤ N2') : Hs w0 w1 g m s b1 b2 T n' N1' N2' L1 L2 := ⟨h.tab.mono h1, h.kp, h.set.mono h2, h.sig.mono h3⟩
end

set_option maxRecDepth 100000 in
set_option maxHeartbeats 16000000 in
theorem all_law (A : Option Addr) (n c : Nat) (T : List Fc) (w : World) (h : FcsAt w (fun k => w.heap.size ≤ k) A n T) :
    Calls Try.prog 8 #[.slice A n c] w (Gives w (.bool true)) := by
  have hmm := @run_makeMap Try.prog
  have HMM := hide hmm
  clear hmm
  have HF := hide h
  clear h
  go_enter Try.func8, Try.ntmps8
  go_wp2_with fail
  refine (head_any w).mono ?_
  rintro e w1 ⟨rfl, hb1⟩
  go_wp2_with fail
  refine (fewlist_any A n c T w1 ((HF.out.below hb1).weak (fun k hk => by have := hb1.size; omega))).mono ?_
  rintro e w2 ⟨R, rfl, hb2, hR⟩
  have HR := hide hR
  have hB2 := hb1.trans (hb2.mono hb1.size)
  clear hR hb1 hb2
  cases R with
  | false =>
    go_wp2_with fail
    go_ret
    exact ⟨rfl, hB2⟩
  | true =>
    have hR8 := HR.out rfl
    clear HR
    obtain ⟨hn8, hfew⟩ := hR8
    have HFEW := hide hfew
    have hTl : T.length ≤ 8 := by have := HF.out.2.1; omega
    have hsu : ∀ f ∈ T, short f.su := fun f hf => (HF.out.2.2.2 f hf).2.2.2
    have hnn : ∀ f ∈ T, short f.n := fun f hf => (HF.out.2.2.2 f hf).2.2.1
    have HS := hide hsu
    have HNN := hide hnn
    have HTL := hide HF.out.2.1
    clear hsu hnn hfew
    go_wp2_with fail
    refine (new_any A n c T w2 ((HF.out.below hB2).weak (fun k hk => by have := hB2.size; omega)) (by omega)).mono ?_
    rintro e w3 ⟨g, m, s, rfl, ht, hb3, hg, hm, hs⟩
    have hB3 := hB2.trans (hb3.mono hB2.size)
    have hsw := hB2.size
    have hsB : w.heap.size ≤ s := by omega
    have HT3 := hide ht
    clear hb3 hB2 hg hm hs hsw ht
    go_wp2_with fail
    go_loopw [31] (fun i wr => ∃ k : Nat, k ≤ n ∧ i = .int .i64 k ∧ Tab wr g m s T (3000 * k) ∧ Below w.heap.size w wr ∧ (∀ i (hi : i < T.length), i < k → chk T T[i].n = 0)) (fun i _ => n - (intOf i).toNat)
    case atStart => exact ⟨0, Nat.zero_le _, rfl, HT3.out.mono (by omega), hB3, by omega⟩
    case round =>
      obtain ⟨k, hk, rfl, htr, hBr, hall⟩ := hrel
      have HTR := hide htr
      have HA := hide hall
      clear htr hall
      by_cases hlt : k < n
      · obtain ⟨b, o, rfl, _, _, hcell⟩ := Rd.rec_ (size := 4) (fun _ => rfl) (HF.out.1.below hBr) HTL.out k hlt
        have hlk : k < T.length := by have := HTL.out; omega
        have hfn := HNN.out _ (List.getElem_mem hlk)
        have HEQ : Hid (∀ E, E = chk T T[k].n → E = 0 → chk T T[k].n = 0) := hide (fun E h1 h2 => by rw [← h1]; exact h2)
        have hck : ∀ ww nn, Tab ww g m s T nn → nn ≤ 700000 → Below w.heap.size w ww → Calls Try.prog 29 #[.pointer (some ⟨g, 0, none⟩), S T[k].n] ww (fun e w' => e = .returned (.int .i64 (chk T T[k].n)) ∧ Tab w' g m s T (nn + 3000) ∧ Keep (fun b => b = s) ww w') := fun ww nn h2 h3 h4 =>
          check_any g m s nn w.heap.size T T[k].n ww h2 h3 hTl HS.out hfn (fun f hf => (HF.out.2.2.2 f hf).below h4) (by omega) h4.size HFEW.out
        obtain ⟨E, hE⟩ : ∃ E, E = chk T T[k].n := ⟨_, rfl⟩
        rw [← hE] at hck
        have HE := hide hE
        obtain ⟨f, hf⟩ : ∃ f, f = T[k] := ⟨_, rfl⟩
        rw [← hf] at hcell hck
        have HCK := hide hck
        clear hf hE hck hfn
        have q0 : wr.cell? ⟨b, o + k * 4, none⟩ = some (S f.n) := hcell 0 _ rfl
        have q1 : wr.cell? ⟨b, o + k * 4 + 1, none⟩ = some (S f.su) := hcell 1 _ rfl
        have q2 : wr.cell? ⟨b, o + k * 4 + 2, none⟩ = some (.slice f.fA f.fl f.fc) := hcell 2 _ rfl
        have q3 : wr.cell? ⟨b, o + k * 4 + 3, none⟩ = some (.slice f.mA f.ml f.mc) := hcell 3 _ rfl
        clear hcell
        have ht4 := HTR.out.alloc (.cells f.arr 38)
        have hB4 := hBr.alloc hBr.size (.cells f.arr 38)
        have HC4 := hide (HCK.out _ _ ht4 (by omega) hB4)
        clear ht4 HCK
        go_wp2_with fail
        refine HC4.out.mono ?_
        rintro e w5 ⟨rfl, ht5, hk5⟩
        have hB5 := hB4.trans (hk5.below (B := w.heap.size) hB4.size (fun k hk => by omega))
        have HT5 := hide ht5
        clear q0 q1 q2 q3 ht5 hk5 hB4 HC4
        by_cases e0 : E = 0
        · have HZ := hide (HEQ.out E HE.out e0)
          subst e0
          go_wp2_with fail
          go_roundw
          case rel => exact ⟨k + 1, by omega, by go_num, HT5.out.mono (by omega), hB5, all_step (p := fun f : Fc => chk T f.n = 0) HA.out hlk HZ.out⟩
          case measure => simp [intOf]; omega
        · have d0 : (E == 0) = false := by simpa using e0
          have d1 : (E != 0) = true := by simpa using e0
          go_wp2_with fail
          go_ret
          exact ⟨rfl, hB5⟩
      · have HOK : Hid (AllOk T) := hide (all_done (p := fun f : Fc => chk T f.n = 0) HA.out (by have := HTL.out; omega))
        obtain ⟨wS, hwS⟩ : ∃ wS, wS = wr := ⟨_, rfl⟩
        rw [← hwS] at HTR hBr
        rw [← hwS]
        have HTS : Hid (Tab wS g m s T 30000) := hide (HTR.out.mono (by omega))
        clear hwS HTR HA
        go_wp2_with fail
        go_loopw [43] (fun i wr => ∃ k : Nat, k ≤ n ∧ i = .int .i64 k ∧ Tab wr g m s T (30000 + 100 * k) ∧ Below w.heap.size w wr) (fun i _ => n - (intOf i).toNat)
        case atStart => exact ⟨0, Nat.zero_le _, rfl, HTS.out.mono (by omega), hBr⟩
        case round =>
          obtain ⟨k, hk, rfl, htr, hBr⟩ := hrel
          have HTR := hide htr
          clear htr
          by_cases hlt : k < n
          · obtain ⟨b, o, rfl, _, _, hcell⟩ := Rd.rec_ (size := 4) (fun _ => rfl) (HF.out.1.below hBr) HTL.out k hlt
            have hlk : k < T.length := by have := HTL.out; omega
            have hfn := HNN.out _ (List.getElem_mem hlk)
            have hch := HOK.out _ (List.getElem_mem hlk)
            obtain ⟨f, hf⟩ : ∃ f, f = T[k] := ⟨_, rfl⟩
            rw [← hf] at hcell hfn hch
            clear hf
            have q0 : wr.cell? ⟨b, o + k * 4, none⟩ = some (S f.n) := hcell 0 _ rfl
            have q1 : wr.cell? ⟨b, o + k * 4 + 1, none⟩ = some (S f.su) := hcell 1 _ rfl
            have q2 : wr.cell? ⟨b, o + k * 4 + 2, none⟩ = some (.slice f.fA f.fl f.fc) := hcell 2 _ rfl
            have q3 : wr.cell? ⟨b, o + k * 4 + 3, none⟩ = some (.slice f.mA f.ml f.mc) := hcell 3 _ rfl
            clear hcell
            have ht4 := HTR.out.alloc (.cells f.arr 38)
            have hB4 := hBr.alloc hBr.size (.cells f.arr 38)
            have hab := above_any g m s _ T f.n _ ht4 (by omega) hTl HS.out hfn
            have hw := (chk_zero hch).1
            have hus := up_short T HS.out 20 [] f.n (by simp) hfn
            have hle := up_le T 20 [] f.n
            have hthere := ch_there 20 _ _ (whole_ch hw).1
            obtain ⟨l, hl⟩ : ∃ l, l = (up T 20 [] f.n).1 := ⟨_, rfl⟩
            rw [hw, ← hl] at hab
            rw [← hl] at hus hle hthere
            simp only [List.length_nil, Nat.zero_add] at hle
            have HAB := hide hab
            have HW := hide hw
            have HL := hide hl
            have HUS := hide hus
            have HTH := hide hthere
            have hs4 := ht4.slt
            clear hab hw hl hus hthere hch hfn ht4
            go_wp2_with fail
            refine HAB.out.mono ?_
            rintro e w5 ⟨A5, c5, rfl, ht5, hk5, hr5⟩
            have hB5 := hB4.trans (hk5.below (B := w.heap.size) hB4.size (fun k hk => by omega))
            clear q0 q1 q2 q3 HAB
            have hmm := HMM.out
            go_wp2_with fail
            clear hmm
            obtain ⟨wM, hwM⟩ : ∃ wM, wM = (w5.alloc (.map #[] 0)).alloc (.map #[] 0) := ⟨_, rfl⟩
            obtain ⟨b1, hb1⟩ : ∃ b1, b1 = w5.heap.size := ⟨_, rfl⟩
            obtain ⟨b2, hb2⟩ : ∃ b2, b2 = w5.heap.size + 1 := ⟨_, rfl⟩
            have hs5 := ht5.slt
            have hd1 : g ≠ b1 ∧ m ≠ b1 ∧ s ≠ b1 ∧ b2 ≠ b1 := ⟨by have := ht5.blk.lt; omega, by have := ht5.faces.lt; omega, by omega, by omega⟩
            have hd2 : g ≠ b2 ∧ m ≠ b2 ∧ s ≠ b2 ∧ b1 ≠ b2 := ⟨by have := ht5.blk.lt; omega, by have := ht5.faces.lt; omega, by omega, by omega⟩
            have hs0 : Hs wM wM g m s b1 b2 T (30000 + 100 * k + 9) 0 0 (seenP T l 0) (recP T l 0) := by
              refine ⟨by rw [hwM]; exact (ht5.alloc _).alloc _, Keep.refl _ _, ?_, ?_⟩
              · rw [hwM, hb1]
                have := (SetIs.made w5).of_block (w' := (w5.alloc (.map #[] 0)).alloc (.map #[] 0)) (Below.heap_alloc _ _ _ (by simp))
                simpa [seenP] using this
              · rw [hwM, hb2]
                have := SigIs.made (w5.alloc (.map #[] 0))
                rw [World.size_alloc] at this
                simpa [recP] using this
            have hrM : Rd wM (fun b => b = s ∨ b = b1 ∨ b = b2) 1 A5 l.length (l.map S) := by
              rw [hwM]
              exact ((hr5.weak (G := fun b => b = s ∨ b = b1 ∨ b = b2) (fun k hk e => by rcases e with e | e | e <;> omega)).alloc _).alloc _
            have hBM : Below w.heap.size w wM := by rw [hwM]; exact (hB5.alloc hB5.size _).alloc (by have := hB5.size; simp; omega) _
            have hbb1 : w.heap.size ≤ b1 := by rw [hb1]; exact hB5.size
            have hbb2 : w.heap.size ≤ b2 := by have := hB5.size; omega
            have hszM : b1 < wM.heap.size ∧ b2 < wM.heap.size ∧ s < wM.heap.size := by rw [hwM]; simp; omega
            rw [← hwM, ← hb2, ← hb1]
            have HRM := hide hrM
            have HD1 := hide hd1
            have HD2 := hide hd2
            clear hwM hb1 hb2 ht5 hk5 hr5 hB5 hrM hd1 hd2 hB4
            go_loopw [58] (fun i wx => ∃ p : Nat, p ≤ l.length ∧ i = .int .i64 p ∧ Hs wM wx g m s b1 b2 T (30000 + 100 * k + 9 + p) (12 * p) (12 * p) (seenP T l p) (recP T l p)) (fun i _ => l.length - (intOf i).toNat)
            case atStart => exact ⟨0, Nat.zero_le _, rfl, hs0.mono (by omega) (by omega) (by omega)⟩
            case round =>
              obtain ⟨p, hp, rfl, hh⟩ := hrel
              have HH := hide hh
              clear hh
              by_cases hlt2 : p < l.length
              · obtain ⟨x, o5, u, rfl, hu, hcu⟩ := (HRM.out.keep HH.out.kp).at_ p hlt2
                obtain rfl : S l[p] = u := by simpa [hlt2] using hu
                have hpm : l[p] ∈ l := List.getElem_mem hlt2
                have hsh := HUS.out _ hpm
                have hgs := (HTH.out _ hpm).1
                have hfew := face_few HFEW.out hgs
                have hfa := face_any g m s _ T l[p] wr HH.out.tab (by omega) hsh
                have hat : ∀ ww, Below w.heap.size w ww → (faceF T l[p]).at_ ww (fun k => w.heap.size ≤ k) := fun ww hb => face_at2 (fun f hf => (HF.out.2.2.2 f hf).below hb) l[p]
                have hfo := fun i hi hs => field_ok HOK.out HL.out HW.out hlt2 (i := i) hi hs
                have hmo := fun i hi hs hst o ho => meth_ok HOK.out HL.out HW.out hlt2 (i := i) hi hs hst (o := o) ho
                have hs1 : seenP T l (p + 1) = seenP T l p ++ (faceF T l[p]).fs.map Vr.n := seenP_succ hlt2
                have hs2 : recP T l (p + 1) = recP T l p ++ (faceF T l[p]).ms.filter fun m => !m.st := recP_succ hlt2
                obtain ⟨G, hG⟩ : ∃ G, G = faceF T l[p] := ⟨_, rfl⟩
                obtain ⟨Z, hZ⟩ : ∃ Z, Z = (get T l[p]).isSome := ⟨_, rfl⟩
                rw [← hG] at hfew hat hfo hmo hs1 hs2
                rw [← hG, ← hZ] at hfa
                have HFA := hide hfa
                have HAT := hide hat
                have HFO := hide hfo
                have HMO := hide hmo
                have HS1 := hide hs1
                have HS2 := hide hs2
                have HFW := hide hfew
                generalize l[p] = nm at *
                clear hu hpm hsh hgs hfew hfa hat hfo hmo hs1 hs2 hG hZ
                go_wp2_with fail
                refine HFA.out.mono ?_
                rintro e w6 ⟨rfl, ht6, hk6⟩
                have hh7 := (HH.out.tabs ht6 hk6 (Ne.symm HD1.out.2.2.1) (Ne.symm HD2.out.2.2.1)).alloc (.cells G.arr 38)
                have kg : Blk (w6.alloc (.cells G.arr 38)) w6.heap.size 38 G.arr := Blk.new _ _ _
                have hsz6 := (HH.out.tabs ht6 hk6 (Ne.symm HD1.out.2.2.1) (Ne.symm HD2.out.2.2.1)).kp.size
                clear ht6 hk6 hcu HFA
                obtain ⟨a0, a1, a2, a3⟩ := fcells kg
                go_wp2_with fail
                clear a0 a1 a2 a3
                obtain ⟨gn, gsu, gfA, gfl, gfc, gfs, gmA, gml, gmc, gms⟩ := G
                have hga := HAT.out w (Below.refl _ _)
                have hff := hga.1
                have hfm := hga.2.1
                have hfw := HFW.out
                simp only [Fc.few] at hff hfm hfw
                obtain ⟨hffr, hffl, hffm, hffo⟩ := hff
                obtain ⟨hfmr, hfml, hfmm, hfmo⟩ := hfm
                obtain ⟨hf12, hm12, _, _, _, _⟩ := hfw
                have HFFL := hide hffl
                have HFML := hide hfml
                have HFFO := hide hffo
                have HFMO := hide hfmo
                have HRFF := hide hffr
                have HRFM := hide hfmr
                clear hffl hfml hffo hfmo hffr hfmr hga
                obtain ⟨bg, hbg⟩ : ∃ bg, bg = w6.heap.size := ⟨_, rfl⟩
                have hbgx : ¬ (bg = s ∨ bg = b1 ∨ bg = b2) := by omega
                rw [← hbg] at kg
                rw [← hbg]
                clear hbg
                have HH7 := hide hh7
                clear hh7
                go_loopw [71] (fun i wx => ∃ i0 : Nat, i0 ≤ gfl ∧ i = .int .i64 i0 ∧ Hs wM wx g m s b1 b2 T (30000 + 100 * k + 9 + p + 1) (12 * p + i0) (12 * p) (seenP T l p ++ (gfs.take i0).map Vr.n) (recP T l p) ∧ Blk wx bg 38 #[S gn, S gsu, .slice gfA gfl gfc, .slice gmA gml gmc] ∧ RiseTo (gfs.map Vr.n) i0) (fun i _ => gfl - (intOf i).toNat)
                case atStart => exact ⟨0, Nat.zero_le _, rfl, by simpa using HH7.out, kg, fun i hi h0 => by omega⟩
                case round =>
                  obtain ⟨i0, hi0, rfl, hh4, hgb, hri⟩ := hrel
                  have HH4 := hide hh4
                  have HRI := hide hri
                  have hBr4 := hBM.trans (hh4.kp.below hBM.size (fun q hq => by omega))
                  clear hh4 hri
                  by_cases hlt3 : i0 < gfl
                  · have hli : i0 < gfs.length := by have := HFFL.out; omega
                    obtain ⟨x, o, rfl, _, _, hcell⟩ := Rd.rec_ (size := 3) (fun _ => rfl) (HRFF.out.below hBr4) HFFL.out i0 hlt3
                    have hvs := (HFFO.out _ (List.getElem_mem hli)).1
                    have HNO : Hid ((∀ j (hj : j < gfs.length), j < i0 → gfs[j].n ≠ gfs[i0].n) → gfs[i0].n ∉ seenP T l p ++ (gfs.take i0).map Vr.n) := hide (HFO.out i0 hli)
                    rcases i0 with _ | j
                    · obtain ⟨v, hv⟩ : ∃ v, v = gfs[0] := ⟨_, rfl⟩
                      have HV : Hid (v = gfs[0]) := hide hv
                      have HRN : Hid (∀ i' (h1 : i' < gfs.length), i' < 0 → gfs[i'].n ≠ v.n) := hide (fun i' h1 h2 => by omega)
                      have HRS : Hid (RiseTo (gfs.map Vr.n) (0 + 1)) := hide (fun i hi h0 => by omega)
                      rw [← hv] at hcell hvs HNO
                      clear hv
                      obtain ⟨vn, vt, va⟩ := v
                      have q0 : wr.cell? ⟨x, o + 0 * 3, none⟩ = some (S vn) := hcell 0 _ rfl
                      have q1 : wr.cell? ⟨x, o + 0 * 3 + 1, none⟩ = some (S vt) := hcell 1 _ rfl
                      have q2 : wr.cell? ⟨x, o + 0 * 3 + 2, none⟩ = some (.bool va) := hcell 2 _ rfl
                      simp only [Nat.zero_mul, Nat.add_zero] at q0 q1 q2
                      clear hcell
                      have hHq : ∀ q, Hs wM ((wr.alloc (.cells #[S vn, S vt, .bool va] 69)).drewN q) g m s b1 b2 T (30000 + 100 * k + 9 + p + 1) (12 * p + 0) (12 * p) (seenP T l p ++ (gfs.take (0)).map Vr.n) (recP T l p) := fun q => (HH4.out.alloc _).below (bdrewN (Below.refl _ _) q)
                      have hKq : ∀ q, Blk ((wr.alloc (.cells #[S vn, S vt, .bool va] 69)).drewN q) bg 38 #[S gn, S gsu, .slice (some ⟨x, o, none⟩) gfl gfc, .slice gmA gml gmc] := fun q => (hgb.alloc _).drewN q
                      have hno := HNO.out (fun i' h1 h2 => HRN.out i' h1 h2)
                      have HRN2 := hide HRN.out
                      go_wp2_with fail
                      go_quiet (fail)
                      obtain ⟨D, hD, hDat⟩ := HH4.out.set
                      have hDq : ∀ q, ((wr.alloc (.cells #[S vn, S vt, .bool va] 69)).drewN q).ownsMap Try.prog 9 heldR b1 (12 * p + 0) D := fun q => hD.alloc _
                      have hkey := key_S hvs
                      have hV : D.atKey (.string vn) (.held (.bool false)) = .held (.bool false) := by rw [hDat vn, decide_eq_false hno]
                      have HDAT := hide hDat
                      have HDM := hide hD.isMap
                      clear hD hDat hno
                      go_wp2_with (first | (at_lookup; refine lookup_held _ rfl _ _ 66 rfl 9 4 klaw Try.underlying66 (zero_bool _) b1 _ D rfl (hDq _) _ _ rfl hkey (.bool false) hV ?_) | (at_mapUpdate; refine wpList_mapUpdate_own _ rfl _ _ _ 66 rfl 9 4 klaw Try.underlying66 _ b1 _ D rfl (hDq _) (by unfold maxLen; omega) _ _ _ rfl rfl hkey _ [] (show heldR (.bool true) = some (.held (.bool true), []) from rfl) ?_; intro w8 hown8 hgrow8))
                      have hh8 := (hHq _).put1 (N1' := 12 * p + (0) + 1) (L1' := (seenP T l p ++ (gfs.take (0)).map Vr.n) ++ [vn]) ⟨_, hown8, set_put HDM.out HDAT.out⟩ hgrow8 HD1.out
                      have hk8 := (hKq _).grown hgrow8 (by simp; omega)
                      have HL8 : Hid ((seenP T l p ++ (gfs.take (0)).map Vr.n) ++ [vn] = seenP T l p ++ (gfs.take (0 + 1)).map Vr.n) := hide (by rw [takeS hli, List.map_append, List.append_assoc, ← HV.out]; rfl)
                      have HH8 := hide hh8
                      clear hown8 hgrow8 hDq hHq hKq hh8 hV hkey
                      go_roundw
                      case rel => exact ⟨0 + 1, by omega, by go_num, by rw [← HL8.out]; exact HH8.out, hk8, HRS.out⟩
                      case measure => simp [intOf]; omega
                    · skip
                      obtain ⟨x', o', hx, _, _, hcell'⟩ := Rd.rec_ (size := 3) (fun _ => rfl) (HRFF.out.below hBr4) HFFL.out j (by omega)
                      injection hx with hx
                      injection hx with e1 e2
                      subst e1 e2
                      obtain ⟨v, hv⟩ : ∃ v, v = gfs[j + 1] := ⟨_, rfl⟩
                      have HV : Hid (v = gfs[j + 1]) := hide hv
                      obtain ⟨pv, hpv⟩ : ∃ pv, pv = (gfs[j]'(by omega)).n := ⟨_, rfl⟩
                      have HSTEP : Hid (pv < v.n → RiseTo (gfs.map Vr.n) (j + 1 + 1)) := hide (fun e => HRI.out.step (fun hj => by simpa [← hv, ← hpv] using e))
                      have HNE : Hid (RiseTo (gfs.map Vr.n) (j + 1 + 1) → ∀ i' (h1 : i' < gfs.length), i' < j + 1 → gfs[i'].n ≠ v.n) := hide (fun hr i' h1 h2 => by
                        have := hr.ne (i := i') (j := j + 1) h2 (by simpa using hli) (by omega)
                        simpa [← hv] using this)
                      rw [← hv] at hcell hvs HNO
                      have q3 : wr.cell? ⟨x, o + j * 3, none⟩ = some (S pv) := by rw [hpv]; exact hcell' 0 _ rfl
                      clear hv hpv hcell'
                      obtain ⟨vn, vt, va⟩ := v
                      have q0 : wr.cell? ⟨x, o + (j + 1) * 3, none⟩ = some (S vn) := hcell 0 _ rfl
                      have q1 : wr.cell? ⟨x, o + (j + 1) * 3 + 1, none⟩ = some (S vt) := hcell 1 _ rfl
                      have q2 : wr.cell? ⟨x, o + (j + 1) * 3 + 2, none⟩ = some (.bool va) := hcell 2 _ rfl
                      have hxl := World.block_lt_of_cell? _ _ q3
                      have q4 : (wr.alloc (.cells #[S vn, S vt, .bool va] 69)).cell? ⟨x, o + j * 3, none⟩ = some (S pv) := (World.cell?_alloc_lt wr _ _ hxl).trans q3
                      have q5 : (wr.alloc (.cells #[S vn, S vt, .bool va] 69)).cell? ⟨bg, 2, none⟩ = some (.slice (some ⟨x, o, none⟩) gfl gfc) := (hgb.alloc _).cell 2
                      have h0 : decide (0 < (j : Int) + 1) = true := decide_eq_true (by omega)
                      have h1 : IntKind.i64.wrap ((j : Int) + 1 - 1) = (j : Int) := by rw [IntKind.wrap_i64]; omega
                      have h2 : (j : Int) < (gfl : Int) := by omega
                      have h3 : (j : Int) + 1 < (gfl : Int) := by omega
                      obtain ⟨bl, hbl⟩ : ∃ bl, Op.bytesLess pv vn = bl := ⟨_, rfl⟩
                      clear hcell q3
                      cases bl
                      case false =>
                        go_wp2_with fail
                        go_quiet (fail)
                        go_wp2_with fail
                        go_ret
                        exact ⟨rfl, bdrewN (hBr4.alloc hBr4.size _) _⟩
                      case true =>
                        have HRS := hide (HSTEP.out (lt_of_less hbl))
                        have HRN := hide (HNE.out HRS.out)
                        go_wp2_with fail
                        go_quiet (fail)
                        have hHq : ∀ q, Hs wM ((wr.alloc (.cells #[S vn, S vt, .bool va] 69)).drewN q) g m s b1 b2 T (30000 + 100 * k + 9 + p + 1) (12 * p + (j + 1)) (12 * p) (seenP T l p ++ (gfs.take (j + 1)).map Vr.n) (recP T l p) := fun q => (HH4.out.alloc _).below (bdrewN (Below.refl _ _) q)
                        have hKq : ∀ q, Blk ((wr.alloc (.cells #[S vn, S vt, .bool va] 69)).drewN q) bg 38 #[S gn, S gsu, .slice (some ⟨x, o, none⟩) gfl gfc, .slice gmA gml gmc] := fun q => (hgb.alloc _).drewN q
                        have hno := HNO.out (fun i' h1 h2 => HRN.out i' h1 h2)
                        have HRN2 := hide HRN.out
                        obtain ⟨D, hD, hDat⟩ := HH4.out.set
                        have hDq : ∀ q, ((wr.alloc (.cells #[S vn, S vt, .bool va] 69)).drewN q).ownsMap Try.prog 9 heldR b1 (12 * p + (j + 1)) D := fun q => hD.alloc _
                        have hkey := key_S hvs
                        have hV : D.atKey (.string vn) (.held (.bool false)) = .held (.bool false) := by rw [hDat vn, decide_eq_false hno]
                        have HDAT := hide hDat
                        have HDM := hide hD.isMap
                        clear hD hDat hno
                        go_wp2_with (first | (at_lookup; refine lookup_held _ rfl _ _ 66 rfl 9 4 klaw Try.underlying66 (zero_bool _) b1 _ D rfl (hDq _) _ _ rfl hkey (.bool false) hV ?_) | (at_mapUpdate; refine wpList_mapUpdate_own _ rfl _ _ _ 66 rfl 9 4 klaw Try.underlying66 _ b1 _ D rfl (hDq _) (by unfold maxLen; omega) _ _ _ rfl rfl hkey _ [] (show heldR (.bool true) = some (.held (.bool true), []) from rfl) ?_; intro w8 hown8 hgrow8))
                        have hh8 := (hHq _).put1 (N1' := 12 * p + (j + 1) + 1) (L1' := (seenP T l p ++ (gfs.take (j + 1)).map Vr.n) ++ [vn]) ⟨_, hown8, set_put HDM.out HDAT.out⟩ hgrow8 HD1.out
                        have hk8 := (hKq _).grown hgrow8 (by simp; omega)
                        have HL8 : Hid ((seenP T l p ++ (gfs.take (j + 1)).map Vr.n) ++ [vn] = seenP T l p ++ (gfs.take (j + 1 + 1)).map Vr.n) := hide (by rw [takeS hli, List.map_append, List.append_assoc, ← HV.out]; rfl)
                        have HH8 := hide hh8
                        clear hown8 hgrow8 hDq hHq hKq hh8 hV hkey
                        go_roundw
                        case rel => exact ⟨j + 1 + 1, by omega, by go_num, by rw [← HL8.out]; exact HH8.out, hk8, HRS.out⟩
                        case measure => simp [intOf]; omega
                  · skip
                    have hh5 : Hs wM wr g m s b1 b2 T (30000 + 100 * k + 9 + p + 1) (12 * p + 12) (12 * p) (seenP T l (p + 1)) (recP T l p) := by
                      have e := HS1.out
                      rw [List.take_of_length_le (by have := HFFL.out; omega)] at HH4
                      rw [e]
                      exact HH4.out.mono (Nat.le_refl _) (by omega) (Nat.le_refl _)
                    clear HH4 HRI hBr4
                    have a3 : wr.cell? ⟨bg, 3, none⟩ = some (.slice gmA gml gmc) := hgb.cell 3
                    go_wp2_with fail
                    go_loopw [101] (fun i wx => ∃ i0 : Nat, i0 ≤ gml ∧ i = .int .i64 i0 ∧ Hs wM wx g m s b1 b2 T (30000 + 100 * k + 9 + p + 1) (12 * p + 12) (12 * p + i0) (seenP T l (p + 1)) (recP T l p ++ (gms.take i0).filter fun m => !m.st) ∧ Blk wx bg 38 #[S gn, S gsu, .slice gfA gfl gfc, .slice gmA gml gmc] ∧ RiseTo (gms.map Sg.n) i0) (fun i _ => gml - (intOf i).toNat)
                    case atStart => exact ⟨0, Nat.zero_le _, rfl, by simpa using hh5, hgb, fun i hi h0 => by omega⟩
                    case round =>
                      obtain ⟨i5, hi5, rfl, hh4, hgb, hri⟩ := hrel
                      have HH4 := hide hh4
                      have HRI := hide hri
                      have hBr4 := hBM.trans (hh4.kp.below hBM.size (fun q hq => by omega))
                      clear hh4 hri hh5
                      by_cases hlt5 : i5 < gml
                      · have hli : i5 < gms.length := by have := HFML.out; omega
                        obtain ⟨x, o, rfl, _, _, hcell⟩ := Rd.rec_ (size := 5) (fun _ => rfl) (HRFM.out.below hBr4) HFML.out i5 hlt5
                        have hma := HFMO.out _ (List.getElem_mem hli)
                        have hMO : (∀ j (hj : j < gms.length), j < i5 → gms[j].n ≠ gms[i5].n) → gms[i5].st = false → ∀ o, getS (recP T l p ++ (gms.take i5).filter fun m => !m.st) gms[i5].n = some o → o.p = gms[i5].p := fun h1 h2 o h3 => HMO.out i5 hli h1 h2 o h3
                        obtain ⟨L, hL⟩ : ∃ L, L = recP T l p ++ (gms.take i5).filter fun m => !m.st := ⟨_, rfl⟩
                        have hat0 : ∀ o ∈ L, o.at_ w (fun k => w.heap.size ≤ k) := fun o ho => by
                          rw [hL] at ho
                          rcases List.mem_append.1 ho with ho | ho
                          · unfold recP at ho
                            obtain ⟨c, _, hc⟩ := List.mem_flatMap.1 ho
                            exact (face_at2 HF.out.2.2.2 c).2.1.2.2.2 o (List.mem_filter.1 hc).1
                          · exact HFMO.out o (List.mem_of_mem_take (List.mem_filter.1 ho).1)
                        have HAT0 := hide hat0
                        have HLS : Hid (recP T l p ++ (gms.take (i5 + 1)).filter (fun m => !m.st) = if gms[i5].st then L else L ++ [gms[i5]]) := hide (by
                          rw [hL, takeS hli, List.filter_append]
                          cases hs : gms[i5].st <;> simp [hs])
                        simp only [← hL] at hMO HH4
                        clear hat0 hL
                        obtain ⟨mm, hv⟩ : ∃ mm, mm = gms[i5] := ⟨_, rfl⟩
                        have HV : Hid (mm = gms[i5]) := hide hv
                        rw [← hv] at hcell hma hMO HLS
                        clear hv
                        obtain ⟨V, hV0⟩ : ∃ V, V = (getS L mm.n).getD zeroSg := ⟨_, rfl⟩
                        obtain ⟨B, hB0⟩ : ∃ B, B = (getS L mm.n).isSome := ⟨_, rfl⟩
                        have HVA : Hid (V.at_ w (fun k => w.heap.size ≤ k)) := hide (by
                          rw [hV0]
                          cases hg : getS L mm.n with
                          | none => exact ⟨Rd.nil _ _ _ _, rfl, by simp [zeroSg], by simp [short, zeroSg], by simp [Ty.ok, short, zeroSg], by simp [zeroSg]⟩
                          | some o => exact HAT0.out o (getS_some hg).1)
                        have HSM : Hid ((∀ j (hj : j < gms.length), j < i5 → gms[j].n ≠ mm.n) → B = true → mm.st = false → V.p = mm.p) := hide (fun h1 h2 h3 => by
                          cases hg : getS L mm.n with
                          | none => rw [hB0, hg] at h2; cases h2
                          | some o => rw [hV0, hg]; exact hMO h1 h3 o hg)
                        obtain ⟨D, hD, hDat⟩ := HH4.out.sig
                        have hVv : D.atKey (.string mm.n) (.held zeroSg.val) = .held V.val := by
                          rw [(hDat mm.n).2, hV0]
                          cases getS L mm.n <;> rfl
                        have hVb : Maps.has D (.string mm.n) = B := by rw [(hDat mm.n).1, hB0]
                        have HMA := hide hma
                        have hkey := key_S hma.2.2.2.1
                        have HDAT := hide hDat
                        have HDM := hide hD.isMap
                        have HD := hide hD
                        clear hMO hV0 hB0 hDat hma hD HAT0
                        rcases i5 with _ | j
                        · skip
                          have HRN : Hid (∀ i' (h1 : i' < gms.length), i' < 0 → gms[i'].n ≠ mm.n) := hide (fun i' h1 h2 => by omega)
                          have HRS : Hid (RiseTo (gms.map Sg.n) (0 + 1)) := hide (fun i hi h0 => by omega)
                          obtain ⟨mn, mst, mA, mk, mc, mps, ⟨mrn, mra⟩⟩ := mm
                          have q0 : wr.cell? ⟨x, o + 0 * 5, none⟩ = some (S mn) := hcell 0 _ rfl
                          have q1 : wr.cell? ⟨x, o + 0 * 5 + 1, none⟩ = some (.bool mst) := hcell 1 _ rfl
                          have q2 : wr.cell? ⟨x, o + 0 * 5 + 2, none⟩ = some (.slice mA mk mc) := hcell 2 _ rfl
                          have q3 : wr.cell? ⟨x, o + 0 * 5 + 3, none⟩ = some (S mrn) := hcell 3 _ rfl
                          have q4 : wr.cell? ⟨x, o + 0 * 5 + 4, none⟩ = some (.bool mra) := hcell 4 _ rfl
                          simp only [Nat.zero_mul, Nat.add_zero] at q0 q1 q2 q3 q4
                          clear hcell
                          go_wp2_with fail
                          go_quiet (fail)
                          cases mst
                          case true =>
                            have hHq : ∀ q, Hs wM ((wr.alloc (.cells #[S mn, .bool true, .slice mA mk mc, S mrn, .bool mra] 56)).drewN q) g m s b1 b2 T (30000 + 100 * k + 9 + p + 1) (12 * p + 12) (12 * p + (0)) (seenP T l (p + 1)) L := fun q => (HH4.out.alloc _).below (bdrewN (Below.refl _ _) q)
                            have hKq : ∀ q, Blk ((wr.alloc (.cells #[S mn, .bool true, .slice mA mk mc, S mrn, .bool mra] 56)).drewN q) bg 38 #[S gn, S gsu, .slice gfA gfl gfc, .slice (some ⟨x, o, none⟩) gml gmc] := fun q => (hgb.alloc _).drewN q
                            have hDq : ∀ q, ((wr.alloc (.cells #[S mn, .bool true, .slice mA mk mc, S mrn, .bool mra] 56)).drewN q).ownsMap Try.prog 9 heldR b2 (12 * p + (0)) D := fun q => HD.out.alloc _
                            have hL9 := HLS.out
                            rw [if_pos rfl] at hL9
                            have HL9 := hide hL9
                            clear hL9
                            cases B
                            case false =>
                              go_wp2_with (at_lookup; refine lookup_face _ rfl _ _ 67 rfl 9 56 klaw Try.underlying67 (zero_sig _) b2 _ D rfl (hDq _) _ _ rfl hkey V.val false hVv hVb ?_)
                              go_roundw
                              case rel => exact ⟨0 + 1, by omega, by go_num, by rw [HL9.out]; exact ((hHq _).alloc _).mono (Nat.le_refl _) (Nat.le_refl _) (by omega), (hKq _).alloc _, HRS.out⟩
                              case measure => simp [intOf]; omega
                            case true =>
                              go_wp2_with (at_lookup; refine lookup_face _ rfl _ _ 67 rfl 9 56 klaw Try.underlying67 (zero_sig _) b2 _ D rfl (hDq _) _ _ rfl hkey V.val true hVv hVb ?_)
                              go_roundw
                              case rel => exact ⟨0 + 1, by omega, by go_num, by rw [HL9.out]; exact ((hHq _).alloc _).mono (Nat.le_refl _) (Nat.le_refl _) (by omega), (hKq _).alloc _, HRS.out⟩
                              case measure => simp [intOf]; omega
                          case false =>
                            have hHq : ∀ q, Hs wM ((wr.alloc (.cells #[S mn, .bool false, .slice mA mk mc, S mrn, .bool mra] 56)).drewN q) g m s b1 b2 T (30000 + 100 * k + 9 + p + 1) (12 * p + 12) (12 * p + (0)) (seenP T l (p + 1)) L := fun q => (HH4.out.alloc _).below (bdrewN (Below.refl _ _) q)
                            have hKq : ∀ q, Blk ((wr.alloc (.cells #[S mn, .bool false, .slice mA mk mc, S mrn, .bool mra] 56)).drewN q) bg 38 #[S gn, S gsu, .slice gfA gfl gfc, .slice (some ⟨x, o, none⟩) gml gmc] := fun q => (hgb.alloc _).drewN q
                            have hDq : ∀ q, ((wr.alloc (.cells #[S mn, .bool false, .slice mA mk mc, S mrn, .bool mra] 56)).drewN q).ownsMap Try.prog 9 heldR b2 (12 * p + (0)) D := fun q => HD.out.alloc _
                            have hL9 := HLS.out
                            rw [if_neg (by decide)] at hL9
                            have HL9 := hide hL9
                            clear hL9
                            cases B
                            case false =>
                              go_wp2_with (first | (at_lookup; refine lookup_face _ rfl _ _ 67 rfl 9 56 klaw Try.underlying67 (zero_sig _) b2 _ D rfl (hDq _) _ _ rfl hkey V.val false hVv hVb ?_) | (at_mapUpdate; refine wpList_mapUpdate_own _ rfl _ _ _ 67 rfl 9 56 klaw Try.underlying67 _ b2 _ D rfl ((hDq _).alloc _) (by unfold maxLen; omega) _ _ _ rfl rfl hkey _ [] (show heldR (Sg.val ⟨mn, false, mA, mk, mc, mps, ⟨mrn, mra⟩⟩) = some (.held _, []) from rfl) ?_; intro w8 hown8 hgrow8))
                              have hh8 := ((hHq _).alloc _).put2 (N2' := 12 * p + (0) + 1) (L2' := L ++ [⟨mn, false, mA, mk, mc, mps, ⟨mrn, mra⟩⟩]) ⟨_, hown8, sig_put (m := ⟨mn, false, mA, mk, mc, mps, ⟨mrn, mra⟩⟩) HDM.out HDAT.out⟩ hgrow8 HD2.out
                              have hk8 := ((hKq _).alloc _).grown hgrow8 (by simp; omega)
                              have HH8 := hide hh8
                              clear hown8 hgrow8 hDq hHq hKq hh8
                              go_roundw
                              case rel => exact ⟨0 + 1, by omega, by go_num, by rw [HL9.out]; exact HH8.out.mono (Nat.le_refl _) (Nat.le_refl _) (by omega), hk8, HRS.out⟩
                              case measure => simp [intOf]; omega
                            case true =>
                              have hsame := HSM.out (fun i' h1 h2 => HRN.out i' h1 h2) rfl rfl
                              have hsa : ∀ W, Below w.heap.size w W → Calls Try.prog 28 #[V.val, Sg.val ⟨mn, false, mA, mk, mc, mps, ⟨mrn, mra⟩⟩] W (Gives W (.bool true)) := fun W hW => by
                                have := sigsame_any V ⟨mn, false, mA, mk, mc, mps, ⟨mrn, mra⟩⟩ W ((HVA.out.below hW).weak (fun k hk => by have := hW.size; omega)) ((HMA.out.below hW).weak (fun k hk => by have := hW.size; omega))
                                rwa [decide_eq_true hsame] at this
                              have HSA := hide hsa
                              clear hsa hsame
                              go_wp2_with (at_lookup; refine lookup_face _ rfl _ _ 67 rfl 9 56 klaw Try.underlying67 (zero_sig _) b2 _ D rfl (hDq _) _ _ rfl hkey V.val true hVv hVb ?_)
                              have hB6 := (bdrewN (hBr4.alloc hBr4.size (.cells #[S mn, .bool false, .slice mA mk mc, S mrn, .bool mra] 56)) nq).alloc (by have := hBr4.size; simp; omega) (.cells #[S V.n, .bool V.st, .slice V.A V.k V.c, S V.r.n, .bool V.r.a] 56)
                              have kb := (Blk.drewN (Blk.new wr 56 #[S mn, .bool false, .slice mA mk mc, S mrn, .bool mra]) nq).alloc (.cells #[S V.n, .bool V.st, .slice V.A V.k V.c, S V.r.n, .bool V.r.a] 56)
                              have hD6 := (hDq nq).alloc (.cells #[S V.n, .bool V.st, .slice V.A V.k V.c, S V.r.n, .bool V.r.a] 56)
                              have hh6 := (hHq nq).alloc (.cells #[S V.n, .bool V.st, .slice V.A V.k V.c, S V.r.n, .bool V.r.a] 56)
                              have hk6 := (hKq nq).alloc (.cells #[S V.n, .bool V.st, .slice V.A V.k V.c, S V.r.n, .bool V.r.a] 56)
                              refine (HSA.out _ hB6).mono ?_
                              rintro e w7 ⟨rfl, hb7⟩
                              have kb7 := kb.below hb7 kb.lt
                              have hD7 := owns_of_block hD6 (hb7.block b2 hD6.lt)
                              have hh7 := hh6.below hb7
                              have hk7 := hk6.below hb7 hk6.lt
                              have z0 : w7.cell? ⟨wr.heap.size, 0, none⟩ = some (S mn) := kb7.cell 0
                              have z1 : w7.cell? ⟨wr.heap.size, 1, none⟩ = some (.bool false) := kb7.cell 1
                              have z2 : w7.cell? ⟨wr.heap.size, 2, none⟩ = some (.slice mA mk mc) := kb7.cell 2
                              have z3 : w7.cell? ⟨wr.heap.size, 3, none⟩ = some (S mrn) := kb7.cell 3
                              have z4 : w7.cell? ⟨wr.heap.size, 4, none⟩ = some (.bool mra) := kb7.cell 4
                              clear kb kb7 hD6 hh6 hk6 hB6 HSA hb7
                              go_wp2_with (at_mapUpdate; refine wpList_mapUpdate_own _ rfl _ _ _ 67 rfl 9 56 klaw Try.underlying67 _ b2 _ D rfl (hD7) (by unfold maxLen; omega) _ _ _ rfl rfl hkey _ [] (show heldR (Sg.val ⟨mn, false, mA, mk, mc, mps, ⟨mrn, mra⟩⟩) = some (.held _, []) from rfl) ?_; intro w8 hown8 hgrow8)
                              have hh8 := (hh7).put2 (N2' := 12 * p + (0) + 1) (L2' := L ++ [⟨mn, false, mA, mk, mc, mps, ⟨mrn, mra⟩⟩]) ⟨_, hown8, sig_put (m := ⟨mn, false, mA, mk, mc, mps, ⟨mrn, mra⟩⟩) HDM.out HDAT.out⟩ hgrow8 HD2.out
                              have hk8 := (hk7).grown hgrow8 (by simp; omega)
                              have HH8 := hide hh8
                              clear hown8 hgrow8 hDq hHq hKq hh8
                              go_roundw
                              case rel => exact ⟨0 + 1, by omega, by go_num, by rw [HL9.out]; exact HH8.out.mono (Nat.le_refl _) (Nat.le_refl _) (by omega), hk8, HRS.out⟩
                              case measure => simp [intOf]; omega
                        · skip
                          obtain ⟨x', o', hx, _, _, hcell'⟩ := Rd.rec_ (size := 5) (fun _ => rfl) (HRFM.out.below hBr4) HFML.out j (by omega)
                          injection hx with hx
                          injection hx with e1 e2
                          subst e1 e2
                          obtain ⟨pv, hpv⟩ : ∃ pv, pv = (gms[j]'(by omega)).n := ⟨_, rfl⟩
                          have HSTEP : Hid (pv < mm.n → RiseTo (gms.map Sg.n) (j + 1 + 1)) := hide (fun e => HRI.out.step (fun hj => by simpa [← HV.out, ← hpv] using e))
                          have HNE : Hid (RiseTo (gms.map Sg.n) (j + 1 + 1) → ∀ i' (h1 : i' < gms.length), i' < j + 1 → gms[i'].n ≠ mm.n) := hide (fun hr i' h1 h2 => by
                            have := hr.ne (i := i') (j := j + 1) h2 (by simpa using hli) (by omega)
                            simpa [← HV.out] using this)
                          have q9 : wr.cell? ⟨x, o + j * 5, none⟩ = some (S pv) := by rw [hpv]; exact hcell' 0 _ rfl
                          clear hpv hcell'
                          obtain ⟨mn, mst, mA, mk, mc, mps, ⟨mrn, mra⟩⟩ := mm
                          have q0 : wr.cell? ⟨x, o + (j + 1) * 5, none⟩ = some (S mn) := hcell 0 _ rfl
                          have q1 : wr.cell? ⟨x, o + (j + 1) * 5 + 1, none⟩ = some (.bool mst) := hcell 1 _ rfl
                          have q2 : wr.cell? ⟨x, o + (j + 1) * 5 + 2, none⟩ = some (.slice mA mk mc) := hcell 2 _ rfl
                          have q3 : wr.cell? ⟨x, o + (j + 1) * 5 + 3, none⟩ = some (S mrn) := hcell 3 _ rfl
                          have q4 : wr.cell? ⟨x, o + (j + 1) * 5 + 4, none⟩ = some (.bool mra) := hcell 4 _ rfl
                          have hxl := World.block_lt_of_cell? _ _ q9
                          have q7 : (wr.alloc (.cells #[S mn, .bool mst, .slice mA mk mc, S mrn, .bool mra] 56)).cell? ⟨x, o + j * 5, none⟩ = some (S pv) := (World.cell?_alloc_lt wr _ _ hxl).trans q9
                          have q8 : (wr.alloc (.cells #[S mn, .bool mst, .slice mA mk mc, S mrn, .bool mra] 56)).cell? ⟨bg, 3, none⟩ = some (.slice (some ⟨x, o, none⟩) gml gmc) := (hgb.alloc _).cell 3
                          have h0 : decide (0 < (j : Int) + 1) = true := decide_eq_true (by omega)
                          have h1 : IntKind.i64.wrap ((j : Int) + 1 - 1) = (j : Int) := by rw [IntKind.wrap_i64]; omega
                          have h2 : (j : Int) < (gml : Int) := by omega
                          have h3 : (j : Int) + 1 < (gml : Int) := by omega
                          obtain ⟨bl, hbl⟩ : ∃ bl, Op.bytesLess pv mn = bl := ⟨_, rfl⟩
                          clear hcell q9
                          cases bl
                          case false =>
                            go_wp2_with fail
                            go_quiet (fail)
                            go_wp2_with fail
                            go_ret
                            exact ⟨rfl, bdrewN (hBr4.alloc hBr4.size _) _⟩
                          case true =>
                            have HRS := hide (HSTEP.out (lt_of_less hbl))
                            have HRN := hide (HNE.out HRS.out)
                            go_wp2_with fail
                            go_quiet (fail)
                            cases mst
                            case true =>
                              have hHq : ∀ q, Hs wM ((wr.alloc (.cells #[S mn, .bool true, .slice mA mk mc, S mrn, .bool mra] 56)).drewN q) g m s b1 b2 T (30000 + 100 * k + 9 + p + 1) (12 * p + 12) (12 * p + (j + 1)) (seenP T l (p + 1)) L := fun q => (HH4.out.alloc _).below (bdrewN (Below.refl _ _) q)
                              have hKq : ∀ q, Blk ((wr.alloc (.cells #[S mn, .bool true, .slice mA mk mc, S mrn, .bool mra] 56)).drewN q) bg 38 #[S gn, S gsu, .slice gfA gfl gfc, .slice (some ⟨x, o, none⟩) gml gmc] := fun q => (hgb.alloc _).drewN q
                              have hDq : ∀ q, ((wr.alloc (.cells #[S mn, .bool true, .slice mA mk mc, S mrn, .bool mra] 56)).drewN q).ownsMap Try.prog 9 heldR b2 (12 * p + (j + 1)) D := fun q => HD.out.alloc _
                              have hL9 := HLS.out
                              rw [if_pos rfl] at hL9
                              have HL9 := hide hL9
                              clear hL9
                              cases B
                              case false =>
                                go_wp2_with (at_lookup; refine lookup_face _ rfl _ _ 67 rfl 9 56 klaw Try.underlying67 (zero_sig _) b2 _ D rfl (hDq _) _ _ rfl hkey V.val false hVv hVb ?_)
                                go_roundw
                                case rel => exact ⟨j + 1 + 1, by omega, by go_num, by rw [HL9.out]; exact ((hHq _).alloc _).mono (Nat.le_refl _) (Nat.le_refl _) (by omega), (hKq _).alloc _, HRS.out⟩
                                case measure => simp [intOf]; omega
                              case true =>
                                go_wp2_with (at_lookup; refine lookup_face _ rfl _ _ 67 rfl 9 56 klaw Try.underlying67 (zero_sig _) b2 _ D rfl (hDq _) _ _ rfl hkey V.val true hVv hVb ?_)
                                go_roundw
                                case rel => exact ⟨j + 1 + 1, by omega, by go_num, by rw [HL9.out]; exact ((hHq _).alloc _).mono (Nat.le_refl _) (Nat.le_refl _) (by omega), (hKq _).alloc _, HRS.out⟩
                                case measure => simp [intOf]; omega
                            case false =>
                              have hHq : ∀ q, Hs wM ((wr.alloc (.cells #[S mn, .bool false, .slice mA mk mc, S mrn, .bool mra] 56)).drewN q) g m s b1 b2 T (30000 + 100 * k + 9 + p + 1) (12 * p + 12) (12 * p + (j + 1)) (seenP T l (p + 1)) L := fun q => (HH4.out.alloc _).below (bdrewN (Below.refl _ _) q)
                              have hKq : ∀ q, Blk ((wr.alloc (.cells #[S mn, .bool false, .slice mA mk mc, S mrn, .bool mra] 56)).drewN q) bg 38 #[S gn, S gsu, .slice gfA gfl gfc, .slice (some ⟨x, o, none⟩) gml gmc] := fun q => (hgb.alloc _).drewN q
                              have hDq : ∀ q, ((wr.alloc (.cells #[S mn, .bool false, .slice mA mk mc, S mrn, .bool mra] 56)).drewN q).ownsMap Try.prog 9 heldR b2 (12 * p + (j + 1)) D := fun q => HD.out.alloc _
                              have hL9 := HLS.out
                              rw [if_neg (by decide)] at hL9
                              have HL9 := hide hL9
                              clear hL9
                              cases B
                              case false =>
                                go_wp2_with (first | (at_lookup; refine lookup_face _ rfl _ _ 67 rfl 9 56 klaw Try.underlying67 (zero_sig _) b2 _ D rfl (hDq _) _ _ rfl hkey V.val false hVv hVb ?_) | (at_mapUpdate; refine wpList_mapUpdate_own _ rfl _ _ _ 67 rfl 9 56 klaw Try.underlying67 _ b2 _ D rfl ((hDq _).alloc _) (by unfold maxLen; omega) _ _ _ rfl rfl hkey _ [] (show heldR (Sg.val ⟨mn, false, mA, mk, mc, mps, ⟨mrn, mra⟩⟩) = some (.held _, []) from rfl) ?_; intro w8 hown8 hgrow8))
                                have hh8 := ((hHq _).alloc _).put2 (N2' := 12 * p + (j + 1) + 1) (L2' := L ++ [⟨mn, false, mA, mk, mc, mps, ⟨mrn, mra⟩⟩]) ⟨_, hown8, sig_put (m := ⟨mn, false, mA, mk, mc, mps, ⟨mrn, mra⟩⟩) HDM.out HDAT.out⟩ hgrow8 HD2.out
                                have hk8 := ((hKq _).alloc _).grown hgrow8 (by simp; omega)
                                have HH8 := hide hh8
                                clear hown8 hgrow8 hDq hHq hKq hh8
                                go_roundw
                                case rel => exact ⟨j + 1 + 1, by omega, by go_num, by rw [HL9.out]; exact HH8.out.mono (Nat.le_refl _) (Nat.le_refl _) (by omega), hk8, HRS.out⟩
                                case measure => simp [intOf]; omega
                              case true =>
                                have hsame := HSM.out (fun i' h1 h2 => HRN.out i' h1 h2) rfl rfl
                                have hsa : ∀ W, Below w.heap.size w W → Calls Try.prog 28 #[V.val, Sg.val ⟨mn, false, mA, mk, mc, mps, ⟨mrn, mra⟩⟩] W (Gives W (.bool true)) := fun W hW => by
                                  have := sigsame_any V ⟨mn, false, mA, mk, mc, mps, ⟨mrn, mra⟩⟩ W ((HVA.out.below hW).weak (fun k hk => by have := hW.size; omega)) ((HMA.out.below hW).weak (fun k hk => by have := hW.size; omega))
                                  rwa [decide_eq_true hsame] at this
                                have HSA := hide hsa
                                clear hsa hsame
                                go_wp2_with (at_lookup; refine lookup_face _ rfl _ _ 67 rfl 9 56 klaw Try.underlying67 (zero_sig _) b2 _ D rfl (hDq _) _ _ rfl hkey V.val true hVv hVb ?_)
                                have hB6 := (bdrewN (hBr4.alloc hBr4.size (.cells #[S mn, .bool false, .slice mA mk mc, S mrn, .bool mra] 56)) nq).alloc (by have := hBr4.size; simp; omega) (.cells #[S V.n, .bool V.st, .slice V.A V.k V.c, S V.r.n, .bool V.r.a] 56)
                                have kb := (Blk.drewN (Blk.new wr 56 #[S mn, .bool false, .slice mA mk mc, S mrn, .bool mra]) nq).alloc (.cells #[S V.n, .bool V.st, .slice V.A V.k V.c, S V.r.n, .bool V.r.a] 56)
                                have hD6 := (hDq nq).alloc (.cells #[S V.n, .bool V.st, .slice V.A V.k V.c, S V.r.n, .bool V.r.a] 56)
                                have hh6 := (hHq nq).alloc (.cells #[S V.n, .bool V.st, .slice V.A V.k V.c, S V.r.n, .bool V.r.a] 56)
                                have hk6 := (hKq nq).alloc (.cells #[S V.n, .bool V.st, .slice V.A V.k V.c, S V.r.n, .bool V.r.a] 56)
                                refine (HSA.out _ hB6).mono ?_
                                rintro e w7 ⟨rfl, hb7⟩
                                have kb7 := kb.below hb7 kb.lt
                                have hD7 := owns_of_block hD6 (hb7.block b2 hD6.lt)
                                have hh7 := hh6.below hb7
                                have hk7 := hk6.below hb7 hk6.lt
                                have z0 : w7.cell? ⟨wr.heap.size, 0, none⟩ = some (S mn) := kb7.cell 0
                                have z1 : w7.cell? ⟨wr.heap.size, 1, none⟩ = some (.bool false) := kb7.cell 1
                                have z2 : w7.cell? ⟨wr.heap.size, 2, none⟩ = some (.slice mA mk mc) := kb7.cell 2
                                have z3 : w7.cell? ⟨wr.heap.size, 3, none⟩ = some (S mrn) := kb7.cell 3
                                have z4 : w7.cell? ⟨wr.heap.size, 4, none⟩ = some (.bool mra) := kb7.cell 4
                                clear kb kb7 hD6 hh6 hk6 hB6 HSA hb7
                                go_wp2_with (at_mapUpdate; refine wpList_mapUpdate_own _ rfl _ _ _ 67 rfl 9 56 klaw Try.underlying67 _ b2 _ D rfl (hD7) (by unfold maxLen; omega) _ _ _ rfl rfl hkey _ [] (show heldR (Sg.val ⟨mn, false, mA, mk, mc, mps, ⟨mrn, mra⟩⟩) = some (.held _, []) from rfl) ?_; intro w8 hown8 hgrow8)
                                have hh8 := (hh7).put2 (N2' := 12 * p + (j + 1) + 1) (L2' := L ++ [⟨mn, false, mA, mk, mc, mps, ⟨mrn, mra⟩⟩]) ⟨_, hown8, sig_put (m := ⟨mn, false, mA, mk, mc, mps, ⟨mrn, mra⟩⟩) HDM.out HDAT.out⟩ hgrow8 HD2.out
                                have hk8 := (hk7).grown hgrow8 (by simp; omega)
                                have HH8 := hide hh8
                                clear hown8 hgrow8 hDq hHq hKq hh8
                                go_roundw
                                case rel => exact ⟨j + 1 + 1, by omega, by go_num, by rw [HL9.out]; exact HH8.out.mono (Nat.le_refl _) (Nat.le_refl _) (by omega), hk8, HRS.out⟩
                                case measure => simp [intOf]; omega
                      · have hh5 : Hs wM wr g m s b1 b2 T (30000 + 100 * k + 9 + (p + 1)) (12 * (p + 1)) (12 * (p + 1)) (seenP T l (p + 1)) (recP T l (p + 1)) := by
                          have e := HS2.out
                          rw [List.take_of_length_le (by have := HFML.out; omega)] at HH4
                          rw [e]
                          exact HH4.out.mono (by omega) (by omega) (by omega)
                        clear HH4 HRI hBr4
                        go_wp2_with fail
                        go_roundw
                        case rel => exact ⟨p + 1, by omega, by go_num, hh5⟩
                        case measure => simp [intOf]; omega
              · go_wp2_with fail
                go_roundw
                case rel => exact ⟨k + 1, by omega, by go_num, HH.out.tab.mono (by omega), hBM.trans (HH.out.kp.below hBM.size (fun q hq => by omega))⟩
                case measure => simp [intOf]; omega
          · go_wp2_with fail
            go_ret
            exact ⟨rfl, hBr⟩
end Go.Proofs.Ytmhnfilingebfaa
