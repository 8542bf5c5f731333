/- slices.Sorted at what maps.Keys hands back, at this program: the shelf's contracts, laid in plain words; no statement of the seat is proved here. -/
import Derived.Shelf.SlIter.Nil
import Derived.Shelf.SortM.Plain
import Derived.Shelf.SortM.SortNone
import Derived.Test.YtclgiapmbmbknaaProg
import Derived.Test.YtclgiapmbmbknaaMDiskRoom
namespace Go.Proofs.Ytclgiapmbmbknaa
open Go.RowKit Go.Maps Go.Sort Go.Shelf

def Try.keys54_ren : Go.Shelf.Ren := ⟨fun | 7 => 54 | 10 => 66 | n => n, fun | 23 => 63 | 26 => 9 | 3 => 9 | 28 => 118 | 0 => 0 | 27 => 117 | 33 => 130 | 4 => 4 | n => n, fun n => n⟩
theorem Try.keys54 : SlLaysZ.n7 Try.prog Try.keys54_ren := {
  mixed := by kernel_rfl
  f7 := ⟨Try.f54.name, by decide, Try.func54.trans (congrArg some (by kernel_rfl))⟩
  f10 := ⟨Try.f66.name, by decide, Try.func66.trans (congrArg some (by kernel_rfl))⟩
  t0 := Try.underlying0
  a0 := Try.isAgg0
  z0 := Try.sizeOf0
  v0 := Try.zeroValue0
  t4 := Try.underlying4
  a4 := Try.isAgg4
  z4 := Try.sizeOf4
  v4 := Try.zeroValue4
  t23 := Try.underlying63
  a23 := Try.isAgg63
  z23 := Try.sizeOf63
  v23 := Try.zeroValue63
  t26 := Try.underlying9
  a26 := Try.isAgg9
  z26 := Try.sizeOf9
  v26 := Try.zeroValue9
  t27 := Try.underlying117
  a27 := Try.isAgg117
  z27 := Try.sizeOf117
  v27 := Try.zeroValue117
  t28 := Try.underlying118
  a28 := Try.isAgg118
  z28 := Try.sizeOf118
  v28 := Try.zeroValue118
  t33 := Try.underlying130
  a33 := Try.isAgg130
  z33 := Try.sizeOf130
  v33 := Try.zeroValue130 }
def Try.sorted53_ren : Go.Shelf.Ren := ⟨fun | 6 => 53 | 8 => 64 | 9 => 65 | 11 => 71 | 13 => 73 | 12 => 72 | 23 => 85 | 24 => 86 | 14 => 76 | 15 => 77 | 16 => 78 | 17 => 79 | 18 => 80 | 19 => 81 | 20 => 82 | 21 => 83 | 22 => 84 | 25 => 88 | 26 => 89 | 27 => 90 | 28 => 91 | 29 => 92 | 30 => 93 | 31 => 94 | n => n, fun | 26 => 9 | 28 => 118 | 24 => 28 | 0 => 0 | 3 => 3 | 37 => 58 | 48 => 103 | 50 => 121 | 4 => 4 | 40 => 142 | 39 => 141 | 45 => 147 | 5 => 5 | 9 => 9 | 51 => 151 | 55 => 155 | 57 => 157 | 58 => 158 | 33 => 130 | n => n, fun n => n⟩
theorem Try.sorted53 : SlLaysZ.n6 Try.prog Try.sorted53_ren := {
  mixed := by kernel_rfl
  f6 := ⟨Try.f53.name, by decide, Try.func53.trans (congrArg some (by kernel_rfl))⟩
  f8 := ⟨Try.f64.name, by decide, Try.func64.trans (congrArg some (by kernel_rfl))⟩
  f11 := ⟨Try.f71.name, by decide, Try.func71.trans (congrArg some (by kernel_rfl))⟩
  t0 := Try.underlying0
  a0 := Try.isAgg0
  z0 := Try.sizeOf0
  v0 := Try.zeroValue0
  t24 := Try.underlying28
  a24 := Try.isAgg28
  z24 := Try.sizeOf28
  v24 := Try.zeroValue28
  t26 := Try.underlying9
  a26 := Try.isAgg9
  z26 := Try.sizeOf9
  v26 := Try.zeroValue9
  t28 := Try.underlying118
  a28 := Try.isAgg118
  z28 := Try.sizeOf118
  v28 := Try.zeroValue118
  i26 := by kernel_rfl }
def Try.sort65_ren : Go.Shelf.Ren := ⟨fun | 6 => 65 | 8 => 73 | 9 => 72 | 19 => 85 | 20 => 86 | 21 => 76 | 22 => 77 | 23 => 78 | 24 => 79 | 25 => 80 | 26 => 81 | 27 => 82 | 28 => 83 | 29 => 84 | 36 => 88 | 31 => 89 | 32 => 90 | 37 => 91 | 38 => 92 | 39 => 93 | 41 => 94 | n => n, fun | 27 => 28 | 29 => 9 | 3 => 3 | 32 => 58 | 26 => 28 | 0 => 0 | 44 => 103 | 46 => 121 | 4 => 4 | 36 => 142 | 35 => 141 | 41 => 147 | 5 => 5 | 9 => 9 | 53 => 151 | 57 => 155 | 63 => 157 | 64 => 158 | n => n, fun n => n⟩
theorem Try.sort65 : SlLaysM.n6 Try.prog Try.sort65_ren := {
  mixed := by kernel_rfl
  f6 := ⟨Try.f65.name, by decide, Try.func65.trans (congrArg some (by kernel_rfl))⟩
  f8 := Try.func73.trans (congrArg some (by kernel_rfl))
  f9 := ⟨Try.f72.name, by decide, Try.func72.trans (congrArg some (by kernel_rfl))⟩
  f19 := Try.func85.trans (congrArg some (by kernel_rfl))
  f20 := Try.func86.trans (congrArg some (by kernel_rfl))
  f21 := ⟨Try.f76.name, by decide, Try.func76.trans (congrArg some (by kernel_rfl))⟩
  f22 := ⟨Try.f77.name, by decide, Try.func77.trans (congrArg some (by kernel_rfl))⟩
  f23 := ⟨Try.f78.name, by decide, Try.func78.trans (congrArg some (by kernel_rfl))⟩
  f24 := ⟨Try.f79.name, by decide, Try.func79.trans (congrArg some (by kernel_rfl))⟩
  f25 := ⟨Try.f80.name, by decide, Try.func80.trans (congrArg some (by kernel_rfl))⟩
  f26 := ⟨Try.f81.name, by decide, Try.func81.trans (congrArg some (by kernel_rfl))⟩
  f27 := ⟨Try.f82.name, by decide, Try.func82.trans (congrArg some (by kernel_rfl))⟩
  f28 := ⟨Try.f83.name, by decide, Try.func83.trans (congrArg some (by kernel_rfl))⟩
  f29 := ⟨Try.f84.name, by decide, Try.func84.trans (congrArg some (by kernel_rfl))⟩
  f31 := Try.func89.trans (congrArg some (by kernel_rfl))
  f32 := Try.func90.trans (congrArg some (by kernel_rfl))
  f36 := ⟨Try.f88.name, by decide, Try.func88.trans (congrArg some (by kernel_rfl))⟩
  f37 := ⟨Try.f91.name, by decide, Try.func91.trans (congrArg some (by kernel_rfl))⟩
  f38 := ⟨Try.f92.name, by decide, Try.func92.trans (congrArg some (by kernel_rfl))⟩
  f39 := ⟨Try.f93.name, by decide, Try.func93.trans (congrArg some (by kernel_rfl))⟩
  f41 := ⟨Try.f94.name, by decide, Try.func94.trans (congrArg some (by kernel_rfl))⟩
  t0 := Try.underlying0
  a0 := Try.isAgg0
  z0 := Try.sizeOf0
  v0 := Try.zeroValue0
  t3 := Try.underlying3
  a3 := Try.isAgg3
  z3 := Try.sizeOf3
  v3 := Try.zeroValue3
  t4 := Try.underlying4
  a4 := Try.isAgg4
  z4 := Try.sizeOf4
  v4 := Try.zeroValue4
  t5 := Try.underlying5
  a5 := Try.isAgg5
  z5 := Try.sizeOf5
  v5 := Try.zeroValue5
  t9 := Try.underlying9
  a9 := Try.isAgg9
  z9 := Try.sizeOf9
  v9 := Try.zeroValue9
  t26 := Try.underlying28
  a26 := Try.isAgg28
  z26 := Try.sizeOf28
  v26 := Try.zeroValue28
  t27 := Try.underlying28
  a27 := Try.isAgg28
  z27 := Try.sizeOf28
  v27 := Try.zeroValue28
  t29 := Try.underlying9
  a29 := Try.isAgg9
  z29 := Try.sizeOf9
  v29 := Try.zeroValue9
  t32 := Try.underlying58
  a32 := Try.isAgg58
  z32 := Try.sizeOf58
  v32 := Try.zeroValue58
  t35 := Try.underlying141
  a35 := Try.isAgg141
  z35 := Try.sizeOf141
  v35 := Try.zeroValue141
  t36 := Try.underlying142
  a36 := Try.isAgg142
  z36 := Try.sizeOf142
  v36 := Try.zeroValue142
  t41 := Try.underlying147
  a41 := Try.isAgg147
  z41 := Try.sizeOf147
  v41 := Try.zeroValue147
  t44 := Try.underlying103
  a44 := Try.isAgg103
  z44 := Try.sizeOf103
  v44 := Try.zeroValue103
  t46 := Try.underlying121
  a46 := Try.isAgg121
  z46 := Try.sizeOf121
  v46 := Try.zeroValue121
  t53 := Try.underlying151
  a53 := Try.isAgg151
  z53 := Try.sizeOf151
  v53 := Try.zeroValue151
  t57 := Try.underlying155
  a57 := Try.isAgg155
  z57 := Try.sizeOf155
  v57 := Try.zeroValue155
  t63 := Try.underlying157
  a63 := Try.isAgg157
  z63 := Try.sizeOf157
  v63 := Try.zeroValue157
  t64 := Try.underlying158
  a64 := Try.isAgg158
  z64 := Try.sizeOf158
  v64 := Try.zeroValue158 }

theorem Try.sorts53 (m : Nat) : AnyZ.SortsIn Try.prog Try.sorted53_ren Fence.wide m :=
  ⟨fun blk off cap ss W hH hblk hsz => callsIn_wide.2 (AnyM.slices_Sort_string Try.sort65 blk off cap ss W hH hblk hsz),
   fun p cap W => callsIn_wide.2 (AnyM.slices_Sort_string_none Try.sort65 p cap W)⟩

theorem Try.maps_Keys_54 (mb : Option Nat) (W : World) : CallsIn Fence.wide 5 Try.prog 54 #[.map mb] W fun e w' => e = .returned (.func (.func 66) #[] #[.pointer (some ⟨W.heap.size, 0, none⟩)]) ∧ w' = W.alloc (.cells #[.map mb] 63) :=
  AnyZ.keys_in Try.keys54 Fence.wide 5 trivial rfl mb W

set_option maxHeartbeats 1000000 in
theorem Try.slices_Sorted_keys_53_54 {H : Type} (b nn : Nat) (D0 : DataW H) (R : Value → Option (DataW H × List MemPlace)) (w : World) (hown : w.ownsMap Try.prog 9 R b nn D0) (hmax : Maps.size D0 ≤ maxLen) (hbytes : Maps.size D0 * 16 ≤ 140737488355328) :
    CallsIn Fence.wide 5 Try.prog 53 #[.func (.func 66) #[] #[.pointer (some ⟨w.heap.size, 0, none⟩)]] (w.alloc (.cells #[.map (some b)] 63)) fun e w' => ∃ (v : Value) (ss : List (List UInt8)), e = .returned v ∧ ss.Perm (strKeys D0) ∧
      w'.ownsRow (w.alloc (.cells #[.map (some b)] 63)).heap.size 9 1 v ss.length ((ss.mergeSort (fun x y => decide (x ≤ y))).map encStr) ∧ (v = .slice none 0 0 ↔ ss = []) ∧ Below (w.alloc (.cells #[.map (some b)] 63)).heap.size (w.alloc (.cells #[.map (some b)] 63)) w' := by
  have hbl := hown.lt
  have hseq : SeqGives Fence.wide 2 Try.prog 66 #[.pointer (some ⟨w.heap.size, 0, none⟩)] encStr (fun ss => ss.Perm (strKeys D0)) (Maps.size D0) (w.alloc (.cells #[.map (some b)] 63)) :=
    AnyZ.keys_gives (ρ := Try.keys54_ren) { Try.keys54 with } Fence.wide _ trivial rfl (by omega) w.heap.size b nn D0 _ (by simp) (by simp) (by
      obtain ⟨es, clock, hb, Ft, hs, hD⟩ := hown
      exact ⟨es, clock, (Below.heap_alloc _ _ b hbl).trans hb, Ft, hs, hD⟩)
  exact AnyZ.sorted_in Try.sorted53 Fence.wide 5 trivial trivial trivial trivial rfl (by omega) (Try.sorts53 _) (enters_of Try.func65 (by kernel_rfl) rfl) 66 #[.pointer (some ⟨w.heap.size, 0, none⟩)] trivial (enters_of Try.func66 (by kernel_rfl) rfl) _ _ hmax hbytes _ hseq

set_option maxHeartbeats 1000000 in
theorem Try.slices_Sorted_keys_nil_53_54 (w : World) :
    CallsIn Fence.wide 5 Try.prog 53 #[.func (.func 66) #[] #[.pointer (some ⟨w.heap.size, 0, none⟩)]] (w.alloc (.cells #[.map none] 63)) fun e w' => ∃ (v : Value) (ss : List (List UInt8)), e = .returned v ∧ ss = [] ∧
      w'.ownsRow (w.alloc (.cells #[.map none] 63)).heap.size 9 1 v ss.length ((ss.mergeSort (fun x y => decide (x ≤ y))).map encStr) ∧ (v = .slice none 0 0 ↔ ss = []) ∧ Below (w.alloc (.cells #[.map none] 63)).heap.size (w.alloc (.cells #[.map none] 63)) w' := by
  have hseq : SeqGives Fence.wide 2 Try.prog 66 #[.pointer (some ⟨w.heap.size, 0, none⟩)] encStr (fun ss : List (List UInt8) => ss = []) 0 (w.alloc (.cells #[.map none] 63)) :=
    AnyZ.keys_gives_nil (ρ := Try.keys54_ren) { Try.keys54 with } Fence.wide _ trivial rfl w.heap.size _ (by simp) (by simp)
  exact AnyZ.sorted_in Try.sorted53 Fence.wide 5 trivial trivial trivial trivial rfl (by omega) (Try.sorts53 _) (enters_of Try.func65 (by kernel_rfl) rfl) 66 #[.pointer (some ⟨w.heap.size, 0, none⟩)] trivial (enters_of Try.func66 (by kernel_rfl) rfl) _ 0 (Nat.zero_le _) (by omega) _ hseq



end Go.Proofs.Ytclgiapmbmbknaa
/- The names of all files, in order: the contract of Disk.Names; no statement of the seat is proved here. -/
namespace Go.Proofs.Ytclgiapmbmbknaa
open Go.RowKit Go.Maps Go.Sort

/-- The names that there are, each behind those before it. -/
def IsNames (R : Fl) (l : List (List UInt8)) : Prop := l.Pairwise (fun x y => x < y) ∧ ∀ x, x ∈ l ↔ (R x).isSome = true

theorem keys_of {w : World} {b N : Nat} {D : DataW Value} {F : Fl} (h : w.ownsMap Try.prog 9 heldR b N D) (hR : Reads D F) :
    (strKeys D).Nodup ∧ (∀ x, x ∈ strKeys D ↔ (F x).isSome = true) ∧ Maps.size D = (strKeys D).length := by
  obtain ⟨es, hD, hpw, _⟩ := h.entries klaw
  obtain ⟨es', hD', hko⟩ := h.keysOf
  obtain rfl : es = es' := by rw [hD] at hD'; simpa using hD'
  subst hD
  have hk : ∀ p ∈ es, ∃ x, p.1 = .string x := fun p hp => by obtain ⟨v, hv⟩ := hko p hp; obtain ⟨x, _, hx, _⟩ := Maps.keyOf_str Try.underlying9 hv; exact ⟨x, hx⟩
  refine ⟨?_, fun x => ?_, by simp [Maps.size, strKeys]⟩
  · show (es.map fun p => strOf p.1).Nodup
    refine List.pairwise_map.2 (hpw.imp_of_mem fun {p q} hp' hq' hne e => hne ?_)
    obtain ⟨a, ha⟩ := hk p hp'
    obtain ⟨b, hb⟩ := hk q hq'
    rw [ha, hb] at e ⊢
    exact congrArg _ e
  · rw [← (hR.2 x).1, has_eq, List.any_eq_true]
    show x ∈ es.map (fun p => strOf p.1) ↔ _
    rw [List.mem_map]
    constructor
    · rintro ⟨p, hp', rfl⟩
      obtain ⟨a, ha⟩ := hk p hp'
      exact ⟨p, hp', by rw [ha]; simp [Lit.sameKey, strOf]⟩
    · rintro ⟨p, hp', hs⟩
      obtain ⟨a, ha⟩ := hk p hp'
      rw [ha] at hs
      exact ⟨p, hp', by rw [ha]; simpa [Lit.sameKey, strOf] using hs⟩

theorem names_of {w : World} {b N : Nat} {D : DataW Value} {F : Fl} (h : w.ownsMap Try.prog 9 heldR b N D) (hR : Reads D F) {ss : List (List UInt8)} (hp : ss.Perm (strKeys D)) : IsNames F (ss.mergeSort leB) := by
  obtain ⟨h1, h2, _⟩ := keys_of h hR
  have tr : ∀ a b c : List UInt8, leB a b = true → leB b c = true → leB a c = true := fun a b c h1 h2 => by simp only [leB, decide_eq_true_eq] at *; exact List.le_trans h1 h2
  have to : ∀ a b : List UInt8, (leB a b || leB b a) = true := fun a b => by simp only [leB, Bool.or_eq_true, decide_eq_true_eq]; exact List.le_total a b
  have hm := List.mergeSort_perm ss leB
  have hnd : (ss.mergeSort leB).Nodup := (hm.trans hp).nodup_iff.2 h1
  refine ⟨((List.pairwise_mergeSort tr to ss).and hnd).imp fun {a b} hab => ?_, fun x => ?_⟩
  · have h3 := hab.1
    simp only [leB, decide_eq_true_eq] at h3
    exact List.not_le.1 fun h4 => hab.2 (List.le_antisymm h3 h4)
  · rw [← h2 x]
    exact (hm.trans hp).mem_iff

theorem names_len {F : Fl} {l m : List (List UInt8)} (h : IsNames F l) (hn : m.Nodup) (hm : ∀ x, x ∈ m ↔ (F x).isSome = true) : l.length = m.length := by
  refine ((List.perm_ext_iff_of_nodup (h.1.imp fun {a b} hab e => ?_) hn).2 fun x => (h.2 x).trans (hm x).symm).length_eq
  subst e
  exact List.lt_irrefl a hab

theorem Rd.of_own2n {w : World} {base : Nat} {e : TypeId} {A : Option Addr} {n c : Nat} {xs : List Value} (h : w.ownsRow base e 1 (.slice A n c) n xs) : Rd w (fun b => b < base) 1 A n xs := by
  refine ⟨by simpa using h.1, fun hn => ?_⟩
  obtain ⟨g, cap, hv, hb, hlt⟩ := h.form hn
  injection hv with hA _ hc
  subst hA hc
  refine ⟨g, 0, rfl, by omega, hlt, fun j u hu => ?_⟩
  have := h.cells (g := g) rfl j u hu
  simpa [Addr.add_lit] using this

set_option maxRecDepth 100000 in
set_option maxHeartbeats 2000000 in
theorem names_dk (B g b N n c : Nat) (A : Option Addr) (cs : List Ch) (room : Nat) (fall : Int) (F R : Fl) (w : World)
    (h : Dk w B g b N n c A cs room fall false F) (hn : n ≤ 100000) (hN : N ≤ 100000) (hR : cs.foldl chDo F = R) :
    Calls Try.prog 37 #[.pointer (some ⟨g, 0, none⟩)] w
      (fun e w' => ∃ A' c' l, e = .returned (.slice A' l.length c') ∧ IsNames R l ∧ Rd w' (fun k => k < w.heap.size) 1 A' l.length (l.map S) ∧ Below w.heap.size w w') := by
  have HD := hide (down_no g b n c A room fall w h.blk)
  have HL := hide (files_any g b N n c cs A room fall false F w h.blk h.txt h.rd h.len hn hN h.ok)
  rw [hR] at HL
  clear h hR
  have HK : Hid (∀ mb W, Calls Try.prog 54 #[.map mb] W fun e w' => e = .returned (.func (.func 66) #[] #[.pointer (some ⟨W.heap.size, 0, none⟩)]) ∧ w' = W.alloc (.cells #[.map mb] 63)) :=
    hide (fun mb W => callsIn_wide.1 (Try.maps_Keys_54 mb W))
  go_enter Try.func37, Try.ntmps37
  go_wp2_with fail
  refine HD.out.mono ?_
  rintro e w1 ⟨rfl, rfl⟩
  go_wp2_with fail
  refine HL.out.mono ?_
  rintro e w2 ⟨rfl, ⟨D, hD, hRd⟩, hb⟩
  obtain ⟨h1, h2, h3⟩ := keys_of hD hRd
  have hle := hD.size_le
  have HS := hide (callsIn_wide.1 (Try.slices_Sorted_keys_53_54 w1.heap.size (N + n) D heldR w2 hD (by unfold maxLen; omega) (by omega)))
  have HNM : Hid (∀ ss : List (List UInt8), ss.Perm (strKeys D) → IsNames R (ss.mergeSort leB)) := hide (fun ss hp => names_of hD hRd hp)
  clear h1 h2 h3 hle hD hRd
  go_wp2_with fail
  refine (HK.out (some w1.heap.size) w2).mono ?_
  rintro e w3 ⟨rfl, rfl⟩
  go_wp2_with fail
  refine HS.out.mono ?_
  rintro e w4 ⟨v, ss, rfl, hS, hrow, hnil, hb4⟩
  have hl : (ss.mergeSort leB).length = ss.length := List.length_mergeSort ss
  obtain ⟨A', c', rfl⟩ := own_slice hrow
  have hrow2 : w4.ownsRow (w2.heap.size + 1) 9 1 (.slice A' ss.length c') ss.length ((ss.mergeSort leB).map S) := by simpa using hrow
  have hrd := Rd.of_own2n hrow2
  have hbl := hb.size
  have HF := hide (show IsNames R (ss.mergeSort leB) ∧ Rd w4 (fun k => k < w1.heap.size) 1 A' ss.length ((ss.mergeSort leB).map S) ∧ Below w1.heap.size w1 w4 from
    ⟨HNM.out ss hS, hrd.weak (fun k _ hk => by omega), (hb.trans ((Below.refl w2.heap.size w2).alloc (Nat.le_refl _) _ |>.mono hbl)).trans (hb4.mono (by simp; omega))⟩)
  clear hrow hrow2 hrd hb hb4 hnil HS HK HNM HL
  go_wp2_with fail
  go_ret
  exact ⟨A', c', ss.mergeSort leB, by rw [hl]; rfl, HF.out.1, by rw [hl]; exact HF.out.2.1, HF.out.2.2⟩

set_option maxRecDepth 100000 in
theorem down_yes (g b n c : Nat) (A : Option Addr) (room fall : Int) (w : World)
    (hg : Blk w g 66 #[.map (some b), .slice A n c, .int .i64 room, .int .i64 fall, .bool true]) :
    Calls Try.prog 20 #[.pointer (some ⟨g, 0, none⟩)] w (fun e w' => e = .returned (.bool true) ∧ w' = w) := by
  have c4 : w.cell? ⟨g, 4, none⟩ = some (.bool true) := hg.cell 4
  go_enter Try.func20, Try.ntmps20
  go_wp2_with fail
  go_ret
  exact ⟨rfl, rfl⟩

set_option maxRecDepth 100000 in
set_option maxHeartbeats 2000000 in
theorem names_down (g b n c : Nat) (A : Option Addr) (room fall : Int) (w : World)
    (hg : Blk w g 66 #[.map (some b), .slice A n c, .int .i64 room, .int .i64 fall, .bool true]) :
    Calls Try.prog 37 #[.pointer (some ⟨g, 0, none⟩)] w (fun e w' => e = .returned (.slice none 0 0) ∧ w' = w) := by
  have HD := hide (down_yes g b n c A room fall w hg)
  go_enter Try.func37, Try.ntmps37
  go_wp2_with fail
  refine HD.out.mono ?_
  rintro e w1 ⟨rfl, rfl⟩
  go_wp2_with fail
  go_ret
  exact ⟨rfl, rfl⟩

set_option maxRecDepth 100000 in
set_option maxHeartbeats 2000000 in
theorem read_down (g b n c : Nat) (A : Option Addr) (room fall : Int) (k : List UInt8) (w : World)
    (hg : Blk w g 66 #[.map (some b), .slice A n c, .int .i64 room, .int .i64 fall, .bool true]) :
    Calls Try.prog 34 #[.pointer (some ⟨g, 0, none⟩), S k] w (fun e w' => e = .returned (.tuple #[S [], .int .i64 8]) ∧ w' = w) := by
  have HD := hide (down_yes g b n c A room fall w hg)
  go_enter Try.func34, Try.ntmps34
  go_wp2_with fail
  refine HD.out.mono ?_
  rintro e w1 ⟨rfl, rfl⟩
  go_wp2_with fail
  go_ret2
  exact ⟨rfl, rfl⟩
end Go.Proofs.Ytclgiapmbmbknaa
/- Fall, walked; no statement of the seat is proved here. -/
namespace Go.Proofs.Ytclgiapmbmbknaa
open Go.RowKit Go.Maps

set_option maxRecDepth 100000 in
set_option maxHeartbeats 2000000 in
theorem fall_dk (B g b N n c : Nat) (A : Option Addr) (cs : List Ch) (room : Nat) (fall : Int) (dn : Bool) (F : Fl) (x : Int) (w : World) (h : Dk w B g b N n c A cs room fall dn F) :
    Calls Try.prog 19 #[.pointer (some ⟨g, 0, none⟩), .int .i64 x] w (fun e w' => e = .returned (.tuple #[]) ∧ Dk w' B g b N n c A cs room (max x 0) dn F ∧ Keep (fun k => k = g) w w') := by
  have hb := h.blk
  have c3 : w.cell? ⟨g, 3, none⟩ = some (.int .i64 fall) := hb.cell 3
  have f3 := hb.frozen 3
  have hs := hb.set_ 3 (.int .i64 (max x 0))
  have hk := (Keep.refl (fun k => k = g) w).setCell (p := ⟨g, 3, none⟩) (fun _ => rfl) (.int .i64 (max x 0))
  have HF := hide (show Dk (w.setCell ⟨g, 3, none⟩ (.int .i64 (max x 0))) B g b N n c A cs room (max x 0) dn F ∧ _ from ⟨h.turned hk hs, hk⟩)
  clear hs hk hb h
  go_enter Try.func19, Try.ntmps19
  go_wp2_with fail
  refine bodyPost_end (v := .tuple #[]) ?_ rfl ?_
  · simp [results, Try.results19, go_sem]
  exact ⟨rfl, HF.out⟩
end Go.Proofs.Ytclgiapmbmbknaa
