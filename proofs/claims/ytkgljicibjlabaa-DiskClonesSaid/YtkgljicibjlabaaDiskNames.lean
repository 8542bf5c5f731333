/- The names of all files, in order: the contract of Disk.Names; no statement of the seat is proved here. -/
import Derived.Test.YtkgljicibjlabaaDiskMore
import Derived.Test.YtkgljicibjlabaaDiskIter
namespace Go.Proofs.Ytkgljicibjlabaa
open Go.RowKit Go.Maps Go.Sort

/-- The names that there are, each behind those before it. -/
def IsNames (R : Fl) (l : List (List UInt8)) : Prop := l.Pairwise (fun x y => x < y) ∧ ∀ x, x ∈ l ↔ (R x).isSome = true

theorem keys_of {w : World} {b N : Nat} {D : DataW Value} {F : Fl} (h : w.ownsMap Try.prog 9 heldR b N D) (hR : Reads D F) :
    (strKeys D).Nodup ∧ (∀ x, x ∈ strKeys D ↔ (F x).isSome = true) ∧ Maps.size D = (strKeys D).length := by
  obtain ⟨es, hD, hpw, _⟩ := h.entries klaw
  obtain ⟨es', hD', hko⟩ := h.keysOf
  obtain rfl : es = es' := by rw [hD] at hD'; simpa using hD'
  subst hD
  have hk : ∀ p ∈ es, ∃ x, p.1 = .string x := fun p hp => by obtain ⟨v, hv⟩ := hko p hp; obtain ⟨x, _, hx, _⟩ := Maps.keyOf_str Try.underlying9 hv; exact ⟨x, hx⟩
  refine ⟨?_, fun x => ?_, by simp [Maps.size, strKeys]⟩
  · show (es.map fun p => strOf p.1).Nodup
    refine List.pairwise_map.2 (hpw.imp_of_mem fun {p q} hp' hq' hne e => hne ?_)
    obtain ⟨a, ha⟩ := hk p hp'
    obtain ⟨b, hb⟩ := hk q hq'
    rw [ha, hb] at e ⊢
    exact congrArg _ e
  · rw [← (hR.2 x).1, has_eq, List.any_eq_true]
    show x ∈ es.map (fun p => strOf p.1) ↔ _
    rw [List.mem_map]
    constructor
    · rintro ⟨p, hp', rfl⟩
      obtain ⟨a, ha⟩ := hk p hp'
      exact ⟨p, hp', by rw [ha]; simp [Lit.sameKey, strOf]⟩
    · rintro ⟨p, hp', hs⟩
      obtain ⟨a, ha⟩ := hk p hp'
      rw [ha] at hs
      exact ⟨p, hp', by rw [ha]; simpa [Lit.sameKey, strOf] using hs⟩

theorem names_of {w : World} {b N : Nat} {D : DataW Value} {F : Fl} (h : w.ownsMap Try.prog 9 heldR b N D) (hR : Reads D F) {ss : List (List UInt8)} (hp : ss.Perm (strKeys D)) : IsNames F (ss.mergeSort leB) := by
  obtain ⟨h1, h2, _⟩ := keys_of h hR
  have tr : ∀ a b c : List UInt8, leB a b = true → leB b c = true → leB a c = true := fun a b c h1 h2 => by simp only [leB, decide_eq_true_eq] at *; exact List.le_trans h1 h2
  have to : ∀ a b : List UInt8, (leB a b || leB b a) = true := fun a b => by simp only [leB, Bool.or_eq_true, decide_eq_true_eq]; exact List.le_total a b
  have hm := List.mergeSort_perm ss leB
  have hnd : (ss.mergeSort leB).Nodup := (hm.trans hp).nodup_iff.2 h1
  refine ⟨((List.pairwise_mergeSort tr to ss).and hnd).imp fun {a b} hab => ?_, fun x => ?_⟩
  · have h3 := hab.1
    simp only [leB, decide_eq_true_eq] at h3
    exact List.not_le.1 fun h4 => hab.2 (List.le_antisymm h3 h4)
  · rw [← h2 x]
    exact (hm.trans hp).mem_iff

theorem names_len {F : Fl} {l m : List (List UInt8)} (h : IsNames F l) (hn : m.Nodup) (hm : ∀ x, x ∈ m ↔ (F x).isSome = true) : l.length = m.length := by
  refine ((List.perm_ext_iff_of_nodup (h.1.imp fun {a b} hab e => ?_) hn).2 fun x => (h.2 x).trans (hm x).symm).length_eq
  subst e
  exact List.lt_irrefl a hab

theorem Rd.of_own2 {w : World} {base : Nat} {e : TypeId} {A : Option Addr} {n c : Nat} {xs : List Value} (h : w.ownsRow base e 1 (.slice A n c) n xs) : Rd w (fun b => b < base) 1 A n xs := by
  refine ⟨by simpa using h.1, fun hn => ?_⟩
  obtain ⟨g, cap, hv, hb, hlt⟩ := h.form hn
  injection hv with hA _ hc
  subst hA hc
  refine ⟨g, 0, rfl, by omega, hlt, fun j u hu => ?_⟩
  have := h.cells (g := g) rfl j u hu
  simpa [Addr.add_lit] using this

set_option maxRecDepth 100000 in
set_option maxHeartbeats 2000000 in
theorem names_dk (B g b N n c : Nat) (A : Option Addr) (cs : List Ch) (room : Nat) (fall : Int) (F R : Fl) (w : World)
    (h : Dk w B g b N n c A cs room fall false F) (hn : n ≤ 100000) (hN : N ≤ 100000) (hR : cs.foldl chDo F = R) :
    Calls Try.prog 20 #[.pointer (some ⟨g, 0, none⟩)] w
      (fun e w' => ∃ A' c' l, e = .returned (.slice A' l.length c') ∧ IsNames R l ∧ Rd w' (fun k => k < w.heap.size) 1 A' l.length (l.map S) ∧ Below w.heap.size w w') := by
  have HD := hide (down_no g b n c A room fall w h.blk)
  have HL := hide (files_any g b N n c cs A room fall false F w h.blk h.txt h.rd h.len hn hN h.ok)
  rw [hR] at HL
  clear h hR
  have HK : Hid (∀ mb W, Calls Try.prog 36 #[.map mb] W fun e w' => e = .returned (.func (.func 41) #[] #[.pointer (some ⟨W.heap.size, 0, none⟩)]) ∧ w' = W.alloc (.cells #[.map mb] 54)) :=
    hide (fun mb W => callsIn_wide.1 (Try.maps_Keys_36 mb W))
  go_enter Try.func20, Try.ntmps20
  go_wp2_with fail
  refine HD.out.mono ?_
  rintro e w1 ⟨rfl, rfl⟩
  go_wp2_with fail
  refine HL.out.mono ?_
  rintro e w2 ⟨rfl, ⟨D, hD, hRd⟩, hb⟩
  obtain ⟨h1, h2, h3⟩ := keys_of hD hRd
  have hle := hD.size_le
  have HS := hide (callsIn_wide.1 (Try.slices_Sorted_keys_35_36 w1.heap.size (N + n) D heldR w2 hD (by unfold maxLen; omega) (by omega)))
  have HNM : Hid (∀ ss : List (List UInt8), ss.Perm (strKeys D) → IsNames R (ss.mergeSort leB)) := hide (fun ss hp => names_of hD hRd hp)
  clear h1 h2 h3 hle hD hRd
  go_wp2_with fail
  refine (HK.out (some w1.heap.size) w2).mono ?_
  rintro e w3 ⟨rfl, rfl⟩
  go_wp2_with fail
  refine HS.out.mono ?_
  rintro e w4 ⟨v, ss, rfl, hS, hrow, hnil, hb4⟩
  have hl : (ss.mergeSort leB).length = ss.length := List.length_mergeSort ss
  obtain ⟨A', c', rfl⟩ := own_slice hrow
  have hrow2 : w4.ownsRow (w2.heap.size + 1) 9 1 (.slice A' ss.length c') ss.length ((ss.mergeSort leB).map S) := by simpa using hrow
  have hrd := Rd.of_own2 hrow2
  have hbl := hb.size
  have HF := hide (show IsNames R (ss.mergeSort leB) ∧ Rd w4 (fun k => k < w1.heap.size) 1 A' ss.length ((ss.mergeSort leB).map S) ∧ Below w1.heap.size w1 w4 from
    ⟨HNM.out ss hS, hrd.weak (fun k _ hk => by omega), (hb.trans ((Below.refl w2.heap.size w2).alloc (Nat.le_refl _) _ |>.mono hbl)).trans (hb4.mono (by simp; omega))⟩)
  clear hrow hrow2 hrd hb hb4 hnil HS HK HNM HL
  go_wp2_with fail
  go_ret
  exact ⟨A', c', ss.mergeSort leB, by rw [hl]; rfl, HF.out.1, by rw [hl]; exact HF.out.2.1, HF.out.2.2⟩

set_option maxRecDepth 100000 in
theorem down_yes (g b n c : Nat) (A : Option Addr) (room fall : Int) (w : World)
    (hg : Blk w g 68 #[.map (some b), .slice A n c, .int .i64 room, .int .i64 fall, .bool true]) :
    Calls Try.prog 22 #[.pointer (some ⟨g, 0, none⟩)] w (fun e w' => e = .returned (.bool true) ∧ w' = w) := by
  have c4 : w.cell? ⟨g, 4, none⟩ = some (.bool true) := hg.cell 4
  go_enter Try.func22, Try.ntmps22
  go_wp2_with fail
  go_ret
  exact ⟨rfl, rfl⟩

set_option maxRecDepth 100000 in
set_option maxHeartbeats 2000000 in
theorem names_down (g b n c : Nat) (A : Option Addr) (room fall : Int) (w : World)
    (hg : Blk w g 68 #[.map (some b), .slice A n c, .int .i64 room, .int .i64 fall, .bool true]) :
    Calls Try.prog 20 #[.pointer (some ⟨g, 0, none⟩)] w (fun e w' => e = .returned (.slice none 0 0) ∧ w' = w) := by
  have HD := hide (down_yes g b n c A room fall w hg)
  go_enter Try.func20, Try.ntmps20
  go_wp2_with fail
  refine HD.out.mono ?_
  rintro e w1 ⟨rfl, rfl⟩
  go_wp2_with fail
  go_ret
  exact ⟨rfl, rfl⟩

set_option maxRecDepth 100000 in
set_option maxHeartbeats 2000000 in
theorem read_down (g b n c : Nat) (A : Option Addr) (room fall : Int) (k : List UInt8) (w : World)
    (hg : Blk w g 68 #[.map (some b), .slice A n c, .int .i64 room, .int .i64 fall, .bool true]) :
    Calls Try.prog 15 #[.pointer (some ⟨g, 0, none⟩), S k] w (fun e w' => e = .returned (.tuple #[S [], .int .i64 8]) ∧ w' = w) := by
  have HD := hide (down_yes g b n c A room fall w hg)
  go_enter Try.func15, Try.ntmps15
  go_wp2_with fail
  refine HD.out.mono ?_
  rintro e w1 ⟨rfl, rfl⟩
  go_wp2_with fail
  go_ret2
  exact ⟨rfl, rfl⟩
end Go.Proofs.Ytkgljicibjlabaa
