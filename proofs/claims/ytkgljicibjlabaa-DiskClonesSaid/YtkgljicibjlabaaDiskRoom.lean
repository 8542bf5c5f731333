/- How many bytes are free: the lengths of all texts added up; the contract of Disk.Room; no statement of the seat is proved here. -/
import Derived.Test.YtkgljicibjlabaaDiskSync
import Derived.Maps.RangeWalk
namespace Go.Proofs.Ytkgljicibjlabaa
open Go.RowKit Go.Maps

/-- The lengths of the texts of some names. -/
def lens (F : Fl) (l : List (List UInt8)) : Nat := (l.map (fun k => ((F k).getD []).length)).sum
/-- The lengths of all texts, added up. -/
def Tot (F : Fl) (n : Nat) : Prop := ∃ l : List (List UInt8), l.Nodup ∧ (∀ k, k ∈ l ↔ (F k).isSome = true) ∧ n = lens F l

theorem lens_perm {F : Fl} {l m : List (List UInt8)} (h : l.Perm m) : lens F l = lens F m := (h.map _).sum_nat
theorem lens_cons (F : Fl) (k : List UInt8) (l : List (List UInt8)) : lens F (k :: l) = ((F k).getD []).length + lens F l := by simp [lens]
theorem lens_erase {F : Fl} {l : List (List UInt8)} {k : List UInt8} (h : k ∈ l) : lens F l = ((F k).getD []).length + lens F (l.erase k) := by
  rw [lens_perm (List.perm_cons_erase h), lens_cons]
theorem lens_congr {F G : Fl} {l : List (List UInt8)} (h : ∀ k ∈ l, F k = G k) : lens F l = lens G l := by
  unfold lens
  congr 1
  exact List.map_congr_left fun k hk => by rw [h k hk]
theorem Tot.none : Tot (fun _ => none) 0 := ⟨[], by simp [lens]⟩
theorem Tot.uniq {F : Fl} {n m : Nat} (h : Tot F n) (k : Tot F m) : n = m := by
  obtain ⟨l, h1, h2, rfl⟩ := h
  obtain ⟨l', k1, k2, rfl⟩ := k
  exact lens_perm ((List.perm_ext_iff_of_nodup h1 k1).2 fun x => (h2 x).trans (k2 x).symm)
theorem Tot.del {F : Fl} {n : Nat} (h : Tot F n) (k : List UInt8) : ∃ m, Tot (F.del k) m ∧ m + ((F k).getD []).length = n := by
  obtain ⟨l, h1, h2, rfl⟩ := h
  refine ⟨lens F (l.erase k), ⟨l.erase k, h1.erase k, fun x => ?_, lens_congr fun x hx => ?_⟩, ?_⟩
  · rw [h1.mem_erase_iff, h2]
    by_cases e : x = k <;> simp [Fl.del, e]
  · have := (h1.mem_erase_iff.1 hx).1
    simp [Fl.del, this]
  · by_cases hk : k ∈ l
    · rw [lens_erase hk]; omega
    · have : F k = Option.none := by
        have := mt (h2 k).2 hk
        simpa using this
      rw [this, List.erase_of_not_mem hk]
      simp
theorem Tot.le {F : Fl} {n : Nat} (h : Tot F n) (k : List UInt8) : ((F k).getD []).length ≤ n := by
  obtain ⟨m, _, hm⟩ := h.del k
  omega
theorem Tot.set {F : Fl} {n : Nat} (h : Tot F n) (k v : List UInt8) : ∃ m, Tot (F.set k v) m ∧ m + ((F k).getD []).length = n + v.length := by
  obtain ⟨m, ⟨l, h1, h2, rfl⟩, hm⟩ := h.del k
  have hk : k ∉ l := fun hk => by have := (h2 k).1 hk; simp [Fl.del] at this
  refine ⟨v.length + lens (F.del k) l, ⟨k :: l, List.nodup_cons.2 ⟨hk, h1⟩, fun x => ?_, ?_⟩, by omega⟩
  · rw [List.mem_cons, h2]
    by_cases e : x = k <;> simp [Fl.del, Fl.set, e]
  · rw [lens_cons]
    congr 1
    · simp [Fl.set]
    · refine lens_congr fun x hx => ?_
      have : x ≠ k := fun e => hk (e ▸ hx)
      simp [Fl.set, Fl.del, this]

theorem string_inv {key : Value} {kl : Lit} (h : keyOf Try.prog 9 key = some kl) : ∃ l : List UInt8, key = S l ∧ kl = .string l := by
  cases key <;> simp [keyOf, Try.underlying9, mapKey] at h
  rename_i s
  refine ⟨s.data.toList, S_of s, ?_⟩
  simpa using h.2.symm

theorem below_grown {B : Nat} {a w w' : World} (h : Below B a w) (hB : B ≤ w.heap.size) {row : Option Nat} (hg : w.grownBy w' row) (hr : ∀ k, row = some k → B ≤ k) : Below B a w' :=
  h.trans (Keep.below ((Keep.refl (fun k => row = some k) w).grown hg (fun _ hk _ => hk)) hB hr)

/-- The step of a loop over a map of texts. -/
theorem next_txt (w : World) {ops : Array Oper} {rest : List Oper} {o : Oper} {a : Act} {Q : Exit → Act → World → Prop} (hg : o.guard = none) (it : Operand) (hop : o.op = Op.next it false)
    (b r n : Nat) (D : DataW Value) (F : Fl) (hR : Reads D F) (left : Lit → Bool) (cnt : Nat) (l : List (List UInt8)) (hl : l.Nodup) (hm : ∀ k, k ∈ l ↔ left (.string k) = true) (hF : ∀ k ∈ l, (F k).isSome = true)
    (hit : a.eval it = .pointer (some ⟨r, 0, none⟩)) (h : w.ranges Try.prog 9 heldR b r n D left cnt)
    (hDone : l = [] → wpList Try.prog ops Q rest (a.put o.dst (.tuple #[.bool false])) w)
    (hMore : ∀ (k v : List UInt8) (w' : World) (left' : Lit → Bool) (cnt' : Nat), k ∈ l → F k = some v → (∀ x, x ∈ l.erase k ↔ left' (.string x) = true) → w'.ranges Try.prog 9 heldR b r n D left' cnt' → cnt' < cnt →
      w.grownBy w' (some r) → w'.heap.size = w.heap.size → (Instr.entry (.pointer (some ⟨r, 0, none⟩))).run Try.prog w' = .ok (.tuple #[S k, S v]) w' → wpList Try.prog ops Q rest (a.put o.dst (.tuple #[.bool true, S k, S v])) w') :
    wpList Try.prog ops Q (o :: rest) a w := by
  refine wpList_next_ranges w hg it hop 9 klaw heldR S id (fun key kl hk => by obtain ⟨x, e, _⟩ := string_inv hk; exact ⟨x, e⟩) (fun v y _ => ⟨v, rfl⟩) b r n D left cnt hit h ?_ ?_
  · intro _ hL
    refine hDone (List.eq_nil_iff_forall_not_mem.2 fun x hx => ?_)
    have := (hm x).1 hx
    rw [hL] at this
    cases this
  · intro x c kl y w' cnt' hkey hlk hy hat hrg hlt hgr hsz hen
    obtain ⟨x', e1, rfl⟩ := string_inv hkey
    obtain rfl : x = x' := by
      have : (ByteArray.mk x.toArray) = ByteArray.mk x'.toArray := by injection e1
      have : x.toArray = x'.toArray := by injection this
      simpa using this
    have hx := (hm x).2 hlk
    obtain ⟨v, hv⟩ := Option.isSome_iff_exists.1 (hF x hx)
    have e2 := hat (.held (S []))
    have e3 := (hR.2 x).2 (S [])
    rw [hv] at e3
    simp only [Option.map_some, Option.getD_some] at e3
    obtain ⟨rfl⟩ : c = S v := by
      simp [heldR] at hy
      rw [← hy, e3] at e2
      exact (DataW.held.inj e2).symm
    refine hMore x v w' _ cnt' hx hv (fun z => ?_) hrg hlt hgr hsz hen
    rw [hl.mem_erase_iff, hm]
    by_cases e : z = x
    · subst e
      simp [WideAt.sameKey_self (keyLit_string z)]
    · have hs : (Lit.string z).sameKey (.string x) = false := by
        cases hc : (Lit.string z).sameKey (.string x) with
        | false => rfl
        | true =>
          exact absurd (Lit.string.inj (WideAt.sameKey_eq hc)) e
      simp [e, hs]

set_option maxRecDepth 100000 in
set_option maxHeartbeats 2000000 in
theorem room_any (g b N n c : Nat) (cs : List Ch) (A : Option Addr) (room : Nat) (fall : Int) (dn : Bool) (F R : Fl) (tot : Nat) (w : World)
    (hg : Blk w g 68 #[.map (some b), .slice A n c, .int .i64 room, .int .i64 fall, .bool dn]) (h : TxtIs w b N F)
    (hs : Rd w (fun k => w.heap.size ≤ k) 3 A n (cs.flatMap Ch.cells)) (hl : cs.length = n) (hn : n ≤ 100000) (hN : N ≤ 100000) (hok : ∀ c ∈ cs, c.ok ∧ c.k ≤ 2)
    (hR : cs.foldl chDo F = R) (hT : Tot R tot) (ht : tot ≤ 1000000000000) (hr : room ≤ 4194304) :
    Calls Try.prog 17 #[.pointer (some ⟨g, 0, none⟩)] w
      (fun e w' => e = .returned (.int .i64 ((room : Int) - tot)) ∧ Below w.heap.size w w') := by
  have HL := hide (files_any g b N n c cs A room fall dn F w hg h hs hl hn hN hok)
  rw [hR] at HL
  have c2 : w.cell? ⟨g, 2, none⟩ = some (.int .i64 room) := hg.cell 2
  clear hg h hs hl hn hN hok hR
  obtain ⟨l0, hn0, hm0, rfl⟩ := hT
  go_enter Try.func17, Try.ntmps17
  go_wp2_with fail
  refine HL.out.mono ?_
  rintro e w1 ⟨rfl, ⟨D, hD, hRd⟩, hb⟩
  go_wp2_with (first | (at_range; refine wpList_range_own _ rfl _ 54 rfl 9 9 klaw Try.underlying54 _ w.heap.size _ D rfl hD ?_; intro w0 hrg0 hg0 hs0) | go_in)
  go_frame
  have hB0 := below_grown hb hb.size hg0 (fun k hk => by cases hk)
  go_loopw [3] (fun v wr => ∃ left cnt l, wr.ranges Try.prog 9 heldR w.heap.size w1.heap.size (N + n) D left cnt ∧ l.Nodup ∧ (∀ k, k ∈ l ↔ left (.string k) = true) ∧ (∀ k ∈ l, (R k).isSome = true) ∧ lens R l ≤ lens R l0 ∧
      v = .int .i64 ((room : Int) - lens R l0 + lens R l) ∧ Below w.heap.size w wr) (fun _ wr => wr.rangeLeft w.heap.size w1.heap.size)
  case atStart => exact ⟨_, _, l0, hrg0, hn0, fun k => by rw [hm0, (hRd.2 k).1], fun k hk => (hm0 k).1 hk, Nat.le_refl _, by congr 1; omega, hB0⟩
  case round =>
    obtain ⟨left, cnt, l, hrg, hnl, hml, hFl, hle, rfl, hBr⟩ := hrel
    have HLE := hide hle
    have HHT := hide ht
    have HML := hide hml
    have HFL := hide hFl
    clear hle ht hml hFl
    go_wp2_with (first | (at_next; refine next_txt _ rfl _ rfl w.heap.size w1.heap.size _ D R hRd left cnt l hnl HML.out HFL.out rfl hrg ?_ ?_) | go_in)
    · intro hnil
      subst hnil
      go_wp2_with fail
      go_ret
      refine ⟨?_, hBr⟩
      simp [lens]
    · intro k v w2 left' cnt' hk hv hm' hrg' hlt hg2 hs2 hen
      have hB2 := below_grown hBr hBr.size hg2 (fun j hj => by cases hj; exact hb.size)
      have hlen : Hid (lens R l = v.length + lens R (l.erase k)) := hide (by rw [lens_erase hk, hv]; rfl)
      go_wp2_with fail
      go_roundw
      case rel =>
        refine ⟨left', cnt', l.erase k, hrg', hnl.erase k, hm', fun x hx => HFL.out x (List.mem_of_mem_erase hx), by have := hlen.out; have := HLE.out; omega, ?_, hB2⟩
        have := hlen.out
        have := HLE.out
        have := HHT.out
        congr 1
        unfold wrap64
        omega
      case measure => rw [hrg'.left_eq, hrg.left_eq]; omega
end Go.Proofs.Ytkgljicibjlabaa
