/- How many bytes are free: the lengths of all texts added up; the contract of Disk.Room; no statement of the seat is proved here. -/
import Derived.Test.YtclgiapmbmbknaaMDiskMap
import Derived.Maps.RangeWalk
import Derived.Deep.AppendLies
namespace Go.Proofs.Ytclgiapmbmbknaa
open Go.RowKit Go.Maps

/-- The lengths of the texts of some names. -/
def lens (F : Fl) (l : List (List UInt8)) : Nat := (l.map (fun k => ((F k).getD []).length)).sum
/-- The lengths of all texts, added up. -/
def Tot (F : Fl) (n : Nat) : Prop := ∃ l : List (List UInt8), l.Nodup ∧ (∀ k, k ∈ l ↔ (F k).isSome = true) ∧ n = lens F l

theorem lens_perm {F : Fl} {l m : List (List UInt8)} (h : l.Perm m) : lens F l = lens F m := (h.map _).sum_nat
theorem lens_cons (F : Fl) (k : List UInt8) (l : List (List UInt8)) : lens F (k :: l) = ((F k).getD []).length + lens F l := by simp [lens]
theorem lens_erase {F : Fl} {l : List (List UInt8)} {k : List UInt8} (h : k ∈ l) : lens F l = ((F k).getD []).length + lens F (l.erase k) := by
  rw [lens_perm (List.perm_cons_erase h), lens_cons]
theorem lens_congr {F G : Fl} {l : List (List UInt8)} (h : ∀ k ∈ l, F k = G k) : lens F l = lens G l := by
  unfold lens
  congr 1
  exact List.map_congr_left fun k hk => by rw [h k hk]
theorem Tot.none : Tot (fun _ => none) 0 := ⟨[], by simp [lens]⟩
theorem Tot.uniq {F : Fl} {n m : Nat} (h : Tot F n) (k : Tot F m) : n = m := by
  obtain ⟨l, h1, h2, rfl⟩ := h
  obtain ⟨l', k1, k2, rfl⟩ := k
  exact lens_perm ((List.perm_ext_iff_of_nodup h1 k1).2 fun x => (h2 x).trans (k2 x).symm)
theorem Tot.del {F : Fl} {n : Nat} (h : Tot F n) (k : List UInt8) : ∃ m, Tot (F.del k) m ∧ m + ((F k).getD []).length = n := by
  obtain ⟨l, h1, h2, rfl⟩ := h
  refine ⟨lens F (l.erase k), ⟨l.erase k, h1.erase k, fun x => ?_, lens_congr fun x hx => ?_⟩, ?_⟩
  · rw [h1.mem_erase_iff, h2]
    by_cases e : x = k <;> simp [Fl.del, e]
  · have := (h1.mem_erase_iff.1 hx).1
    simp [Fl.del, this]
  · by_cases hk : k ∈ l
    · rw [lens_erase hk]; omega
    · have : F k = Option.none := by
        have := mt (h2 k).2 hk
        simpa using this
      rw [this, List.erase_of_not_mem hk]
      simp
theorem Tot.le {F : Fl} {n : Nat} (h : Tot F n) (k : List UInt8) : ((F k).getD []).length ≤ n := by
  obtain ⟨m, _, hm⟩ := h.del k
  omega
theorem Tot.set {F : Fl} {n : Nat} (h : Tot F n) (k v : List UInt8) : ∃ m, Tot (F.set k v) m ∧ m + ((F k).getD []).length = n + v.length := by
  obtain ⟨m, ⟨l, h1, h2, rfl⟩, hm⟩ := h.del k
  have hk : k ∉ l := fun hk => by have := (h2 k).1 hk; simp [Fl.del] at this
  refine ⟨v.length + lens (F.del k) l, ⟨k :: l, List.nodup_cons.2 ⟨hk, h1⟩, fun x => ?_, ?_⟩, by omega⟩
  · rw [List.mem_cons, h2]
    by_cases e : x = k <;> simp [Fl.del, Fl.set, e]
  · rw [lens_cons]
    congr 1
    · simp [Fl.set]
    · refine lens_congr fun x hx => ?_
      have : x ≠ k := fun e => hk (e ▸ hx)
      simp [Fl.set, Fl.del, this]

theorem string_inv {key : Value} {kl : Lit} (h : keyOf Try.prog 9 key = some kl) : ∃ l : List UInt8, key = S l ∧ kl = .string l := by
  cases key <;> simp [keyOf, Try.underlying9, mapKey] at h
  rename_i s
  refine ⟨s.data.toList, S_of s, ?_⟩
  simpa using h.2.symm

theorem below_grown {B : Nat} {a w w' : World} (h : Below B a w) (hB : B ≤ w.heap.size) {row : Option Nat} (hg : w.grownBy w' row) (hr : ∀ k, row = some k → B ≤ k) : Below B a w' :=
  h.trans (Keep.below ((Keep.refl (fun k => row = some k) w).grown hg (fun _ hk _ => hk)) hB hr)

/-- The step of a loop over a map of texts. -/
theorem next_txt (w : World) {ops : Array Oper} {rest : List Oper} {o : Oper} {a : Act} {Q : Exit → Act → World → Prop} (hg : o.guard = none) (it : Operand) (hop : o.op = Op.next it false)
    (b r n : Nat) (D : DataW Value) (F : Fl) (hR : Reads D F) (left : Lit → Bool) (cnt : Nat) (l : List (List UInt8)) (hl : l.Nodup) (hm : ∀ k, k ∈ l ↔ left (.string k) = true) (hF : ∀ k ∈ l, (F k).isSome = true)
    (hit : a.eval it = .pointer (some ⟨r, 0, none⟩)) (h : w.ranges Try.prog 9 heldR b r n D left cnt)
    (hDone : l = [] → wpList Try.prog ops Q rest (a.put o.dst (.tuple #[.bool false])) w)
    (hMore : ∀ (k v : List UInt8) (w' : World) (left' : Lit → Bool) (cnt' : Nat), k ∈ l → F k = some v → (∀ x, x ∈ l.erase k ↔ left' (.string x) = true) → w'.ranges Try.prog 9 heldR b r n D left' cnt' → cnt' < cnt →
      w.grownBy w' (some r) → w'.heap.size = w.heap.size → (Instr.entry (.pointer (some ⟨r, 0, none⟩))).run Try.prog w' = .ok (.tuple #[S k, S v]) w' → wpList Try.prog ops Q rest (a.put o.dst (.tuple #[.bool true, S k, S v])) w') :
    wpList Try.prog ops Q (o :: rest) a w := by
  refine wpList_next_ranges w hg it hop 9 klaw heldR S id (fun key kl hk => by obtain ⟨x, e, _⟩ := string_inv hk; exact ⟨x, e⟩) (fun v y _ => ⟨v, rfl⟩) b r n D left cnt hit h ?_ ?_
  · intro _ hL
    refine hDone (List.eq_nil_iff_forall_not_mem.2 fun x hx => ?_)
    have := (hm x).1 hx
    rw [hL] at this
    cases this
  · intro x c kl y w' cnt' hkey hlk hy hat hrg hlt hgr hsz hen
    obtain ⟨x', e1, rfl⟩ := string_inv hkey
    obtain rfl : x = x' := by
      have : (ByteArray.mk x.toArray) = ByteArray.mk x'.toArray := by injection e1
      have : x.toArray = x'.toArray := by injection this
      simpa using this
    have hx := (hm x).2 hlk
    obtain ⟨v, hv⟩ := Option.isSome_iff_exists.1 (hF x hx)
    have e2 := hat (.held (S []))
    have e3 := (hR.2 x).2 (S [])
    rw [hv] at e3
    simp only [Option.map_some, Option.getD_some] at e3
    obtain ⟨rfl⟩ : c = S v := by
      simp [heldR] at hy
      rw [← hy, e3] at e2
      exact (DataW.held.inj e2).symm
    refine hMore x v w' _ cnt' hx hv (fun z => ?_) hrg hlt hgr hsz hen
    rw [hl.mem_erase_iff, hm]
    by_cases e : z = x
    · subst e
      simp [WideAt.sameKey_self (keyLit_string z)]
    · have hs : (Lit.string z).sameKey (.string x) = false := by
        cases hc : (Lit.string z).sameKey (.string x) with
        | false => rfl
        | true =>
          exact absurd (Lit.string.inj (WideAt.sameKey_eq hc)) e
      simp [e, hs]

set_option maxRecDepth 100000 in
set_option maxHeartbeats 2000000 in
theorem room_any (g b N n c : Nat) (cs : List Ch) (A : Option Addr) (room : Nat) (fall : Int) (dn : Bool) (F R : Fl) (tot : Nat) (w : World)
    (hg : Blk w g 66 #[.map (some b), .slice A n c, .int .i64 room, .int .i64 fall, .bool dn]) (h : TxtIs w b N F)
    (hs : Rd w (fun k => w.heap.size ≤ k) 3 A n (cs.flatMap Ch.cells)) (hl : cs.length = n) (hn : n ≤ 100000) (hN : N ≤ 100000) (hok : ∀ c ∈ cs, c.ok ∧ c.k ≤ 2)
    (hR : cs.foldl chDo F = R) (hT : Tot R tot) (ht : tot ≤ 1000000000000) (hr : room ≤ 4194304) :
    Calls Try.prog 32 #[.pointer (some ⟨g, 0, none⟩)] w
      (fun e w' => e = .returned (.int .i64 ((room : Int) - tot)) ∧ Below w.heap.size w w') := by
  have HL := hide (files_any g b N n c cs A room fall dn F w hg h hs hl hn hN hok)
  rw [hR] at HL
  have c2 : w.cell? ⟨g, 2, none⟩ = some (.int .i64 room) := hg.cell 2
  clear hg h hs hl hn hN hok hR
  obtain ⟨l0, hn0, hm0, rfl⟩ := hT
  go_enter Try.func32, Try.ntmps32
  go_wp2_with fail
  refine HL.out.mono ?_
  rintro e w1 ⟨rfl, ⟨D, hD, hRd⟩, hb⟩
  go_wp2_with (first | (at_range; refine wpList_range_own _ rfl _ 63 rfl 9 9 klaw Try.underlying63 _ w.heap.size _ D rfl hD ?_; intro w0 hrg0 hg0 hs0) | go_in)
  go_frame
  have hB0 := below_grown hb hb.size hg0 (fun k hk => by cases hk)
  go_loopw [3] (fun v wr => ∃ left cnt l, wr.ranges Try.prog 9 heldR w.heap.size w1.heap.size (N + n) D left cnt ∧ l.Nodup ∧ (∀ k, k ∈ l ↔ left (.string k) = true) ∧ (∀ k ∈ l, (R k).isSome = true) ∧ lens R l ≤ lens R l0 ∧
      v = .int .i64 ((room : Int) - lens R l0 + lens R l) ∧ Below w.heap.size w wr) (fun _ wr => wr.rangeLeft w.heap.size w1.heap.size)
  case atStart => exact ⟨_, _, l0, hrg0, hn0, fun k => by rw [hm0, (hRd.2 k).1], fun k hk => (hm0 k).1 hk, Nat.le_refl _, by congr 1; omega, hB0⟩
  case round =>
    obtain ⟨left, cnt, l, hrg, hnl, hml, hFl, hle, rfl, hBr⟩ := hrel
    have HLE := hide hle
    have HHT := hide ht
    have HML := hide hml
    have HFL := hide hFl
    clear hle ht hml hFl
    go_wp2_with (first | (at_next; refine next_txt _ rfl _ rfl w.heap.size w1.heap.size _ D R hRd left cnt l hnl HML.out HFL.out rfl hrg ?_ ?_) | go_in)
    · intro hnil
      subst hnil
      go_wp2_with fail
      go_ret
      refine ⟨?_, hBr⟩
      simp [lens]
    · intro k v w2 left' cnt' hk hv hm' hrg' hlt hg2 hs2 hen
      have hB2 := below_grown hBr hBr.size hg2 (fun j hj => by cases hj; exact hb.size)
      have hlen : Hid (lens R l = v.length + lens R (l.erase k)) := hide (by rw [lens_erase hk, hv]; rfl)
      go_wp2_with fail
      go_roundw
      case rel =>
        refine ⟨left', cnt', l.erase k, hrg', hnl.erase k, hm', fun x hx => HFL.out x (List.mem_of_mem_erase hx), by have := hlen.out; have := HLE.out; omega, ?_, hB2⟩
        have := hlen.out
        have := HLE.out
        have := HHT.out
        congr 1
        unfold wrap64
        omega
      case measure => rw [hrg'.left_eq, hrg.left_eq]; omega
end Go.Proofs.Ytclgiapmbmbknaa
/- A disk as it stands; its turn, whatever fall is set; a text written where there is room: the contracts of Disk.turn and Disk.Write; no statement of the seat is proved here. -/
namespace Go.Proofs.Ytclgiapmbmbknaa
open Go.RowKit Go.Maps

/-- A disk: its block g, its map b, its changes a row of the call's own. -/
structure Dk (w : World) (B g b N n c : Nat) (A : Option Addr) (cs : List Ch) (room : Nat) (fall : Int) (dn : Bool) (F : Fl) : Prop where
  blk : Blk w g 66 #[.map (some b), .slice A n c, .int .i64 room, .int .i64 fall, .bool dn]
  txt : TxtIs w b N F
  own : w.ownsRow B 80 3 (.slice A n c) n (cs.flatMap Ch.cells)
  ok : ∀ c ∈ cs, c.ok ∧ c.k ≤ 2
  bB : B ≤ b
  gB : B ≤ g

theorem own_base' {w : World} {base : Nat} {e : TypeId} {size n : Nat} {v : Value} {xs : List Value} (h : w.ownsRow base e size v n xs) {k : Nat} (hk : v.ownBlock = some k) : base ≤ k ∧ k < w.heap.size := by
  rcases h.2 with ⟨rfl, _⟩ | ⟨g', cap, cur, rfl, hb, hh, _⟩
  · simp [Value.ownBlock] at hk
  · have : g' = k := by simpa [Value.ownBlock] using hk
    subst this
    exact ⟨hb, (Array.getElem?_eq_some_iff.1 hh).1⟩

theorem cells_len (cs : List Ch) : (cs.flatMap Ch.cells).length = cs.length * 3 := by
  induction cs with
  | nil => rfl
  | cons c cs ih => simp only [List.flatMap_cons, List.length_append, ih, List.length_cons, Ch.cells, List.length_nil]; omega

section
variable {w w' : World} {B g b N n c : Nat} {A : Option Addr} {cs : List Ch} {room : Nat} {fall : Int} {dn : Bool} {F : Fl}
theorem Dk.bg (h : Dk w B g b N n c A cs room fall dn F) : b ≠ g := by
  rintro rfl
  obtain ⟨D, ⟨es, clock, hb, _⟩, _⟩ := h.txt
  have := h.blk
  unfold Blk at this
  rw [this] at hb
  cases hb
theorem Dk.og (h : Dk w B g b N n c A cs room fall dn F) : (Value.slice A n c).ownBlock ≠ some g := own_blk_ne h.own h.blk (by decide)
theorem Dk.ob (h : Dk w B g b N n c A cs room fall dn F) : (Value.slice A n c).ownBlock ≠ some b := by
  intro e
  rcases h.own.2 with ⟨hv, _⟩ | ⟨g', cap, cur, hv, _, hh, _⟩
  · rw [hv] at e; simp [Value.ownBlock] at e
  · rw [hv] at e
    have : g' = b := by simpa [Value.ownBlock] using e
    subst this
    obtain ⟨D, ⟨es, clock, hb, _⟩, _⟩ := h.txt
    rw [hb] at hh
    cases hh
theorem Dk.len (h : Dk w B g b N n c A cs room fall dn F) : cs.length = n := by
  have := h.own.1
  rw [cells_len] at this
  omega
theorem Dk.rd (h : Dk w B g b N n c A cs room fall dn F) : Rd w (fun k => w.heap.size ≤ k) 3 A n (cs.flatMap Ch.cells) := by
  refine ⟨h.own.1, fun hn => ?_⟩
  obtain ⟨q, cap, hv, hb, hlt⟩ := h.own.form hn
  injection hv with hA _ hc
  subst hA hc
  refine ⟨q, 0, rfl, by omega, hlt, fun j u hu => ?_⟩
  have := h.own.cells (g := q) rfl j u hu
  simpa [Addr.add_lit] using this
theorem Dk.keep {S : Nat → Prop} (h : Dk w B g b N n c A cs room fall dn F) (hk : Keep S w w') (h1 : ¬ S g) (h2 : ¬ S b) (h3 : ∀ k, (Value.slice A n c).ownBlock = some k → ¬ S k) : Dk w' B g b N n c A cs room fall dn F :=
  ⟨h.blk.keep hk h1, h.txt.of_block (hk.block b h.txt.lt h2), own_keep h.own hk h3, h.ok, h.bB, h.gB⟩
theorem Dk.below (h : Dk w B g b N n c A cs room fall dn F) (hb : Below w.heap.size w w') : Dk w' B g b N n c A cs room fall dn F :=
  h.keep (Keep.of_below (F := fun k => w.heap.size ≤ k) hb fun _ _ h => h) (by have := h.blk.lt; omega) (by have := h.txt.lt; omega) (fun k hk => by have := (own_base' h.own hk).2; omega)
/-- Its own block turned, and that is all. -/
theorem Dk.turned {fall' : Int} {dn' : Bool} (h : Dk w B g b N n c A cs room fall dn F) (hk : Keep (fun k => k = g) w w')
    (hb : Blk w' g 66 #[.map (some b), .slice A n c, .int .i64 room, .int .i64 fall', .bool dn']) : Dk w' B g b N n c A cs room fall' dn' F :=
  ⟨hb, h.txt.of_block (hk.block b h.txt.lt h.bg), own_keep h.own hk (fun _ hk e => h.og (e ▸ hk)), h.ok, h.bB, h.gB⟩
end

set_option maxRecDepth 100000 in
set_option maxHeartbeats 2000000 in
theorem turn_go (g b n c : Nat) (A : Option Addr) (room fall : Int) (hf : fall ≠ 0) (hf2 : fall ≤ 9223372036854775807) (w : World)
    (hg : Blk w g 66 #[.map (some b), .slice A n c, .int .i64 room, .int .i64 fall, .bool false]) :
    Calls Try.prog 31 #[.pointer (some ⟨g, 0, none⟩)] w (fun e w' => e = .returned (.int .i64 0) ∧
      Blk w' g 66 #[.map (some b), .slice A n c, .int .i64 room, .int .i64 (if 0 < fall then fall - 1 else fall), .bool false] ∧ Keep (fun k => k = g) w w') := by
  have c3 : w.cell? ⟨g, 3, none⟩ = some (.int .i64 fall) := hg.cell 3
  have c4 : w.cell? ⟨g, 4, none⟩ = some (.bool false) := hg.cell 4
  have f3 := hg.frozen 3
  have d0 : ((fall : Int) == 0) = false := by simpa using hf
  by_cases hp : 0 < fall
  · have d1 : decide (0 < fall) = true := by simpa using hp
    have hs := hg.set_ 3 (.int .i64 (fall - 1))
    have hk := (Keep.refl (fun k => k = g) w).setCell (p := ⟨g, 3, none⟩) (fun _ => rfl) (.int .i64 (fall - 1))
    rw [if_pos hp]
    have hw64 : wrap64 (fall - 1) = fall - 1 := by unfold wrap64; omega
    have HS := hide hs
    have HK := hide hk
    clear hs hk hg
    go_enter Try.func31, Try.ntmps31
    go_wp2_with fail
    go_ret
    first
      | exact ⟨rfl, HS.out, HK.out⟩
      | (rw [hw64]; exact ⟨rfl, HS.out, HK.out⟩)
  · have d1 : decide (0 < fall) = false := by simpa using hp
    rw [if_neg hp]
    have HS := hide hg
    clear hg
    go_enter Try.func31, Try.ntmps31
    go_wp2_with fail
    go_ret
    exact ⟨rfl, HS.out, Keep.refl _ _⟩

set_option maxRecDepth 100000 in
set_option maxHeartbeats 2000000 in
theorem turn_stop (g b n c : Nat) (A : Option Addr) (room fall : Int) (dn : Bool) (hf : dn = true ∨ fall = 0) (w : World)
    (hg : Blk w g 66 #[.map (some b), .slice A n c, .int .i64 room, .int .i64 fall, .bool dn]) :
    Calls Try.prog 31 #[.pointer (some ⟨g, 0, none⟩)] w (fun e w' => e = .returned (.int .i64 8) ∧
      Blk w' g 66 #[.map (some b), .slice A n c, .int .i64 room, .int .i64 fall, .bool true] ∧ Keep (fun k => k = g) w w') := by
  have c3 : w.cell? ⟨g, 3, none⟩ = some (.int .i64 fall) := hg.cell 3
  have c4 : w.cell? ⟨g, 4, none⟩ = some (.bool dn) := hg.cell 4
  have f4 := hg.frozen 4
  cases dn with
  | true =>
    have HS := hide hg
    clear hg
    go_enter Try.func31, Try.ntmps31
    go_wp2_with fail
    go_ret
    exact ⟨rfl, HS.out, Keep.refl _ _⟩
  | false =>
    obtain rfl : fall = 0 := by simpa using hf
    have hs := hg.set_ 4 (.bool true)
    have hk := (Keep.refl (fun k => k = g) w).setCell (p := ⟨g, 4, none⟩) (fun _ => rfl) (.bool true)
    have HS := hide hs
    have HK := hide hk
    clear hs hk hg
    go_enter Try.func31, Try.ntmps31
    go_wp2_with fail
    go_ret
    exact ⟨rfl, HS.out, HK.out⟩

theorem chg_info : (Try.prog.info? 80).map (fun i => (i.zero, i.size, i.bytes)) = some (some (.agg #[.int .i64 0, .string { data := #[] }, .string { data := #[] }]), 3, 40) := by kernel_rfl

/-- One more change is laid. -/
theorem app_chg {w : World} {B g b N n c : Nat} {A : Option Addr} {cs : List Ch} {room : Nat} {fall : Int} {dn : Bool} {F : Fl} (h : Dk w B g b N n c A cs room fall dn F) (hn : n ≤ 100000) (hB : B ≤ w.heap.size) (ch : Ch) (hc : ch.ok ∧ ch.k ≤ 2)
    {ops : Array Oper} {rest : List Oper} {o : Oper} {a : Act} {Q : Exit → Act → World → Prop} (hgd : o.guard = none) (s x : Operand)
    (ho : o.op = .call { callee := .builtin .append, args := #[s, x], argTypes := #[64, 64] }) (hs : a.eval s = .slice A n c) (hx : a.eval x = .slice (some ⟨w.heap.size, 0, none⟩) 1 1)
    (hK : ∀ q cap w5, w5.cell? ⟨g, 1, none⟩ = some (.slice A n c) → w5.frozen? ⟨g, 1, none⟩ = false →
      (Dk (w5.setCell ⟨g, 1, none⟩ (.slice (some ⟨q, 0, none⟩) (n + 1) cap)) B g b N (n + 1) cap (some ⟨q, 0, none⟩) (cs ++ [ch]) room fall dn F ∧
        Keep (fun k => k = g ∨ (Value.slice A n c).ownBlock = some k) w (w5.setCell ⟨g, 1, none⟩ (.slice (some ⟨q, 0, none⟩) (n + 1) cap)) ∧ ((Value.slice A n c).ownBlock = some q ∨ w.heap.size ≤ q)) →
      wpList Try.prog ops Q rest (a.put o.dst (.slice (some ⟨q, 0, none⟩) (n + 1) cap)) w5) :
    wpList Try.prog ops Q (o :: rest) a (w.alloc (.cells #[.int .i64 ch.k, S ch.n, S ch.t] 80)) := by
  obtain ⟨i0, hi0, hz0, hz1, hz2⟩ := info_parts chg_info
  refine wpList_append_lies _ hgd s x 64 ho B 80 i0 _ 3 40 Try.underlying64 hi0 hz0 hz1 hz2 rfl (by decide) (.slice A n c) n (cs.flatMap Ch.cells) hs (h.own.alloc _) ⟨w.heap.size, 0, none⟩ 1 1 ch.cells hx rfl
    (World.news_of_block (heap_alloc_new _ _)) (fun u hu => ?_) (by decide) (by unfold maxLen; omega) (by omega) (by simp; omega) (w.heap.size + 1) (by simp) ?_
  · simp only [Ch.cells, List.mem_cons, List.not_mem_nil, or_false] at hu
    rcases hu with rfl | rfl | rfl <;> rfl
  intro q cap w5 hown hg hat _
  have k5 : Keep (fun k => (Value.slice A n c).ownBlock = some k) w w5 := ((Keep.refl _ w).alloc _).grown hg (fun k hk _ => hk)
  have hq : q ≠ g := by
    rintro rfl
    rcases hat with e | e
    · exact h.og e
    · have := h.blk.lt; omega
  have hb5 := h.blk.keep k5 h.og
  refine hK q cap w5 (hb5.cell 1) (hb5.frozen 1) ⟨⟨hb5.set_ 1 _, ?_, ?_, ?_, h.bB, h.gB⟩, (k5.mono fun _ _ h => .inr h).setCell (fun _ => .inl rfl) _, ?_⟩
  · exact (h.txt.of_block (k5.block b h.txt.lt h.ob)).of_block (Below.heap_setCell _ _ _ _ h.bg)
  · rw [List.flatMap_append]
    refine own_keep (F := fun k => k = g) (by simpa using hown) ((Keep.refl (fun k => k = g) w5).setCell (p := ⟨g, 1, none⟩) (fun _ => rfl) _) (fun k hk e => ?_)
    have : q = k := by simpa [Value.ownBlock] using hk
    exact hq (this.trans e)
  · intro x hx
    rcases List.mem_append.1 hx with h' | h'
    · exact h.ok x h'
    · rw [List.mem_singleton] at h'; subst h'; exact hc
  · rcases hat with e | e
    · exact .inl e
    · right; omega

set_option maxRecDepth 100000 in
set_option maxHeartbeats 2000000 in
theorem write_ok (B g b N n c : Nat) (A : Option Addr) (cs : List Ch) (room : Nat) (fall : Int) (F R : Fl) (tot : Nat) (nm t : List UInt8) (w : World)
    (h : Dk w B g b N n c A cs room fall false F) (hf : fall ≠ 0) (hf2 : fall ≤ 9223372036854775807) (hn : n ≤ 90000) (hN : N ≤ 100000) (hR : cs.foldl chDo F = R) (hT : Tot R tot) (ht : tot ≤ 1000000000000) (hr : room ≤ 4194304)
    (hm1 : nm ≠ []) (hm2 : nm.length ≤ 80) (htl : t.length ≤ 1000000) (hfit : (t.length : Int) ≤ room - tot + (((R nm).getD []).length : Int)) :
    Calls Try.prog 12 #[.pointer (some ⟨g, 0, none⟩), S nm, S t] w (fun e w' => e = .returned (.int .i64 0) ∧
      (∃ q cap, Dk w' B g b N (n + 1) cap (some ⟨q, 0, none⟩) (cs ++ [⟨0, nm, t⟩]) room (if 0 < fall then fall - 1 else fall) false F) ∧ Keep (fun k => k = g ∨ (Value.slice A n c).ownBlock = some k) w w') := by
  have HTU := hide (turn_go g b n c A room fall hf hf2 w h.blk)
  obtain ⟨fall', hfall⟩ : ∃ f : Int, f = if 0 < fall then fall - 1 else fall := ⟨_, rfl⟩
  rw [← hfall] at HTU ⊢
  clear hfall hf hf2
  have d0 : (nm == []) = false := by simpa using hm1
  have d1 : decide (80 < (nm.length : Int)) = false := by simp; omega
  have hsn : short nm := by unfold short; omega
  have hst : short t := by unfold short; omega
  have hkn := key_S hsn
  have HRE := hide hR
  have HH := hide h
  clear hR h hm1
  go_enter Try.func12, Try.ntmps12
  go_wp2_with fail
  refine HTU.out.mono ?_
  rintro e w1 ⟨rfl, hb1, hk1⟩
  have h1 := HH.out.turned hk1 hb1
  have HRO := hide (room_any g b N n c cs A room fall' false F R tot w1 h1.blk h1.txt h1.rd h1.len (by omega) hN h1.ok HRE.out hT ht hr)
  have H1 := hide h1
  have HK1 := hide hk1
  clear h1 hb1 hk1 HTU HH
  go_wp2_with fail
  refine HRO.out.mono ?_
  rintro e w2 ⟨rfl, hb2⟩
  have h2 := H1.out.below hb2
  have HFI := hide (files_any g b N n c cs A room fall' false F w2 h2.blk h2.txt h2.rd h2.len (by omega) hN h2.ok)
  rw [HRE.out] at HFI
  have HK2 := hide (Keep.of_below (F := fun _ => False) hb2 (fun k h1 h2 => by omega))
  have H2 := hide h2
  clear h2 hb2 HRO
  go_wp2_with fail
  refine HFI.out.mono ?_
  rintro e w3 ⟨rfl, ⟨D, hD, hRd⟩, hb3⟩
  have h3 := H2.out.below hb3
  have HK3 := hide (HK2.out.trans' (Keep.of_below (F := fun _ => False) hb3 (fun k h1 h2 => by omega)) (fun _ _ h => h))
  obtain ⟨o, ho⟩ : ∃ o, o = (R nm).getD [] := ⟨_, rfl⟩
  have hV : D.atKey (.string nm) (.held (S [])) = .held (S o) := by
    rw [(hRd.2 nm).2 (S []), ho]
    cases R nm <;> rfl
  have d2 : decide ((room : Int) - tot + o.length < t.length) = false := by rw [ho]; simp; omega
  have hx : wrap64 ((room : Int) - tot + o.length) = room - tot + o.length := by
    have := hT.le nm
    rw [← ho] at this
    unfold wrap64
    omega
  have H3 := hide h3
  have c1 : w3.cell? ⟨g, 1, none⟩ = some (.slice A n c) := h3.blk.cell 1
  have hB3 : B ≤ w3.heap.size := by have := h3.blk.lt; have := h3.gB; omega
  clear h3 hRd H2 HK2 HFI hb3 ho
  go_wp2_with (first | (at_lookup; refine lookup_held1 _ rfl _ _ 63 rfl 9 9 klaw Try.underlying63 (zero_str _) _ _ D rfl hD _ _ rfl hkn (S o) hV ?_) | (at_builtin; refine app_chg H3.out (by omega) hB3 ⟨0, nm, t⟩ ⟨⟨hsn, hst⟩, Nat.zero_le _⟩ rfl (.tmp 37) (.tmp 41) rfl rfl rfl ?_; intro q cap w5 c5 f5 hfin; have HF := hide hfin; clear hfin))
  go_ret
  have := HF.out
  exact ⟨rfl, ⟨q, cap, this.1⟩, (HK1.out.mono (fun _ _ h => .inl h)).trans ((HK3.out.mono (fun _ _ h => h.elim)).trans this.2.1)⟩
end Go.Proofs.Ytclgiapmbmbknaa
/- A file given another name: the contract of Disk.Rename where it does so; no statement of the seat is proved here. -/
namespace Go.Proofs.Ytclgiapmbmbknaa
open Go.RowKit Go.Maps

set_option maxRecDepth 100000 in
set_option maxHeartbeats 2000000 in
theorem rename_ok (B g b N n c : Nat) (A : Option Addr) (cs : List Ch) (room : Nat) (fall : Int) (F R : Fl) (nm to : List UInt8) (w : World)
    (h : Dk w B g b N n c A cs room fall false F) (hf : fall ≠ 0) (hf2 : fall ≤ 9223372036854775807) (hn : n ≤ 90000) (hN : N ≤ 100000) (hR : cs.foldl chDo F = R)
    (hsn : short nm) (hm1 : to ≠ []) (hm2 : to.length ≤ 80) (hB1 : (R nm).isSome = true) :
    Calls Try.prog 26 #[.pointer (some ⟨g, 0, none⟩), S nm, S to] w (fun e w' => e = .returned (.int .i64 0) ∧
      (∃ q cap, Dk w' B g b N (n + 1) cap (some ⟨q, 0, none⟩) (cs ++ [⟨1, nm, to⟩]) room (if 0 < fall then fall - 1 else fall) false F) ∧ Keep (fun k => k = g ∨ (Value.slice A n c).ownBlock = some k) w w') := by
  have HTU := hide (turn_go g b n c A room fall hf hf2 w h.blk)
  obtain ⟨fall', hfall⟩ : ∃ f : Int, f = if 0 < fall then fall - 1 else fall := ⟨_, rfl⟩
  rw [← hfall] at HTU ⊢
  clear hfall hf hf2
  have d0 : (to == []) = false := by simpa using hm1
  have d1 : decide (80 < (to.length : Int)) = false := by simp; omega
  have hst : short to := by unfold short; omega
  have hkn := key_S hsn
  have HRE := hide hR
  have HH := hide h
  clear hR h hm1
  go_enter Try.func26, Try.ntmps26
  go_wp2_with fail
  refine HTU.out.mono ?_
  rintro e w1 ⟨rfl, hb1, hk1⟩
  have h1 := HH.out.turned hk1 hb1
  have HFI := hide (files_any g b N n c cs A room fall' false F w1 h1.blk h1.txt h1.rd h1.len (by omega) hN h1.ok)
  rw [HRE.out] at HFI
  have H1 := hide h1
  have HK1 := hide hk1
  clear h1 hb1 hk1 HTU HH
  go_wp2_with fail
  refine HFI.out.mono ?_
  rintro e w3 ⟨rfl, ⟨D, hD, hRd⟩, hb3⟩
  have h3 := H1.out.below hb3
  have HK3 := hide (Keep.of_below (F := fun _ => False) hb3 (fun k h1 h2 => by omega))
  have hB := (hRd.2 nm).1.trans hB1
  obtain ⟨o, ho⟩ := Option.isSome_iff_exists.1 hB1
  have hV : D.atKey (.string nm) (.held (S [])) = .held (S o) := by
    rw [(hRd.2 nm).2 (S []), ho]
    rfl
  have H3 := hide h3
  have c1 : w3.cell? ⟨g, 1, none⟩ = some (.slice A n c) := h3.blk.cell 1
  have hB3 : B ≤ w3.heap.size := by have := h3.blk.lt; have := h3.gB; omega
  clear h3 hRd HFI hb3 ho hB1
  go_wp2_with (first | (at_lookup; refine lookup_held2 _ rfl _ _ 63 rfl 9 9 klaw Try.underlying63 (zero_str _) _ _ D rfl hD _ _ rfl hkn (S o) true hV hB ?_) | (at_builtin; refine app_chg H3.out (by omega) hB3 ⟨1, nm, to⟩ ⟨⟨hsn, hst⟩, Nat.le_succ _⟩ rfl (.tmp 37) (.tmp 41) rfl rfl rfl ?_; intro q cap w5 c5 f5 hfin; have HF := hide hfin; clear hfin))
  go_ret
  have := HF.out
  exact ⟨rfl, ⟨q, cap, this.1⟩, (HK1.out.mono (fun _ _ h => .inl h)).trans ((HK3.out.mono (fun _ _ h => h.elim)).trans this.2.1)⟩
end Go.Proofs.Ytclgiapmbmbknaa
/- The contracts of a disk's functions in the words of a disk as it stands: New, Sync, Read, Crash; no statement of the seat is proved here. -/
namespace Go.Proofs.Ytclgiapmbmbknaa
open Go.RowKit Go.Maps

theorem new_dk (room : Nat) (hr : room ≤ 4194304) (w : World) :
    Calls Try.prog 7 #[.int .i64 room] w (fun e w' => ∃ g b, e = .returned (.pointer (some ⟨g, 0, none⟩)) ∧ Dk w' w.heap.size g b 0 0 0 none [] room (-1) false (fun _ => none) ∧ Below w.heap.size w w') := by
  refine (dnew_any room hr w).mono ?_
  rintro e w' ⟨rfl, rfl⟩
  refine ⟨_, _, rfl, ⟨?_, ?_, ?_, by simp, Nat.le_refl _, by omega⟩, ((Below.refl _ _).alloc (Nat.le_refl _) _).alloc (by simp) _⟩
  · have := Blk.new (w.alloc (.map #[] 0)) 66 #[.map (some w.heap.size), .slice none 0 0, .int .i64 room, .int .i64 (-1), .bool false]
    rw [World.size_alloc] at this
    exact this
  · exact (TxtIs.made w).of_block (Below.heap_alloc _ _ _ (by simp))
  · simpa using World.ownsRow_nil _ w.heap.size 80 3

set_option maxRecDepth 100000 in
set_option maxHeartbeats 2000000 in
theorem sync_dk (B g b N n c : Nat) (A : Option Addr) (cs : List Ch) (room : Nat) (fall : Int) (F R : Fl) (w : World)
    (h : Dk w B g b N n c A cs room fall false F) (hf : fall ≠ 0) (hf2 : fall ≤ 9223372036854775807) (hn : n ≤ 90000) (hN : N ≤ 100000) (hR : cs.foldl chDo F = R) :
    Calls Try.prog 27 #[.pointer (some ⟨g, 0, none⟩)] w
      (fun e w' => e = .returned (.int .i64 0) ∧ (∃ b', Dk w' B g b' (N + n) 0 0 none [] room (if 0 < fall then fall - 1 else fall) false R ∧ w.heap.size ≤ b') ∧ Keep (fun k => k = g) w w') := by
  have HTU := hide (turn_go g b n c A room fall hf hf2 w h.blk)
  obtain ⟨fall', hfall⟩ : ∃ f : Int, f = if 0 < fall then fall - 1 else fall := ⟨_, rfl⟩
  rw [← hfall] at HTU ⊢
  clear hfall hf hf2
  have HRE := hide hR
  have HH := hide h
  clear hR h
  go_enter Try.func27, Try.ntmps27
  go_wp2_with fail
  refine HTU.out.mono ?_
  rintro e w1 ⟨rfl, hb1, hk1⟩
  have h1 := HH.out.turned hk1 hb1
  have HFI := hide (files_any g b N n c cs A room fall' false F w1 h1.blk h1.txt h1.rd h1.len (by omega) hN h1.ok)
  rw [HRE.out] at HFI
  have H1 := hide h1
  have HK1 := hide hk1
  clear h1 hb1 hk1 HTU HH
  go_wp2_with fail
  refine HFI.out.mono ?_
  rintro e w2 ⟨rfl, ht, hb⟩
  have h2 := H1.out.below hb
  have hk2 := h2.blk
  have f0 := hk2.frozen 0
  have f1 := hk2.frozen 1
  have p0 : w2.cell? ⟨g, 0, none⟩ = some (.map (some b)) := hk2.cell 0
  have p1 : w2.cell? ⟨g, 1, none⟩ = some (.slice A n c) := hk2.cell 1
  have hk3 := (hk2.set_ 0 (.map (some w1.heap.size))).set_ 1 (.slice none 0 0)
  have hne : w1.heap.size ≠ g := by have := H1.out.blk.lt; omega
  have ht3 := (ht.of_block (Below.heap_setCell w2 ⟨g, 0, none⟩ (.map (some w1.heap.size)) _ hne)).of_block (Below.heap_setCell (w2.setCell ⟨g, 0, none⟩ (.map (some w1.heap.size))) ⟨g, 1, none⟩ (.slice none 0 0) _ hne)
  have hk := ((Keep.of_below (F := fun k => k = g) hb (fun k h1 h2 => by omega)).setCell (p := ⟨g, 0, none⟩) (fun _ => rfl) (.map (some w1.heap.size))).setCell (p := ⟨g, 1, none⟩) (fun _ => rfl) (.slice none 0 0)
  have hon : ∀ w : World, w.ownsRow B 80 3 (.slice none 0 0) 0 (([] : List Ch).flatMap Ch.cells) := fun w => by simpa using World.ownsRow_nil w B 80 3
  have hBb : B ≤ w1.heap.size := by have := H1.out.blk.lt; have := H1.out.gB; omega
  have HF := hide (show Dk ((w2.setCell ⟨g, 0, none⟩ (.map (some w1.heap.size))).setCell ⟨g, 1, none⟩ (.slice none 0 0)) B g w1.heap.size (N + n) 0 0 none [] room fall' false R from ⟨hk3, ht3, hon _, by simp, hBb, H1.out.gB⟩)
  have HKK := hide (HK1.out.trans hk)
  clear hk3 ht3 hk ht hb hk2 h2 hon hne HRE HFI
  go_wp2_with fail
  go_ret
  exact ⟨rfl, ⟨_, HF.out, HK1.out.size⟩, HKK.out⟩

theorem read_dk (B g b N n c : Nat) (A : Option Addr) (cs : List Ch) (room : Nat) (fall : Int) (F R : Fl) (k : List UInt8) (hk : short k) (w : World)
    (h : Dk w B g b N n c A cs room fall false F) (hn : n ≤ 100000) (hN : N ≤ 100000) (hR : cs.foldl chDo F = R) :
    Calls Try.prog 34 #[.pointer (some ⟨g, 0, none⟩), S k] w
      (fun e w' => e = .returned (.tuple #[S ((R k).getD []), .int .i64 (if (R k).isSome then 0 else 5)]) ∧ Below w.heap.size w w') := by
  subst hR
  exact read_any g b N n c cs A room fall F k hk w h.blk h.txt h.rd h.len hn hN h.ok

theorem crash_dk (B g b N n c kn kc : Nat) (A KA : Option Addr) (cs : List Ch) (ks : List Bool) (room : Nat) (fall : Int) (dn : Bool) (F R : Fl) (w : World)
    (h : Dk w B g b N n c A cs room fall dn F) (hr : room ≤ 4194304) (hn : n ≤ 100000) (hN : N ≤ 100000) (hR : (kept ks cs).foldl chDo F = R) (hk : Rd w (fun k => w.heap.size ≤ k) 1 KA kn (ks.map .bool)) (hkl : ks.length = kn) :
    Calls Try.prog 17 #[.pointer (some ⟨g, 0, none⟩), .slice KA kn kc] w
      (fun e w' => ∃ g' b', e = .returned (.pointer (some ⟨g', 0, none⟩)) ∧ Dk w' w.heap.size g' b' (N + n) 0 0 none [] room (-1) false R ∧ Below w.heap.size w w') := by
  subst hR
  refine (crash_any g b N n c kn kc room cs A KA ks fall dn F w h.blk h.txt hr h.rd h.len hn hN h.ok hk hkl).mono ?_
  rintro e w' ⟨g', b', rfl, h1, h2, h3, h4, h5⟩
  exact ⟨g', b', rfl, ⟨h1, h2, by simpa using World.ownsRow_nil w' w.heap.size 80 3, by simp, h5, h4⟩, h3⟩
end Go.Proofs.Ytclgiapmbmbknaa
/- What Write, Rename, Remove, Sync answer where they turn nothing; Remove where it does; no statement of the seat is proved here. -/
namespace Go.Proofs.Ytclgiapmbmbknaa
open Go.RowKit Go.Maps

set_option maxRecDepth 100000 in
set_option maxHeartbeats 2000000 in
theorem write_stop (B g b N n c : Nat) (A : Option Addr) (cs : List Ch) (room : Nat) (fall : Int) (dn : Bool) (F : Fl) (nm t : List UInt8) (w : World)
    (h : Dk w B g b N n c A cs room fall dn F) (hf : dn = true ∨ fall = 0) :
    Calls Try.prog 12 #[.pointer (some ⟨g, 0, none⟩), S nm, S t] w (fun e w' => e = .returned (.int .i64 8) ∧ Dk w' B g b N n c A cs room fall true F ∧ Keep (fun k => k = g) w w') := by
  have HTU := hide (turn_stop g b n c A room fall dn hf w h.blk)
  have HH := hide h
  clear h hf
  go_enter Try.func12, Try.ntmps12
  go_wp2_with fail
  refine HTU.out.mono ?_
  rintro e w1 ⟨rfl, hb1, hk1⟩
  have h1 := HH.out.turned hk1 hb1
  have H1 := hide h1
  have HK1 := hide hk1
  clear h1 hb1 hk1 HTU HH
  go_wp2_with fail
  go_ret
  exact ⟨rfl, H1.out, HK1.out⟩

set_option maxRecDepth 100000 in
set_option maxHeartbeats 2000000 in
theorem rename_stop (B g b N n c : Nat) (A : Option Addr) (cs : List Ch) (room : Nat) (fall : Int) (dn : Bool) (F : Fl) (nm t : List UInt8) (w : World)
    (h : Dk w B g b N n c A cs room fall dn F) (hf : dn = true ∨ fall = 0) :
    Calls Try.prog 26 #[.pointer (some ⟨g, 0, none⟩), S nm, S t] w (fun e w' => e = .returned (.int .i64 8) ∧ Dk w' B g b N n c A cs room fall true F ∧ Keep (fun k => k = g) w w') := by
  have HTU := hide (turn_stop g b n c A room fall dn hf w h.blk)
  have HH := hide h
  clear h hf
  go_enter Try.func26, Try.ntmps26
  go_wp2_with fail
  refine HTU.out.mono ?_
  rintro e w1 ⟨rfl, hb1, hk1⟩
  have h1 := HH.out.turned hk1 hb1
  have H1 := hide h1
  have HK1 := hide hk1
  clear h1 hb1 hk1 HTU HH
  go_wp2_with fail
  go_ret
  exact ⟨rfl, H1.out, HK1.out⟩

set_option maxRecDepth 100000 in
set_option maxHeartbeats 2000000 in
theorem remove_stop (B g b N n c : Nat) (A : Option Addr) (cs : List Ch) (room : Nat) (fall : Int) (dn : Bool) (F : Fl) (nm : List UInt8) (w : World)
    (h : Dk w B g b N n c A cs room fall dn F) (hf : dn = true ∨ fall = 0) :
    Calls Try.prog 13 #[.pointer (some ⟨g, 0, none⟩), S nm] w (fun e w' => e = .returned (.int .i64 8) ∧ Dk w' B g b N n c A cs room fall true F ∧ Keep (fun k => k = g) w w') := by
  have HTU := hide (turn_stop g b n c A room fall dn hf w h.blk)
  have HH := hide h
  clear h hf
  go_enter Try.func13, Try.ntmps13
  go_wp2_with fail
  refine HTU.out.mono ?_
  rintro e w1 ⟨rfl, hb1, hk1⟩
  have h1 := HH.out.turned hk1 hb1
  have H1 := hide h1
  have HK1 := hide hk1
  clear h1 hb1 hk1 HTU HH
  go_wp2_with fail
  go_ret
  exact ⟨rfl, H1.out, HK1.out⟩

set_option maxRecDepth 100000 in
set_option maxHeartbeats 2000000 in
theorem sync_stop (B g b N n c : Nat) (A : Option Addr) (cs : List Ch) (room : Nat) (fall : Int) (dn : Bool) (F : Fl) (w : World)
    (h : Dk w B g b N n c A cs room fall dn F) (hf : dn = true ∨ fall = 0) :
    Calls Try.prog 27 #[.pointer (some ⟨g, 0, none⟩)] w (fun e w' => e = .returned (.int .i64 8) ∧ Dk w' B g b N n c A cs room fall true F ∧ Keep (fun k => k = g) w w') := by
  have HTU := hide (turn_stop g b n c A room fall dn hf w h.blk)
  have HH := hide h
  clear h hf
  go_enter Try.func27, Try.ntmps27
  go_wp2_with fail
  refine HTU.out.mono ?_
  rintro e w1 ⟨rfl, hb1, hk1⟩
  have h1 := HH.out.turned hk1 hb1
  have H1 := hide h1
  have HK1 := hide hk1
  clear h1 hb1 hk1 HTU HH
  go_wp2_with fail
  go_ret
  exact ⟨rfl, H1.out, HK1.out⟩

set_option maxRecDepth 100000 in
set_option maxHeartbeats 2000000 in
theorem write_arg (B g b N n c : Nat) (A : Option Addr) (cs : List Ch) (room : Nat) (fall : Int) (F : Fl) (nm t : List UInt8) (w : World)
    (h : Dk w B g b N n c A cs room fall false F) (hf : fall ≠ 0) (hf2 : fall ≤ 9223372036854775807) (hm : nm = [] ∨ 80 < nm.length) :
    Calls Try.prog 12 #[.pointer (some ⟨g, 0, none⟩), S nm, S t] w (fun e w' => e = .returned (.int .i64 1) ∧
      Dk w' B g b N n c A cs room (if 0 < fall then fall - 1 else fall) false F ∧ Keep (fun k => k = g) w w') := by
  have HTU := hide (turn_go g b n c A room fall hf hf2 w h.blk)
  obtain ⟨fall', hfall⟩ : ∃ f : Int, f = if 0 < fall then fall - 1 else fall := ⟨_, rfl⟩
  rw [← hfall] at HTU ⊢
  clear hfall hf hf2
  have HH := hide h
  clear h
  go_enter Try.func12, Try.ntmps12
  go_wp2_with fail
  refine HTU.out.mono ?_
  rintro e w1 ⟨rfl, hb1, hk1⟩
  have h1 := HH.out.turned hk1 hb1
  have H1 := hide h1
  have HK1 := hide hk1
  clear h1 hb1 hk1 HTU HH
  by_cases he : nm = []
  · have d0 : (nm == []) = true := by simpa using he
    go_wp2_with fail
    go_ret
    exact ⟨rfl, H1.out, HK1.out⟩
  · have d0 : (nm == []) = false := by simpa using he
    have d1 : decide (80 < (nm.length : Int)) = true := by
      rcases hm with h | h
      · exact absurd h he
      · simp; omega
    clear hm
    go_wp2_with fail
    go_ret
    exact ⟨rfl, H1.out, HK1.out⟩

set_option maxRecDepth 100000 in
set_option maxHeartbeats 2000000 in
theorem write_full (B g b N n c : Nat) (A : Option Addr) (cs : List Ch) (room : Nat) (fall : Int) (F : Fl) (R : Fl) (tot : Nat) (nm t : List UInt8) (w : World)
    (h : Dk w B g b N n c A cs room fall false F) (hf : fall ≠ 0) (hf2 : fall ≤ 9223372036854775807) (hn : n ≤ 90000) (hN : N ≤ 100000) (hR : cs.foldl chDo F = R) (hT : Tot R tot) (ht : tot ≤ 1000000000000) (hr : room ≤ 4194304)
    (hm1 : nm ≠ []) (hm2 : nm.length ≤ 80) (hfit : (room : Int) - tot + (((R nm).getD []).length : Int) < t.length) :
    Calls Try.prog 12 #[.pointer (some ⟨g, 0, none⟩), S nm, S t] w (fun e w' => e = .returned (.int .i64 7) ∧
      Dk w' B g b N n c A cs room (if 0 < fall then fall - 1 else fall) false F ∧ Keep (fun k => k = g) w w') := by
  have HTU := hide (turn_go g b n c A room fall hf hf2 w h.blk)
  obtain ⟨fall', hfall⟩ : ∃ f : Int, f = if 0 < fall then fall - 1 else fall := ⟨_, rfl⟩
  rw [← hfall] at HTU ⊢
  clear hfall hf hf2
  have d0 : (nm == []) = false := by simpa using hm1
  have d1 : decide (80 < (nm.length : Int)) = false := by simp; omega
  have hsn : short nm := by unfold short; omega
  have hkn := key_S hsn
  have HRE := hide hR
  clear hR hm1
  have HH := hide h
  clear h
  go_enter Try.func12, Try.ntmps12
  go_wp2_with fail
  refine HTU.out.mono ?_
  rintro e w1 ⟨rfl, hb1, hk1⟩
  have h1 := HH.out.turned hk1 hb1
  have HRO := hide (room_any g b N n c cs A room fall' false F R tot w1 h1.blk h1.txt h1.rd h1.len (by omega) hN h1.ok HRE.out hT ht hr)
  have H1 := hide h1
  have HK1 := hide hk1
  clear h1 hb1 hk1 HTU HH
  go_wp2_with fail
  refine HRO.out.mono ?_
  rintro e w2 ⟨rfl, hb2⟩
  have h2 := H1.out.below hb2
  have HFI := hide (files_any g b N n c cs A room fall' false F w2 h2.blk h2.txt h2.rd h2.len (by omega) hN h2.ok)
  rw [HRE.out] at HFI
  have HK2 := hide (Keep.of_below (F := fun _ => False) hb2 (fun k h1 h2 => by omega))
  have H2 := hide h2
  clear h2 hb2 HRO
  go_wp2_with fail
  refine HFI.out.mono ?_
  rintro e w3 ⟨rfl, ⟨D, hD, hRd⟩, hb3⟩
  have h3 := H2.out.below hb3
  have HK3 := hide (HK2.out.trans' (Keep.of_below (F := fun _ => False) hb3 (fun k h1 h2 => by omega)) (fun _ _ h => h))
  obtain ⟨o, ho⟩ : ∃ o, o = (R nm).getD [] := ⟨_, rfl⟩
  have hV : D.atKey (.string nm) (.held (S [])) = .held (S o) := by
    rw [(hRd.2 nm).2 (S []), ho]
    cases R nm <;> rfl
  have d2 : decide ((room : Int) - tot + o.length < t.length) = true := by rw [ho]; simp; omega
  have hx : wrap64 ((room : Int) - tot + o.length) = room - tot + o.length := by
    have := hT.le nm
    rw [← ho] at this
    unfold wrap64
    omega
  have H3 := hide h3
  clear h3 hRd H2 HK2 HFI hb3 ho
  go_wp2_with (at_lookup; refine lookup_held1 _ rfl _ _ 63 rfl 9 9 klaw Try.underlying63 (zero_str _) _ _ D rfl hD _ _ rfl hkn (S o) hV ?_)
  go_ret
  exact ⟨rfl, H3.out, HK1.out.trans (HK3.out.mono (fun _ _ h => h.elim))⟩

set_option maxRecDepth 100000 in
set_option maxHeartbeats 2000000 in
theorem rename_arg (B g b N n c : Nat) (A : Option Addr) (cs : List Ch) (room : Nat) (fall : Int) (F : Fl) (R : Fl) (nm t : List UInt8) (w : World)
    (h : Dk w B g b N n c A cs room fall false F) (hf : fall ≠ 0) (hf2 : fall ≤ 9223372036854775807) (hn : n ≤ 90000) (hN : N ≤ 100000) (hR : cs.foldl chDo F = R) (hsn : short nm) (hm : t = [] ∨ 80 < t.length) :
    Calls Try.prog 26 #[.pointer (some ⟨g, 0, none⟩), S nm, S t] w (fun e w' => e = .returned (.int .i64 1) ∧
      Dk w' B g b N n c A cs room (if 0 < fall then fall - 1 else fall) false F ∧ Keep (fun k => k = g) w w') := by
  have HTU := hide (turn_go g b n c A room fall hf hf2 w h.blk)
  obtain ⟨fall', hfall⟩ : ∃ f : Int, f = if 0 < fall then fall - 1 else fall := ⟨_, rfl⟩
  rw [← hfall] at HTU ⊢
  clear hfall hf hf2
  have hkn := key_S hsn
  have HRE := hide hR
  clear hR
  have HH := hide h
  clear h
  go_enter Try.func26, Try.ntmps26
  go_wp2_with fail
  refine HTU.out.mono ?_
  rintro e w1 ⟨rfl, hb1, hk1⟩
  have h1 := HH.out.turned hk1 hb1
  have HFI := hide (files_any g b N n c cs A room fall' false F w1 h1.blk h1.txt h1.rd h1.len (by omega) hN h1.ok)
  rw [HRE.out] at HFI
  have H1 := hide h1
  have HK1 := hide hk1
  clear h1 hb1 hk1 HTU HH
  go_wp2_with fail
  refine HFI.out.mono ?_
  rintro e w3 ⟨rfl, ⟨D, hD, hRd⟩, hb3⟩
  have h3 := H1.out.below hb3
  have HK3 := hide (Keep.of_below (F := fun _ => False) hb3 (fun k h1 h2 => by omega))
  have hB := (hRd.2 nm).1
  have hV := (hRd.2 nm).2 (S [])
  obtain ⟨bb, hbb⟩ : ∃ bb, bb = (R nm).isSome := ⟨_, rfl⟩
  obtain ⟨o, ho⟩ : ∃ o, S o = ((R nm).map S).getD (S []) := by
    cases R nm with
    | none => exact ⟨_, rfl⟩
    | some o => exact ⟨o, rfl⟩
  rw [← hbb] at hB
  rw [← ho] at hV
  have H3 := hide h3
  clear h3 hRd HFI hb3 ho hbb
  by_cases he : t = []
  · have d0 : (t == []) = true := by simpa using he
    go_wp2_with (at_lookup; refine lookup_held2 _ rfl _ _ 63 rfl 9 9 klaw Try.underlying63 (zero_str _) _ _ D rfl hD _ _ rfl hkn (S o) bb hV hB ?_)
    go_ret
    exact ⟨rfl, H3.out, HK1.out.trans (HK3.out.mono (fun _ _ h => h.elim))⟩
  · have d0 : (t == []) = false := by simpa using he
    have d1 : decide (80 < (t.length : Int)) = true := by
      rcases hm with h | h
      · exact absurd h he
      · simp; omega
    clear hm
    go_wp2_with (at_lookup; refine lookup_held2 _ rfl _ _ 63 rfl 9 9 klaw Try.underlying63 (zero_str _) _ _ D rfl hD _ _ rfl hkn (S o) bb hV hB ?_)
    go_ret
    exact ⟨rfl, H3.out, HK1.out.trans (HK3.out.mono (fun _ _ h => h.elim))⟩

set_option maxRecDepth 100000 in
set_option maxHeartbeats 2000000 in
theorem rename_none (B g b N n c : Nat) (A : Option Addr) (cs : List Ch) (room : Nat) (fall : Int) (F : Fl) (R : Fl) (nm t : List UInt8) (w : World)
    (h : Dk w B g b N n c A cs room fall false F) (hf : fall ≠ 0) (hf2 : fall ≤ 9223372036854775807) (hn : n ≤ 90000) (hN : N ≤ 100000) (hR : cs.foldl chDo F = R) (hsn : short nm) (hm1 : t ≠ []) (hm2 : t.length ≤ 80) (hB1 : R nm = none) :
    Calls Try.prog 26 #[.pointer (some ⟨g, 0, none⟩), S nm, S t] w (fun e w' => e = .returned (.int .i64 5) ∧
      Dk w' B g b N n c A cs room (if 0 < fall then fall - 1 else fall) false F ∧ Keep (fun k => k = g) w w') := by
  have HTU := hide (turn_go g b n c A room fall hf hf2 w h.blk)
  obtain ⟨fall', hfall⟩ : ∃ f : Int, f = if 0 < fall then fall - 1 else fall := ⟨_, rfl⟩
  rw [← hfall] at HTU ⊢
  clear hfall hf hf2
  have d0 : (t == []) = false := by simpa using hm1
  have d1 : decide (80 < (t.length : Int)) = false := by simp; omega
  have hkn := key_S hsn
  have HRE := hide hR
  clear hR hm1
  have HH := hide h
  clear h
  go_enter Try.func26, Try.ntmps26
  go_wp2_with fail
  refine HTU.out.mono ?_
  rintro e w1 ⟨rfl, hb1, hk1⟩
  have h1 := HH.out.turned hk1 hb1
  have HFI := hide (files_any g b N n c cs A room fall' false F w1 h1.blk h1.txt h1.rd h1.len (by omega) hN h1.ok)
  rw [HRE.out] at HFI
  have H1 := hide h1
  have HK1 := hide hk1
  clear h1 hb1 hk1 HTU HH
  go_wp2_with fail
  refine HFI.out.mono ?_
  rintro e w3 ⟨rfl, ⟨D, hD, hRd⟩, hb3⟩
  have h3 := H1.out.below hb3
  have HK3 := hide (Keep.of_below (F := fun _ => False) hb3 (fun k h1 h2 => by omega))
  have hB := (hRd.2 nm).1
  have hV := (hRd.2 nm).2 (S [])
  rw [hB1] at hB hV
  simp only [Option.isSome_none, Option.map_none, Option.getD_none] at hB hV
  have H3 := hide h3
  clear h3 hRd HFI hb3 hB1
  go_wp2_with (at_lookup; refine lookup_held2 _ rfl _ _ 63 rfl 9 9 klaw Try.underlying63 (zero_str _) _ _ D rfl hD _ _ rfl hkn (S []) false hV hB ?_)
  go_ret
  exact ⟨rfl, H3.out, HK1.out.trans (HK3.out.mono (fun _ _ h => h.elim))⟩

set_option maxRecDepth 100000 in
set_option maxHeartbeats 2000000 in
theorem remove_none (B g b N n c : Nat) (A : Option Addr) (cs : List Ch) (room : Nat) (fall : Int) (F : Fl) (R : Fl) (nm : List UInt8) (w : World)
    (h : Dk w B g b N n c A cs room fall false F) (hf : fall ≠ 0) (hf2 : fall ≤ 9223372036854775807) (hn : n ≤ 90000) (hN : N ≤ 100000) (hR : cs.foldl chDo F = R) (hsn : short nm) (hB1 : R nm = none) :
    Calls Try.prog 13 #[.pointer (some ⟨g, 0, none⟩), S nm] w (fun e w' => e = .returned (.int .i64 5) ∧
      Dk w' B g b N n c A cs room (if 0 < fall then fall - 1 else fall) false F ∧ Keep (fun k => k = g) w w') := by
  have HTU := hide (turn_go g b n c A room fall hf hf2 w h.blk)
  obtain ⟨fall', hfall⟩ : ∃ f : Int, f = if 0 < fall then fall - 1 else fall := ⟨_, rfl⟩
  rw [← hfall] at HTU ⊢
  clear hfall hf hf2
  have hkn := key_S hsn
  have HRE := hide hR
  clear hR
  have HH := hide h
  clear h
  go_enter Try.func13, Try.ntmps13
  go_wp2_with fail
  refine HTU.out.mono ?_
  rintro e w1 ⟨rfl, hb1, hk1⟩
  have h1 := HH.out.turned hk1 hb1
  have HFI := hide (files_any g b N n c cs A room fall' false F w1 h1.blk h1.txt h1.rd h1.len (by omega) hN h1.ok)
  rw [HRE.out] at HFI
  have H1 := hide h1
  have HK1 := hide hk1
  clear h1 hb1 hk1 HTU HH
  go_wp2_with fail
  refine HFI.out.mono ?_
  rintro e w3 ⟨rfl, ⟨D, hD, hRd⟩, hb3⟩
  have h3 := H1.out.below hb3
  have HK3 := hide (Keep.of_below (F := fun _ => False) hb3 (fun k h1 h2 => by omega))
  have hB := (hRd.2 nm).1
  have hV := (hRd.2 nm).2 (S [])
  rw [hB1] at hB hV
  simp only [Option.isSome_none, Option.map_none, Option.getD_none] at hB hV
  have H3 := hide h3
  clear h3 hRd HFI hb3 hB1
  go_wp2_with (at_lookup; refine lookup_held2 _ rfl _ _ 63 rfl 9 9 klaw Try.underlying63 (zero_str _) _ _ D rfl hD _ _ rfl hkn (S []) false hV hB ?_)
  go_ret
  exact ⟨rfl, H3.out, HK1.out.trans (HK3.out.mono (fun _ _ h => h.elim))⟩

set_option maxRecDepth 100000 in
set_option maxHeartbeats 2000000 in
theorem remove_ok (B g b N n c : Nat) (A : Option Addr) (cs : List Ch) (room : Nat) (fall : Int) (F : Fl) (R : Fl) (nm : List UInt8) (w : World)
    (h : Dk w B g b N n c A cs room fall false F) (hf : fall ≠ 0) (hf2 : fall ≤ 9223372036854775807) (hn : n ≤ 90000) (hN : N ≤ 100000) (hR : cs.foldl chDo F = R) (hsn : short nm) (hB1 : (R nm).isSome = true) :
    Calls Try.prog 13 #[.pointer (some ⟨g, 0, none⟩), S nm] w (fun e w' => e = .returned (.int .i64 0) ∧
      (∃ q cap, Dk w' B g b N (n + 1) cap (some ⟨q, 0, none⟩) (cs ++ [⟨2, nm, []⟩]) room (if 0 < fall then fall - 1 else fall) false F) ∧ Keep (fun k => k = g ∨ (Value.slice A n c).ownBlock = some k) w w') := by
  have HTU := hide (turn_go g b n c A room fall hf hf2 w h.blk)
  obtain ⟨fall', hfall⟩ : ∃ f : Int, f = if 0 < fall then fall - 1 else fall := ⟨_, rfl⟩
  rw [← hfall] at HTU ⊢
  clear hfall hf hf2
  have hkn := key_S hsn
  have hst : short [] := by simp [short]
  have HRE := hide hR
  clear hR
  have HH := hide h
  clear h
  go_enter Try.func13, Try.ntmps13
  go_wp2_with fail
  refine HTU.out.mono ?_
  rintro e w1 ⟨rfl, hb1, hk1⟩
  have h1 := HH.out.turned hk1 hb1
  have HFI := hide (files_any g b N n c cs A room fall' false F w1 h1.blk h1.txt h1.rd h1.len (by omega) hN h1.ok)
  rw [HRE.out] at HFI
  have H1 := hide h1
  have HK1 := hide hk1
  clear h1 hb1 hk1 HTU HH
  go_wp2_with fail
  refine HFI.out.mono ?_
  rintro e w3 ⟨rfl, ⟨D, hD, hRd⟩, hb3⟩
  have h3 := H1.out.below hb3
  have HK3 := hide (Keep.of_below (F := fun _ => False) hb3 (fun k h1 h2 => by omega))
  have hB := (hRd.2 nm).1
  have hV := (hRd.2 nm).2 (S [])
  obtain ⟨o, ho⟩ := Option.isSome_iff_exists.1 hB1
  rw [ho] at hB hV
  simp only [Option.isSome_some, Option.map_some, Option.getD_some] at hB hV
  have H3 := hide h3
  have c1 : w3.cell? ⟨g, 1, none⟩ = some (.slice A n c) := h3.blk.cell 1
  have hB3 : B ≤ w3.heap.size := by have := h3.blk.lt; have := h3.gB; omega
  clear h3 hRd HFI hb3 ho hB1
  go_wp2_with (first | (at_lookup; refine lookup_held2 _ rfl _ _ 63 rfl 9 9 klaw Try.underlying63 (zero_str _) _ _ D rfl hD _ _ rfl hkn (S o) true hV hB ?_) | (at_builtin; refine app_chg H3.out (by omega) hB3 ⟨2, nm, []⟩ ⟨⟨hsn, hst⟩, Nat.le_refl _⟩ rfl (.tmp 26) (.tmp 29) rfl rfl rfl ?_; intro q cap w5 c5 f5 hfin; have HF := hide hfin; clear hfin))
  go_ret
  have := HF.out
  exact ⟨rfl, ⟨q, cap, this.1⟩, (HK1.out.mono (fun _ _ h => .inl h)).trans ((HK3.out.mono (fun _ _ h => h.elim)).trans this.2.1)⟩
end Go.Proofs.Ytclgiapmbmbknaa
