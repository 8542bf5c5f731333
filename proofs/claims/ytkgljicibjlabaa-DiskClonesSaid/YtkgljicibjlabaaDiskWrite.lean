/- A disk as it stands; its turn, whatever fall is set; a text written where there is room: the contracts of Disk.turn and Disk.Write; no statement of the seat is proved here. -/
import Derived.Test.YtkgljicibjlabaaDiskRoom
import Derived.Deep.AppendLies
namespace Go.Proofs.Ytkgljicibjlabaa
open Go.RowKit Go.Maps

/-- A disk: its block g, its map b, its changes a row of the call's own. -/
structure Dk (w : World) (B g b N n c : Nat) (A : Option Addr) (cs : List Ch) (room : Nat) (fall : Int) (dn : Bool) (F : Fl) : Prop where
  blk : Blk w g 68 #[.map (some b), .slice A n c, .int .i64 room, .int .i64 fall, .bool dn]
  txt : TxtIs w b N F
  own : w.ownsRow B 71 3 (.slice A n c) n (cs.flatMap Ch.cells)
  ok : ∀ c ∈ cs, c.ok ∧ c.k ≤ 2
  bB : B ≤ b
  gB : B ≤ g

theorem own_base' {w : World} {base : Nat} {e : TypeId} {size n : Nat} {v : Value} {xs : List Value} (h : w.ownsRow base e size v n xs) {k : Nat} (hk : v.ownBlock = some k) : base ≤ k ∧ k < w.heap.size := by
  rcases h.2 with ⟨rfl, _⟩ | ⟨g', cap, cur, rfl, hb, hh, _⟩
  · simp [Value.ownBlock] at hk
  · have : g' = k := by simpa [Value.ownBlock] using hk
    subst this
    exact ⟨hb, (Array.getElem?_eq_some_iff.1 hh).1⟩

theorem cells_len (cs : List Ch) : (cs.flatMap Ch.cells).length = cs.length * 3 := by
  induction cs with
  | nil => rfl
  | cons c cs ih => simp only [List.flatMap_cons, List.length_append, ih, List.length_cons, Ch.cells, List.length_nil]; omega

section
variable {w w' : World} {B g b N n c : Nat} {A : Option Addr} {cs : List Ch} {room : Nat} {fall : Int} {dn : Bool} {F : Fl}
theorem Dk.bg (h : Dk w B g b N n c A cs room fall dn F) : b ≠ g := by
  rintro rfl
  obtain ⟨D, ⟨es, clock, hb, _⟩, _⟩ := h.txt
  have := h.blk
  unfold Blk at this
  rw [this] at hb
  cases hb
theorem Dk.og (h : Dk w B g b N n c A cs room fall dn F) : (Value.slice A n c).ownBlock ≠ some g := own_blk_ne h.own h.blk (by decide)
theorem Dk.ob (h : Dk w B g b N n c A cs room fall dn F) : (Value.slice A n c).ownBlock ≠ some b := by
  intro e
  rcases h.own.2 with ⟨hv, _⟩ | ⟨g', cap, cur, hv, _, hh, _⟩
  · rw [hv] at e; simp [Value.ownBlock] at e
  · rw [hv] at e
    have : g' = b := by simpa [Value.ownBlock] using e
    subst this
    obtain ⟨D, ⟨es, clock, hb, _⟩, _⟩ := h.txt
    rw [hb] at hh
    cases hh
theorem Dk.len (h : Dk w B g b N n c A cs room fall dn F) : cs.length = n := by
  have := h.own.1
  rw [cells_len] at this
  omega
theorem Dk.rd (h : Dk w B g b N n c A cs room fall dn F) : Rd w (fun k => w.heap.size ≤ k) 3 A n (cs.flatMap Ch.cells) := by
  refine ⟨h.own.1, fun hn => ?_⟩
  obtain ⟨q, cap, hv, hb, hlt⟩ := h.own.form hn
  injection hv with hA _ hc
  subst hA hc
  refine ⟨q, 0, rfl, by omega, hlt, fun j u hu => ?_⟩
  have := h.own.cells (g := q) rfl j u hu
  simpa [Addr.add_lit] using this
theorem Dk.keep {S : Nat → Prop} (h : Dk w B g b N n c A cs room fall dn F) (hk : Keep S w w') (h1 : ¬ S g) (h2 : ¬ S b) (h3 : ∀ k, (Value.slice A n c).ownBlock = some k → ¬ S k) : Dk w' B g b N n c A cs room fall dn F :=
  ⟨h.blk.keep hk h1, h.txt.of_block (hk.block b h.txt.lt h2), own_keep h.own hk h3, h.ok, h.bB, h.gB⟩
theorem Dk.below (h : Dk w B g b N n c A cs room fall dn F) (hb : Below w.heap.size w w') : Dk w' B g b N n c A cs room fall dn F :=
  h.keep (Keep.of_below (F := fun k => w.heap.size ≤ k) hb fun _ _ h => h) (by have := h.blk.lt; omega) (by have := h.txt.lt; omega) (fun k hk => by have := (own_base' h.own hk).2; omega)
/-- Its own block turned, and that is all. -/
theorem Dk.turned {fall' : Int} {dn' : Bool} (h : Dk w B g b N n c A cs room fall dn F) (hk : Keep (fun k => k = g) w w')
    (hb : Blk w' g 68 #[.map (some b), .slice A n c, .int .i64 room, .int .i64 fall', .bool dn']) : Dk w' B g b N n c A cs room fall' dn' F :=
  ⟨hb, h.txt.of_block (hk.block b h.txt.lt h.bg), own_keep h.own hk (fun _ hk e => h.og (e ▸ hk)), h.ok, h.bB, h.gB⟩
end

set_option maxRecDepth 100000 in
set_option maxHeartbeats 2000000 in
theorem turn_go (g b n c : Nat) (A : Option Addr) (room fall : Int) (hf : fall ≠ 0) (hf2 : fall ≤ 9223372036854775807) (w : World)
    (hg : Blk w g 68 #[.map (some b), .slice A n c, .int .i64 room, .int .i64 fall, .bool false]) :
    Calls Try.prog 31 #[.pointer (some ⟨g, 0, none⟩)] w (fun e w' => e = .returned (.int .i64 0) ∧
      Blk w' g 68 #[.map (some b), .slice A n c, .int .i64 room, .int .i64 (if 0 < fall then fall - 1 else fall), .bool false] ∧ Keep (fun k => k = g) w w') := by
  have c3 : w.cell? ⟨g, 3, none⟩ = some (.int .i64 fall) := hg.cell 3
  have c4 : w.cell? ⟨g, 4, none⟩ = some (.bool false) := hg.cell 4
  have f3 := hg.frozen 3
  have d0 : ((fall : Int) == 0) = false := by simpa using hf
  by_cases hp : 0 < fall
  · have d1 : decide (0 < fall) = true := by simpa using hp
    have hs := hg.set_ 3 (.int .i64 (fall - 1))
    have hk := (Keep.refl (fun k => k = g) w).setCell (p := ⟨g, 3, none⟩) (fun _ => rfl) (.int .i64 (fall - 1))
    rw [if_pos hp]
    have hw64 : wrap64 (fall - 1) = fall - 1 := by unfold wrap64; omega
    have HS := hide hs
    have HK := hide hk
    clear hs hk hg
    go_enter Try.func31, Try.ntmps31
    go_wp2_with fail
    go_ret
    first
      | exact ⟨rfl, HS.out, HK.out⟩
      | (rw [hw64]; exact ⟨rfl, HS.out, HK.out⟩)
  · have d1 : decide (0 < fall) = false := by simpa using hp
    rw [if_neg hp]
    have HS := hide hg
    clear hg
    go_enter Try.func31, Try.ntmps31
    go_wp2_with fail
    go_ret
    exact ⟨rfl, HS.out, Keep.refl _ _⟩

set_option maxRecDepth 100000 in
set_option maxHeartbeats 2000000 in
theorem turn_stop (g b n c : Nat) (A : Option Addr) (room fall : Int) (dn : Bool) (hf : dn = true ∨ fall = 0) (w : World)
    (hg : Blk w g 68 #[.map (some b), .slice A n c, .int .i64 room, .int .i64 fall, .bool dn]) :
    Calls Try.prog 31 #[.pointer (some ⟨g, 0, none⟩)] w (fun e w' => e = .returned (.int .i64 8) ∧
      Blk w' g 68 #[.map (some b), .slice A n c, .int .i64 room, .int .i64 fall, .bool true] ∧ Keep (fun k => k = g) w w') := by
  have c3 : w.cell? ⟨g, 3, none⟩ = some (.int .i64 fall) := hg.cell 3
  have c4 : w.cell? ⟨g, 4, none⟩ = some (.bool dn) := hg.cell 4
  have f4 := hg.frozen 4
  cases dn with
  | true =>
    have HS := hide hg
    clear hg
    go_enter Try.func31, Try.ntmps31
    go_wp2_with fail
    go_ret
    exact ⟨rfl, HS.out, Keep.refl _ _⟩
  | false =>
    obtain rfl : fall = 0 := by simpa using hf
    have hs := hg.set_ 4 (.bool true)
    have hk := (Keep.refl (fun k => k = g) w).setCell (p := ⟨g, 4, none⟩) (fun _ => rfl) (.bool true)
    have HS := hide hs
    have HK := hide hk
    clear hs hk hg
    go_enter Try.func31, Try.ntmps31
    go_wp2_with fail
    go_ret
    exact ⟨rfl, HS.out, HK.out⟩

theorem chg_info : (Try.prog.info? 71).map (fun i => (i.zero, i.size, i.bytes)) = some (some (.agg #[.int .i64 0, .string { data := #[] }, .string { data := #[] }]), 3, 40) := by kernel_rfl

/-- One more change is laid. -/
theorem app_chg {w : World} {B g b N n c : Nat} {A : Option Addr} {cs : List Ch} {room : Nat} {fall : Int} {dn : Bool} {F : Fl} (h : Dk w B g b N n c A cs room fall dn F) (hn : n ≤ 100000) (hB : B ≤ w.heap.size) (ch : Ch) (hc : ch.ok ∧ ch.k ≤ 2)
    {ops : Array Oper} {rest : List Oper} {o : Oper} {a : Act} {Q : Exit → Act → World → Prop} (hgd : o.guard = none) (s x : Operand)
    (ho : o.op = .call { callee := .builtin .append, args := #[s, x], argTypes := #[66, 66] }) (hs : a.eval s = .slice A n c) (hx : a.eval x = .slice (some ⟨w.heap.size, 0, none⟩) 1 1)
    (hK : ∀ q cap w5, w5.cell? ⟨g, 1, none⟩ = some (.slice A n c) → w5.frozen? ⟨g, 1, none⟩ = false →
      (Dk (w5.setCell ⟨g, 1, none⟩ (.slice (some ⟨q, 0, none⟩) (n + 1) cap)) B g b N (n + 1) cap (some ⟨q, 0, none⟩) (cs ++ [ch]) room fall dn F ∧
        Keep (fun k => k = g ∨ (Value.slice A n c).ownBlock = some k) w (w5.setCell ⟨g, 1, none⟩ (.slice (some ⟨q, 0, none⟩) (n + 1) cap)) ∧ ((Value.slice A n c).ownBlock = some q ∨ w.heap.size ≤ q)) →
      wpList Try.prog ops Q rest (a.put o.dst (.slice (some ⟨q, 0, none⟩) (n + 1) cap)) w5) :
    wpList Try.prog ops Q (o :: rest) a (w.alloc (.cells #[.int .i64 ch.k, S ch.n, S ch.t] 71)) := by
  obtain ⟨i0, hi0, hz0, hz1, hz2⟩ := info_parts chg_info
  refine wpList_append_lies _ hgd s x 66 ho B 71 i0 _ 3 40 Try.underlying66 hi0 hz0 hz1 hz2 rfl (by decide) (.slice A n c) n (cs.flatMap Ch.cells) hs (h.own.alloc _) ⟨w.heap.size, 0, none⟩ 1 1 ch.cells hx rfl
    (World.news_of_block (heap_alloc_new _ _)) (fun u hu => ?_) (by decide) (by unfold maxLen; omega) (by omega) (by simp; omega) (w.heap.size + 1) (by simp) ?_
  · simp only [Ch.cells, List.mem_cons, List.not_mem_nil, or_false] at hu
    rcases hu with rfl | rfl | rfl <;> rfl
  intro q cap w5 hown hg hat _
  have k5 : Keep (fun k => (Value.slice A n c).ownBlock = some k) w w5 := ((Keep.refl _ w).alloc _).grown hg (fun k hk _ => hk)
  have hq : q ≠ g := by
    rintro rfl
    rcases hat with e | e
    · exact h.og e
    · have := h.blk.lt; omega
  have hb5 := h.blk.keep k5 h.og
  refine hK q cap w5 (hb5.cell 1) (hb5.frozen 1) ⟨⟨hb5.set_ 1 _, ?_, ?_, ?_, h.bB, h.gB⟩, (k5.mono fun _ _ h => .inr h).setCell (fun _ => .inl rfl) _, ?_⟩
  · exact (h.txt.of_block (k5.block b h.txt.lt h.ob)).of_block (Below.heap_setCell _ _ _ _ h.bg)
  · rw [List.flatMap_append]
    refine own_keep (F := fun k => k = g) (by simpa using hown) ((Keep.refl (fun k => k = g) w5).setCell (p := ⟨g, 1, none⟩) (fun _ => rfl) _) (fun k hk e => ?_)
    have : q = k := by simpa [Value.ownBlock] using hk
    exact hq (this.trans e)
  · intro x hx
    rcases List.mem_append.1 hx with h' | h'
    · exact h.ok x h'
    · rw [List.mem_singleton] at h'; subst h'; exact hc
  · rcases hat with e | e
    · exact .inl e
    · right; omega

set_option maxRecDepth 100000 in
set_option maxHeartbeats 2000000 in
theorem write_ok (B g b N n c : Nat) (A : Option Addr) (cs : List Ch) (room : Nat) (fall : Int) (F R : Fl) (tot : Nat) (nm t : List UInt8) (w : World)
    (h : Dk w B g b N n c A cs room fall false F) (hf : fall ≠ 0) (hf2 : fall ≤ 9223372036854775807) (hn : n ≤ 90000) (hN : N ≤ 100000) (hR : cs.foldl chDo F = R) (hT : Tot R tot) (ht : tot ≤ 1000000000000) (hr : room ≤ 4194304)
    (hm1 : nm ≠ []) (hm2 : nm.length ≤ 80) (htl : t.length ≤ 1000000) (hfit : (t.length : Int) ≤ room - tot + (((R nm).getD []).length : Int)) :
    Calls Try.prog 13 #[.pointer (some ⟨g, 0, none⟩), S nm, S t] w (fun e w' => e = .returned (.int .i64 0) ∧
      (∃ q cap, Dk w' B g b N (n + 1) cap (some ⟨q, 0, none⟩) (cs ++ [⟨0, nm, t⟩]) room (if 0 < fall then fall - 1 else fall) false F) ∧ Keep (fun k => k = g ∨ (Value.slice A n c).ownBlock = some k) w w') := by
  have HTU := hide (turn_go g b n c A room fall hf hf2 w h.blk)
  obtain ⟨fall', hfall⟩ : ∃ f : Int, f = if 0 < fall then fall - 1 else fall := ⟨_, rfl⟩
  rw [← hfall] at HTU ⊢
  clear hfall hf hf2
  have d0 : (nm == []) = false := by simpa using hm1
  have d1 : decide (80 < (nm.length : Int)) = false := by simp; omega
  have hsn : short nm := by unfold short; omega
  have hst : short t := by unfold short; omega
  have hkn := key_S hsn
  have HRE := hide hR
  have HH := hide h
  clear hR h hm1
  go_enter Try.func13, Try.ntmps13
  go_wp2_with fail
  refine HTU.out.mono ?_
  rintro e w1 ⟨rfl, hb1, hk1⟩
  have h1 := HH.out.turned hk1 hb1
  have HRO := hide (room_any g b N n c cs A room fall' false F R tot w1 h1.blk h1.txt h1.rd h1.len (by omega) hN h1.ok HRE.out hT ht hr)
  have H1 := hide h1
  have HK1 := hide hk1
  clear h1 hb1 hk1 HTU HH
  go_wp2_with fail
  refine HRO.out.mono ?_
  rintro e w2 ⟨rfl, hb2⟩
  have h2 := H1.out.below hb2
  have HFI := hide (files_any g b N n c cs A room fall' false F w2 h2.blk h2.txt h2.rd h2.len (by omega) hN h2.ok)
  rw [HRE.out] at HFI
  have HK2 := hide (Keep.of_below (F := fun _ => False) hb2 (fun k h1 h2 => by omega))
  have H2 := hide h2
  clear h2 hb2 HRO
  go_wp2_with fail
  refine HFI.out.mono ?_
  rintro e w3 ⟨rfl, ⟨D, hD, hRd⟩, hb3⟩
  have h3 := H2.out.below hb3
  have HK3 := hide (HK2.out.trans' (Keep.of_below (F := fun _ => False) hb3 (fun k h1 h2 => by omega)) (fun _ _ h => h))
  obtain ⟨o, ho⟩ : ∃ o, o = (R nm).getD [] := ⟨_, rfl⟩
  have hV : D.atKey (.string nm) (.held (S [])) = .held (S o) := by
    rw [(hRd.2 nm).2 (S []), ho]
    cases R nm <;> rfl
  have d2 : decide ((room : Int) - tot + o.length < t.length) = false := by rw [ho]; simp; omega
  have hx : wrap64 ((room : Int) - tot + o.length) = room - tot + o.length := by
    have := hT.le nm
    rw [← ho] at this
    unfold wrap64
    omega
  have H3 := hide h3
  have c1 : w3.cell? ⟨g, 1, none⟩ = some (.slice A n c) := h3.blk.cell 1
  have hB3 : B ≤ w3.heap.size := by have := h3.blk.lt; have := h3.gB; omega
  clear h3 hRd H2 HK2 HFI hb3 ho
  go_wp2_with (first | (at_lookup; refine lookup_held1 _ rfl _ _ 54 rfl 9 9 klaw Try.underlying54 (zero_str _) _ _ D rfl hD _ _ rfl hkn (S o) hV ?_) | (at_builtin; refine app_chg H3.out (by omega) hB3 ⟨0, nm, t⟩ ⟨⟨hsn, hst⟩, Nat.zero_le _⟩ rfl (.tmp 37) (.tmp 41) rfl rfl rfl ?_; intro q cap w5 c5 f5 hfin; have HF := hide hfin; clear hfin))
  go_ret
  have := HF.out
  exact ⟨rfl, ⟨q, cap, this.1⟩, (HK1.out.mono (fun _ _ h => .inl h)).trans ((HK3.out.mono (fun _ _ h => h.elim)).trans this.2.1)⟩
end Go.Proofs.Ytkgljicibjlabaa
