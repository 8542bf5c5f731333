/- The list that bytes are: Decode, walked; no statement of the seat is proved here. -/
import Derived.Test.YtclgiapmbmbknaaMRepEnc
import Derived.Great.BuildSlice
namespace Go.Proofs.Ytclgiapmbmbknaa
open Go.RowKit
set_option linter.unusedVariables false

theorem pread_any (l : List UInt8) (w : World) : Calls Try.prog 43 #[S l] w fun e w' => e = .returned (.pointer (some ⟨w.heap.size, 0, none⟩)) ∧ w.alloc (.cells #[S l, .bool false] 123) = w' := by
  go_enter Try.func43, Try.ntmps43
  go_wp2
  go_ret
  exact ⟨rfl, rfl⟩
/-- An entry whose reads lie in a row of the call's own. -/
structure EnOwn (w : World) (B : Nat) (e : Enq) : Prop where
  own : w.ownsRow B 87 33 (.slice e.A e.k e.c) e.k (e.rs.flatMap Rdq.cells)
  len : e.rs.length = e.k
  le : e.k ≤ 200
  sn : e.n.length ≤ 40
  sr : ∀ x ∈ e.rs, x.n.length ≤ 40
theorem EnOwn.keep {w w' : World} {B : Nat} {e : Enq} {F : Nat → Prop} (h : EnOwn w B e) (hk : Keep F w w') (hF : ∀ k, (Value.slice e.A e.k e.c).ownBlock = some k → ¬ F k) : EnOwn w' B e := { h with own := own_keep h.own hk hF }
/-- A list in rows of the call's own. -/
structure LiOwn (w : World) (B : Nat) (A : Option Addr) (n c : Nat) (L : List Enq) : Prop where
  own : w.ownsRow B 44 66 (.slice A n c) n (L.flatMap Enq.cells)
  en : ∀ e ∈ L, EnOwn w B e
  ll : L.length = n
theorem LiOwn.onb {w w' : World} {B n c : Nat} {A : Option Addr} {L : List Enq} (h : LiOwn w B A n c L) (hb : Below w.heap.size w w') : LiOwn w' B A n c L := by
  have hk : Keep (fun _ => False) w w' := Keep.of_below hb (fun k h1 h2 => by omega)
  exact ⟨own_keep h.own hk (fun _ _ h => h), fun e he => (h.en e he).keep hk (fun _ _ h => h), h.ll⟩
theorem LiOwn.li {w : World} {B n c : Nat} {A : Option Addr} {L : List Enq} (h : LiOwn w B A n c L) (hn : n ≤ 200) : LiAt w (fun k => w.heap.size ≤ k) A n L :=
  { lr := (Rd.of_ownB h.own).weak (fun k h1 h2 => by omega)
    ll := h.ll
    lb := by omega
    la := fun e he => by
      have h0 := h.en e he
      have h1 := h0.le
      have h2 := h0.sn
      exact ⟨(Rd.of_ownB h0.own).weak (fun k h1 h2 => by omega), h0.len, by omega, by omega, fun x hx => by have := h0.sr x hx; omega⟩ }
/-- What Decode answers. -/
def DecDone (s : List UInt8) (w : World) (e : Ending) (w' : World) : Prop :=
  Below w.heap.size w w' ∧ ((decM s = none ∧ e = .returned (.tuple #[.slice none 0 0, .int .i64 40])) ∨ ∃ A c, ∃ L : List Enq, e = .returned (.tuple #[.slice A L.length c, .int .i64 0]) ∧ decM s = some (L.map Enq.pl) ∧ LiOwn w' w.heap.size A L.length c L)

theorem new_en (n : List UInt8) : ZE.setIfInBounds 0 (S n) = (Enq.cells ⟨n, [], none, 0, 0, [], []⟩).toArray := by rfl
theorem new_rd (n : List UInt8) : ZR.setIfInBounds 0 (S n) = (Rdq.cells ⟨n, []⟩).toArray := by rfl
theorem rd_info3 : (Try.prog.info? 87).map (fun i => (i.zero, i.size, i.bytes)) = some (some (.agg ZR), 33, 48) := by kernel_rfl
theorem en_info3 : (Try.prog.info? 44).map (fun i => (i.zero, i.size, i.bytes)) = some (some (.agg ZE), 66, 104) := by kernel_rfl
theorem fold_list {V : Type} : ∀ (l : List V) (k : Nat) (Z : Array V), k + l.length ≤ Z.size → List.foldl (fun cs x => cs.setIfInBounds x.snd x.fst) Z (l.zipIdx k) = (Z.toList.take k ++ l ++ Z.toList.drop (k + l.length)).toArray
  | [], k, Z, h => by simp
  | v :: l, k, Z, h => by
    simp only [List.length_cons] at h
    rw [List.zipIdx_cons, List.foldl_cons, fold_list l (k + 1) _ (by simp; omega)]
    apply congrArg List.toArray
    have hk : k < Z.toList.length := by simp; omega
    simp only [Array.toList_setIfInBounds, List.length_cons]
    rw [List.take_succ_eq_append_getElem (by simpa using hk), List.getElem_set_self, List.take_set_of_le (Nat.le_refl _), List.drop_set_of_lt (by omega), show k + 1 + l.length = k + (l.length + 1) by omega]
    simp
theorem fold_arr {V : Type} (Z v : Array V) (n : Nat) (hn : v.size = n) (h : Z.size = n) : Array.foldl (fun cs x => cs.setIfInBounds x.snd x.fst) Z v.zipIdx 0 n = v := by
  subst hn
  have h1 := fold_list v.toList 0 Z (by simp; omega)
  have h2 : Array.foldl (fun cs x => cs.setIfInBounds x.snd x.fst) Z v.zipIdx 0 v.size = Array.foldl (fun cs x => cs.setIfInBounds x.snd x.fst) Z v.zipIdx 0 v.zipIdx.size := by rw [Array.size_zipIdx]
  rw [h2, ← Array.foldl_toList, Array.toList_zipIdx, h1]
  rw [List.drop_of_length_le (by simp; omega)]
  simp
theorem fill_one (n : Nat) (Z v : Array Value) (hZ : Z.size = n) (hv : v.size = n) : Instr.fill (fun i => some (i * n, n)) Z [(0, .agg v)] = some v := by
  have h := fold_arr Z v n hv hZ
  subst hv
  simp only [Instr.fill, Value.cells, Nat.zero_mul, Nat.zero_add, hZ, ne_eq, not_true_eq_false, decide_false, gt_iff_lt, Nat.lt_irrefl, Bool.or_self, Bool.false_eq_true, if_false]
  congr 1
  have h2 : Array.foldl (fun cs x => cs.setIfInBounds x.snd x.fst) Z v.zipIdx 0 v.size = Array.foldl (fun cs x => cs.setIfInBounds x.snd x.fst) Z v.zipIdx 0 v.zipIdx.size := by rw [Array.size_zipIdx]
  rw [h2] at h
  exact h
/-- '[]T{x}', x a value of several cells. -/
theorem wpList_part {P : Program} {ops : Array Oper} {rest : List Oper} {o : Oper} {a : Act} {w : World} {Q : Exit → Act → World → Prop} (hg : o.guard = none) (t e : TypeId) (x : Operand) (ho : o.op = .buildSlice t 1 #[(0, x)])
    (n : Nat) (v : Array Value) (hx : a.eval x = .agg v) (hv : v.size = n) (hn : 0 < n) (hs : n ≤ 2 ^ 24) (hu : P.underlying t = some (.slice e)) (hi : (P.info? e).map (fun i => (i.zero.isSome, i.size)) = some (true, n))
    (h : wpList P ops Q rest (a.put o.dst (.slice (some ⟨w.heap.size, 0, none⟩) 1 1)) (w.alloc (.cells v e))) : wpList P ops Q (o :: rest) a w := by
  cases hie : P.info? e with
  | none => simp [hie] at hi
  | some ie =>
    simp only [hie, Option.map_some, Option.some.injEq, Prod.mk.injEq] at hi
    obtain ⟨z, hz⟩ := Option.isSome_iff_exists.1 hi.1
    refine wpList_buildSlice hg t e 1 #[(0, x)] ho v ie z hu hie hz (by rw [hi.2]; omega) (by rw [hi.2]; omega) ?_ h
    rw [hi.2, Nat.one_mul]
    have := fill_one n ((Array.range n).map (z.cells[· % z.cells.size]!)) v (by simp) hv
    simpa [hx] using this
theorem en_info2 : (Try.prog.info? 44).map (fun i => (i.zero.isSome, i.size)) = some (true, 66) := by kernel_rfl
theorem rd_info2 : (Try.prog.info? 87).map (fun i => (i.zero.isSome, i.size)) = some (true, 33) := by kernel_rfl
theorem all_one {v : Array Value} (h : v.all (·.oneCell') = true) : ∀ u ∈ v.toList, u.oneCell' = true := fun u hu => (Array.all_eq_true_iff_forall_mem.1 h) u (by simpa using hu)
section
variable {w : World} {g : Nat} {t : TypeId}
theorem Blk.there_at {cs : Array Value} (h : Blk w g t cs) {o n : Nat} (hn : o + n ≤ cs.size) : w.there g o n := fun j hj => by
  rw [h.cell (o + j), h.frozen]
  have : o + j < cs.size := by omega
  simp [this]
/-- A row of cells is laid over a part of a block. -/
theorem Blk.over {cs ds : List Value} {o : Nat} {vs : List Value} (h : Blk w g t cs.toArray) (hl : ds.length = cs.length) (ho : o + vs.length ≤ cs.length) (hd : ∀ i, ds[i]? = if o ≤ i ∧ i < o + vs.length then vs[i - o]? else cs[i]?) : Blk (w.setCells g o vs) g t ds.toArray := by
  obtain ⟨es, h1, h2, h3⟩ := Blk.cells_ vs o h (by simpa using ho)
  have : es = ds.toArray := by
    apply Array.ext_getElem?
    intro i
    rw [h3 i]
    simp only [List.getElem?_toArray]
    rw [hd i]
  rw [← this]
  exact h1
theorem cons_over {x : Value} {a b c : List Value} (ha : b.length = a.length) (i : Nat) : (x :: (b ++ c))[i]? = if 1 ≤ i ∧ i < 1 + b.length then b[i - 1]? else (x :: (a ++ c))[i]? := by
  rcases i with _ | i
  · simp
  · by_cases h : i < b.length
    · rw [if_pos (by omega), List.getElem?_cons_succ, List.getElem?_append_left h]
      rfl
    · rw [if_neg (by omega), List.getElem?_cons_succ, List.getElem?_cons_succ, List.getElem?_append_right (by omega), List.getElem?_append_right (by omega), ha]
theorem tail_over {p a b : List Value} (ha : b.length = a.length) (i : Nat) : (p ++ b)[i]? = if p.length ≤ i ∧ i < p.length + b.length then b[i - p.length]? else (p ++ a)[i]? := by
  by_cases h : i < p.length
  · rw [if_neg (by omega), List.getElem?_append_left h, List.getElem?_append_left h]
  · rw [List.getElem?_append_right (by omega)]
    by_cases h2 : i < p.length + b.length
    · rw [if_pos (by omega)]
    · rw [if_neg (by omega), List.getElem?_append_right (by omega), List.getElem?_eq_none (by omega), List.getElem?_eq_none (by omega)]
theorem set_src {e : Enq} {s : List UInt8} (h : Blk w g t e.cells.toArray) : Blk (w.setCells g 1 (darr (dpad s)).toList) g t (Enq.cells { e with s := s }).toArray := by
  refine h.over (by simp [Enq.cells, dpad_len]) (by simp [Enq.cells, dpad_len, darr]) (fun i => ?_)
  simp only [darr, Enq.cells]
  exact cons_over (by simp [dpad_len]) i
theorem set_blob {e : Enq} {b : List UInt8} (h : Blk w g t e.cells.toArray) : Blk (w.setCells g 34 (darr (dpad b)).toList) g t (Enq.cells { e with b := b }).toArray := by
  refine h.over (by simp [Enq.cells, dpad_len]) (by simp [Enq.cells, dpad_len, darr]) (fun i => ?_)
  have hp : ∀ c : List UInt8, Enq.cells { e with b := c } = (S e.n :: ((dpad e.s).map B8 ++ [.slice e.A e.k e.c])) ++ (dpad c).map B8 := fun c => by simp [Enq.cells]
  have hl : (S e.n :: ((dpad e.s).map B8 ++ [.slice e.A e.k e.c])).length = 34 := by simp [dpad_len]
  have := tail_over (p := S e.n :: ((dpad e.s).map B8 ++ [.slice e.A e.k e.c])) (a := (dpad e.b).map B8) (b := (dpad b).map B8) (by simp [dpad_len]) i
  rw [hl] at this
  rw [hp b]
  simp only [darr]
  rw [this]
  congr 1
  simp [Enq.cells]
theorem set_face {x : Rdq} {d : List UInt8} (h : Blk w g t x.cells.toArray) : Blk (w.setCells g 1 (darr (dpad d)).toList) g t (Rdq.cells { x with d := d }).toArray := by
  refine h.over (by simp [Rdq.cells, dpad_len]) (by simp [Rdq.cells, dpad_len, darr]) (fun i => ?_)
  simp only [darr, Rdq.cells]
  have := cons_over (x := S x.n) (a := (dpad x.d).map B8) (b := (dpad d).map B8) (c := []) (by simp [dpad_len]) i
  simpa using this
theorem set_reads {e : Enq} {A : Option Addr} {k c : Nat} {rs : List Rdq} (h : Blk w g t e.cells.toArray) : Blk (w.setCell ⟨g, 33, none⟩ (.slice A k c)) g t (Enq.cells { e with A := A, k := k, c := c, rs := rs }).toArray := by
  have h1 := h.set_ 33 (.slice A k c)
  have e1 : e.cells.toArray.setIfInBounds 33 (.slice A k c) = (Enq.cells { e with A := A, k := k, c := c, rs := rs }).toArray := by
    simp only [List.setIfInBounds_toArray, Enq.cells]
    congr 1
    rw [List.set_cons_succ, List.set_append_right _ _ (by simp [dpad_len])]
    simp [dpad_len]
  rwa [e1] at h1
end

set_option maxRecDepth 100000 in
set_option maxHeartbeats 16000000 in
theorem dec_any (s : List UInt8) (w : World) (hs : s.length ≤ 1099511627000) : Calls Try.prog 22 #[S s] w (DecDone s w) := by
  by_cases h32 : s.length < 32
  · have hd : decM s = none := by unfold decM; rw [if_pos h32]
    have HF := hide hd
    clear hd
    have hneg : (s.length : Int) - 32 < 0 := by omega
    have hw : wrap64 ((s.length : Int) - 32) = (s.length : Int) - 32 := IntWalk.wrap64_in _ (by omega)
    go_enter Try.func22, Try.ntmps22
    go_wp2_with fail
    go_ret2
    exact ⟨Below.refl _ _, .inl ⟨HF.out, rfl⟩⟩
  obtain ⟨N, hN⟩ : ∃ N, N = s.length - 32 := ⟨_, rfl⟩
  have hsub : (s.length : Int) - 32 = (N : Int) := by omega
  have HNL : Hid (N ≤ s.length ∧ s.length ≤ 1099511627000) := hide (by omega)
  have HDEC : Hid (decM s = if sumM (s.take N) == s.drop N then (if decide (doneR (liR (some (s.take N))).2 = 0) && (liR (some (s.take N))).1.all EnP.ok && rightL (liR (some (s.take N))).1 then some (liR (some (s.take N))).1 else none) else none) := hide (by unfold decM; rw [if_neg h32, hN])
  have hNs : N ≤ s.length := by omega
  clear hN h32
  obtain ⟨T, hT⟩ : ∃ T, T = s.take N := ⟨_, rfl⟩
  have HTL : Hid (T.length ≤ 1099511627000) := hide (by rw [hT, List.length_take]; omega)
  rw [← hT] at HDEC
  have HSUM := hide (sum_any (w.alloc (.cells #[S T] 9)) (some ⟨w.heap.size, 0, none⟩) 1 1 [T] (Rd.blk (l := [T].map S) (Blk.new _ _ _) (by simp)) rfl (by have := HTL.out; simp; omega) (by decide))
  simp only [List.flatten_cons, List.flatten_nil, List.append_nil] at HSUM
  obtain ⟨sm, hsm⟩ : ∃ s, s = sumM T := ⟨_, rfl⟩
  have HSL : Hid (sm.length = 32) := hide (by rw [hsm, sumM_len])
  rw [← hsm] at HSUM HDEC
  obtain ⟨dz, hdz⟩ : ∃ dz, dz = darr sm := ⟨_, rfl⟩
  rw [← hdz] at HSUM
  have HDZ := hide (fun _ : Unit => hdz)
  have HDS : Hid (dz.size = 32) := hide (by rw [hdz, darr_size, HSL.out])
  have HDO : Hid (dz.all (·.oneCell') = true) := hide (by rw [hdz]; exact darr_one _)
  clear hsm hdz
  obtain ⟨z4, hz4⟩ : ∃ z, z = ZC := ⟨_, rfl⟩
  have hzero : ∀ w, (zeroValue 41).run Try.prog w = .ok (.agg z4) w := fun w => by rw [hz4]; kernel_rfl
  have HZ4 : Hid (z4.size = 32) := hide (by rw [hz4]; rfl)
  have HT : Hid (s.take N = T) := hide hT.symm
  have htk : s.take N = T := hT.symm
  clear hz4 hT
  go_enter Try.func22, Try.ntmps22
  go_upto_region 5 with (first
    | (go_at_call 23; refine HSUM.out.mono ?_; rintro e w5 ⟨rfl, hb5⟩; have HB5 := hide (((Below.refl w.heap.size w).alloc (Nat.le_refl _) (.cells #[S T] 9)).trans (hb5.mono (by simp))); clear hb5)
    | (refine wpList_store_mid rfl 41 (.tmp 5) (.tmp 23) rfl _ 0 dz rfl rfl ((Blk.new _ _ _).there_ (by rw [HDS.out, HZ4.out])) (by rw [HDS.out]; exact dig_info) HDO.out ?_))
  simp only [show ∀ (x : Act), x.put none undef = x from fun _ => rfl]
  refine name_world ?_
  intro w6 hw6
  have HX6 := hide (box_any w5 41 z4 dz (by rw [HDS.out, HZ4.out]))
  rw [← hw6] at HX6
  have HB6 : Hid (Below w.heap.size w w6) := hide (HB5.out.trans (HX6.out.2.mono HB5.out.size))
  have HBD6 : Hid (Blk w6 w5.heap.size 41 dz) := hide HX6.out.1
  clear hw6 HX6 HB5 HSUM hzero HZ4
  obtain ⟨g9, hg9⟩ : ∃ g, g = w5.heap.size := ⟨_, rfl⟩
  rw [← hg9] at HBD6 ⊢
  clear hg9
  have hcv : ∀ t : After w6, (convert 67 9 (.slice (some ⟨g9, 0, none⟩) 32 32)).run Try.prog t.val = .ok (S sm) t.val := fun t => conv_32 HSL.out (fun i hi => by
    have h := (HBD6.out.below t.prop HBD6.out.lt).cell (0 + i)
    rw [h, HDZ.out ()]
    have := HSL.out
    simp [darr, show i < sm.length by omega])
  obtain ⟨bq, hbq⟩ : ∃ b, (sm == s.drop N) = b := ⟨_, rfl⟩
  have hnq : (sm == s.drop N) = bq := hbq
  have HBQ := hide hbq
  clear hbq HDZ HDS HDO
  cases bq
  case false =>
    have HF : Hid (decM s = none) := hide (by rw [HDEC.out, HBQ.out]; rfl)
    refine region_after (by kernel_rfl) (by kernel_rfl) ?_
    repeat (go_big_quiet_step (fail))
    refine wpQuiet_nil ?_
    rintro _ ⟨t, rfl⟩
    go_wp2_with fail
    go_ret2
    exact ⟨HB6.out.trans (t.prop.mono HB6.out.size), .inl ⟨HF.out, rfl⟩⟩
  have HDEC2 : Hid (decM s = if decide (doneR (liR (some T)).2 = 0) && (liR (some T)).1.all EnP.ok && rightL (liR (some T)).1 then some (liR (some T)).1 else none) := hide (by rw [HDEC.out, HBQ.out]; rfl)
  clear HDEC
  refine region_after (by kernel_rfl) (by kernel_rfl) ?_
  repeat (go_big_quiet_step (fail))
  refine wpQuiet_nil ?_
  rintro _ ⟨t, rfl⟩
  have HB7 : Hid (Below w.heap.size w t.val) := hide (HB6.out.trans (t.prop.mono HB6.out.size))
  obtain ⟨w7, hw7⟩ : ∃ w7, w7 = t.val := ⟨_, rfl⟩
  rw [← hw7] at HB7 ⊢
  clear hw7 t hcv hnq HBD6 HB6
  have HP := hide (pread_any T w7)
  have HRL := hide (Rl.new w7 T (by have := HTL.out; omega))
  obtain ⟨w8, hw8⟩ : ∃ w8, w8 = w7.alloc (.cells #[S T, .bool false] 123) := ⟨_, rfl⟩
  rw [← hw8] at HP HRL
  have HB8 : Hid (Below w.heap.size w w8) := hide (by rw [hw8]; exact HB7.out.alloc HB7.out.size _)
  have HG8 : Hid (w.heap.size ≤ w7.heap.size) := hide HB7.out.size
  clear hw8 HB7
  go_upto_region 8 with (go_at_call 43; refine HP.out.mono ?_; rintro e w3 ⟨rfl, hw3⟩; subst w3)
  clear HP
  obtain ⟨g, hg⟩ : ∃ g, g = w7.heap.size := ⟨_, rfl⟩
  rw [← hg] at HRL HG8 ⊢
  clear hg
  have HMN := hide (rmany_any g 200 (some T) w8 HRL.out (by omega))
  rw [show (200 : Int).toNat = 200 from rfl] at HMN
  have hN1 : (manyR 200 (some T)).1 ≤ 200 := by
    unfold manyR
    split
    · exact Nat.zero_le _
    · exact numR_le 200 _
  have HLI : Hid (liR (some T) = iterR enR (manyR 200 (some T)).1 (manyR 200 (some T)).2) := hide rfl
  go_upto_region 11 with (go_at_call 44; refine HMN.out.mono ?_; rintro e wB ⟨rfl, hr9, hk9⟩)
  have HR9 := hide hr9
  have HB9 : Hid (Below w.heap.size w wB) := hide (HB8.out.trans (hk9.below (B := w.heap.size) HB8.out.size (fun k hk => by have := HG8.out; omega)))
  have HGB : Hid (g < wB.heap.size) := hide hr9.lt
  clear hr9 hk9 HMN HRL HB8
  generalize (manyR 200 (some T)).1 = N1 at *
  generalize (manyR 200 (some T)).2 = st1 at *
  have hN200 : N1 ≤ 200 := hN1
  have HLE : Hid (∀ k, (iterR enR k st1).1.length = k) := hide (fun k => iterR_len _ _ _)
  go_loopw [7, 8, 36] (fun u v i wr => ∃ (k : Nat) (A : Option Addr) (c : Nat) (L : List Enq) (wh : Bool), k ≤ N1 ∧ i = .int .i64 k ∧ u = .slice A k c ∧ v = .bool wh ∧ Hid (wh = (iterR enR k st1).1.all EnP.ok) ∧ Hid (wr.ownsRow wB.heap.size 44 66 (.slice A k c) k (L.flatMap Enq.cells)) ∧ Hid (∀ e ∈ L, EnOwn wr wB.heap.size e) ∧ Hid (L.map Enq.pl = (iterR enR k st1).1) ∧ Hid (Rl wr g (iterR enR k st1).2) ∧ Hid (Keep (fun i => i = g) wB wr)) (fun _ _ i _ => N1 - (intOf i).toNat)
  case atStart => exact ⟨0, none, 0, [], true, Nat.zero_le _, rfl, rfl, rfl, hide rfl, hide (World.ownsRow_nil _ _ _ _), hide (fun e he => by cases he), hide rfl, HR9, hide (Keep.refl _ _)⟩
  case round =>
    obtain ⟨k, A, c, L, wh, hk, rfl, rfl, rfl, HWH, HOW, HEN, HPL, HRK, HKW⟩ := hrel
    obtain ⟨wo, rfl⟩ : ∃ wo : World, wo = wr := ⟨_, rfl⟩
    by_cases hlt : k < N1
    case pos =>
      focus
        have HX : Hid ((iterR enR (k + 1) st1).1 = (iterR enR k st1).1 ++ [(enR (iterR enR k st1).2).1] ∧ (iterR enR (k + 1) st1).2 = (enR (iterR enR k st1).2).2) := hide ⟨rfl, rfl⟩
        generalize (iterR enR k st1).2 = X at HRK HX
        have HGO : Hid (g < wo.heap.size) := hide HRK.out.lt
        have HT1 := hide (rtext_any g 40 X wo HRK.out (by omega))
        rw [show (40 : Int).toNat = 40 from rfl] at HT1
        have hn40 : (textR 40 X).1.length ≤ 40 := textR_le
        have hzero : ∀ w, (zeroValue 44).run Try.prog w = .ok (.agg ZE) w := zero_en
        have hjk : (k : Int) < (N1 : Int) := by omega
        obtain ⟨en, hen⟩ : ∃ en, en = (textR 40 X).1 := ⟨_, rfl⟩
        obtain ⟨X1, hX1⟩ : ∃ X1, X1 = (textR 40 X).2 := ⟨_, rfl⟩
        rw [← hen, ← hX1] at HT1
        have HEN1 := hide hen
        have HX1 := hide hX1
        have HN40 : Hid (en.length ≤ 40) := hide (by rw [hen]; exact hn40)
        have hz1 : ZE.setIfInBounds 0 (S en) = (Enq.cells ⟨en, [], none, 0, 0, [], []⟩).toArray := new_en en
        have HZ1 := hide hz1
        have HZS : Hid ((ZE.setIfInBounds 0 (S en)).size = 66 ∧ ZE.size = 66) := hide ⟨by rw [hz1]; simp [Enq.cells_len], rfl⟩
        have HZO : Hid ((ZE.setIfInBounds 0 (S en)).all (·.oneCell') = true) := hide (by rw [hz1]; exact (EnV.mk_ _).one)
        clear hen hX1 hn40 hz1
        go_upto_region 13 with (first
          | (go_at_call 45; refine HT1.out.mono ?_; rintro e w1 ⟨rfl, h1, k1⟩)
          | (refine wpList_store_mid rfl 44 (.tmp 9) (.tmp 40) rfl _ 0 (ZE.setIfInBounds 0 (S en)) rfl rfl ((Blk.new _ _ _).there_ (by rw [HZS.out.1, HZS.out.2])) (by rw [HZS.out.1]; exact en_info) HZO.out ?_))
        simp only [show ∀ (x : Act), x.put none undef = x from fun _ => rfl]
        refine name_world ?_
        intro w2 hw2
        have HBX := hide (box_any w1 44 ZE (ZE.setIfInBounds 0 (S en)) (by rw [HZS.out.1, HZS.out.2]))
        rw [← hw2] at HBX
        have HE2 : Hid (Blk w2 w1.heap.size 44 (Enq.cells ⟨en, [], none, 0, 0, [], []⟩).toArray) := hide (by rw [← HZ1.out]; exact HBX.out.1)
        have HR2 : Hid (Rl w2 g X1) := hide (h1.keep (Keep.of_below (F := fun _ => False) HBX.out.2 (fun k h1 h2 => by omega)) id)
        have HK2 : Hid (Keep (fun i => i = g) wo w2) := hide (k1.trans' (Keep.of_below (F := fun _ => False) HBX.out.2 (fun k h1 h2 => by omega)) (fun _ _ h => h.elim))
        have HGE : Hid (wo.heap.size ≤ w1.heap.size) := hide k1.size
        clear hw2 HBX hzero HZS HZO HZ1 h1 k1 HT1
        obtain ⟨ge, hge⟩ : ∃ q, q = w1.heap.size := ⟨_, rfl⟩
        rw [← hge] at HE2 HGE ⊢
        clear hge
        have HD1 := hide (digest_any g X1 w2 HR2.out)
        obtain ⟨es, hes⟩ : ∃ x, x = (textR 32 X1).1 := ⟨_, rfl⟩
        obtain ⟨X2, hX2⟩ : ∃ x, x = (textR 32 X1).2 := ⟨_, rfl⟩
        rw [← hes, ← hX2] at HD1
        obtain ⟨ds, hds⟩ : ∃ d, d = darr (dpad es) := ⟨_, rfl⟩
        rw [← hds] at HD1
        have HES := hide hes
        have HX2 := hide hX2
        have HDS1 := hide (fun _ : Unit => hds)
        have HSZ1 : Hid (ds.size = 32 ∧ ds.all (·.oneCell') = true) := hide ⟨by rw [hds, darr_size, dpad_len], by rw [hds]; exact darr_one _⟩
        clear hes hX2 hds
        have HE2S : Hid ((Enq.cells ⟨en, [], none, 0, 0, [], []⟩).toArray.size = 66) := hide (by simp [Enq.cells_len])
        go_upto_region 15 with (first
          | (go_at_call 46; refine HD1.out.mono ?_; rintro e w3 ⟨rfl, h1, k1⟩; have HE3 := hide (HE2.out.keep k1 (by have := HGE.out; have := HGO.out; omega)); have HR3 := hide h1; have HK3 := hide (HK2.out.trans k1); clear h1 k1)
          | (refine wpList_store_mid rfl 41 (.tmp 46) (.tmp 44) rfl ge 1 ds rfl rfl (HE3.out.there_at (by rw [HSZ1.out.1, HE2S.out]; omega)) (by rw [HSZ1.out.1]; exact dig_info) HSZ1.out.2 ?_))
        refine name_world ?_
        intro w4 hw4
        have HE4 : Hid (Blk w4 ge 44 (Enq.cells ⟨en, es, none, 0, 0, [], []⟩).toArray) := hide (by rw [hw4, HDS1.out ()]; exact set_src HE3.out)
        have HKS4 : Hid (Keep (fun i => i = ge) w3 w4) := hide (by rw [hw4]; exact Keep.setCells (F := fun i => i = ge) (b := ge) (fun _ => rfl) _ _ (Keep.refl _ _))
        have HR4 := hide (HR3.out.keep HKS4.out (by have := HGE.out; have := HGO.out; omega))
        have HK4 : Hid (Keep (fun i => i = g) wo w4) := hide (HK3.out.trans' HKS4.out (fun i hi h => by have := HGE.out; omega))
        clear hw4 HE3 HR3 HK3 HE2 HR2 HK2 HD1 HSZ1 HDS1 HKS4 HE2S
        have HD2 := hide (digest_any g X2 w4 HR4.out)
        obtain ⟨eb, heb⟩ : ∃ x, x = (textR 32 X2).1 := ⟨_, rfl⟩
        obtain ⟨X3, hX3⟩ : ∃ x, x = (textR 32 X2).2 := ⟨_, rfl⟩
        rw [← heb, ← hX3] at HD2
        obtain ⟨dt, hdt⟩ : ∃ d, d = darr (dpad eb) := ⟨_, rfl⟩
        rw [← hdt] at HD2
        have HEB2 := hide heb
        have HX3 := hide hX3
        have HDS2 := hide (fun _ : Unit => hdt)
        have HSZ2 : Hid (dt.size = 32 ∧ dt.all (·.oneCell') = true) := hide ⟨by rw [hdt, darr_size, dpad_len], by rw [hdt]; exact darr_one _⟩
        clear heb hX3 hdt
        have HE4S : Hid ((Enq.cells ⟨en, es, none, 0, 0, [], []⟩).toArray.size = 66) := hide (by simp [Enq.cells_len])
        go_upto_region 16 with (first
          | (go_at_call 46; refine HD2.out.mono ?_; rintro e w5 ⟨rfl, h1, k1⟩; have HE5 := hide (HE4.out.keep k1 (by have := HGE.out; have := HGO.out; omega)); have HR5 := hide h1; have HK5 := hide (HK4.out.trans k1); clear h1 k1)
          | (refine wpList_store_mid rfl 41 (.tmp 52) (.tmp 50) rfl ge 34 dt rfl rfl (HE5.out.there_at (by rw [HSZ2.out.1, HE4S.out]; omega)) (by rw [HSZ2.out.1]; exact dig_info) HSZ2.out.2 ?_))
        refine name_world ?_
        intro w6 hw6
        have HE6 : Hid (Blk w6 ge 44 (Enq.cells ⟨en, es, none, 0, 0, [], eb⟩).toArray) := hide (by rw [hw6, HDS2.out ()]; exact set_blob HE5.out)
        have HKS6 : Hid (Keep (fun i => i = ge) w5 w6) := hide (by rw [hw6]; exact Keep.setCells (F := fun i => i = ge) (b := ge) (fun _ => rfl) _ _ (Keep.refl _ _))
        have HR6 := hide (HR5.out.keep HKS6.out (by have := HGE.out; have := HGO.out; omega))
        have HK6 : Hid (Keep (fun i => i = g) wo w6) := hide (HK5.out.trans' HKS6.out (fun i hi h => by have := HGE.out; omega))
        clear hw6 HE5 HR5 HK5 HE4 HR4 HK4 HD2 HSZ2 HDS2 HKS6 HE4S
        have HM2 := hide (rmany_any g 200 X3 w6 HR6.out (by omega))
        rw [show (200 : Int).toNat = 200 from rfl] at HM2
        have HN2 : Hid ((manyR 200 X3).1 ≤ 200) := hide (by
          unfold manyR
          split
          · exact Nat.zero_le _
          · exact numR_le 200 _)
        have HENR : Hid (enR X = (⟨en, es, (iterR rdR (manyR 200 X3).1 (manyR 200 X3).2).1, eb⟩, (iterR rdR (manyR 200 X3).1 (manyR 200 X3).2).2)) := hide (by rw [HEN1.out, HES.out, HEB2.out, HX3.out, HX2.out, HX1.out]; rfl)
        go_upto_region 17 with (go_at_call 44; refine HM2.out.mono ?_; rintro e wC ⟨rfl, hr7, hk7⟩)
        have HR7 := hide hr7
        have HK7 := hide (HK6.out.trans hk7)
        have HE7 := hide (HE6.out.keep hk7 (by have := HGE.out; have := HGO.out; omega))
        clear hr7 hk7 HM2 HR6 HK6 HE6 HEN1 HES HEB2 HX1 HX2 HX3
        generalize (manyR 200 X3).1 = N2 at *
        generalize (manyR 200 X3).2 = st2 at *
        have hN2 : N2 ≤ 200 := HN2.out
        have HGC : Hid (ge < wC.heap.size ∧ g < wC.heap.size) := hide ⟨HE7.out.lt, HR7.out.lt⟩
        have HNE : Hid (ge ≠ g) := hide (by have := HGE.out; have := HGO.out; omega)
        go_loopw [8, 55] (fun v i wr => ∃ (t : Nat) (A2 : Option Addr) (c2 : Nat) (wh2 : Bool), t ≤ N2 ∧ i = .int .i64 t ∧ v = .bool wh2 ∧ Hid (wh2 = (wh && (iterR rdR t st2).1.all Rdq.ok)) ∧ Hid (Blk wr ge 44 (Enq.cells ⟨en, es, A2, t, c2, (iterR rdR t st2).1, eb⟩).toArray) ∧ Hid (wr.ownsRow wC.heap.size 87 33 (.slice A2 t c2) t ((iterR rdR t st2).1.flatMap Rdq.cells)) ∧ Hid (∀ x ∈ (iterR rdR t st2).1, x.n.length ≤ 40) ∧ Hid (Rl wr g (iterR rdR t st2).2) ∧ Hid (Keep (fun i => i = g ∨ i = ge) wC wr)) (fun _ i _ => N2 - (intOf i).toNat)
        case atStart => exact ⟨0, none, 0, wh, Nat.zero_le _, rfl, rfl, hide (by simp [iterR]), HE7, hide (World.ownsRow_nil _ _ _ _), hide (fun x hx => by cases hx), HR7, hide (Keep.refl _ _)⟩
        case round =>
          obtain ⟨t, A2, c2, wh2, ht, rfl, rfl, HW2, HGE2, HOW2, HNM2, HRT, HKT⟩ := hrel
          obtain ⟨wi, rfl⟩ : ∃ wi : World, wi = wr := ⟨_, rfl⟩
          by_cases hltt : t < N2
          case pos =>
            focus
              have HXT : Hid ((iterR rdR (t + 1) st2).1 = (iterR rdR t st2).1 ++ [(rdR (iterR rdR t st2).2).1] ∧ (iterR rdR (t + 1) st2).2 = (rdR (iterR rdR t st2).2).2) := hide ⟨rfl, rfl⟩
              obtain ⟨rs, hrs⟩ : ∃ rs, rs = (iterR rdR t st2).1 := ⟨_, rfl⟩
              obtain ⟨Y, hY⟩ : ∃ Y, Y = (iterR rdR t st2).2 := ⟨_, rfl⟩
              rw [← hrs] at HW2 HGE2 HOW2 HNM2 HXT
              rw [← hY] at HRT HXT
              clear hrs hY
              have HGI : Hid (g < wi.heap.size ∧ ge < wi.heap.size ∧ wC.heap.size ≤ wi.heap.size) := hide ⟨HRT.out.lt, HGE2.out.lt, HKT.out.size⟩
              have HT2 := hide (rtext_any g 40 Y wi HRT.out (by omega))
              rw [show (40 : Int).toNat = 40 from rfl] at HT2
              have hx40 : (textR 40 Y).1.length ≤ 40 := textR_le
              have hzero : ∀ w, (zeroValue 87).run Try.prog w = .ok (.agg ZR) w := zero_rd
              obtain ⟨xn, hxn⟩ : ∃ x, x = (textR 40 Y).1 := ⟨_, rfl⟩
              obtain ⟨Y1, hY1⟩ : ∃ x, x = (textR 40 Y).2 := ⟨_, rfl⟩
              rw [← hxn, ← hY1] at HT2
              have HXN := hide hxn
              have HY1 := hide hY1
              have HX40 : Hid (xn.length ≤ 40) := hide (by rw [hxn]; exact hx40)
              have hz1 : ZR.setIfInBounds 0 (S xn) = (Rdq.cells ⟨xn, []⟩).toArray := new_rd xn
              have HZ1 := hide hz1
              have HZS : Hid ((ZR.setIfInBounds 0 (S xn)).size = 33 ∧ ZR.size = 33) := hide ⟨by rw [hz1]; simp [Rdq.cells_len], rfl⟩
              have HZO : Hid ((ZR.setIfInBounds 0 (S xn)).all (·.oneCell') = true) := hide (by rw [hz1]; exact (RdV.mk_ _).one)
              have hjk2 : (t : Int) < (N2 : Int) := by omega
              clear hxn hY1 hx40 hz1
              go_upto_region 19 with (first
                | (go_at_call 45; refine HT2.out.mono ?_; rintro e w1 ⟨rfl, h1, k1⟩)
                | (refine wpList_store_mid rfl 87 (.tmp 13) (.tmp 59) rfl _ 0 (ZR.setIfInBounds 0 (S xn)) rfl rfl ((Blk.new _ _ _).there_ (by rw [HZS.out.1, HZS.out.2])) (by rw [HZS.out.1]; exact rd_info) HZO.out ?_))
              simp only [show ∀ (x : Act), x.put none undef = x from fun _ => rfl]
              refine name_world ?_
              intro v2 hv2
              have HBX := hide (box_any w1 87 ZR (ZR.setIfInBounds 0 (S xn)) (by rw [HZS.out.1, HZS.out.2]))
              rw [← hv2] at HBX
              have HQ2 : Hid (Blk v2 w1.heap.size 87 (Rdq.cells ⟨xn, []⟩).toArray) := hide (by rw [← HZ1.out]; exact HBX.out.1)
              have HRY2 : Hid (Rl v2 g Y1) := hide (h1.keep (Keep.of_below (F := fun _ => False) HBX.out.2 (fun k h1 h2 => by omega)) id)
              have HKY2 : Hid (Keep (fun i => i = g) wi v2) := hide (k1.trans' (Keep.of_below (F := fun _ => False) HBX.out.2 (fun k h1 h2 => by omega)) (fun _ _ h => h.elim))
              have HGX : Hid (wi.heap.size ≤ w1.heap.size) := hide k1.size
              clear hv2 HBX hzero HZS HZO HZ1 h1 k1 HT2 hjk2
              obtain ⟨gx, hgx⟩ : ∃ q, q = w1.heap.size := ⟨_, rfl⟩
              rw [← hgx] at HQ2 HGX ⊢
              clear hgx
              have HD3 := hide (digest_any g Y1 v2 HRY2.out)
              obtain ⟨xd, hxd⟩ : ∃ x, x = (textR 32 Y1).1 := ⟨_, rfl⟩
              obtain ⟨Y2, hY2⟩ : ∃ x, x = (textR 32 Y1).2 := ⟨_, rfl⟩
              rw [← hxd, ← hY2] at HD3
              obtain ⟨dx, hdx⟩ : ∃ d, d = darr (dpad xd) := ⟨_, rfl⟩
              rw [← hdx] at HD3
              have HXD := hide hxd
              have HY2 := hide hY2
              have HDS3 := hide (fun _ : Unit => hdx)
              have HSZ3 : Hid (dx.size = 32 ∧ dx.all (·.oneCell') = true) := hide ⟨by rw [hdx, darr_size, dpad_len], by rw [hdx]; exact darr_one _⟩
              clear hxd hY2 hdx
              have HQS : Hid ((Rdq.cells ⟨xn, []⟩).toArray.size = 33) := hide (by simp [Rdq.cells_len])
              obtain ⟨bc, hbc⟩ : ∃ b, b = (xd.length == 32) := ⟨_, rfl⟩
              rw [← hbc] at HD3
              have HBC := hide hbc
              clear hbc
              go_upto_region 20 with (first
                | (go_at_call 46; refine HD3.out.mono ?_; rintro e v3 ⟨rfl, h1, k1⟩; have HQ3 := hide (HQ2.out.keep k1 (by have := HGX.out; have := HGI.out; omega)); have HRY3 := hide h1; have HKY3 := hide (HKY2.out.trans k1); clear h1 k1)
                | (refine wpList_store_mid rfl 41 (.tmp 65) (.tmp 63) rfl gx 1 dx rfl rfl (HQ3.out.there_at (by rw [HSZ3.out.1, HQS.out]; omega)) (by rw [HSZ3.out.1]; exact dig_info) HSZ3.out.2 ?_))
              refine name_world ?_
              intro v4 hv4
              have HQ4 : Hid (Blk v4 gx 87 (Rdq.cells ⟨xn, xd⟩).toArray) := hide (by rw [hv4, HDS3.out ()]; exact set_face HQ3.out)
              have HKS : Hid (Keep (fun i => i = gx) v3 v4) := hide (by rw [hv4]; exact Keep.setCells (F := fun i => i = gx) (b := gx) (fun _ => rfl) _ _ (Keep.refl _ _))
              have HRY4 := hide (HRY3.out.keep HKS.out (by have := HGX.out; have := HGI.out; omega))
              have HKY4 : Hid (Keep (fun i => i = g) wi v4) := hide (HKY3.out.trans' HKS.out (fun i hi h => by have := HGX.out; omega))
              clear hv4 HQ3 HRY3 HKY3 HQ2 HRY2 HKY2 HD3 HSZ3 HDS3 HKS HQS
              have HV' := hide (RdV.mk_ ⟨xn, xd⟩)
              obtain ⟨xv, hxv⟩ : ∃ xv, xv = (Rdq.cells ⟨xn, xd⟩).toArray := ⟨_, rfl⟩
              rw [← hxv] at HV' HQ4
              have HXV := hide (fun _ : Unit => hxv)
              clear hxv
              have HGE4 := hide (HGE2.out.keep HKY4.out HNE.out)
              have HOW4 := hide (own_keep HOW2.out HKY4.out (fun i hi h => by have := own_base HOW2.out hi; have := HGC.out; omega))
              have q33 : v4.cell? ⟨ge, 33, none⟩ = some (.slice A2 t c2) := (HGE4.out.cell 33).trans (EnV.mk_ _).cr
              have HZC : Hid ((Value.agg ZR).cells.size = 33) := hide rfl
              have ht200 : t < 200 := by omega
              have HT200 := hide ht200
              have HB' : Hid (∀ b3 : Bool, b3 = (wh2 && bc) → b3 = (wh && (iterR rdR (t + 1) st2).1.all Rdq.ok)) := hide (fun b3 h => by
                rw [h, HXT.out.1, HW2.out, List.all_append, ← Bool.and_assoc]
                have e1 : [(rdR Y).1].all Rdq.ok = bc := by rw [HBC.out, HXD.out, HY1.out]; simp [Rdq.ok, rdR]
                rw [e1])
              have HXX : Hid ((rdR Y).1 = ⟨xn, xd⟩ ∧ (rdR Y).2 = Y2) := hide (by rw [HXN.out, HXD.out, HY2.out, HY1.out]; exact ⟨rfl, rfl⟩)
              cases wh2
              all_goals
                go_upto_region 21 with fail
                go_upto_region 22 with (first
                  | (refine wpList_load_mid rfl 87 (.tmp 13) rfl gx 0 rfl xv.toList _ HQ4.out.range Try.underlying87 rfl (by rw [Array.length_toList, HV'.out.size]; exact rd_info) ?_; rw [Array.toArray_toList])
                  | (refine wpList_part rfl 42 87 (.tmp 72) rfl 33 xv rfl HV'.out.size (by decide) (by decide) Try.underlying42 rd_info2 ?_)
                  | (at_builtin; have e1 := HOW4.out.alloc (.cells xv 87); have e2 : Blk (v4.alloc (.cells xv 87)) v4.heap.size 87 xv.toList.toArray := (by rw [Array.toArray_toList]; exact Blk.new _ _ _); refine wpList_appB rfl (.tmp 71) (.tmp 73) 42 rfl wC.heap.size 87 (.agg ZR) 33 48 Try.underlying42 rd_info3 HZC.out (by decide) (.slice A2 t c2) t (rs.flatMap Rdq.cells) ?hs e1 v4.heap.size xv.toList ?hx ?hl e2 ?h1 ?h63 ?hbytes ?hbase ?h; (case hs => exact rfl); (case hx => exact rfl); (case hl => (rw [Array.length_toList]; exact HV'.out.size)); (case h1 => exact all_one HV'.out.one); (case h63 => (unfold maxLen; have := HT200.out; omega)); (case hbytes => (have := HT200.out; omega)); (case hbase => (have := HKY4.out.size; have := HGI.out.2.2; simp; omega)); intro A4 c4 w9 hown9 hg9; clear e1 e2; have HG9 := hide ((HGE4.out.alloc (.cells xv 87)).grown hg9 (fun h => own_blk_ne HOW4.out HGE4.out (by decide) h.symm)); have q9 := (HG9.out.cell 33).trans (EnV.mk_ _).cr; have z9 := HG9.out.frozen 33; simp only at q9))
                refine name_world ?_
                intro v9 hv9
                have HV9 : Hid (Keep (fun i => i = ge) w9 v9) := hide (by rw [hv9]; exact Keep.setCell (F := fun i => i = ge) (Keep.refl _ w9) (p := ⟨ge, 33, none⟩) (fun _ => rfl) _)
                have HGN : Hid (Blk v9 ge 44 (Enq.cells ⟨en, es, A4, t + 1, c4, (iterR rdR (t + 1) st2).1, eb⟩).toArray) := hide (by rw [hv9]; exact set_reads HG9.out)
                have HON : Hid (v9.ownsRow wC.heap.size 87 33 (.slice A4 (t + 1) c4) (t + 1) ((iterR rdR (t + 1) st2).1.flatMap Rdq.cells)) := hide (by
                  rw [HXT.out.1, HXX.out.1, List.flatMap_append, List.flatMap_singleton]
                  have h1 : w9.ownsRow wC.heap.size 87 33 (.slice A4 (t + 1) c4) (t + 1) (rs.flatMap Rdq.cells ++ Rdq.cells ⟨xn, xd⟩) := by
                    have h0 := hown9
                    rwa [HXV.out (), List.toList_toArray] at h0
                  exact own_keep h1 HV9.out (fun i hi h => own_blk_ne h1 HG9.out (by decide) (by rw [hi, h])))
                have HNN : Hid (∀ x ∈ (iterR rdR (t + 1) st2).1, x.n.length ≤ 40) := hide (by
                  rw [HXT.out.1, HXX.out.1]
                  intro x hx
                  rcases List.mem_append.1 hx with hx | hx
                  · exact HNM2.out x hx
                  · obtain rfl := List.mem_singleton.1 hx; exact HX40.out)
                have HK49 : Hid (Keep (fun i => i = ge ∨ some i = (Value.slice A2 t c2).ownBlock) v4 v9) := hide ((((Keep.refl _ v4).alloc _).grown hg9 (fun i hi _ => .inr hi.symm)).trans' HV9.out (fun _ _ h => .inl h))
                have HRN : Hid (Rl v9 g (iterR rdR (t + 1) st2).2) := hide (by
                  rw [HXT.out.2, HXX.out.2]
                  exact HRY4.out.keep HK49.out (fun h => h.elim (fun h => HNE.out h.symm) (fun h => by have := own_base HOW4.out h.symm; have := HGC.out; omega)))
                have HKN : Hid (Keep (fun i => i = g ∨ i = ge) wC v9) := hide ((HKT.out.trans' HKY4.out (fun _ _ h => .inl h)).trans' HK49.out (fun i hi h => h.elim .inr (fun h => by have := own_base HOW4.out h.symm; omega)))
                clear hv9 hown9 hg9 q9 z9 q33 HG9 HV9 HK49 HGE4 HOW4 HRY4 HKY4 HQ4 HV' HXV HGE2 HOW2 HRT HKT
                go_wp2_with fail
                go_roundw
                · first | exact ⟨t + 1, A4, c4, false, by omega, by go_num, rfl, hide (HB'.out false rfl), HGN, HON, HNN, HRN, HKN⟩ | exact ⟨t + 1, A4, c4, bc, by omega, by go_num, rfl, hide (HB'.out bc rfl), HGN, HON, HNN, HRN, HKN⟩ | ((repeat apply Exists.intro); exact ⟨⟨t + 1, A4, c4, false, by omega, by go_num, rfl, hide (HB'.out false rfl), HGN, HON, HNN, HRN, HKN⟩, rfl⟩) | ((repeat apply Exists.intro); exact ⟨⟨t + 1, A4, c4, bc, by omega, by go_num, rfl, hide (HB'.out bc rfl), HGN, HON, HNN, HRN, HKN⟩, rfl⟩)
                · simp [intOf]; omega
          case neg =>
            focus
              obtain rfl : N2 = t := by omega
              obtain ⟨rs, hrs⟩ : ∃ rs, rs = (iterR rdR N2 st2).1 := ⟨_, rfl⟩
              have HRL2 : Hid (rs.length = N2) := hide (by rw [hrs]; exact iterR_len _ _ _)
              rw [← hrs] at HW2 HGE2 HOW2 HNM2 HENR
              clear hrs
              have HKO : Hid (Keep (fun i => i = g) wo wi) := hide (HK7.out.trans' HKT.out (fun i hi h => h.elim id (fun h => by have := HGE.out; omega)))
              have HOWi := hide (own_keep HOW.out HKO.out (fun i hi h => by have := own_base HOW.out hi; have := HGB.out; omega))
              have HENi : Hid (∀ e ∈ L, EnOwn wi wB.heap.size e) := hide (fun e he => (HEN.out e he).keep HKO.out (fun i hi h => by have := own_base (HEN.out e he).own hi; have := HGB.out; omega))
              have HSWB : Hid (wB.heap.size ≤ wC.heap.size ∧ wB.heap.size ≤ wi.heap.size) := hide ⟨Nat.le_trans HKW.out.size HK7.out.size, Nat.le_trans HKW.out.size HKO.out.size⟩
              obtain ⟨ba, hba⟩ : ∃ b, b = (es.length == 32) := ⟨_, rfl⟩
              obtain ⟨bb, hbb⟩ : ∃ b, b = (eb.length == 32) := ⟨_, rfl⟩
              have HB' : Hid (∀ b3 : Bool, b3 = (wh2 && ba && bb) → b3 = (iterR enR (k + 1) st1).1.all EnP.ok) := hide (fun b3 h => by
                rw [h, HX.out.1, HENR.out, List.all_append, ← HWH.out, HW2.out, hba, hbb]
                simp only [List.all_cons, List.all_nil, Bool.and_true, EnP.ok]
                simp only [Bool.and_assoc])
              rw [← hba, ← hbb]
              clear hba hbb
              have HV' := hide (EnV.mk_ ⟨en, es, A2, N2, c2, rs, eb⟩)
              obtain ⟨ev, hev⟩ : ∃ ev, ev = (Enq.cells ⟨en, es, A2, N2, c2, rs, eb⟩).toArray := ⟨_, rfl⟩
              rw [← hev] at HV' HGE2
              have HEV := hide (fun _ : Unit => hev)
              clear hev
              have HZC : Hid ((Value.agg ZE).cells.size = 66) := hide rfl
              have hk200 : k < 200 := by omega
              have HK200 := hide hk200
              have hjk2 : ¬ (N2 : Int) < (N2 : Int) := by omega
              cases wh2 <;> cases ba
              all_goals
                go_upto_region 24 with fail
                go_wp2_with (first
                  | (refine wpList_load_mid rfl 44 (.tmp 9) rfl ge 0 rfl ev.toList _ HGE2.out.range Try.underlying44 rfl (by rw [Array.length_toList, HV'.out.size]; exact en_info) ?_; rw [Array.toArray_toList])
                  | (refine wpList_part rfl 27 44 (.tmp 85) rfl 66 ev rfl HV'.out.size (by decide) (by decide) Try.underlying27 en_info2 ?_)
                  | (at_builtin; have e1 := HOWi.out.alloc (.cells ev 44); have e2 : Blk (wi.alloc (.cells ev 44)) wi.heap.size 44 ev.toList.toArray := (by rw [Array.toArray_toList]; exact Blk.new _ _ _); refine wpList_appB rfl (.tmp 84) (.tmp 86) 27 rfl wB.heap.size 44 (.agg ZE) 66 104 Try.underlying27 en_info3 HZC.out (by decide) (.slice A k c) k (L.flatMap Enq.cells) ?hs e1 wi.heap.size ev.toList ?hx ?hl e2 ?h1 ?h63 ?hbytes ?hbase ?h; (case hs => exact rfl); (case hx => exact rfl); (case hl => (rw [Array.length_toList]; exact HV'.out.size)); (case h1 => exact all_one HV'.out.one); (case h63 => (unfold maxLen; have := HK200.out; omega)); (case hbytes => (have := HK200.out; omega)); (case hbase => (have := HSWB.out.2; simp; omega)); intro A4 c4 w9 hown9 hg9; clear e1 e2; have HOWN9 := hide hown9; have HG9 := hide hg9; clear hown9 hg9))
                have HK9 : Hid (Keep (fun i => some i = (Value.slice A k c).ownBlock) wi w9) := hide (((Keep.refl _ wi).alloc _).grown HG9.out (fun i hi _ => hi.symm))
                have HON : Hid (w9.ownsRow wB.heap.size 44 66 (.slice A4 (k + 1) c4) (k + 1) ((L ++ [(⟨en, es, A2, N2, c2, rs, eb⟩ : Enq)]).flatMap Enq.cells)) := hide (by
                  have h0 := HOWN9.out
                  rw [HEV.out (), List.toList_toArray] at h0
                  rw [List.flatMap_append, List.flatMap_singleton]
                  exact h0)
                have HEN9 : Hid (∀ e ∈ L ++ [(⟨en, es, A2, N2, c2, rs, eb⟩ : Enq)], EnOwn w9 wB.heap.size e) := hide (by
                  intro e he
                  rcases List.mem_append.1 he with he | he
                  · exact (HENi.out e he).keep HK9.out (fun i hi h => own_own_ne (HENi.out e he).own HOWi.out (by decide) i hi h.symm)
                  · obtain rfl := List.mem_singleton.1 he
                    exact ⟨own_base_mono (own_keep HOW2.out HK9.out (fun i hi h => own_own_ne HOW2.out HOWi.out (by decide) i hi h.symm)) HSWB.out.1, HRL2.out, HN2.out, HN40.out, HNM2.out⟩)
                have HPN : Hid ((L ++ [(⟨en, es, A2, N2, c2, rs, eb⟩ : Enq)]).map Enq.pl = (iterR enR (k + 1) st1).1) := hide (by rw [HX.out.1, HENR.out, List.map_append, HPL.out]; rfl)
                have HRN : Hid (Rl w9 g (iterR enR (k + 1) st1).2) := hide (by
                  rw [HX.out.2, HENR.out]
                  exact HRT.out.keep HK9.out (fun h => by have := own_base HOWi.out h.symm; have := HGB.out; omega))
                have HKN : Hid (Keep (fun i => i = g) wB w9) := hide ((HKW.out.trans HKO.out).trans' HK9.out (fun i hi h => by have := own_base HOWi.out h.symm; omega))
                go_roundw
                · first | exact ⟨k + 1, A4, c4, L ++ [(⟨en, es, A2, N2, c2, rs, eb⟩ : Enq)], false, by omega, by go_num, rfl, rfl, hide (HB'.out false rfl), HON, HEN9, HPN, HRN, HKN⟩ | exact ⟨k + 1, A4, c4, L ++ [(⟨en, es, A2, N2, c2, rs, eb⟩ : Enq)], bb, by omega, by go_num, rfl, rfl, hide (HB'.out bb rfl), HON, HEN9, HPN, HRN, HKN⟩ | ((repeat apply Exists.intro); exact ⟨⟨k + 1, A4, c4, L ++ [(⟨en, es, A2, N2, c2, rs, eb⟩ : Enq)], false, by omega, by go_num, rfl, rfl, hide (HB'.out false rfl), HON, HEN9, HPN, HRN, HKN⟩, rfl⟩) | ((repeat apply Exists.intro); exact ⟨⟨k + 1, A4, c4, L ++ [(⟨en, es, A2, N2, c2, rs, eb⟩ : Enq)], bb, by omega, by go_num, rfl, rfl, hide (HB'.out bb rfl), HON, HEN9, HPN, HRN, HKN⟩, rfl⟩)
                · simp [intOf]; omega
    case neg =>
      focus
        obtain rfl : N1 = k := by omega
        have HLEN : Hid (L.length = N1) := hide (by have := congrArg List.length HPL.out; rw [List.length_map, HLE.out] at this; exact this)
        have HBR : Hid (Below w.heap.size w wo) := hide (HB9.out.trans (HKW.out.below (B := w.heap.size) HB9.out.size (fun i hi => by have := HG8.out; omega)))
        have HLA : Hid (LiAt wo (fun k => wo.heap.size ≤ k) A N1 L) := hide {
          lr := (Rd.of_ownB HOW.out).weak (fun k h1 h2 => by omega)
          ll := HLEN.out
          lb := by omega
          la := fun e he => by
            have h := HEN.out e he
            have h1 := h.le
            have h2 := h.sn
            exact ⟨(Rd.of_ownB h.own).weak (fun k h1 h2 => by omega), h.len, by omega, by omega, fun x hx => by have := h.sr x hx; omega⟩ }
        have HLN : Hid (LiOwn wo w.heap.size A N1 c L) := hide ⟨own_base_mono HOW.out HB9.out.size, fun e he => { HEN.out e he with own := own_base_mono (HEN.out e he).own HB9.out.size }, HLEN.out⟩
        have HD := hide (rdone_any g (iterR enR N1 st1).2 wo HRK.out)
        have HR := hide (right_any A N1 c L wo HLA.out)
        have HDEC3 : Hid (decM s = if decide (doneR (iterR enR N1 st1).2 = 0) && wh && rightL (L.map Enq.pl) then some (L.map Enq.pl) else none) := hide (by rw [HDEC2.out, HLI.out, HPL.out, HWH.out])
        have hdn : doneR (iterR enR N1 st1).2 = 0 ∨ doneR (iterR enR N1 st1).2 = 2 := by
          unfold doneR
          split
          · exact .inl rfl
          · exact .inr rfl
        obtain ⟨dn, hdn2⟩ : ∃ d, d = doneR (iterR enR N1 st1).2 := ⟨_, rfl⟩
        obtain ⟨rt, hrt⟩ : ∃ b, b = rightL (L.map Enq.pl) := ⟨_, rfl⟩
        rw [← hdn2] at HD HDEC3 hdn
        rw [← hrt] at HR HDEC3
        have hjk : ¬ (N1 : Int) < (N1 : Int) := by omega
        clear hdn2 hrt HDEC2 HLI HWH HPL HEN HOW HRK HKW
        rcases hdn with rfl | rfl
        case inr =>
          have HF : Hid (decM s = none) := hide (by rw [HDEC3.out]; rfl)
          go_wp2_with (go_at_call 47; refine HD.out.mono ?_; rintro e w1 ⟨rfl, hw1⟩; subst w1)
          go_ret2
          exact ⟨HBR.out, .inl ⟨HF.out, rfl⟩⟩
        cases wh
        case false =>
          have HF : Hid (decM s = none) := hide (by rw [HDEC3.out]; rfl)
          go_wp2_with (go_at_call 47; refine HD.out.mono ?_; rintro e w1 ⟨rfl, hw1⟩; subst w1)
          go_ret2
          exact ⟨HBR.out, .inl ⟨HF.out, rfl⟩⟩
        cases rt
        case false =>
          have HF : Hid (decM s = none) := hide (by rw [HDEC3.out]; rfl)
          go_wp2_with (first | (go_at_call 47; refine HD.out.mono ?_; rintro e w1 ⟨rfl, hw1⟩; subst w1) | (go_at_call 15; refine HR.out.mono ?_; rintro e w2 ⟨rfl, hb2⟩))
          go_ret2
          exact ⟨HBR.out.trans (hb2.mono HBR.out.size), .inl ⟨HF.out, rfl⟩⟩
        have HF : Hid (decM s = some (L.map Enq.pl)) := hide (by rw [HDEC3.out]; rfl)
        go_wp2_with (first | (go_at_call 47; refine HD.out.mono ?_; rintro e w1 ⟨rfl, hw1⟩; subst w1) | (go_at_call 15; refine HR.out.mono ?_; rintro e w2 ⟨rfl, hb2⟩))
        go_ret2
        exact ⟨HBR.out.trans (hb2.mono HBR.out.size), .inr ⟨A, c, L, by rw [HLEN.out] <;> rfl, HF.out, by rw [HLEN.out]; exact HLN.out.onb hb2⟩⟩
end Go.Proofs.Ytclgiapmbmbknaa
