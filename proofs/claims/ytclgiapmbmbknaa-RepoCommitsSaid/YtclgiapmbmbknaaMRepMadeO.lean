/- What Made makes, in plain words; operations of its drawn region, one by one; no statement of the seat is proved here. -/
import Derived.Test.YtclgiapmbmbknaaMRepRecov
import Derived.Test.YtclgiapmbmbknaaMQx
import Derived.Great.BuildSlice
import Derived.Test.YtclgiapmbmbknaaMRepKey
namespace Go.Proofs.Ytclgiapmbmbknaa
open Go.RowKit Go.Maps Go.Great
set_option linter.unusedVariables false

/-- How many names fall into a class; which of the four texts; the list. -/
def cntN (ns : List Int) (i : Nat) : Nat := (ns.filter fun n => decide (bits .and .i64 n 7 = (i : Int))).length
def jN (seed : Int) (k : Nat) : Nat := (bits .and .i64 (IntKind.i64.wrap (seed + (k : Int))) 3).toNat
def stepX (ns : List Int) (seed : Int) (i : Nat) : List (Nat × Nat) := if cntN ns i = 0 then [] else [(i, jN seed (cntN ns i))]
def madeTo (ns : List Int) (seed : Int) (t : Nat) : List (Nat × Nat) := (List.range t).flatMap (stepX ns seed)
def madeX (ns : List Int) (seed : Int) : List (Nat × Nat) := madeTo ns seed 6
theorem madeTo_succ (ns : List Int) (seed : Int) (t : Nat) : madeTo ns seed (t + 1) = madeTo ns seed t ++ stepX ns seed t := by
  simp [madeTo, List.range_succ]
theorem i64_low' (p : Nat) (m : Nat) (hp : p < 63) (hm : m = 2 ^ p - 1) (n : Int) : ∃ N : Nat, N ≤ m ∧ bits .and .i64 n (m : Int) = (N : Int) := by
  have hlt : m < 2 ^ 63 := by
    have : 2 ^ p ≤ 2 ^ 63 := Nat.pow_le_pow_right (by decide) (by omega)
    omega
  refine ⟨(BitVec.ofInt 64 n &&& BitVec.ofInt 64 (m : Int)).toNat, ?_, ?_⟩
  · rw [BitVec.toNat_and, BitVec.ofInt_natCast, BitVec.toNat_ofNat]
    exact Nat.le_trans Nat.and_le_right (Nat.mod_le _ _)
  · show IntKind.i64.wrap ((BitVec.ofInt 64 n &&& BitVec.ofInt 64 (m : Int)).toNat : Int) = _
    have h : (BitVec.ofInt 64 n &&& BitVec.ofInt 64 (m : Int)).toNat ≤ m := by
      rw [BitVec.toNat_and, BitVec.ofInt_natCast, BitVec.toNat_ofNat]
      exact Nat.le_trans Nat.and_le_right (Nat.mod_le _ _)
    rw [IntWalk.i64_in _ (by omega)]
theorem and3 (n : Int) : ∃ j : Nat, j < 4 ∧ bits .and .i64 n 3 = (j : Int) := by
  obtain ⟨j, h1, h2⟩ := i64_low' 2 3 (by omega) rfl n
  exact ⟨j, by omega, h2⟩
theorem jN_is (seed : Int) (k : Nat) : jN seed k < 4 ∧ bits .and .i64 (IntKind.i64.wrap (seed + (k : Int))) 3 = (jN seed k : Int) := by
  obtain ⟨j, h1, h2⟩ := and3 (IntKind.i64.wrap (seed + (k : Int)))
  have e : jN seed k = j := by unfold jN; rw [h2]; rfl
  rw [e]
  exact ⟨h1, h2⟩
theorem stepX_mem {ns : List Int} {seed : Int} {i : Nat} {x : Nat × Nat} (h : x ∈ stepX ns seed i) : x.1 = i ∧ x.2 < 4 := by
  unfold stepX at h
  split at h
  · cases h
  · obtain rfl := List.mem_singleton.1 h
    exact ⟨rfl, (jN_is _ _).1⟩
theorem madeTo_mem {ns : List Int} {seed : Int} {t : Nat} {x : Nat × Nat} (h : x ∈ madeTo ns seed t) : x.1 < t ∧ x.2 < 4 := by
  obtain ⟨i, hi, hx⟩ := List.mem_flatMap.1 h
  have := stepX_mem hx
  have := List.mem_range.1 hi
  omega
theorem madeTo_up (ns : List Int) (seed : Int) : ∀ t, (madeTo ns seed t).Pairwise (fun a b => a.1 < b.1)
  | 0 => List.Pairwise.nil
  | t + 1 => by
    rw [madeTo_succ, List.pairwise_append]
    refine ⟨madeTo_up ns seed t, ?_, fun a ha b hb => by have := (madeTo_mem ha).1; have := (stepX_mem hb).1; omega⟩
    unfold stepX
    split <;> simp
theorem madeTo_len (ns : List Int) (seed : Int) : ∀ t, (madeTo ns seed t).length ≤ t
  | 0 => Nat.le_refl _
  | t + 1 => by
    rw [madeTo_succ, List.length_append]
    have := madeTo_len ns seed t
    have : (stepX ns seed t).length ≤ 1 := by unfold stepX; split <;> simp
    omega
theorem madeX_ok (ns : List Int) (seed : Int) : OkX (madeX ns seed) := ⟨fun x hx => madeTo_mem hx, madeTo_up ns seed 6⟩
theorem cntN_take {ns : List Int} {t : Nat} (h : t < ns.length) (i : Nat) : cntN (ns.take (t + 1)) i = cntN (ns.take t) i + if bits .and .i64 ns[t] 7 = (i : Int) then 1 else 0 := by
  unfold cntN
  rw [List.take_add_one, List.getElem?_eq_getElem h, List.filter_append, List.length_append]
  by_cases e : bits .and .i64 ns[t] 7 = (i : Int) <;> simp [e]
theorem cntN_le (ns : List Int) (i : Nat) : cntN ns i ≤ ns.length := List.length_filter_le ..

section
variable {P : Program} {o : Oper} {a : Act} {w : World} {G : Value → World → Prop}
theorem runs_conv (s d : TypeId) (x : Operand) (ho : o.op = .convert s d x) (v : Value) (hx : a.eval x = v) (u : Value) (hr : (convert s d v).run P w = .ok u w) (h : G u w) : Runs P o a w G := by
  subst hx
  unfold Runs execOp
  simp only [ho, Sem.run_bind, hr, Result.andThen_ok, Sem.run_pure]
  exact h
theorem runs_build (t : TypeId) (parts : Array (Nat × Operand)) (ho : o.op = .build t parts) (u : Array Value) (hu : P.built t (parts.map fun (i, x) => (i, a.eval x)).toList = some u) (h : G (.agg u) w) : Runs P o a w G := by
  unfold Runs execOp
  simp only [ho, Sem.run_bind, run_build w t _ u hu, Result.andThen_ok]
  exact h
/-- '[]T{x}', x a value of several cells. -/
theorem runs_part (t e : TypeId) (x : Operand) (ho : o.op = .buildSlice t 1 #[(0, x)])
    (n : Nat) (v : Array Value) (hx : a.eval x = .agg v) (hv : v.size = n) (hn : 0 < n) (hs : n ≤ 2 ^ 24) (hu : P.underlying t = some (.slice e)) (hi : (P.info? e).map (fun i => (i.zero.isSome, i.size)) = some (true, n))
    (h : G (.slice (some ⟨w.heap.size, 0, none⟩) 1 1) (w.alloc (.cells v e))) : Runs P o a w G := by
  cases hie : P.info? e with
  | none => simp [hie] at hi
  | some ie =>
    simp only [hie, Option.map_some, Option.some.injEq, Prod.mk.injEq] at hi
    obtain ⟨z, hz⟩ := Option.isSome_iff_exists.1 hi.1
    unfold Runs execOp
    simp only [ho, Sem.run_bind, run_buildSlice w t e 1 ((#[(0, x)] : Array (Nat × Operand)).map fun (i, x) => (i, a.eval x)) v ie z hu hie hz (by rw [hi.2]; omega) (by rw [hi.2]; omega) (by
      rw [hi.2, Nat.one_mul]
      have := fill_one n ((Array.range n).map (z.cells[· % z.cells.size]!)) v (by simp) hv
      simpa [hx] using this), Result.andThen_ok]
    exact h
/-- An append of one element out of a new block onto what the call owns. -/
theorem runs_appB (s x : Operand) (t : TypeId) (ho : o.op = .call { callee := .builtin .append, args := #[s, x], argTypes := #[t, t] })
    (base : Nat) (e : TypeId) (z : Value) (size bytes : Nat) (ht : P.underlying t = some (.slice e)) (hinfo : (P.info? e).map (fun i => (i.zero, i.size, i.bytes)) = some (some z, size, bytes)) (hzs : z.cells.size = size) (hsz : 0 < size)
    (v : Value) (n : Nat) (xs : List Value) (hs : a.eval s = v) (hown : w.ownsRow base e size v n xs) (b : Nat) (news : List Value) (hx : a.eval x = .slice (some ⟨b, 0, none⟩) 1 1) (hl : news.length = size) (hb : Blk w b e news.toArray) (h1 : ∀ u ∈ news, u.oneCell' = true)
    (h63 : n + 1 ≤ maxLen) (hbytes : (n + 1) * bytes ≤ 140737488355328) (hbase : base ≤ w.heap.size)
    (h : ∀ A c w', w'.ownsRow base e size (.slice A (n + 1) c) (n + 1) (xs ++ news) → w.grownBy w' v.ownBlock → G (.slice A (n + 1) c) w') : Runs P o a w G := by
  obtain ⟨i, hi, hz, hz1, hz2⟩ := info_parts hinfo
  have hnews : ∀ j u, news[j]? = some u → w.cell? ((⟨b, 0, none⟩ : Addr).add j) = some u := fun j u hu => World.news_of_block hb j u (by simpa using hu)
  obtain ⟨v', w', hr, h2, h3, h4, h5⟩ := run_append_own_at (P := P) w base t o.type e i z size bytes ht hi hz hz1 hz2 hzs hsz v n xs hown ⟨b, 0, none⟩ 1 1 news (by omega) hnews h1 h63 hbytes hbase
  obtain ⟨A, c, rfl⟩ := own_slice h2
  unfold Runs execOp
  simp only [ho, resolve, invoke, builtin, Sem.run_bind, Sem.run_pure, Result.andThen_ok, List.map_toArray, List.map_cons, List.map_nil, hs, hx, hr]
  exact h A c w' h2 h3
end
set_option maxRecDepth 100000 in
theorem built_en3b (n d b : List UInt8) (h : d.length = 32) (hb : b.length = 32) : Try.prog.built 44 [(0, S n), (1, .agg (darr d)), (3, .agg (darr b))] = some (Enq.cells ⟨n, d, none, 0, 0, [], b⟩).toArray := by
  match d, h with
  | [a0, a1, a2, a3, a4, a5, a6, a7, a8, a9, b0, b1, b2, b3, b4, b5, b6, b7, b8, b9, c0, c1, c2, c3, c4, c5, c6, c7, c8, c9, d0, d1], _ =>
    match b, hb with
    | [e0, e1, e2, e3, e4, e5, e6, e7, e8, e9, f0, f1, f2, f3, f4, f5, f6, f7, f8, f9, g0, g1, g2, g3, g4, g5, g6, g7, g8, g9, h0, h1], _ => (show (_ : Option (Array Value)) = _; kernel_rfl)
theorem runs_en3b {o : Oper} {a : Act} {w : World} {G : Value → World → Prop} (x y z : Operand) (ho : o.op = .build 44 #[(0, x), (1, y), (3, z)])
    (n d b : List UInt8) (v1 v2 : Array Value) (hx : a.eval x = S n) (hy : a.eval y = .agg v1) (hz : a.eval z = .agg v2) (h1 : v1 = darr d) (h2 : v2 = darr b) (hl : d.length = 32) (hb : b.length = 32) (u : Array Value) (hu : u = (Enq.cells ⟨n, d, none, 0, 0, [], b⟩).toArray)
    (h : G (.agg u) w) : Runs Try.prog o a w G := by
  refine runs_build 44 _ ho u ?_ h
  simp only [List.map_toArray, List.map_cons, List.map_nil, hx, hy, hz]
  rw [h1, h2, hu]
  exact built_en3b n d b hl hb
/-- Bytes in a new block, as a string. -/
theorem conv_blk (w : World) (g : Nat) (bs : List UInt8) (n : Nat) (hn : bs.length = n) (h : Blk w g 5 (bs.map B8).toArray) : (convert 67 9 (.slice (some ⟨g, 0, none⟩) n n)).run Try.prog w = .ok (S bs) w := by
  subst hn
  refine run_convert_bytes_back _ 67 9 5 ⟨g, 0, none⟩ bs.length bs Try.underlying67 Try.underlying5 Try.underlying9 fun j hj => ?_
  have := h.cell j
  simp only [Addr.add_lit, Nat.zero_add]
  rw [this]
  simp [hj]
end Go.Proofs.Ytclgiapmbmbknaa
/- Made, walked; no statement of the seat is proved here. (Written by gen/repmade.py.) -/
namespace Go.Proofs.Ytclgiapmbmbknaa
open Go.RowKit Go.Maps
set_option linter.unusedVariables false
set_option linter.unusedSimpArgs false

theorem str_info3 : (Try.prog.info? 9).map (fun i => (i.zero, i.size, i.bytes)) = some (some (S []), 1, 16) := by kernel_rfl
/-- An entry of the law's, its slice of no reads. -/
def enqX (x : Nat × Nat) : Enq := ⟨[UInt8.ofNat (65 + x.1)], sumM ([115, 111, 117, 114, 99, 101, 32] ++ txt x), none, 0, 0, [], dgt x⟩
theorem enqX_pl (x : Nat × Nat) : (enqX x).pl = entX x := by simp only [enqX, Enq.pl, entX]
theorem u8_of (i : Nat) (h : i < 256) : IntKind.u8.wrap (i : Int) = (i : Int) := by
  rw [IntWalk.u8_in _ (by omega)]
theorem B8_of (i : Nat) (h : i < 256) : B8 (UInt8.ofNat i) = .int .u8 (i : Int) := by
  show Value.int .u8 ((UInt8.ofNat i).toNat : Int) = _
  have : (UInt8.ofNat i).toNat = i := by show i % 256 = i; omega
  rw [this]
set_option maxRecDepth 100000 in
set_option maxHeartbeats 4000000 in
theorem made_any (w : World) (A : Option Addr) (k c : Nat) (ns : List Int) (hr : Rd w (fun b => w.heap.size ≤ b) 1 A k (ns.map fun n => .int .i64 n)) (hk : k ≤ 20) (seed : Int) :
    Calls Try.prog 8 #[.slice A k c, .int .i64 seed] w (fun e w' => ∃ (A1 : Option Addr) (c1 : Nat) (L : List Enq) (A2 : Option Addr) (n2 c2 : Nat), e = .returned (.tuple #[.slice A1 L.length c1, .slice A2 n2 c2]) ∧ L.map Enq.pl = (madeX ns seed).map entX ∧
      LiOwn w' w.heap.size A1 L.length c1 L ∧ n2 = (madeX ns seed).length ∧ w'.ownsRow w.heap.size 9 1 (.slice A2 n2 c2) n2 (((madeX ns seed).map txt).map S) ∧ Below w.heap.size w w') := by
  have hnk : ns.length = k := by have := hr.1; simpa using this
  have HNK := hide hnk
  have HRR := hide hr
  have HZC : Hid ((Value.agg ZE).cells.size = 66) := hide rfl
  clear hnk hr
  go_enter Try.func8, Try.ntmps8
  go_wp2_with fail
  go_loopw [6, 7, 8] (fun u v i wr => ∃ (t m : Nat) (A1 : Option Addr) (c1 : Nat) (A2 : Option Addr) (c2 : Nat), t ≤ 6 ∧ u = .slice A1 m c1 ∧ v = .slice A2 m c2 ∧ i = .int .i64 t ∧ Hid (m = (madeTo ns seed t).length) ∧ Hid (wr.ownsRow w.heap.size 44 66 (.slice A1 m c1) m (((madeTo ns seed t).map enqX).flatMap Enq.cells)) ∧ Hid (wr.ownsRow w.heap.size 9 1 (.slice A2 m c2) m (((madeTo ns seed t).map txt).map S)) ∧ Hid (Below w.heap.size w wr)) (fun _ _ i _ => 6 - (intOf i).toNat)
  case atStart =>
    have h1 := World.ownsRow_made w #[] 0 (base := w.heap.size) (e := 44) (size := 66) (Nat.le_refl _) (by decide) rfl
    have h2 := World.ownsRow_made (w.alloc (.cells #[] 44)) #[] 0 (base := w.heap.size) (e := 9) (size := 1) (by simp) (by decide) rfl
    rw [World.size_alloc] at h2
    exact ⟨0, 0, _, 0, _, 0, by omega, rfl, rfl, rfl, hide rfl, hide (h1.alloc _), hide h2, hide (((Below.refl _ w).alloc (Nat.le_refl _) _).alloc (by simp) _)⟩
  case round =>
    obtain ⟨t, m, A1, c1, A2, c2, ht, rfl, rfl, rfl, HM, HO1, HO2, HB⟩ := hrel
    by_cases hlt : t < 6
    case neg =>
      obtain rfl : t = 6 := by omega
      go_wp2_with fail
      go_ret2
      have hm6 : m ≤ 6 := by rw [HM.out]; exact madeTo_len ns seed 6
      have hll : ((madeX ns seed).map enqX).length = m := by rw [HM.out, List.length_map]; rfl
      refine ⟨A1, c1, (madeX ns seed).map enqX, A2, m, c2, by rw [hll] <;> rfl, ?_, ?_, HM.out, HO2.out, HB.out⟩
      · rw [List.map_map]
        exact List.map_congr_left fun x _ => enqX_pl x
      · rw [hll]
        refine ⟨HO1.out, fun e he => ?_, hll⟩
        obtain ⟨x, _, rfl⟩ := List.mem_map.1 he
        exact { own := World.ownsRow_nil _ _ _ _, len := rfl, le := by show 0 ≤ 200; omega, sn := by simp [enqX], sr := fun x hx => by cases hx }
    case pos =>
      have hml : m ≤ 6 := by rw [HM.out]; exact Nat.le_trans (madeTo_len ns seed t) ht
      obtain ⟨wo, hwo⟩ : ∃ x : World, x = wr := ⟨_, rfl⟩
      rw [← hwo] at HO1 HO2 HB ⊢
      clear hwo
      have hrr : Rd wo (fun b => w.heap.size ≤ b) 1 A k (ns.map fun n => .int .i64 n) := HRR.out.keep (Keep.of_below HB.out (fun k h1 h2 => by omega))
      go_wp2_with fail
      go_loopw [9, 21] (fun u i wr => ∃ q, q ≤ k ∧ u = .int .i64 (cntN (ns.take q) t : Nat) ∧ i = .int .i64 q ∧ wr = wo) (fun _ i _ => k - (intOf i).toNat)
      case atStart => exact ⟨0, Nat.zero_le _, by simp [cntN], rfl, rfl⟩
      case round =>
        obtain ⟨q, hq, rfl, rfl, rfl⟩ := hrel
        have hcq : cntN (ns.take q) t ≤ 20 := Nat.le_trans (cntN_le _ _) (by rw [List.length_take]; omega)
        by_cases hlq : q < k
        case pos =>
          have hlq2 : q < ns.length := by rw [HNK.out]; exact hlq
          have HCT := hide (cntN_take hlq2 t)
          obtain ⟨ni, hni⟩ : ∃ n, n = ns[q] := ⟨_, rfl⟩
          rw [← hni] at HCT
          obtain ⟨x, o, rfl, hx1, _, hcell⟩ := Rd.rec_ (size := 1) (l := ns) (f := fun n => [.int .i64 n]) (fun _ => rfl) (by rw [← List.map_eq_flatMap]; exact hrr) HNK.out q hlq
          have q0 : wr.cell? ⟨x, o + q, none⟩ = some (.int .i64 ni) := by have := hcell 0 (.int .i64 ni) (by rw [hni]; rfl); simpa using this
          clear hcell hni
          obtain ⟨cq, hcq2⟩ : ∃ x, x = cntN (ns.take q) t := ⟨_, rfl⟩
          rw [← hcq2] at HCT hcq ⊢
          clear hcq2
          obtain ⟨bb, hbb⟩ : ∃ b, bits .and .i64 ni 7 = b := ⟨_, rfl⟩
          rw [hbb] at HCT
          by_cases hm : bb = (t : Int)
          · rw [if_pos hm] at HCT
            go_wp2_with fail
            go_roundw
            · exact ⟨q + 1, by omega, by rw [HCT.out] <;> rfl, by first | rfl | trivial⟩
            · simp [intOf]; omega
          · rw [if_neg hm] at HCT
            go_wp2_with fail
            go_roundw
            · exact ⟨q + 1, by omega, by rw [HCT.out] <;> rfl, by first | rfl | trivial⟩
            · simp [intOf]; omega
        case neg =>
          obtain rfl : q = k := by omega
          have HST : Hid (stepX ns seed t = if cntN (ns.take q) t = 0 then [] else [(t, jN seed (cntN (ns.take q) t))]) := hide (by rw [List.take_of_length_le (by rw [HNK.out]; exact Nat.le_refl _)]; rfl)
          have HJ := hide (jN_is seed (cntN (ns.take q) t))
          obtain ⟨cq, hcq2⟩ : ∃ x, x = cntN (ns.take q) t := ⟨_, rfl⟩
          rw [← hcq2] at HST HJ hcq ⊢
          clear hcq2 hrr
          by_cases hc0 : cq = 0
          case pos =>
            subst hc0
            rw [if_pos rfl] at HST
            have HMT : Hid (madeTo ns seed (t + 1) = madeTo ns seed t) := hide (by rw [madeTo_succ, HST.out, List.append_nil])
            go_wp2_with fail
            go_roundw
            · exact ⟨t + 1, m, A1, c1, A2, c2, by omega, rfl, rfl, rfl, hide (by rw [HMT.out]; exact HM.out), hide (by rw [HMT.out]; exact HO1.out), hide (by rw [HMT.out]; exact HO2.out), HB⟩
            · simp [intOf]; omega
          case neg =>
            rw [if_neg hc0] at HST
            have HMT : Hid (madeTo ns seed (t + 1) = madeTo ns seed t ++ [(t, jN seed cq)]) := hide (by rw [madeTo_succ, HST.out])
            obtain ⟨j, hj⟩ : ∃ j, j = jN seed cq := ⟨_, rfl⟩
            rw [← hj] at HMT HJ
            clear hj HST
            obtain ⟨hj4, hjb⟩ := HJ.out
            clear HJ
            replace hjb : bits .and .i64 (wrap64 (seed + (cq : Int))) 3 = (j : Int) := by rw [← IntWalk.i64_left]; exact hjb
            have HXT : Hid (txt (t, j) = [116, UInt8.ofNat (97 + t), UInt8.ofNat (48 + j)]) := hide rfl
            obtain ⟨tx, htx⟩ : ∃ x, x = txt (t, j) := ⟨_, rfl⟩
            have HTX := hide htx
            rw [← htx] at HXT
            clear htx
            have HCV : Hid (∀ W : World, (convert 67 9 (.slice (some ⟨W.heap.size, 0, none⟩) 3 3)).run Try.prog (W.alloc (.cells #[.int .u8 116, .int .u8 (97 + (t : Int)), .int .u8 (48 + (j : Int))] 5)) = .ok (S tx) (W.alloc (.cells #[.int .u8 116, .int .u8 (97 + (t : Int)), .int .u8 (48 + (j : Int))] 5))) := hide (fun W => by
              have h1 : (tx.map B8).toArray = #[.int .u8 116, .int .u8 (97 + (t : Int)), .int .u8 (48 + (j : Int))] := by
                rw [HXT.out]
                simp only [List.map_cons, List.map_nil, B8_of (97 + t) (by omega), B8_of (48 + j) (by omega)]
                rfl
              exact conv_blk _ _ tx 3 (by rw [HXT.out]; rfl) (by rw [h1]; exact Blk.new _ _ _))
            have ha := IntWalk.u8_in (97 + (t : Int)) (by omega)
            have hb := IntWalk.u8_in (48 + (j : Int)) (by omega)
            have hcv := HCV.out wr
            go_upto_region 15 with fail
            obtain ⟨w2, hw2⟩ : ∃ x, x = wr.alloc (.cells #[.int .u8 116, .int .u8 (97 + (t : Int)), .int .u8 (48 + (j : Int))] 5) := ⟨_, rfl⟩
            rw [← hw2]
            have HB2 : Hid (Below w.heap.size w w2) := hide (by rw [hw2]; exact HB.out.alloc HB.out.size _)
            have HO1b : Hid (w2.ownsRow w.heap.size 44 66 (.slice A1 m c1) m (((madeTo ns seed t).map enqX).flatMap Enq.cells)) := hide (by rw [hw2]; exact HO1.out.alloc _)
            have HO2b : Hid (w2.ownsRow w.heap.size 9 1 (.slice A2 m c2) m (((madeTo ns seed t).map txt).map S)) := hide (by rw [hw2]; exact HO2.out.alloc _)
            clear hw2 HCV hcv ha hb HO1 HO2 HB
            have HZS : Hid ((S []).cells.size = 1) := hide rfl
            go_upto_region 16 with (at_builtin; have e1 := HO2b.out.alloc (.cells #[S tx] 9); have e2 : Blk (w2.alloc (.cells #[S tx] 9)) w2.heap.size 9 [S tx].toArray := Blk.new _ _ _; refine wpList_appB rfl (.tmp 45) (.tmp 47) 28 rfl w.heap.size 9 (S []) 1 16 Try.underlying28 str_info3 HZS.out (by decide) (.slice A2 m c2) m (((madeTo ns seed t).map txt).map S) ?hs e1 w2.heap.size [S tx] ?hx ?hl e2 ?h1 ?h63 ?hbytes ?hbase ?h; (case hs => exact rfl); (case hx => exact rfl); (case hl => exact rfl); (case h1 => (intro v hv; obtain rfl := List.mem_singleton.1 hv; rfl)); (case h63 => (unfold maxLen; omega)); (case hbytes => omega); (case hbase => (have := HB2.out.size; simp; omega)); intro A4 c4 w3 hown3 hg3; clear e1 e2; have HOWN3 := hide hown3; have HG3 := hide hg3; clear hown3 hg3)
            have HK3 : Hid (Keep (fun i => some i = (Value.slice A2 m c2).ownBlock) w2 w3) := hide (((Keep.refl _ w2).alloc _).grown HG3.out (fun i hi _ => hi.symm))
            have HO1c : Hid (w3.ownsRow w.heap.size 44 66 (.slice A1 m c1) m (((madeTo ns seed t).map enqX).flatMap Enq.cells)) := hide (own_keep HO1b.out HK3.out (fun i hi h => own_own_ne HO1b.out HO2b.out (by decide) i hi h.symm))
            have HO2c : Hid (w3.ownsRow w.heap.size 9 1 (.slice A4 (m + 1) c4) (m + 1) (((madeTo ns seed (t + 1)).map txt).map S)) := hide (by
              rw [HMT.out, List.map_append, List.map_append, List.map_singleton, List.map_singleton, ← HTX.out]
              exact HOWN3.out)
            have HB3 : Hid (Below w.heap.size w w3) := hide (HB2.out.trans (HK3.out.below (B := w.heap.size) HB2.out.size (fun k hk => own_base HO2b.out hk.symm)))
            clear HOWN3 HG3 HK3 HO2b HO1b HB2
            have HLM : Hid (tx.length = 3) := hide (by rw [HXT.out]; rfl)
            have hl3 : tx.length = 3 := HLM.out
            obtain ⟨dzs, hdzs⟩ : ∃ d, d = darr (sumM (115 :: 111 :: 117 :: 114 :: 99 :: 101 :: 32 :: tx)) := ⟨_, rfl⟩
            have HS1 : Hid (∀ (W : World) (b : Nat), Blk W b 9 #[S (115 :: 111 :: 117 :: 114 :: 99 :: 101 :: 32 :: tx)] → Calls Try.prog 23 #[.slice (some ⟨b, 0, none⟩) 1 1] W fun e w' => e = .returned (.agg dzs) ∧ Below W.heap.size W w') := hide (fun W b hb => by rw [hdzs]; exact sum_blk W b _ (by simp only [List.length_cons, hl3]; omega) hb)
            have HDS : Hid (∀ _ : Unit, dzs = darr (sumM (115 :: 111 :: 117 :: 114 :: 99 :: 101 :: 32 :: tx))) := hide (fun _ => hdzs)
            clear hdzs
            obtain ⟨dzb, hdzb⟩ : ∃ d, d = darr (sumM tx) := ⟨_, rfl⟩
            have HS2 : Hid (∀ (W : World) (b : Nat), Blk W b 9 #[S tx] → Calls Try.prog 23 #[.slice (some ⟨b, 0, none⟩) 1 1] W fun e w' => e = .returned (.agg dzb) ∧ Below W.heap.size W w') := hide (fun W b hb => by rw [hdzb]; exact sum_blk W b _ (by omega) hb)
            have HDB : Hid (∀ _ : Unit, dzb = darr (sumM tx)) := hide (fun _ => hdzb)
            clear hdzb
            obtain ⟨nmx, hnmx⟩ : ∃ x, x = [UInt8.ofNat (65 + t)] := ⟨_, rfl⟩
            have HNX : Hid (∀ W g, Blk W g 5 #[.int .u8 (65 + (t : Int))] → (convert 67 9 (.slice (some ⟨g, 0, none⟩) 1 1)).run Try.prog W = .ok (S nmx) W) := hide (fun W g hb => by
              have h1 : (nmx.map B8).toArray = #[.int .u8 (65 + (t : Int))] := by
                rw [hnmx]
                simp only [List.map_cons, List.map_nil, B8_of (65 + t) (by omega)]
                rfl
              exact conv_blk _ _ nmx 1 (by rw [hnmx]; rfl) (by rw [h1]; exact hb))
            obtain ⟨ev, hev⟩ : ∃ v, v = (Enq.cells (enqX (t, j))).toArray := ⟨_, rfl⟩
            have HEV : Hid (∀ _ : Unit, ev = (Enq.cells ⟨nmx, sumM (115 :: 111 :: 117 :: 114 :: 99 :: 101 :: 32 :: tx), none, 0, 0, [], sumM tx⟩).toArray) := hide (fun _ => by rw [hev, enqX, hnmx, HTX.out]; simp only [dgt, List.cons_append, List.nil_append])
            have HEE : Hid (∀ _ : Unit, ev = (Enq.cells (enqX (t, j))).toArray) := hide (fun _ => hev)
            have HV' := hide (EnV.mk_ (enqX (t, j)))
            rw [← hev] at HV'
            clear hev hnmx
            have ha := IntWalk.u8_in (65 + (t : Int)) (by omega)
            have ha2 := IntWalk.i64_in (65 + (t : Int)) (by omega)
            obtain ⟨K, hK⟩ : ∃ K : Nat → Qk, K = (fun d => match d with | 49 => .is (.slice A1 m c1) | 50 => .is (.int .i64 t) | 51 => .is (.int .i64 (65 + (t : Int))) | 52 => .is (.int .u8 (65 + (t : Int))) | 53 => .ex (fun g => .slice (some ⟨g, 0, none⟩) 1 1) 5 #[.int .u8 (65 + (t : Int))] | 54 => .is (S nmx) | 55 => .is (S tx) | 56 => .is (S (115 :: 111 :: 117 :: 114 :: 99 :: 101 :: 32 :: tx)) | 57 => .ex (fun g => .slice (some ⟨g, 0, none⟩) 1 1) 9 #[S (115 :: 111 :: 117 :: 114 :: 99 :: 101 :: 32 :: tx)] | 58 => .is (.agg dzs) | 59 => .is (S tx) | 60 => .ex (fun g => .slice (some ⟨g, 0, none⟩) 1 1) 9 #[S tx] | 61 => .is (.agg dzb) | 62 => .is (.agg ev) | 63 => .ex (fun g => .slice (some ⟨g, 0, none⟩) 1 1) 44 ev | _ => .any) := ⟨_, rfl⟩
            refine region_qxa (by kernel_rfl) [⟨0, some 49, false, [0], []⟩, ⟨1, some 50, false, [0, 1], []⟩, ⟨2, some 51, false, [0], [50]⟩, ⟨3, some 52, false, [0], [51]⟩, ⟨4, some 53, false, [0], [52]⟩, ⟨5, some 54, false, [0], [53]⟩, ⟨6, some 55, false, [0], []⟩, ⟨7, some 56, false, [0], [55]⟩, ⟨8, some 57, false, [0], [56]⟩, ⟨9, some 58, false, [0], [57]⟩, ⟨10, some 59, false, [0], []⟩, ⟨11, some 60, false, [0], [59]⟩, ⟨12, some 61, false, [0], [60]⟩, ⟨13, some 62, false, [0], [54, 58, 61]⟩, ⟨14, some 63, false, [0], [62]⟩, ⟨15, some 64, true, [0], [49, 63]⟩, ⟨16, some 6, false, [1], [64]⟩] 15 (KA K 64 6) (TA (fun x w' => ∃ A' c', x = .slice A' (m + 1) c' ∧ w'.ownsRow w.heap.size 44 66 (.slice A' (m + 1) c') (m + 1) (((madeTo ns seed t).map enqX).flatMap Enq.cells ++ ev.toList)) 64 6) (fun w' => Below w.heap.size w w' ∧ w'.ownsRow w.heap.size 9 1 (.slice A4 (m + 1) c4) (m + 1) (((madeTo ns seed (t + 1)).map txt).map S)) (by kernel_rfl) ?obs ?hend
            case obs =>
              refine List.forall_mem_cons.2 ⟨?_, ?_⟩
              · refine ObA.mk (KA.mono K 64 6) (by rfl) ?_
                intro z w' hb hz G hG
                simp only [putsAt, List.foldl]
                unfold Runs
                go_simp
                exact hG _ _ (Below.refl _ _) (fun d' e => by cases e; exact ⟨⟨by decide, by decide⟩, by rw [hK]; first | rfl | (show _ = _; simp [ha, ha2])⟩)
              refine List.forall_mem_cons.2 ⟨?_, ?_⟩
              · refine ObA.pur (u := .int .i64 t) (by rfl) (fun w' => ⟨⟨by decide, by decide⟩, by rw [hK]; rfl⟩) (fun w' e => by rcases e with e | e <;> cases e) ?_
                intro w' G hG
                unfold Runs
                go_simp
                exact hG
              refine List.forall_mem_cons.2 ⟨?_, ?_⟩
              · refine ObA.mk (KA.mono K 64 6) (by rfl) ?_
                intro z w' hb hz G hG
                have e50 : z 50 = .int .i64 t := by have h := (hz 50 (by simp)).2; rw [hK] at h; exact h
                simp only [putsAt, List.foldl, e50]
                unfold Runs
                go_simp
                exact hG _ _ (Below.refl _ _) (fun d' e => by cases e; exact ⟨⟨by decide, by decide⟩, by rw [hK]; first | rfl | (show _ = _; simp [ha, ha2])⟩)
              refine List.forall_mem_cons.2 ⟨?_, ?_⟩
              · refine ObA.mk (KA.mono K 64 6) (by rfl) ?_
                intro z w' hb hz G hG
                have e51 : z 51 = .int .i64 (65 + (t : Int)) := by have h := (hz 51 (by simp)).2; rw [hK] at h; exact h
                simp only [putsAt, List.foldl, e51]
                unfold Runs
                go_simp
                exact hG _ _ (Below.refl _ _) (fun d' e => by cases e; exact ⟨⟨by decide, by decide⟩, by rw [hK]; first | rfl | (show _ = _; simp [ha, ha2])⟩)
              refine List.forall_mem_cons.2 ⟨?_, ?_⟩
              · refine ObA.mk (KA.mono K 64 6) (by rfl) ?_
                intro z w' hb hz G hG
                have e52 : z 52 = .int .u8 (65 + (t : Int)) := by have h := (hz 52 (by simp)).2; rw [hK] at h; exact h
                simp only [putsAt, List.foldl, e52]
                unfold Runs
                go_simp
                exact hG _ _ ((Below.refl _ _).alloc (Nat.le_refl _) _) (fun d' e => by cases e; exact ⟨⟨by decide, by decide⟩, by rw [hK]; exact ⟨_, rfl, Blk.new _ _ _⟩⟩)
              refine List.forall_mem_cons.2 ⟨?_, ?_⟩
              · refine ObA.mk (KA.mono K 64 6) (by rfl) ?_
                intro z w' hb hz G hG
                obtain ⟨g53, e53, k53⟩ : ∃ g, z 53 = (fun g => .slice (some ⟨g, 0, none⟩) 1 1) g ∧ Blk w' g 5 #[.int .u8 (65 + (t : Int))] := by have h := (hz 53 (by simp)).2; rw [hK] at h; exact h
                simp only [putsAt, List.foldl, e53]
                exact runs_conv 67 9 (.tmp 53) rfl _ (by simp [Act.eval, Act.put]) (S nmx) (HNX.out _ _ k53) (hG _ _ (Below.refl _ _) (fun d' e => by cases e; exact ⟨⟨by decide, by decide⟩, by rw [hK]; rfl⟩))
              refine List.forall_mem_cons.2 ⟨?_, ?_⟩
              · refine ObA.mk (KA.mono K 64 6) (by rfl) ?_
                intro z w' hb hz G hG
                simp only [putsAt, List.foldl]
                unfold Runs
                go_simp
                try rw [if_neg (by first | omega | (simp; omega))]
                exact hG _ _ (Below.refl _ _) (fun d' e => by cases e; exact ⟨⟨by decide, by decide⟩, by rw [hK]; first | rfl | (show _ = _; simp [ha, ha2])⟩)
              refine List.forall_mem_cons.2 ⟨?_, ?_⟩
              · refine ObA.mk (KA.mono K 64 6) (by rfl) ?_
                intro z w' hb hz G hG
                have e55 : z 55 = S tx := by have h := (hz 55 (by simp)).2; rw [hK] at h; exact h
                simp only [putsAt, List.foldl, e55]
                unfold Runs
                go_simp
                try rw [if_neg (by first | omega | (simp; omega))]
                exact hG _ _ (Below.refl _ _) (fun d' e => by cases e; exact ⟨⟨by decide, by decide⟩, by rw [hK]; first | rfl | (show _ = _; simp [ha, ha2])⟩)
              refine List.forall_mem_cons.2 ⟨?_, ?_⟩
              · refine ObA.mk (KA.mono K 64 6) (by rfl) ?_
                intro z w' hb hz G hG
                have e56 : z 56 = S (115 :: 111 :: 117 :: 114 :: 99 :: 101 :: 32 :: tx) := by have h := (hz 56 (by simp)).2; rw [hK] at h; exact h
                simp only [putsAt, List.foldl, e56]
                unfold Runs
                go_simp
                exact hG _ _ ((Below.refl _ _).alloc (Nat.le_refl _) _) (fun d' e => by cases e; exact ⟨⟨by decide, by decide⟩, by rw [hK]; exact ⟨_, rfl, Blk.new _ _ _⟩⟩)
              refine List.forall_mem_cons.2 ⟨?_, ?_⟩
              · refine ObA.mk (KA.mono K 64 6) (by rfl) ?_
                intro z w' hb hz G hG
                obtain ⟨g57, e57, k57⟩ : ∃ g, z 57 = (fun g => .slice (some ⟨g, 0, none⟩) 1 1) g ∧ Blk w' g 9 #[S (115 :: 111 :: 117 :: 114 :: 99 :: 101 :: 32 :: tx)] := by have h := (hz 57 (by simp)).2; rw [hK] at h; exact h
                simp only [putsAt, List.foldl, e57]
                unfold Runs
                go_simp
                refine (HS1.out _ g57 k57).mono ?_
                rintro e w2 ⟨rfl, hb2⟩
                exact ⟨_, rfl, hG _ _ hb2 (fun d' e => by cases e; exact ⟨⟨by decide, by decide⟩, by rw [hK]; rfl⟩)⟩
              refine List.forall_mem_cons.2 ⟨?_, ?_⟩
              · refine ObA.mk (KA.mono K 64 6) (by rfl) ?_
                intro z w' hb hz G hG
                simp only [putsAt, List.foldl]
                unfold Runs
                go_simp
                try rw [if_neg (by first | omega | (simp; omega))]
                exact hG _ _ (Below.refl _ _) (fun d' e => by cases e; exact ⟨⟨by decide, by decide⟩, by rw [hK]; first | rfl | (show _ = _; simp [ha, ha2])⟩)
              refine List.forall_mem_cons.2 ⟨?_, ?_⟩
              · refine ObA.mk (KA.mono K 64 6) (by rfl) ?_
                intro z w' hb hz G hG
                have e59 : z 59 = S tx := by have h := (hz 59 (by simp)).2; rw [hK] at h; exact h
                simp only [putsAt, List.foldl, e59]
                unfold Runs
                go_simp
                exact hG _ _ ((Below.refl _ _).alloc (Nat.le_refl _) _) (fun d' e => by cases e; exact ⟨⟨by decide, by decide⟩, by rw [hK]; exact ⟨_, rfl, Blk.new _ _ _⟩⟩)
              refine List.forall_mem_cons.2 ⟨?_, ?_⟩
              · refine ObA.mk (KA.mono K 64 6) (by rfl) ?_
                intro z w' hb hz G hG
                obtain ⟨g60, e60, k60⟩ : ∃ g, z 60 = (fun g => .slice (some ⟨g, 0, none⟩) 1 1) g ∧ Blk w' g 9 #[S tx] := by have h := (hz 60 (by simp)).2; rw [hK] at h; exact h
                simp only [putsAt, List.foldl, e60]
                unfold Runs
                go_simp
                refine (HS2.out _ g60 k60).mono ?_
                rintro e w2 ⟨rfl, hb2⟩
                exact ⟨_, rfl, hG _ _ hb2 (fun d' e => by cases e; exact ⟨⟨by decide, by decide⟩, by rw [hK]; rfl⟩)⟩
              refine List.forall_mem_cons.2 ⟨?_, ?_⟩
              · refine ObA.mk (KA.mono K 64 6) (by rfl) ?_
                intro z w' hb hz G hG
                have e54 : z 54 = S nmx := by have h := (hz 54 (by simp)).2; rw [hK] at h; exact h
                have e58 : z 58 = .agg dzs := by have h := (hz 58 (by simp)).2; rw [hK] at h; exact h
                have e61 : z 61 = .agg dzb := by have h := (hz 61 (by simp)).2; rw [hK] at h; exact h
                simp only [putsAt, List.foldl, e54, e58, e61]
                exact runs_en3b (.tmp 54) (.tmp 58) (.tmp 61) rfl nmx _ _ dzs dzb (by simp [Act.eval, Act.put]) (by simp [Act.eval, Act.put]) (by simp [Act.eval, Act.put]) (HDS.out ()) (HDB.out ()) (sumM_len _) (sumM_len _) ev (HEV.out ()) (hG _ _ (Below.refl _ _) (fun d' e => by cases e; exact ⟨⟨by decide, by decide⟩, by rw [hK]; rfl⟩))
              refine List.forall_mem_cons.2 ⟨?_, ?_⟩
              · refine ObA.mk (KA.mono K 64 6) (by rfl) ?_
                intro z w' hb hz G hG
                have e62 : z 62 = .agg ev := by have h := (hz 62 (by simp)).2; rw [hK] at h; exact h
                simp only [putsAt, List.foldl, e62]
                exact runs_part 27 44 (.tmp 62) rfl 66 ev (by simp [Act.eval, Act.put]) HV'.out.size (by decide) (by decide) Try.underlying27 en_info2 (hG _ _ ((Below.refl _ _).alloc (Nat.le_refl _) _) (fun d' e => by cases e; exact ⟨⟨by decide, by decide⟩, by rw [hK]; exact ⟨_, rfl, Blk.new _ _ _⟩⟩))
              refine List.forall_mem_cons.2 ⟨?_, ?_⟩
              · refine ObA.app (by rfl) TA.of ?_
                intro z w' hb hz G hG0
                have e49 : z 49 = .slice A1 m c1 := by have h := (hz 49 (by simp)).2; rw [hK] at h; exact h
                obtain ⟨g63, e63, k63⟩ : ∃ g, z 63 = (fun g => .slice (some ⟨g, 0, none⟩) 1 1) g ∧ Blk w' g 44 ev := by have h := (hz 63 (by simp)).2; rw [hK] at h; exact h
                replace hG0 := fun u w'' h1 h2 => hG0 u w'' (fun _ => h1) h2
                simp only [putsAt, List.foldl, e49, e63]
                have hk0 : Keep (fun _ => False) w3 w' := Keep.of_below hb (fun k h1 h2 => by omega)
                have h1 := own_keep HO1c.out hk0 (fun _ _ h => h)
                have h2 := own_keep HO2c.out hk0 (fun _ _ h => h)
                have e2 : Blk w' g63 44 ev.toList.toArray := by rw [Array.toArray_toList]; exact k63
                refine runs_appB (.tmp 49) (.tmp 63) 27 rfl w.heap.size 44 (.agg ZE) 66 104 Try.underlying27 en_info3 HZC.out (by decide) (.slice A1 m c1) m (((madeTo ns seed t).map enqX).flatMap Enq.cells) (by simp [Act.eval, Act.put]) h1 g63 ev.toList (by simp [Act.eval, Act.put]) (by rw [Array.length_toList]; exact HV'.out.size) e2 (all_one HV'.out.one) (by unfold maxLen; omega) (by omega) (Nat.le_trans HB3.out.size hb.size) ?_
                intro A' c' w9 h9 hg9
                have hk9 : Keep (fun i => some i = (Value.slice A1 m c1).ownBlock) w' w9 := (Keep.refl _ w').grown hg9 (fun i hi _ => hi.symm)
                exact hG0 _ _ ⟨A', c', rfl, h9⟩ ⟨(HB3.out.trans (hb.mono HB3.out.size)).trans (hk9.below (B := w.heap.size) (Nat.le_trans HB3.out.size hb.size) (fun k hk => own_base h1 hk.symm)), own_keep h2 hk9 (fun i hi h => own_own_ne h2 h1 (by decide) i hi h.symm)⟩
              refine List.forall_mem_cons.2 ⟨?_, ?_⟩
              · refine ObA.aft (by rfl) ?_
                intro z w' hz G hG
                have h := hz 64 (by simp) (.inl rfl)
                simp only [putsAt, List.foldl]
                unfold Runs
                go_simp
                exact hG _ (fun _ => h)
              exact List.forall_mem_nil _
            case hend =>
              intro z wZ hz hT
              have hR := hz 6 (by decide) (.inr rfl)
              clear hz hK
              simp only [putsAt, List.foldl, dstsOf, List.filterMap, Act.put, List.setIfInBounds_toArray, List.set_cons_zero, List.set_cons_succ]
              generalize z 49 = y49
              generalize z 50 = y50
              generalize z 51 = y51
              generalize z 52 = y52
              generalize z 53 = y53
              generalize z 54 = y54
              generalize z 55 = y55
              generalize z 56 = y56
              generalize z 57 = y57
              generalize z 58 = y58
              generalize z 59 = y59
              generalize z 60 = y60
              generalize z 61 = y61
              generalize z 62 = y62
              generalize z 63 = y63
              generalize z 64 = y64
              generalize z 6 = y6 at hR ⊢
              obtain ⟨A', c', rfl, h9⟩ := hR
              have HON : Hid (wZ.ownsRow w.heap.size 44 66 (.slice A' (m + 1) c') (m + 1) (((madeTo ns seed (t + 1)).map enqX).flatMap Enq.cells)) := hide (by
                rw [HEE.out (), List.toList_toArray] at h9
                rw [HMT.out, List.map_append, List.map_singleton, List.flatMap_append, List.flatMap_singleton]
                exact h9)
              have HOT := hide hT.2
              have HBT := hide hT.1
              have HMN : Hid (m + 1 = (madeTo ns seed (t + 1)).length) := hide (by rw [HMT.out, List.length_append, HM.out]; rfl)
              clear hT h9 HEE HEV HV' HS1 HS2 HDS HDB HNX HO1c HO2c HB3
              go_wp2_with fail
              go_roundw
              · exact ⟨t + 1, m + 1, A', c', A4, c4, by omega, rfl, rfl, rfl, HMN, HON, HOT, HBT⟩
              · simp [intOf]; omega
end Go.Proofs.Ytclgiapmbmbknaa
/- RepoAgain, walked; no statement of the seat is proved here. -/
namespace Go.Proofs.Ytclgiapmbmbknaa
open Go.RowKit Go.Maps
set_option linter.unusedVariables false
set_option linter.unusedSimpArgs false

/-- A disk on which nothing falls, with just a list's files. -/
structure Calm (w : World) (B g room M : Nat) (O : List (Nat × Nat)) (s : Ds) : Prop where
  dat : DAt w B g room M s
  ok : OkX O
  dn : s.dn = false
  cs : s.cs = []
  ex : Exact O s.F
  fall : s.fall < 0
theorem Ds.R_nil {s : Ds} (h : s.cs = []) : s.R = s.F := by unfold Ds.R; rw [h]; rfl
theorem Exact.hs {O : List (Nat × Nat)} {s : Ds} (h : Exact O s.F) (hc : s.cs = []) : Hs O s := ⟨h.good, fun c hm => by rw [hc] at hm; cases hm⟩
theorem Calm.below {w w' : World} {B g room M : Nat} {O : List (Nat × Nat)} {s : Ds} (h : Calm w B g room M O s) (hb : Below w.heap.size w w') : Calm w' B g room M O s := { h with dat := h.dat.below hb }
/-- Commit where nothing falls and there is room. -/
theorem commit_ok {w : World} {B g room M : Nat} {O P : List (Nat × Nat)} {s : Ds} (h : Calm w B g room M O s) (hP : OkX P) (hM : M ≤ 77000) (hr : room ≤ 4194304) (hr2 : 17000 ≤ room)
    (B0 : Nat) (A : Option Addr) (c : Nat) (L : List Enq) (hL : L.map Enq.pl = P.map entX) (hli : LiOwn w B0 A L.length c L) (B1 : Nat) (A1 : Option Addr) (n1 c1 : Nat) (hf : w.ownsRow B1 9 1 (.slice A1 n1 c1) n1 ((P.map txt).map S)) (hn1 : n1 = P.length) :
    Calls Try.prog 9 #[.agg #[.pointer (some ⟨g, 0, none⟩)], .slice A L.length c, .slice A1 n1 c1] w (fun e w' => ∃ s', e = .returned (.int .i64 0) ∧ Calm w' B g room (M + 100) P s' ∧ Fr B w w') := by
  refine (commit_ds O P h.ok hP B g room M s w h.dat hM hr h.dn (h.ex.hs h.cs) B0 A c L hL hli B1 A1 n1 c1 hf hn1).mono ?_
  rintro e w' ⟨s', x, rfl, hd, hfr, h8 | h7 | h0⟩
  · exact absurd h8.2.2.1 (by have := h.fall; omega)
  · exact absurd h7.2.2.2.2.1 (by omega)
  · obtain ⟨rfl, h1, h2, h3, h4⟩ := h0
    exact ⟨s', rfl, ⟨hd, hP, h1, h2, h3, by rw [h4 h.fall]; exact h.fall⟩, hfr⟩
/-- Recovery where nothing falls. -/
theorem recov_ok {w : World} {B g room M : Nat} {O : List (Nat × Nat)} {s : Ds} (h : Calm w B g room M O s) (hM : M ≤ 78000) :
    Calls Try.prog 10 #[.agg #[.pointer (some ⟨g, 0, none⟩)]] w (fun e w' => ∃ (s' : Ds) (A : Option Addr) (c : Nat) (L : List Enq), e = .returned (.tuple #[.slice A L.length c, .int .i64 0]) ∧ L.map Enq.pl = O.map entX ∧ LiOwn w' w.heap.size A L.length c L ∧ Calm w' B g room (M + 60) O s' ∧ Fr B w w') := by
  refine (recov_ds O h.ok B g room M s w h.dat hM h.dn (h.ex.hs h.cs)).mono ?_
  rintro e w' ⟨s', x, A, c, L, rfl, hpl, hli, hd, hf, hh, h8 | h0⟩
  · exact absurd h8.2.2 (by have := h.fall; omega)
  · obtain ⟨rfl, h1, h2, h3, h4⟩ := h0
    exact ⟨s', A, c, L, rfl, hpl, hli, ⟨hd, h.ok, h1, h2, h3, by rw [h4 h.fall]; exact h.fall⟩, hf⟩
theorem whole_ok {w : World} {B g room M : Nat} {P : List (Nat × Nat)} {s : Ds} (h : Calm w B g room M P s) (hM : M ≤ 79000) (B0 : Nat) (A : Option Addr) (c : Nat) (L : List Enq) (hL : L.map Enq.pl = P.map entX) (hli : LiOwn w B0 A L.length c L) :
    Calls Try.prog 16 #[.pointer (some ⟨g, 0, none⟩), .slice A L.length c] w (fun e w' => e = .returned (.bool true) ∧ Below w.heap.size w w') :=
  whole_ds P h.ok B g room M s w h.dat hM h.dn (by rw [Ds.R_nil h.cs]; exact h.ex) B0 A c L hL hli
theorem kept_nil_cs (ks : List Bool) : kept ks ([] : List Ch) = [] := by unfold kept; simp
/-- The power fails where nothing waits: the same files. -/
theorem crash_ok {w : World} {B g room M : Nat} {P : List (Nat × Nat)} {s : Ds} (h : Calm w B g room M P s) (hM : M ≤ 80000) (hr : room ≤ 4194304) :
    Calls Try.prog 17 #[.pointer (some ⟨g, 0, none⟩), .slice none 0 0] w (fun e w' => ∃ g' s', e = .returned (.pointer (some ⟨g', 0, none⟩)) ∧ Calm w' w.heap.size g' room M P s' ∧ Below w.heap.size w w') := by
  refine (crash_ds B g room M s w h.dat none 0 0 [] hM hr ⟨rfl, fun hn => absurd hn (Nat.lt_irrefl _)⟩ rfl).mono ?_
  rintro e w' ⟨g', rfl, hd, hb⟩
  rw [h.cs, kept_nil_cs] at hd
  exact ⟨g', _, rfl, ⟨hd, h.ok, rfl, rfl, h.ex, by show (-1 : Int) < 0; omega⟩, hb⟩
set_option maxRecDepth 100000 in
set_option maxHeartbeats 4000000 in
theorem again_walk (w : World) (A0 : Option Addr) (n0 c0 : Nat) (l0 : List Int) (r0 : Rd w (fun b => w.heap.size ≤ b) 1 A0 n0 (l0.map (Value.int .i64))) (A1 : Option Addr) (n1 c1 : Nat) (l1 : List Int) (r1 : Rd w (fun b => w.heap.size ≤ b) 1 A1 n1 (l1.map (Value.int .i64)))
    (m0 : n0 ≤ 9223372036854775807) (m1 : n1 ≤ 9223372036854775807) (seed : Int) :
    Calls Try.prog 4 #[.slice A0 n0 c0, .slice A1 n1 c1, .int .i64 seed] w (Gives w (.bool true)) := by
  have HR0 := hide r0
  have HR1 := hide r1
  have HH := hide (head_any w)
  clear r0 r1
  go_enter Try.func4, Try.ntmps4
  go_upto_region 3 with (go_at_call 6; refine HH.out.mono ?_; rintro e w1 ⟨rfl, hb1⟩; have HB1 := hide hb1; clear hb1)
  by_cases h0 : n0 ≤ 20
  case neg =>
    go_wp2_with fail
    go_ret
    exact ⟨rfl, HB1.out⟩
  case pos =>
    by_cases h1 : n1 ≤ 20
    case neg =>
      go_wp2_with fail
      go_ret
      exact ⟨rfl, HB1.out⟩
    case pos =>
      have HNW := hide (new_ds 65536 (by omega) w1)
      go_upto_region 6 with (go_at_call 7; refine HNW.out.mono ?_; rintro e w2 ⟨g, rfl, hd2, hb2⟩; have HC2 := hide hd2; have HB2 := hide (HB1.out.trans (hb2.mono HB1.out.size)); clear hd2 hb2)
      have HWB : Hid (w.heap.size ≤ w1.heap.size) := hide HB1.out.size
      obtain ⟨B, hB⟩ : ∃ B, B = w1.heap.size := ⟨_, rfl⟩
      rw [← hB] at HC2 HWB
      clear hB HNW HB1
      obtain ⟨qr, hqr⟩ : ∃ q, q = w2.heap.size := ⟨_, rfl⟩
      go_upto_region 7 with fail
      obtain ⟨w3, hw3⟩ : ∃ x, x = w2.alloc (.cells #[.pointer (some ⟨g, 0, none⟩)] 34) := ⟨_, rfl⟩
      have HB23 : Hid (Below w2.heap.size w2 w3) := hide (by rw [hw3]; exact (Below.refl _ w2).alloc (Nat.le_refl _) _)
      have HQR : Hid (Blk w3 qr 34 #[.pointer (some ⟨g, 0, none⟩)]) := hide (by rw [hw3, hqr]; exact Blk.new _ _ _)
      rw [← hw3, ← hqr]
      clear hw3 hqr
      obtain ⟨qs, hqs⟩ : ∃ q, q = w3.heap.size := ⟨_, rfl⟩
      go_upto_region 8 with fail
      obtain ⟨cz, hcz⟩ : ∃ x, x = #[Value.slice A0 n0 c0, .slice A0 n0 c0, .slice A1 n1 c1, .slice A0 n0 c0] := ⟨_, rfl⟩
      have HRW : Hid (∀ t, t < 4 → ∃ (A : Option Addr) (k c : Nat) (ns : List Int), cz[t]? = some (.slice A k c) ∧ k ≤ 20 ∧ Rd w (fun b => w.heap.size ≤ b) 1 A k (ns.map (Value.int .i64))) := hide (fun t ht => by
        rw [hcz]
        rcases t with _ | _ | _ | _ | t
        · exact ⟨A0, n0, c0, l0, rfl, h0, HR0.out⟩
        · exact ⟨A0, n0, c0, l0, rfl, h0, HR0.out⟩
        · exact ⟨A1, n1, c1, l1, rfl, h1, HR1.out⟩
        · exact ⟨A0, n0, c0, l0, rfl, h0, HR0.out⟩
        · omega)
      rw [← hcz]
      obtain ⟨w4, hw4⟩ : ∃ x, x = w3.alloc (.cells cz 22) := ⟨_, rfl⟩
      have HB34 : Hid (Below w3.heap.size w3 w4) := hide (by rw [hw4]; exact (Below.refl _ w3).alloc (Nat.le_refl _) _)
      have HQS : Hid (Blk w4 qs 22 cz) := hide (by rw [hw4, hqs]; exact Blk.new _ _ _)
      have HQR4 : Hid (Blk w4 qr 34 #[.pointer (some ⟨g, 0, none⟩)]) := hide (HQR.out.below HB34.out HQR.out.lt)
      have HB4 : Hid (Below w.heap.size w w4) := hide ((HB2.out.trans (HB23.out.mono HB2.out.size)).trans (HB34.out.mono (Nat.le_trans HB2.out.size HB23.out.size)))
      have HC4 : Hid (Calm w4 B g 65536 0 [] ⟨fun _ => none, [], -1, false⟩) := hide ⟨(HC2.out.below HB23.out).below HB34.out, OkX.nil, rfl, rfl, Exact.none, by show (-1 : Int) < 0; omega⟩
      rw [← hw4, ← hqs]
      clear hw4 hqs hcz HQR HB23 HB34 HC2 HB2 HR0 HR1
      go_wp2_with fail
      go_loopw [35] (fun u wr => ∃ (t : Nat) (O : List (Nat × Nat)) (s : Ds), t ≤ 4 ∧ u = .int .i64 t ∧ Hid (Calm wr B g 65536 (200 * t) O s) ∧ Hid (Blk wr qs 22 cz) ∧ Hid (Blk wr qr 34 #[.pointer (some ⟨g, 0, none⟩)]) ∧ Hid (Below w.heap.size w wr)) (fun u _ => 4 - (intOf u).toNat)
      case atStart => exact ⟨0, [], _, by omega, rfl, HC4, HQS, HQR4, HB4⟩
      case round =>
        obtain ⟨t, O, s, ht, rfl, HC, HS, HQ, HB⟩ := hrel
        by_cases hlt : t < 4
        case neg =>
          obtain rfl : t = 4 := by omega
          go_wp2_with fail
          go_ret
          exact ⟨rfl, HB.out⟩
        case pos =>
          obtain ⟨A, k, c, ns, hct, hk, hrd⟩ := HRW.out t hlt
          have q1 : wr.cell? ⟨qs, t, none⟩ = some (.slice A k c) := (HS.out.cell t).trans hct
          have hrw : Rd wr (fun b => wr.heap.size ≤ b) 1 A k (ns.map (Value.int .i64)) := (hrd.below HB.out).weak (fun b h1 h2 => by omega)
          have HMD := hide (made_any wr A k c ns hrw hk seed)
          obtain ⟨P, hP⟩ : ∃ P, P = madeX ns seed := ⟨_, rfl⟩
          have HPO : Hid (OkX P) := hide (by rw [hP]; exact madeX_ok ns seed)
          rw [← hP] at HMD
          clear hP hrd hct hrw
          go_upto_region 11 with (go_at_call 8; refine HMD.out.mono ?_; rintro e w5 ⟨A5, c5, L5, A6, n6, c6, rfl, hpl5, hli5, hn6, hf6, hb5⟩; have HPL := hide hpl5; have HLI5 := hide hli5; have HN6 := hide hn6; have HFO := hide hf6; have HB5 := hide hb5; clear hpl5 hli5 hn6 hf6 hb5)
          have HC5 := hide (HC.out.below HB5.out)
          have HS5 := hide (HS.out.below HB5.out HS.out.lt)
          have HQ5 := hide (HQ.out.below HB5.out HQ.out.lt)
          have HBW5 : Hid (Below w.heap.size w w5) := hide (HB.out.trans (HB5.out.mono HB.out.size))
          have HWR : Hid (B ≤ w5.heap.size) := hide (by have := HC5.out.dat.lt; omega)
          clear HMD HC HS HQ HB5 q1
          have q0 : w5.cell? ⟨qr, 0, none⟩ = some (.pointer (some ⟨g, 0, none⟩)) := HQ5.out.cell 0
          go_upto_region 13 with (first
            | (go_at_call 9; refine (commit_ok HC5.out HPO.out (by omega) (by omega) (by omega) wr.heap.size A5 c5 L5 HPL.out HLI5.out wr.heap.size A6 n6 c6 HFO.out HN6.out).mono ?_; rintro e w6 ⟨s6, rfl, hc6, hf6⟩; have HC6 := hide hc6; have HF6 := hide hf6; have HLI6 := hide (HLI5.out.fr hf6); clear hc6 hf6)
            | (go_at_call 16; have hw := whole_ok HC6.out (by omega) wr.heap.size A5 c5 L5 HPL.out HLI6.out; with_reducible refine hw.mono ?_; clear hw; rintro e w7 ⟨rfl, hb7⟩; have HB67 := hide hb7; have HC7 := hide (HC6.out.below hb7); have HLI7 := hide (HLI6.out.onb hb7); clear hb7)
            | (go_at_call 17; refine (crash_ok HC7.out (by omega) (by omega)).mono ?_; rintro e w8 ⟨g8, s8, rfl, hc8, hb8⟩; have HC8 := hide hc8; have HB78 := hide hb8; have HLI8 := hide (HLI7.out.onb hb8); clear hc8 hb8)
            | (go_at_call 16; have hw := whole_ok HC8.out (by omega) wr.heap.size A5 c5 L5 HPL.out HLI8.out; with_reducible refine hw.mono ?_; clear hw; rintro e w9 ⟨rfl, hb9⟩; have HB89 := hide hb9; clear hb9))
          have HQ6 := hide (HF6.out.far qr _ _ (by decide) (by decide) HQ5.out)
          have HS6 := hide (HF6.out.far qs _ _ (by decide) (by decide) HS5.out)
          have HB69 : Hid (Below w6.heap.size w6 w9) := hide ((HB67.out.trans (HB78.out.mono HB67.out.size)).trans (HB89.out.mono (Nat.le_trans HB67.out.size HB78.out.size)))
          have HC9 := hide (HC6.out.below HB69.out)
          have HQ9 := hide (HQ6.out.below HB69.out HQ6.out.lt)
          have HS9 := hide (HS6.out.below HB69.out HS6.out.lt)
          have HLI9 := hide (HLI6.out.onb HB69.out)
          have HBB : Hid (w.heap.size ≤ B) := hide HWB.out
          have HB9 : Hid (Below w.heap.size w w9) := hide ((HBW5.out.trans (HF6.out.bel.mono HBB.out)).trans (HB69.out.mono (Nat.le_trans HBW5.out.size HF6.out.size)))
          clear HC5 HS5 HQ5 HC7 HLI7 HC8 HLI8 HB67 HB78 HB89 HB69 HQ6 HS6 HC6 HLI6 HF6 HBW5 HLI5 HFO HN6 q0
          have q0 : w9.cell? ⟨qr, 0, none⟩ = some (.pointer (some ⟨g, 0, none⟩)) := HQ9.out.cell 0
          go_upto_region 14 with (go_at_call 10; refine (recov_ok HC9.out (by omega)).mono ?_; rintro e w10 ⟨s10, A10, c10, L10, rfl, hpl10, hli10, hc10, hf10⟩; have HPL10 := hide hpl10; have HLI10 := hide hli10; have HC10 := hide hc10; have HF10 := hide hf10; clear hpl10 hli10 hc10 hf10)
          have HLIl := hide (HLI9.out.fr HF10.out)
          have HQ10 := hide (HF10.out.far qr _ _ (by decide) (by decide) HQ9.out)
          have HS10 := hide (HF10.out.far qs _ _ (by decide) (by decide) HS9.out)
          have HB10 : Hid (Below w.heap.size w w10) := hide (HB9.out.trans (HF10.out.bel.mono HBB.out))
          have HSM := hide (same_any P P HPO.out HPO.out w10 w9.heap.size A10 c10 L10 HPL10.out HLI10.out wr.heap.size A5 c5 L5 HPL.out HLIl.out)
          rw [decide_eq_true (rfl : P = P)] at HSM
          clear HC9 HQ9 HS9 HLI9 HB9 q0 HF10
          go_wp2_with (first
            | (go_at_call 18; refine HSM.out.mono ?_; rintro e w11 ⟨rfl, hb11⟩; have HB11 := hide hb11; clear hb11)
            | (go_at_call 16; refine (whole_ok (HC10.out.below HB11.out) (by omega) wr.heap.size A5 c5 L5 HPL.out (HLIl.out.onb HB11.out)).mono ?_; rintro e w12 ⟨rfl, hb12⟩; have HB12 := hide (HB11.out.trans (hb12.mono HB11.out.size)); clear hb12))
          go_roundw
          · exact ⟨t + 1, P, s10, by omega, by go_num, hide (by have h9 := HC10.out.below HB12.out; exact { h9 with dat := h9.dat.mono (by omega) }), hide (HS10.out.below HB12.out HS10.out.lt), hide (HQ10.out.below HB12.out HQ10.out.lt), hide (HB10.out.trans (HB12.out.mono HB10.out.size))⟩
          · simp [intOf]; omega
end Go.Proofs.Ytclgiapmbmbknaa
