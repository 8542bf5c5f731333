/- What no disk answers; what is done, act by act; a disk, one apart from it, and a model side by side; no statement of the seat is proved here. -/
import Derived.Test.YtkgljicibjlabaaDiskClone
import Derived.Test.YtkgljicibjlabaaDiskActs
namespace Go.Proofs.Ytkgljicibjlabaa
open Go.RowKit Go.Maps

set_option maxRecDepth 100000 in
theorem down_nil (w : World) : Calls Try.prog 22 #[.pointer none] w (fun e w' => e = .returned (.bool true) ∧ w' = w) := by
  go_enter Try.func22, Try.ntmps22
  go_wp2_with fail
  go_ret
  exact ⟨rfl, rfl⟩
set_option maxRecDepth 100000 in
theorem turn_nil (w : World) : Calls Try.prog 31 #[.pointer none] w (fun e w' => e = .returned (.int .i64 8) ∧ w' = w) := by
  go_enter Try.func31, Try.ntmps31
  go_wp2_with fail
  go_ret
  exact ⟨rfl, rfl⟩
set_option maxRecDepth 100000 in
theorem read_nil (k : List UInt8) (w : World) : Calls Try.prog 15 #[.pointer none, S k] w (fun e w' => e = .returned (.tuple #[S [], .int .i64 8]) ∧ w' = w) := by
  go_enter Try.func15, Try.ntmps15
  go_wp2_with fail
  refine (down_nil w).mono ?_
  rintro e w1 ⟨rfl, rfl⟩
  go_wp2_with fail
  go_ret2
  exact ⟨rfl, rfl⟩
set_option maxRecDepth 100000 in
theorem fall_nil (x : Int) (w : World) : Calls Try.prog 21 #[.pointer none, .int .i64 x] w (fun e w' => e = .returned (.tuple #[]) ∧ w' = w) := by
  go_enter Try.func21, Try.ntmps21
  go_wp2_with fail
  refine bodyPost_end (v := .tuple #[]) ?_ rfl ?_
  · simp [results, Try.results21, go_sem]
  exact ⟨rfl, rfl⟩
set_option maxRecDepth 100000 in
theorem write_nil (k t : List UInt8) (w : World) : Calls Try.prog 13 #[.pointer none, S k, S t] w (fun e w' => e = .returned (.int .i64 8) ∧ w' = w) := by
  go_enter Try.func13, Try.ntmps13
  go_wp2_with fail
  refine (turn_nil w).mono ?_
  rintro e w1 ⟨rfl, rfl⟩
  go_wp2_with fail
  go_ret
  exact ⟨rfl, rfl⟩
set_option maxRecDepth 100000 in
theorem sync_nil (w : World) : Calls Try.prog 18 #[.pointer none] w (fun e w' => e = .returned (.int .i64 8) ∧ w' = w) := by
  go_enter Try.func18, Try.ntmps18
  go_wp2_with fail
  refine (turn_nil w).mono ?_
  rintro e w1 ⟨rfl, rfl⟩
  go_wp2_with fail
  go_ret
  exact ⟨rfl, rfl⟩
set_option maxRecDepth 100000 in
theorem room_nil (w : World) : Calls Try.prog 17 #[.pointer none] w (fun e w' => e = .returned (.int .i64 0) ∧ w' = w) := by
  go_enter Try.func17, Try.ntmps17
  go_wp2_with fail
  go_ret
  exact ⟨rfl, rfl⟩
set_option maxRecDepth 100000 in
theorem clone_nil (w : World) : Calls Try.prog 30 #[.pointer none] w (fun e w' => e = .returned (.pointer none) ∧ w' = w) := by
  go_enter Try.func30, Try.ntmps30
  go_wp2_with fail
  go_ret
  exact ⟨rfl, rfl⟩
set_option maxRecDepth 100000 in
theorem names_nil (w : World) : Calls Try.prog 20 #[.pointer none] w (fun e w' => e = .returned (.slice none 0 0) ∧ w' = w) := by
  go_enter Try.func20, Try.ntmps20
  go_wp2_with fail
  refine (down_nil w).mono ?_
  rintro e w1 ⟨rfl, rfl⟩
  go_wp2_with fail
  go_ret
  exact ⟨rfl, rfl⟩
set_option maxRecDepth 100000 in
theorem crash_nil (v : Value) (w : World) : Calls Try.prog 14 #[.pointer none, v] w (fun e w' => ∃ g b, e = .returned (.pointer (some ⟨g, 0, none⟩)) ∧ Dk w' w.heap.size g b 0 0 0 none [] 4194304 (-1) false F0 ∧ Below w.heap.size w w') := by
  go_enter Try.func14, Try.ntmps14
  go_wp2_with fail
  refine (new_dk 4194304 (by omega) w).mono ?_
  rintro e w1 ⟨g, b, rfl, h1, hb1⟩
  have H1 := hide h1
  have HB1 := hide hb1
  clear h1 hb1
  go_wp2_with fail
  go_ret
  exact ⟨g, b, rfl, H1.out, HB1.out⟩

/-- What is done, act by act. -/
def RunP (room : Nat) : St → List Ac → St → Prop
  | s, [], t => t = s
  | s, a :: L, t => ∃ tot, Tot s.R tot ∧ RunP room (s.nxt ((room : Int) - tot) a) L t
theorem RunP.uniq {room : Nat} : ∀ (L : List Ac) {s t t' : St}, RunP room s L t → RunP room s L t' → t = t'
  | [], s, t, t', h, h' => by rw [show t = s from h, show t' = s from h']
  | a :: L, s, t, t', ⟨tot, h1, h2⟩, ⟨tot', h1', h2'⟩ => by
    obtain rfl := h1.uniq h1'
    exact RunP.uniq L h2 h2'
theorem RunP.snoc {room : Nat} : ∀ (L : List Ac) {s t : St} (a : Ac) {tot : Nat}, RunP room s L t → Tot t.R tot → RunP room s (L ++ [a]) (t.nxt ((room : Int) - tot) a)
  | [], s, t, a, tot, h, hT => by
    have h : t = s := h
    subst h
    exact ⟨tot, hT, rfl⟩
  | b :: L, s, t, a, tot, ⟨tot', h1, h2⟩, hT => ⟨tot', h1, RunP.snoc L a h2 hT⟩

/-- A disk keeps what it is while one apart from it turns. -/
theorem Dk.apart {w w' : World} {B g b N n c B2 g2 b2 N2 n2 c2 : Nat} {A A2 : Option Addr} {cs cs2 : List Ch} {room : Nat} {fall fall2 : Int} {dn dn2 : Bool} {F F2 : Fl} (d : Dk w B g b N n c A cs room fall dn F) (e : Dk w B2 g2 b2 N2 n2 c2 A2 cs2 room fall2 dn2 F2)
    (hg : g ≠ g2) (ho : ∀ q, (Value.slice A n c).ownBlock = some q → (Value.slice A2 n2 c2).ownBlock ≠ some q) (hk : Keep (fun q => q = g2 ∨ (Value.slice A2 n2 c2).ownBlock = some q) w w') : Dk w' B g b N n c A cs room fall dn F := by
  refine d.keep hk ?_ ?_ ?_
  · rintro (e' | e')
    · exact hg e'
    · exact own_blk_ne e.own d.blk (by decide) e'
  · rintro (e' | e')
    · exact map_ne_blk d.txt e.blk e'
    · exact map_ne_row d.txt e.own e'
  · rintro q hq (e' | e')
    · subst e'; exact own_blk_ne d.own e.blk (by decide) hq
    · exact ho q hq e'

/-- A disk that is done to, a model, the act's own copy, and a disk apart. -/
structure Bv (pre : Bool) (w : World) (g2 h g room k1 k2 : Nat) (s1 s2 : St) (x : Nat) (a : Ac) (bd Nd nd cd : Nat) (Ad : Option Addr) (sd : St) (w' : World) : Prop where
  c : ∃ b N n c A, Dk w' w.heap.size g2 b N n c A s1.cs room s1.fall s1.dn s1.F ∧ N + n ≤ k1 ∧ ∀ q, (Value.slice Ad nd cd).ownBlock = some q → (Value.slice A n c).ownBlock ≠ some q
  m : ∃ b N n c A ac, MdS w' w.heap.size h b N n c A ac room s2 ∧ N + n ≤ k2 ∧ (pre = true → (Value.slice A n c).ownBlock ≠ some x)
  x : Blk w' x 49 #[.int .i64 a.k, .int .i64 a.n, S a.nm, S a.to, S a.tx]
  b : Below w.heap.size w w'
  d : Dk w' w.heap.size g bd Nd nd cd Ad sd.cs room sd.fall sd.dn sd.F
  ne : g ≠ g2

section
variable {pre : Bool} {w w' w'' : World} {g2 h g room k1 k2 : Nat} {s1 s2 : St} {x : Nat} {a : Ac} {bd Nd nd cd : Nat} {Ad : Option Addr} {sd : St}
theorem Bv.cells (i : Bv pre w g2 h g room k1 k2 s1 s2 x a bd Nd nd cd Ad sd w') : w'.cell? ⟨x, 0, none⟩ = some (.int .i64 a.k) ∧ w'.cell? ⟨x, 1, none⟩ = some (.int .i64 a.n) ∧ w'.cell? ⟨x, 2, none⟩ = some (S a.nm) ∧ w'.cell? ⟨x, 3, none⟩ = some (S a.to) ∧ w'.cell? ⟨x, 4, none⟩ = some (S a.tx) :=
  ⟨i.x.cell 0, i.x.cell 1, i.x.cell 2, i.x.cell 3, i.x.cell 4⟩
theorem Bv.below (i : Bv pre w g2 h g room k1 k2 s1 s2 x a bd Nd nd cd Ad sd w') (hb : Below w'.heap.size w' w'') : Bv pre w g2 h g room k1 k2 s1 s2 x a bd Nd nd cd Ad sd w'' := by
  obtain ⟨⟨b, N, n, c, A, hd, hn⟩, ⟨bm, Nm, nm, cm, Am, ac, hm, hnm, hx⟩, hbx, hbb, hdd, hne⟩ := i
  exact ⟨⟨b, N, n, c, A, hd.below hb, hn⟩, ⟨bm, Nm, nm, cm, Am, ac, ⟨hm.1.below hb, hm.2⟩, hnm, hx⟩, hbx.below hb hbx.lt, hbb.trans (hb.mono hbb.size), hdd.below hb, hne⟩
theorem Bv.drew (i : Bv pre w g2 h g room k1 k2 s1 s2 x a bd Nd nd cd Ad sd w') : Bv pre w g2 h g room k1 k2 s1 s2 x a bd Nd nd cd Ad sd w'.drew := i.below (Below.refl _ _).drew

theorem play_v (i : Bv pre w g2 h g room k1 k2 s1 s2 x a bd Nd nd cd Ad sd w') (ha : a.ok) (htl : a.tx.length ≤ 1000000) (hf : s1.fall ≤ 9223372036854775807) {tot : Nat} (hT : Tot s1.R tot) (ht : tot ≤ 1000000000000) (hr : room ≤ 4194304) (hk : k1 ≤ 80000) :
    Calls Try.prog 25 #[.pointer (some ⟨g2, 0, none⟩), a.val] w' (fun e w'' => e = .returned (.int .i64 (s1.err ((room : Int) - tot) a : Nat)) ∧ Bv pre w g2 h g room (k1 + 1) k2 (s1.nxt ((room : Int) - tot) a) s2 x a bd Nd nd cd Ad sd w'') := by
  obtain ⟨⟨b, N, n, c, A, hd, hn, hlk⟩, ⟨bm, Nm, nm, cm, Am, ac, hm, hnm, hx⟩, hbx, hbb, hdd, hne⟩ := i
  refine (play2_any w.heap.size g2 b N n c A room s1 a tot w' hd ha hf (by omega) (by omega) hT ht hr htl).mono ?_
  rintro e w'' ⟨rfl, ⟨b', N', n', c', A', hd', hn', hq'⟩, hk'⟩
  refine ⟨rfl, ⟨b', N', n', c', A', hd', by omega, fun q hq e => ?_⟩, ⟨bm, Nm, nm, cm, Am, ac, ⟨hm.1.keepD hd hk', hm.2⟩, hnm, hx⟩, hbx.keep hk' ?_, ?_, hdd.apart hd hne hlk hk', hne⟩
  · rcases hq' q e with e1 | e1
    · exact hlk q hq e1
    · have := (own_base' hdd.own hq).2; omega
  · rintro (e | e)
    · exact Blk.ne_ hbx hd.blk (by decide) e
    · exact own_blk_ne hd.own hbx (by decide) e
  · exact hbb.trans (hk'.below hbb.size (fun k hk => by
      rcases hk with rfl | e
      · exact hd.gB
      · exact (own_base' hd.own e).1))

theorem do_v (i : Bv true w g2 h g room k1 k2 s1 s2 x a bd Nd nd cd Ad sd w') (ha : a.ok) (htl : a.tx.length ≤ 1000000) (hf : -1 ≤ s2.fall ∧ s2.fall ≤ 9223372036854775807) {tot : Nat} (hT : Tot s2.R tot) (ht : tot ≤ 1000000000000) (hr : room ≤ 4194304) (hk : k2 ≤ 80000) :
    Calls Try.prog 26 #[.pointer (some ⟨h, 0, none⟩), a.val] w' (fun e w'' => e = .returned (.int .i64 (s2.err ((room : Int) - tot) a : Nat)) ∧ Bv false w g2 h g room k1 (k2 + 1) s1 (s2.nxt ((room : Int) - tot) a) x a bd Nd nd cd Ad sd w'') := by
  obtain ⟨⟨b, N, n, c, A, hd, hn⟩, ⟨bm, Nm, nm, cm, Am, ac, hm, hnm, hx⟩, hbx, hbb, hdd, hne⟩ := i
  refine (dom_any w.heap.size h bm Nm nm cm Am ac room s2 a tot w' hm ha hf.2 hf.1 (by omega) (by omega) hT ht hr htl).mono ?_
  rintro e w'' ⟨rfl, ⟨b', N', n', c', A', ac', hm', hn'⟩, hk'⟩
  refine ⟨rfl, ⟨b, N, n, c, A, hd.keepM hm.1 hk', hn⟩, ⟨b', N', n', c', A', ac', hm', by omega, by simp⟩, hbx.keep hk' ?_, ?_, hdd.keepM hm.1 hk', hne⟩
  · rintro (e | e)
    · exact Blk.ne_ hbx hm.1.blk (by decide) e
    · exact hx rfl e
  · exact hbb.trans (hk'.below hbb.size (fun k hk => by
      rcases hk with rfl | e
      · exact hm.1.hB
      · exact (own_base' hm.1.own e).1))
end
end Go.Proofs.Ytkgljicibjlabaa
