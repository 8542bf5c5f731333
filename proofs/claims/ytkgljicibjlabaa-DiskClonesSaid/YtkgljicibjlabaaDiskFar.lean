/- What an act leaves alone; totals of files behind changes; what of the acts was kept; no statement of the seat is proved here. -/
import Derived.Test.YtkgljicibjlabaaDiskActs
import Derived.Test.YtkgljicibjlabaaDiskFall
namespace Go.Proofs.Ytkgljicibjlabaa
open Go.RowKit Go.Maps

/-- Blocks of other kinds than a disk's and a model's stay. -/
def Far (w w' : World) : Prop := ∀ (q : Nat) (t : TypeId) (cs : Array Value), t ≠ 68 → t ≠ 71 → t ≠ 57 → t ≠ 49 → Blk w q t cs → Blk w' q t cs
theorem Far.trans {a b c : World} (h : Far a b) (k : Far b c) : Far a c := fun q t cs h1 h2 h3 h4 hb => k q t cs h1 h2 h3 h4 (h q t cs h1 h2 h3 h4 hb)
theorem Far.below {w w' : World} (h : Below w.heap.size w w') : Far w w' := fun _ _ _ _ _ _ _ hb => hb.below h hb.lt

section
variable {w w' : World} {g h room k1 k2 : Nat} {s1 s2 : St} {x : Nat} {a : Ac}
theorem play_far (i : Bo true w g h room k1 k2 s1 s2 x a w') (ha : a.ok) (htl : a.tx.length ≤ 1000000) (hf : s1.fall ≤ 9223372036854775807) {tot : Nat} (hT : Tot s1.R tot) (ht : tot ≤ 1000000000000) (hr : room ≤ 4194304) (hk : k1 ≤ 80000) :
    Calls Try.prog 25 #[.pointer (some ⟨g, 0, none⟩), a.val] w' (fun e w'' => e = .returned (.int .i64 (s1.err ((room : Int) - tot) a : Nat)) ∧ Bo true w g h room (k1 + 1) k2 (s1.nxt ((room : Int) - tot) a) s2 x a w'' ∧ Far w' w'') := by
  obtain ⟨⟨b, N, n, c, A, hd, hn⟩, ⟨bm, Nm, nm, cm, Am, ac, hm, hnm, hx⟩, hbx, hbb⟩ := i
  refine (play_any w.heap.size g b N n c A room s1 a tot w' hd ha hf (by omega) (by omega) hT ht hr htl).mono ?_
  rintro e w'' ⟨rfl, ⟨b', N', n', c', A', hd', hn'⟩, hk'⟩
  refine ⟨rfl, ⟨⟨b', N', n', c', A', hd', by omega⟩, ⟨bm, Nm, nm, cm, Am, ac, ⟨hm.1.keepD hd hk', hm.2⟩, hnm, hx⟩, hbx.keep hk' ?_, ?_⟩, fun q t cs h1 h2 _ _ hb => hb.keep hk' ?_⟩
  · rintro (e | e)
    · exact Blk.ne_ hbx hd.blk (by decide) e
    · exact own_blk_ne hd.own hbx (by decide) e
  · exact hbb.trans (hk'.below hbb.size (fun k hk => by
      rcases hk with rfl | e
      · exact hd.gB
      · exact (own_base' hd.own e).1))
  · rintro (e | e)
    · exact Blk.ne_ hb hd.blk h1 e
    · exact own_blk_ne hd.own hb (Ne.symm h2) e
theorem do_far (i : Bo true w g h room k1 k2 s1 s2 x a w') (ha : a.ok) (htl : a.tx.length ≤ 1000000) (hf : -1 ≤ s2.fall ∧ s2.fall ≤ 9223372036854775807) {tot : Nat} (hT : Tot s2.R tot) (ht : tot ≤ 1000000000000) (hr : room ≤ 4194304) (hk : k2 ≤ 80000) :
    Calls Try.prog 26 #[.pointer (some ⟨h, 0, none⟩), a.val] w' (fun e w'' => e = .returned (.int .i64 (s2.err ((room : Int) - tot) a : Nat)) ∧ Bo false w g h room k1 (k2 + 1) s1 (s2.nxt ((room : Int) - tot) a) x a w'' ∧ Far w' w'') := by
  obtain ⟨⟨b, N, n, c, A, hd, hn⟩, ⟨bm, Nm, nm, cm, Am, ac, hm, hnm, hx⟩, hbx, hbb⟩ := i
  refine (dom_any w.heap.size h bm Nm nm cm Am ac room s2 a tot w' hm ha hf.2 hf.1 (by omega) (by omega) hT ht hr htl).mono ?_
  rintro e w'' ⟨rfl, ⟨b', N', n', c', A', ac', hm', hn'⟩, hk'⟩
  refine ⟨rfl, ⟨⟨b, N, n, c, A, hd.keepM hm.1 hk', hn⟩, ⟨b', N', n', c', A', ac', hm', by omega, by simp⟩, hbx.keep hk' ?_, ?_⟩, fun q t cs _ _ h3 h4 hb => hb.keep hk' ?_⟩
  · rintro (e | e)
    · exact Blk.ne_ hbx hm.1.blk (by decide) e
    · exact hx rfl e
  · exact hbb.trans (hk'.below hbb.size (fun k hk => by
      rcases hk with rfl | e
      · exact hm.1.hB
      · exact (own_base' hm.1.own e).1))
  · rintro (e | e)
    · exact Blk.ne_ hb hm.1.blk h3 e
    · exact own_blk_ne hm.1.own hb (Ne.symm h4) e
end

/-- A change of few bytes. -/
def smallC (c : Ch) : Prop := c.k = 0 → c.t.length ≤ 100
theorem chDo_tot {F : Fl} {t : Nat} (h : Tot F t) {c : Ch} (hc : smallC c) : ∃ t', Tot (chDo F c) t' ∧ t' ≤ t + 100 := by
  unfold chDo
  split
  · rename_i h0
    obtain ⟨m, h2, h3⟩ := h.set c.n c.t
    have := hc h0
    exact ⟨m, h2, by omega⟩
  · split
    · split
      · rename_i o hR
        obtain ⟨m, h3, h4⟩ := h.del c.n
        obtain ⟨m2, h5, h6⟩ := h3.set c.t o
        rw [hR] at h4
        have h4 : m + o.length = t := h4
        exact ⟨m2, h5, by omega⟩
      · exact ⟨t, h, by omega⟩
    · split
      · obtain ⟨m, h3, h4⟩ := h.del c.n
        exact ⟨m, h3, by omega⟩
      · exact ⟨t, h, by omega⟩
theorem fold_tot : ∀ (cs : List Ch) {F : Fl} {t : Nat}, Tot F t → (∀ c ∈ cs, smallC c) → ∃ t', Tot (cs.foldl chDo F) t' ∧ t' ≤ t + 100 * cs.length
  | [], F, t, h, _ => ⟨t, h, by simp⟩
  | c :: cs, F, t, h, hs => by
    obtain ⟨t1, h1, h2⟩ := chDo_tot h (hs c (by simp))
    obtain ⟨t2, h3, h4⟩ := fold_tot cs h1 (fun x hx => hs x (by simp [hx]))
    exact ⟨t2, h3, by simp only [List.length_cons]; omega⟩
theorem chOf_small {a : Ac} (h : a.tx.length ≤ 100) : smallC (chOf a) := by
  unfold chOf smallC
  split
  · intro _; exact h
  · split <;> intro h0 <;> cases h0
theorem nxt_inv {s : St} {tf M : Nat} (h : Tot s.F tf) (hM : tf + 100 * s.cs.length ≤ M) (hs : ∀ c ∈ s.cs, smallC c) (free : Int) (a : Ac) (ha : a.tx.length ≤ 100) :
    ∃ tf', Tot (s.nxt free a).F tf' ∧ tf' + 100 * (s.nxt free a).cs.length ≤ M + 100 ∧ ∀ c ∈ (s.nxt free a).cs, smallC c := by
  unfold St.nxt
  split
  · exact ⟨tf, h, by show tf + 100 * s.cs.length ≤ _; omega, hs⟩
  · split
    · exact ⟨tf, h, by show tf + 100 * s.cs.length ≤ _; omega, hs⟩
    · split
      · exact ⟨tf, h, by show tf + 100 * s.cs.length ≤ _; omega, hs⟩
      · split
        · obtain ⟨t', h1, h2⟩ := fold_tot s.cs h hs
          exact ⟨t', h1, by show t' + 100 * 0 ≤ _; omega, by simp⟩
        · refine ⟨tf, h, ?_, fun c hc => ?_⟩
          · show tf + 100 * (s.cs ++ [chOf a]).length ≤ _
            simp
            omega
          · rcases List.mem_append.1 hc with h' | h'
            · exact hs c h'
            · rw [List.mem_singleton] at h'; subst h'; exact chOf_small ha

/-- What of the acts was kept. -/
def keptA (ks : List Bool) (ac : List Ac) : List Ac := (ac.zipIdx.filter fun x => ks.getD x.2 false).map Prod.fst
theorem keptA_succ (ks : List Bool) (ac : List Ac) {k : Nat} (hk : k < ac.length) : keptA ks (ac.take (k + 1)) = keptA ks (ac.take k) ++ (if ks.getD k false then [ac[k]] else []) := by
  unfold keptA
  rw [takeS hk, List.zipIdx_append, List.filter_append, List.map_append]
  congr 1
  simp only [List.length_take, Nat.min_eq_left (Nat.le_of_lt hk), List.zipIdx_singleton, List.getD_eq_getElem?_getD]
  cases h : ks[k]?.getD false <;> simp [h]
theorem keptA_map (ks : List Bool) (ac : List Ac) : (keptA ks ac).map chOf = kept ks (ac.map chOf) := by
  have : ∀ k, k ≤ ac.length → (keptA ks (ac.take k)).map chOf = kept ks ((ac.map chOf).take k) := by
    intro k
    induction k with
    | zero => intro _; simp [keptA, kept]
    | succ k ih =>
      intro hk
      rw [keptA_succ ks ac (by omega), kept_succ ks (ac.map chOf) (by simp; omega), List.map_append, ih (by omega)]
      congr 1
      cases ks.getD k false <;> simp
  have h := this ac.length (Nat.le_refl _)
  rw [List.take_length] at h
  rw [h, List.take_of_length_le (by simp)]
theorem keptA_mem {ks : List Bool} {ac : List Ac} {a : Ac} (h : a ∈ keptA ks ac) : a ∈ ac := by
  unfold keptA at h
  obtain ⟨x, hx, rfl⟩ := List.mem_map.1 h
  have := (List.mem_filter.1 hx).1
  exact (List.mem_zipIdx_iff_getElem?.1 this) |> List.mem_of_getElem?
theorem kept_mem {ks : List Bool} {cs : List Ch} {c : Ch} (h : c ∈ kept ks cs) : c ∈ cs := by
  unfold kept at h
  obtain ⟨x, hx, rfl⟩ := List.mem_map.1 h
  have := (List.mem_filter.1 hx).1
  exact (List.mem_zipIdx_iff_getElem?.1 this) |> List.mem_of_getElem?
theorem kept_len (ks : List Bool) (cs : List Ch) : (kept ks cs).length ≤ cs.length := by
  unfold kept
  rw [List.length_map]
  exact Nat.le_trans (List.length_filter_le _ _) (by simp)
end Go.Proofs.Ytkgljicibjlabaa
