/- Digests by their names: a map of the call's own, as a function; no statement of the seat is proved here. -/
import Derived.Test.YthehimjdjgmnjaaLiFind
import Derived.Test.YthehimjdjgmnjaaDepIter
namespace Go.Proofs.Ythehimjdjgmnjaa
open Go.RowKit Go.Maps Go.Sort
set_option linter.unusedVariables false

/-- What the names have. -/
abbrev Fd := List UInt8 → Option (List UInt8)
def Fd.set (F : Fd) (k v : List UInt8) : Fd := fun x => if x = k then some v else F x
def Fd.del (F : Fd) (k : List UInt8) : Fd := fun x => if x = k then none else F x
/-- A digest as a value. -/
def dgV (d : List UInt8) : Value := .agg (darr d)
/-- A map reads so. -/
def ReadsD (D : DataW Value) (F : Fd) : Prop := Maps.IsMap D ∧ ∀ k, Maps.has D (.string k) = (F k).isSome ∧ ∀ z, D.atKey (.string k) (.held z) = .held (((F k).map dgV).getD z)
theorem ReadsD.none : ReadsD (.map []) (fun _ => none) := ⟨Maps.isMap_empty, fun k => ⟨by simp [Maps.has], fun z => by simp [DataW.atKey]⟩⟩
theorem ReadsD.set {D : DataW Value} {F : Fd} (h : ReadsD D F) (k v : List UInt8) : ReadsD (D.put (.string k) (.held (dgV v))) (F.set k v) := by
  refine ⟨h.1.put _ _, fun x => ?_⟩
  by_cases e : x = k
  · subst e
    simp only [Fd.set, if_pos]
    exact ⟨Maps.has_put_same h.1 (keyLit_string _) _, fun z => Maps.atKey_put_same h.1 (keyLit_string _) _ _⟩
  · simp only [Fd.set, if_neg e]
    have hne : Lit.string x ≠ Lit.string k := fun h => e (by injection h)
    exact ⟨(Maps.has_put_other hne _).trans (h.2 x).1, fun z => (Maps.atKey_put_other hne _ _).trans ((h.2 x).2 z)⟩
theorem ReadsD.del {D : DataW Value} {F : Fd} (h : ReadsD D F) (k : List UInt8) : ReadsD (D.del (.string k)) (F.del k) := by
  refine ⟨h.1.del _, fun x => ?_⟩
  by_cases e : x = k
  · subst e
    simp only [Fd.del, if_pos]
    exact ⟨Maps.has_del_same, fun z => Maps.atKey_del_same _⟩
  · simp only [Fd.del, if_neg e]
    have hne : Lit.string x ≠ Lit.string k := fun h => e (by injection h)
    exact ⟨(Maps.has_del_other hne).trans (h.2 x).1, fun z => (Maps.atKey_del_other hne _).trans ((h.2 x).2 z)⟩
/-- The map of block b: N entries at most were ever laid. -/
def DgIs (w : World) (b N : Nat) (F : Fd) : Prop := ∃ D : DataW Value, w.ownsMap Try.prog 9 heldR b N D ∧ ReadsD D F
theorem DgIs.of_block {w w' : World} {b N : Nat} {F : Fd} (h : DgIs w b N F) (he : w'.heap[b]? = w.heap[b]?) : DgIs w' b N F := by
  obtain ⟨D, h1, h2⟩ := h
  exact ⟨D, owns_of_block h1 he, h2⟩
theorem DgIs.lt {w : World} {b N : Nat} {F : Fd} (h : DgIs w b N F) : b < w.heap.size := by obtain ⟨D, h1, _⟩ := h; exact h1.lt
theorem DgIs.mono {w : World} {b N N' : Nat} {F : Fd} (h : DgIs w b N F) (hn : N ≤ N') : DgIs w b N' F := by obtain ⟨D, h1, h2⟩ := h; exact ⟨D, h1.mono hn, h2⟩
theorem DgIs.made (w : World) : DgIs (w.alloc (.map #[] 0)) w.heap.size 0 (fun _ => none) := ⟨.map [], World.ownsMap_made _ _ _ _, ReadsD.none⟩
theorem DgIs.below {w w' : World} {b N : Nat} {F : Fd} (h : DgIs w b N F) (hb : Below w.heap.size w w') : DgIs w' b N F := h.of_block (hb.block b h.lt)
/-- A look-up without its 'ok'. -/
theorem DgIs.look {w : World} {b N : Nat} {F : Fd} (h : DgIs w b N F) {k d : List UInt8} (hk : short k) (hd : F k = some d) : (Instr.lookup 32 (.map (some b)) (S k) false).run Try.prog w = .ok (dgV d) w := by
  obtain ⟨D, h1, h2⟩ := h
  obtain ⟨v, ps, hrun, hv⟩ := h1.lookup klaw Try.underlying32 (zero_dig w) (zd := .held (.agg ZC)) (zp := []) rfl (key_S hk)
  rw [(h2.2 k).2, hd] at hv
  have hv' : v = dgV d := heldR_inv hv
  rw [hrun, hv']
/-- The names that there are, each behind those before it. -/
def IsNames (R : Fd) (l : List (List UInt8)) : Prop := l.Pairwise (fun x y => x < y) ∧ ∀ x, x ∈ l ↔ (R x).isSome = true

theorem keys_of {w : World} {b N : Nat} {D : DataW Value} {F : Fd} (h : w.ownsMap Try.prog 9 heldR b N D) (hR : ReadsD D F) :
    (strKeys D).Nodup ∧ (∀ x, x ∈ strKeys D ↔ (F x).isSome = true) ∧ Maps.size D = (strKeys D).length := by
  obtain ⟨es, hD, hpw, _⟩ := h.entries klaw
  obtain ⟨es', hD', hko⟩ := h.keysOf
  obtain rfl : es = es' := by rw [hD] at hD'; simpa using hD'
  subst hD
  have hk : ∀ p ∈ es, ∃ x, p.1 = .string x := fun p hp => by obtain ⟨v, hv⟩ := hko p hp; obtain ⟨x, _, hx, _⟩ := Maps.keyOf_str Try.underlying9 hv; exact ⟨x, hx⟩
  refine ⟨?_, fun x => ?_, by simp [Maps.size, strKeys]⟩
  · show (es.map fun p => strOf p.1).Nodup
    refine List.pairwise_map.2 (hpw.imp_of_mem fun {p q} hp' hq' hne e => hne ?_)
    obtain ⟨a, ha⟩ := hk p hp'
    obtain ⟨b, hb⟩ := hk q hq'
    rw [ha, hb] at e ⊢
    exact congrArg _ e
  · rw [← (hR.2 x).1, has_eq, List.any_eq_true]
    show x ∈ es.map (fun p => strOf p.1) ↔ _
    rw [List.mem_map]
    constructor
    · rintro ⟨p, hp', rfl⟩
      obtain ⟨a, ha⟩ := hk p hp'
      exact ⟨p, hp', by rw [ha]; simp [Lit.sameKey, strOf]⟩
    · rintro ⟨p, hp', hs⟩
      obtain ⟨a, ha⟩ := hk p hp'
      rw [ha] at hs
      exact ⟨p, hp', by rw [ha]; simpa [Lit.sameKey, strOf] using hs⟩

theorem names_of {w : World} {b N : Nat} {D : DataW Value} {F : Fd} (h : w.ownsMap Try.prog 9 heldR b N D) (hR : ReadsD D F) {ss : List (List UInt8)} (hp : ss.Perm (strKeys D)) : IsNames F (ss.mergeSort leB) := by
  obtain ⟨h1, h2, _⟩ := keys_of h hR
  have tr : ∀ a b c : List UInt8, leB a b = true → leB b c = true → leB a c = true := fun a b c h1 h2 => by simp only [leB, decide_eq_true_eq] at *; exact List.le_trans h1 h2
  have toT : ∀ a b : List UInt8, (leB a b || leB b a) = true := fun a b => by simp only [leB, Bool.or_eq_true, decide_eq_true_eq]; exact List.le_total a b
  have hm := List.mergeSort_perm ss leB
  have hnd : (ss.mergeSort leB).Nodup := (hm.trans hp).nodup_iff.2 h1
  refine ⟨((List.pairwise_mergeSort tr toT ss).and hnd).imp fun {a b} hab => ?_, fun x => ?_⟩
  · have h3 := hab.1
    simp only [leB, decide_eq_true_eq] at h3
    exact List.not_le.1 fun h4 => hab.2 (List.le_antisymm h3 h4)
  · rw [← h2 x]
    exact (hm.trans hp).mem_iff

theorem names_len {F : Fd} {l m : List (List UInt8)} (h : IsNames F l) (hn : m.Nodup) (hm : ∀ x, x ∈ m ↔ (F x).isSome = true) : l.length = m.length := by
  refine ((List.perm_ext_iff_of_nodup (h.1.imp fun {a b} hab e => ?_) hn).2 fun x => (h.2 x).trans (hm x).symm).length_eq
  subst e
  exact List.lt_irrefl a hab

end Go.Proofs.Ythehimjdjgmnjaa
