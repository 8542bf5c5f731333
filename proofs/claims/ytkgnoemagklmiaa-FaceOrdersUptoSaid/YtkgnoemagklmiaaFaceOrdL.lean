/- FaceOrders: what few members mean; a class's members turned have one face; no statement of the seat is proved here. -/
import Derived.Test.YtkgnoemagklmiaaFaceOrdC
import Derived.Test.YtkgnoemagklmiaaFaceReadF
namespace Go.Proofs.Ytkgnoemagklmiaa
open Go.RowKit

theorem me_info : (Try.prog.info? 48).map (fun i => (i.zero, i.size, i.bytes)) = some (some (.agg #[.int .i64 0, .int .i64 0, .string ⟨#[]⟩, .bool false, .slice none 0 0, .string ⟨#[]⟩, .bool false, .slice none 0 0]), 8, 112) := by kernel_rfl
theorem kl_names {c : K5.Kl} (hb : c.len ≤ 104857600) : (∀ v ∈ c.fs, v.n.length ≤ 104857600 ∧ v.t.n.length ≤ 104857600) ∧ (∀ m ∈ c.ms, m.n.length ≤ 104857600 ∧ m.rn.length ≤ 104857600 ∧ ∀ p ∈ m.ps, p.n.length ≤ 104857600 ∧ p.t.n.length ≤ 104857600) := by
  unfold K5.Kl.len at hb
  constructor
  · intro v hv
    have h := K5.sum_mem (f := Vr.len) hv
    have e : Vr.len v = 100 + v.n.length + v.t.n.length := rfl
    omega
  · intro m hm
    have h := K5.sum_mem (f := K5.Me.len) hm
    have e : K5.Me.len m = 100 + m.n.length + m.rn.length + (m.ps.map Vr.len).sum + (m.bs.map K5.St.len).sum := rfl
    refine ⟨by omega, by omega, fun p hp => ?_⟩
    have h2 := K5.sum_mem (f := Vr.len) hp
    have e2 : Vr.len p = 100 + p.n.length + p.t.n.length := rfl
    omega
theorem kl_few {c : K5.Kl} (h : c.few = true) : c.fk ≤ 10 ∧ c.mq ≤ 10 ∧ c.n.length + c.su.length ≤ 80 ∧ ∀ m ∈ c.ms, m.pk ≤ 8 := by
  unfold K5.Kl.few at h
  simp only [Bool.and_eq_true, decide_eq_true_eq, List.all_eq_true] at h
  refine ⟨h.1.1.1, h.1.1.2, h.1.2, fun m hm => ?_⟩
  have := h.2 m hm
  unfold K5.Me.few at this
  simp only [Bool.and_eq_true, decide_eq_true_eq] at this
  exact this.1.1
/-- A parameter of another name. -/
def vx (v : Vr) : Vr := ⟨v.n ++ [120], v.t⟩
/-- What a method that came in takes and gives. -/
abbrev meP (m : K5.Me) : SgQ := (mdOf m).p
/-- Methods whose parameters lie in blocks of their own. -/
structure MdOwn (w : World) (B : Nat) (m : Md) : Prop where
  own : w.ownsRow B 45 3 (.slice m.A m.k m.c) m.k (m.ps.flatMap Vr.cells)
  len : m.ps.length = m.k
  le : m.k ≤ 8
  sn : m.n.length ≤ 104857600
  sr : m.r.n.length ≤ 104857600
  sp : ∀ p ∈ m.ps, p.n.length ≤ 104857601 ∧ p.t.n.length ≤ 104857600
theorem MdOwn.keep {w w' : World} {B : Nat} {m : Md} {F : Nat → Prop} (h : MdOwn w B m) (hk : Keep F w w') (hF : ∀ k, (Value.slice m.A m.k m.c).ownBlock = some k → ¬ F k) : MdOwn w' B m := { h with own := own_keep h.own hk hF }
/-- One face, whatever the order. -/
theorem ord_same {f g : Fc} {n su : List UInt8} {X : List Vr} {M : List K5.Me} {L : List Md} {r : Nat} (fn : f.n = n) (gn : g.n = n) (fs : f.su = su) (gs : g.su = su)
    (hf : f.fs.Perm (firsts Vr.n X)) (hg : g.fs.Perm (turnd r (firsts Vr.n X))) (rf : Ris Vr.n f.fs) (rg : Ris Vr.n g.fs)
    (mf : (f.ms.map Sg.p).Perm (((firsts K5.Me.n M).map mdOf).map Md.p)) (mg : (g.ms.map Sg.p).Perm (L.map Md.p)) (hL : L.map Md.p = (turnd r (firsts K5.Me.n M)).map meP) (qf : Ris Sg.n f.ms) (qg : Ris Sg.n g.ms) : f.p = g.p := by
  refine face_one (fn.trans gn.symm) (fs.trans gs.symm) hf hg (turnd_perm _ _) rf rg (fun a ha b hb e => firsts_one Vr.n X a ha b hb e) mf mg ?_ qf qg ?_
  · rw [hL, List.map_map]
    exact (turnd_perm r _).map _
  · intro a ha b hb e
    rw [List.map_map] at ha hb
    obtain ⟨x, hx, rfl⟩ := List.mem_map.1 ha
    obtain ⟨y, hy, rfl⟩ := List.mem_map.1 hb
    rw [firsts_one K5.Me.n M x hx y hy e]
theorem i64_lowO (p : Nat) (m : Nat) (hp : p < 63) (hm : m = 2 ^ p - 1) (n : Int) : ∃ N : Nat, N ≤ m ∧ bits .and .i64 n (m : Int) = (N : Int) := by
  have hpp : 2 ^ p < 2 ^ 64 := Nat.pow_lt_pow_right (by decide) (by omega)
  have h1 : (BitVec.ofInt 64 (m : Int)).toNat = m := by
    rw [BitVec.toNat_ofInt]
    have : ((m : Int) % ((2 ^ 64 : Nat) : Int)).toNat = m % 2 ^ 64 := by omega
    rw [this, Nat.mod_eq_of_lt (by omega)]
  have h2 : (BitVec.ofInt 64 n &&& BitVec.ofInt 64 (m : Int)).toNat ≤ m := by
    rw [BitVec.toNat_and, h1]
    exact Nat.and_le_right
  have hp2 : 2 ^ p ≤ 2 ^ 62 := Nat.pow_le_pow_right (by decide) (by omega)
  refine ⟨(BitVec.ofInt 64 n &&& BitVec.ofInt 64 (m : Int)).toNat, h2, ?_⟩
  show IntKind.i64.wrap ((BitVec.ofInt 64 n &&& BitVec.ofInt 64 (m : Int)).toNat : Int) = _
  rw [IntWalk.i64_in _ (by omega)]
/-- What face.Of says of a class of such members, whatever their order. -/
structure CondF (n su : List UInt8) (D : List Vr) (M : List K5.Me) (f : Fc) : Prop where
  n : f.n = n
  su : f.su = su
  fs : f.fs.Perm D
  rf : Ris Vr.n f.fs
  ms : (f.ms.map Sg.p).Perm (M.map meP)
  rm : Ris Sg.n f.ms
theorem cond_one {n su : List UInt8} {X : List Vr} {M : List K5.Me} {f g : Fc} (hf : CondF n su (firsts Vr.n X) (firsts K5.Me.n M) f) (hg : CondF n su (firsts Vr.n X) (firsts K5.Me.n M) g) : f.p = g.p := by
  refine face_one (hf.n.trans hg.n.symm) (hf.su.trans hg.su.symm) hf.fs hg.fs (List.Perm.refl _) hf.rf hg.rf (fun a ha b hb e => firsts_one Vr.n X a ha b hb e) hf.ms hg.ms (List.Perm.refl _) hf.rm hg.rm ?_
  intro a ha b hb e
  obtain ⟨x, hx, rfl⟩ := List.mem_map.1 ha
  obtain ⟨y, hy, rfl⟩ := List.mem_map.1 hb
  rw [firsts_one K5.Me.n M x hx y hy e]
theorem cond_pl (n su : List UInt8) (X : List Vr) (M : List K5.Me) : ∃ P : FcP, ∀ f, CondF n su (firsts Vr.n X) (firsts K5.Me.n M) f → f.pl = P := by
  by_cases h : ∃ f, CondF n su (firsts Vr.n X) (firsts K5.Me.n M) f
  · obtain ⟨f0, h0⟩ := h
    exact ⟨f0.pl, fun f hf => Fc.pl_p.2 (cond_one hf h0)⟩
  · exact ⟨PA, fun f hf => absurd ⟨f, hf⟩ h⟩
/-- What holds while the two faces are looked at. -/
structure Ho (g1 g2 : Nat) (c1 c2 : Cs) (wo w' : World) : Prop where
  b1 : Blk w' g1 39 c1.cells.toArray
  b2 : Blk w' g2 39 c2.cells.toArray
  be : Below wo.heap.size wo w'
theorem Ho.below {g1 g2 : Nat} {c1 c2 : Cs} {wo w' w'' : World} (i : Ho g1 g2 c1 c2 wo w') (h : Below w'.heap.size w' w'') : Ho g1 g2 c1 c2 wo w'' :=
  ⟨i.b1.below h i.b1.lt, i.b2.below h i.b2.lt, i.be.trans (h.mono i.be.size)⟩
theorem Ho.cells {g1 g2 : Nat} {n su : List UInt8} {A B A' B' : Option Addr} {f fc m mc f' fc' m' mc' : Nat} {X Y : List Vr} {L L' : List Md} {wo w' : World} (i : Ho g1 g2 ⟨0, 0, n, su, A, f, fc, X, B, m, mc, L⟩ ⟨0, 0, n, su, A', f', fc', Y, B', m', mc', L'⟩ wo w') :
    w'.cell? ⟨g1, 0, none⟩ = some (.int .i64 0) ∧ w'.cell? ⟨g1, 1, none⟩ = some (.int .i64 0) ∧ w'.cell? ⟨g1, 2, none⟩ = some (S n) ∧ w'.cell? ⟨g1, 3, none⟩ = some (S su) ∧ w'.cell? ⟨g1, 4, none⟩ = some (.slice A f fc) ∧ w'.cell? ⟨g1, 5, none⟩ = some (.slice B m mc) ∧
    w'.cell? ⟨g2, 0, none⟩ = some (.int .i64 0) ∧ w'.cell? ⟨g2, 1, none⟩ = some (.int .i64 0) ∧ w'.cell? ⟨g2, 2, none⟩ = some (S n) ∧ w'.cell? ⟨g2, 3, none⟩ = some (S su) ∧ w'.cell? ⟨g2, 4, none⟩ = some (.slice A' f' fc') ∧ w'.cell? ⟨g2, 5, none⟩ = some (.slice B' m' mc') :=
  ⟨i.b1.cell 0, i.b1.cell 1, i.b1.cell 2, i.b1.cell 3, i.b1.cell 4, i.b1.cell 5, i.b2.cell 0, i.b2.cell 1, i.b2.cell 2, i.b2.cell 3, i.b2.cell 4, i.b2.cell 5⟩
end Go.Proofs.Ytkgnoemagklmiaa
