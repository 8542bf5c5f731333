/- A class's file in plain words: the pool, the bodies, the whole; which is right; no statement of the seat is proved here. -/
import Derived.Test.YtkldfbacagnhoaaDoorClsM
import Derived.Test.YtkldfbacagnhoaaDoorOpCodeC
import Derived.Test.YtkldfbacagnhoaaDoorFaceRightC
namespace Go.Proofs.YtkldfbacagnhoaaDoor
open Go.RowKit

def coR (st : St) : (Int × Int) × St :=
  if pl ((numR 16384 st).1 : Int) == 0 then (((numR 16384 st).1, 0), (numR 16384 st).2)
  else (((numR 16384 st).1, (numR 16384 (numR 16384 st).2).1), (numR 16384 (numR 16384 st).2).2)
def coL (x : Int × Int) : List UInt8 := vi x.1.toNat ++ (if pl x.1 == 0 then [] else vi x.2.toNat)
theorem coI : Inv coR coL := by
  intro st r h
  unfold coR at h ⊢
  split at h
  · rename_i hp
    have h1 := numI _ _ _ h
    rw [if_pos hp, coL, Int.toNat_natCast, if_pos hp, List.append_nil]
    exact h1
  · rename_i hp
    have h2 := numI _ _ _ h
    have h1 := numI _ _ _ h2
    rw [if_neg hp, coL, Int.toNat_natCast, if_neg hp, Int.toNat_natCast, List.append_assoc]
    exact h1
def bdR (st : St) : BdP × St :=
  let a := numR 401 st
  let b := numR 1000 a.2
  let c := manyR 16384 b.2
  let d := iterR coR c.1 c.2
  (⟨a.1, b.1, d.1⟩, d.2)
def bdL (b : BdP) : List UInt8 := vi b.lo.toNat ++ (vi b.sk.toNat ++ (vi b.code.length ++ catAll coL b.code))
theorem bdI : Inv bdR bdL := by
  intro st r h
  have h4 := iterI coI _ _ r h
  have h3 := manyI _ _ _ h4
  have h2 := numI _ _ _ h3
  have h1 := numI _ _ _ h2
  simp only [bdR, bdL, List.append_assoc, iterR_len, Int.toNat_natCast]
  exact h1

/-- How many, and these. -/
def secR {α : Type} (f : St → α × St) (m : Nat) (st : St) : List α × St := iterR f (manyR m st).1 (manyR m st).2
def secL {α : Type} (g : α → List UInt8) (l : List α) : List UInt8 := vi l.length ++ catAll g l
theorem secI {α : Type} {f : St → α × St} {g : α → List UInt8} (h : Inv f g) (m : Nat) : Inv (secR f m) (secL g) := by
  intro st r hr
  have h2 := iterI h _ _ r hr
  have h1 := manyI m _ _ h2
  rw [secL, List.append_assoc]
  unfold secR
  rw [iterR_len]
  exact h1
/-- The pool's parts up to its methods, and these as faces. -/
def poR1 (st : St) : (List Int × List (List UInt8)) × St :=
  let b := secR intR 16384 st
  let d := secR (textR 40) 16384 b.2
  ((b.1, d.1), d.2)
def poR2 (st : St) : (List Ty × List FdP) × St :=
  let b := secR tyR 16384 st
  let d := secR fdR 16384 b.2
  ((b.1, d.1), d.2)
def poR (st : St) : (PoolP × List FcP) × St :=
  let a := poR1 st
  let b := poR2 a.2
  let c := secR fcR 16384 b.2
  ((⟨a.1.1, a.1.2, b.1.1, b.1.2, c.1.map toMt⟩, c.1), c.2)
def poL1 (x : List Int × List (List UInt8)) : List UInt8 := secL zi x.1 ++ secL tx x.2
def poL2 (x : List Ty × List FdP) : List UInt8 := secL tyL x.1 ++ secL fdL x.2
theorem poI1 : Inv poR1 poL1 := by
  intro st r h
  have h2 := secI (textI 40) 16384 _ _ h
  have h1 := secI intI 16384 _ _ h2
  rw [poL1, List.append_assoc]
  exact h1
theorem poI2 : Inv poR2 poL2 := by
  intro st r h
  have h2 := secI fdI 16384 _ _ h
  have h1 := secI tyI 16384 _ _ h2
  rw [poL2, List.append_assoc]
  exact h1
def poL (p : PoolP) (fs : List FcP) : List UInt8 := poL1 (p.nums, p.cls) ++ (poL2 (p.tys, p.fds) ++ secL fcL fs)
theorem poI : Inv poR (fun x => poL x.1 x.2) := by
  intro st r h
  simp only [poR] at h ⊢
  have h3 := secI fcI 16384 _ _ h
  have h2 := poI2 _ _ h3
  have h1 := poI1 _ _ h2
  rw [poL, List.append_assoc, List.append_assoc]
  exact h1
theorem poR_mts (st : St) : (poR st).1.1.mts = (poR st).1.2.map toMt := by simp only [poR]
/-- A pool as it is laid. -/
def poolL (p : PoolP) : List UInt8 := poL p (p.mts.map mtF)
def fileL (F : FileP) : List UInt8 := fcL F.f ++ (poolL F.p ++ catAll bdL F.b)

/-- Which file is right. -/
def cname (s : List UInt8) : Bool := great s && decide (s.length ≤ 40)
def SgP.good (m : SgP) : Bool := m.r.good && decide (m.ps.length ≤ 200) && !(m.ps.any fun t => !t.good)
def riseP : List UInt8 → List SgP → Bool
  | _, [] => true
  | last, m :: r => !leqB m.n last && decide (m.n.length ≤ 40) && m.good && riseP m.n r
def FcP.right (f : FcP) : Bool := (great f.n && (f.su == [] || great f.su) && decide (f.fs.length ≤ 200) && decide (f.ms.length ≤ 200) && decide (f.n.length ≤ 40) && decide (f.su.length ≤ 40)) && riseV [] f.fs && riseP [] f.ms
theorem Sg.good_pl {w : World} {F : Nat → Prop} {m : Sg} (h : m.at_ w F) : m.good = m.pl.good := by
  unfold Sg.good SgP.good Sg.pl
  simp only
  rw [h.2.1]
theorem riseM_pl {w : World} {F : Nat → Prop} : ∀ (ms : List Sg) (last : List UInt8), (∀ m ∈ ms, m.at_ w F) → riseM last ms = riseP last (ms.map Sg.pl)
  | [], _, _ => rfl
  | m :: ms, last, h => by
    rw [riseM, List.map_cons, riseP, Sg.good_pl (h m (List.mem_cons_self ..)), riseM_pl ms m.n (fun x hx => h x (List.mem_cons_of_mem _ hx))]
    rfl
theorem Fc.right_pl {w : World} {F : Nat → Prop} {f : Fc} (h : f.at_ w F) : f.right = f.pl.right := by
  obtain ⟨⟨_, h1, _⟩, ⟨_, h2, _, h3⟩, _⟩ := h
  unfold Fc.right FcP.right Fc.headOk Fc.pl
  simp only [List.length_map]
  rw [h1, h2, riseM_pl _ _ h3]
def mtOk (m : MtP) : Bool := cname m.c && FcP.right ⟨[65], [], [], [m.m]⟩
def fdOk (f : FdP) : Bool := cname f.c && !(f.v.n == []) && decide (f.v.n.length ≤ 40) && f.v.t.good
def PoolP.right (p : PoolP) : Bool := (decide (p.nums.length ≤ 16384) && decide (p.cls.length ≤ 16384) && decide (p.tys.length ≤ 16384) && decide (p.fds.length ≤ 16384) && decide (p.mts.length ≤ 16384)) && p.cls.all cname && p.tys.all Ty.good && p.fds.all fdOk && p.mts.all mtOk
/-- Of each kind how many there are, in a body. -/
def manyV (p : PoolP) (b : BdP) (k : Int) : Int :=
  if k == 110 then p.nums.length else if k == 99 then p.cls.length else if k == 116 then p.tys.length else if k == 102 then p.fds.length else if k == 109 then p.mts.length else if k == 108 then b.lo else if k == 106 then b.code.length else 2
def rtC (c a v : Int) : Bool := kn c && (if pl c == 0 then a == 0 else decide (0 ≤ a) && decide (a < v))
def bdOk (p : PoolP) (m : SgP) (b : BdP) : Bool :=
  (decide ((if m.st then (m.ps.length : Int) else m.ps.length + 1) ≤ b.lo) && decide (b.lo ≤ 401) && decide (0 ≤ b.sk) && decide (b.sk ≤ 1000) && decide (1 ≤ b.code.length) && decide (b.code.length ≤ 16384)) && b.code.all fun x => rtC x.1 x.2 (manyV p b (pl x.1))
def bodiesOk (p : PoolP) : List SgP → List BdP → Bool
  | [], _ => true
  | _ :: _, [] => true
  | m :: ms, b :: bs => bdOk p m b && bodiesOk p ms bs
def FileP.right (F : FileP) : Bool := F.f.right && F.p.right && decide (F.b.length = F.f.ms.length) && bodiesOk F.p F.f.ms F.b

/-- The file that bytes are. -/
def decR (l : List UInt8) : FileP × St × Bool :=
  let f := fcR (some l)
  let p := poR f.2
  let b := iterR bdR f.1.ms.length p.2
  (⟨f.1, p.1.1, b.1⟩, b.2, p.1.2.all isMt)
def decOk (l : List UInt8) : Bool := (decR l).2.2 && (decR l).2.1 == some [] && (decR l).1.right
theorem mts_back : ∀ (fs : List FcP), fs.all isMt = true → (fs.map toMt).map mtF = fs
  | [], _ => rfl
  | f :: fs, h => by
    simp only [List.all_cons, Bool.and_eq_true] at h
    rw [List.map_cons, List.map_cons, mtF_to h.1, mts_back fs h.2]
theorem dec_back {l : List UInt8} (h : decOk l = true) : fileL (decR l).1 = l := by
  simp only [decOk, Bool.and_eq_true, beq_iff_eq] at h
  obtain ⟨⟨h1, h2⟩, _⟩ := h
  unfold decR at h1 h2 ⊢
  simp only at h1 h2 ⊢
  generalize hf : fcR (some l) = f at h1 h2 ⊢
  generalize hp : poR f.2 = p at h1 h2 ⊢
  have e3 := iterI bdI _ _ [] h2
  have e2 := poI f.2 _ (by rw [hp]; exact e3)
  have e1 := fcI (some l) _ (by rw [hf]; exact e2)
  rw [hp] at e2 e1
  rw [hf] at e1
  have e4 : poolL p.1.1 = poL p.1.1 p.1.2 := by
    unfold poolL
    have : p.1.1.mts = p.1.2.map toMt := by rw [← hp]; exact poR_mts _
    rw [this, mts_back _ h1]
  unfold fileL
  simp only
  rw [e4]
  have := Option.some.inj e1
  simp only [List.append_nil] at this
  exact this.symm
end Go.Proofs.YtkldfbacagnhoaaDoor
