/- A file that fits has not too many bytes; no statement of the seat is proved here. -/
import Derived.Test.YtkldfbacagnhoaaDoorClsM3
namespace Go.Proofs.YtkldfbacagnhoaaDoor
open Go.RowKit

theorem catAll_bd {α : Type} {f : α → List UInt8} {l : List α} {B n : Nat} (h : ∀ x ∈ l, (f x).length ≤ B) (hn : l.length ≤ n) : (catAll f l).length ≤ B * n :=
  Nat.le_trans (catAll_len f l B h) (Nat.mul_le_mul_left _ hn)
theorem tx_bd {s : List UInt8} (h : s.length ≤ 40) : (tx s).length ≤ 50 := by
  have := vi_len_10 s.length (by omega)
  rw [tx, List.length_append]; omega
theorem tyL_bd {t : Ty} (h : t.fit) : (tyL t).length ≤ 51 := by
  have := tx_bd h
  rw [tyL, List.length_append, fl_len]; omega
theorem vrL_bd {v : Vr} (h : v.fit) : (vrL v).length ≤ 101 := by
  have := tx_bd h.1
  have := tyL_bd h.2
  rw [vrL, List.length_append]; omega
theorem secL_bd {α : Type} {g : α → List UInt8} {l : List α} {B n : Nat} (h : ∀ x ∈ l, (g x).length ≤ B) (hn : l.length ≤ n) (h64 : n < 18446744073709551616) : (secL g l).length ≤ 10 + B * n := by
  have h1 := vi_len_10 l.length (by omega)
  have h2 := catAll_bd h hn
  rw [secL, List.length_append]; omega
theorem sgL_bd {m : SgP} (h : m.fit) : (sgL m).length ≤ 10400 := by
  have h1 := tx_bd h.1
  have h2 := tyL_bd h.2.1
  have h3 := secL_bd (g := tyL) (fun x hx => tyL_bd (h.2.2.2 x hx)) h.2.2.1 (by omega)
  rw [sgL_eq, List.length_append, List.length_append, List.length_append, fl_len]; omega
theorem fcL_bd {f : FcP} (h : f.fit) : (fcL f).length ≤ 2101000 := by
  have h1 := tx_bd h.1
  have h2 := tx_bd h.2.1
  have h3 := secL_bd (g := vrL) (fun x hx => vrL_bd (h.2.2.1.2 x hx)) h.2.2.1.1 (by omega)
  have h4 := secL_bd (g := sgL) (fun x hx => sgL_bd (h.2.2.2.2 x hx)) h.2.2.2.1 (by omega)
  rw [fcL_eq, List.length_append, List.length_append, List.length_append]; omega
theorem zi_bd {n : Int} (h : -9223372036854775808 ≤ n ∧ n ≤ 9223372036854775807) : (zi n).length ≤ 20 := by
  have h0 := zz_le n h.1 h.2
  have h1 := vi_len_10 (zz n / 4294967296) (by omega)
  have h2 := vi_len_10 (zz n % 4294967296) (by omega)
  rw [zi, List.length_append]; omega
theorem fdL_bd {f : FdP} (h : f.fit) : (fdL f).length ≤ 151 := by
  have h1 := tx_bd h.1
  have h2 := tx_bd h.2.1
  have h3 := tyL_bd h.2.2
  rw [fdL, List.length_append, List.length_append]; omega
theorem coL_bd {x : Int × Int} (h : coFit x) : (coL x).length ≤ 20 := by
  have h1 := vi_len_10 x.1.toNat (by have := h.1; omega)
  rw [coL, List.length_append]
  split
  · simp; omega
  · rename_i hp
    have h3 := h.2
    rw [if_neg hp] at h3
    have h2 := vi_len_10 x.2.toNat (by omega)
    omega
theorem bdL_bd {b : BdP} (h : b.fit) : (bdL b).length ≤ 327710 := by
  have h1 := vi_len_10 b.lo.toNat (by have := h.1; omega)
  have h2 := vi_len_10 b.sk.toNat (by have := h.2.1; omega)
  have h3 := secL_bd (g := coL) (fun x hx => coL_bd (h.2.2.2 x hx)) h.2.2.1 (by omega)
  rw [bdL_eq, List.length_append, List.length_append]; omega
theorem mtL_bd {m : MtP} (h : m.fit) : (fcL (mtF m)).length ≤ 10500 := by
  have h1 := tx_bd h.1
  have h2 := sgL_bd h.2
  have e1 : tx [] = [0] := by rw [tx]; show vi 0 ++ [] = [0]; rw [vi_small (by omega)]; rfl
  have e2 : secL vrL (mtF m).fs = [0] := by show vi 0 ++ [] = [0]; rw [vi_small (by omega)]; rfl
  have e3 : secL sgL (mtF m).ms = [1] ++ sgL m.m := by
    show vi 1 ++ catAll sgL [m.m] = _
    rw [vi_small (by omega)]; simp [catAll]
  have e4 : (mtF m).n = m.c := rfl
  have e5 : (mtF m).su = [] := rfl
  rw [fcL_eq, e2, e3, e4, e5, e1]
  simp only [List.length_append, List.length_cons, List.length_nil]; omega
theorem poolL_bd {p : PoolP} (h : p.fit) : (poolL p).length ≤ 200000000 := by
  have h1 := secL_bd (g := zi) (fun x hx => zi_bd (h.n.2 x hx)) h.n.1 (by omega)
  have h2 := secL_bd (g := tx) (fun x hx => tx_bd (h.c.2 x hx)) h.c.1 (by omega)
  have h3 := secL_bd (g := tyL) (fun x hx => tyL_bd (h.t.2 x hx)) h.t.1 (by omega)
  have h4 := secL_bd (g := fdL) (fun x hx => fdL_bd (h.d.2 x hx)) h.d.1 (by omega)
  have h5 := secL_bd (g := fcL) (l := p.mts.map mtF) (B := 10500) (n := 16384) (fun x hx => by obtain ⟨m, hm, rfl⟩ := List.mem_map.1 hx; exact mtL_bd (h.m.2 m hm)) (by rw [List.length_map]; exact h.m.1) (by omega)
  unfold poolL poL poL1 poL2
  simp only [List.length_append]; omega
theorem fileL_bd {F : FileP} (h : F.fit) : (fileL F).length ≤ 300000000 := by
  have h1 := fcL_bd h.f
  have h2 := poolL_bd h.p
  have h3 := catAll_bd (f := bdL) (fun x hx => bdL_bd (h.b.2 x hx)) (show F.b.length ≤ 200 by rw [h.b.1]; exact h.f.2.2.2.1)
  unfold fileL
  simp only [List.length_append]; omega
end Go.Proofs.YtkldfbacagnhoaaDoor
