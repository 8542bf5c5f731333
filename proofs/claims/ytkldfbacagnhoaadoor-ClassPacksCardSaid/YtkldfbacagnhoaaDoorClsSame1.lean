/- The tests at the head of the laws' 'Same' of two files, walked over a frame of letters; no statement of the seat is proved here. -/
import Derived.Test.YtkldfbacagnhoaaDoorSigSameC
import Derived.Test.YtkldfbacagnhoaaDoorClsFew
namespace Go.Proofs.YtkldfbacagnhoaaDoor
open Go.RowKit

/-- A region of a code, by its number. -/
def reg (n : Nat) : Code → Option Code
  | .region id ops b => if id = n then some (.region id ops b) else none
  | .seq a b => match reg n a with
    | some c => some c
    | none => reg n b
  | .cond _ a b => match reg n a with
    | some c => some c
    | none => reg n b
  | .block _ c => reg n c
  | .loop c => reg n c
  | .scope c => reg n c
  | _ => none

set_option maxRecDepth 100000 in
set_option maxHeartbeats 16000000 in
theorem same_r1 {Q : Exit → Act → World → Prop} {v0 v1 v4 v5 v6 v7 v8 v9 v10 v11 v12 v13 : Value} (wA : World) (g g' : Nat) (n n' su su' : List UInt8) (fA mfA nA cA tA dA mA bA fA' mfA' nA' cA' tA' dA' mA' bA' : Option Addr) (fl fc mfl mfc nl nc cl cc tl tc dl dc ml mc bl bc fl' fc' mfl' mfc' nl' nc' cl' cc' tl' tc' dl' dc' ml' mc' bl' bc' : Nat) (Qb : Bool)
    (hk : Blk wA g 36 #[S n, S su, .slice fA fl fc, .slice mfA mfl mfc, .slice nA nl nc, .slice cA cl cc, .slice tA tl tc, .slice dA dl dc, .slice mA ml mc, .slice bA bl bc]) (hk' : Blk wA g' 36 #[S n', S su', .slice fA' fl' fc', .slice mfA' mfl' mfc', .slice nA' nl' nc', .slice cA' cl' cc', .slice tA' tl' tc', .slice dA' dl' dc', .slice mA' ml' mc', .slice bA' bl' bc'])
    (hF : Calls Tryd.prog 45 #[.agg #[S n, S su, .slice fA fl fc, .slice mfA mfl mfc], .agg #[S n', S su', .slice fA' fl' fc', .slice mfA' mfl' mfc']] wA (Gives wA (.bool Qb)))
    (h : ∀ u14 u15 u16 u17 u18 u19 u20 u21 u22 u23 u24 u25 u26 u27 u28 u29 u30 u31 u32 u33 u34 u35 u36 u37 u38 u39 u40 u41 u42 u43 u44 u45 u46 u47 u48 u49 u50 u51 u52 u53 u54 u55 u56 u57 u58 u59 u60 u61 u62 u63 u64 u65 u66 u67 u68 u69 u70 u71 u72 u73 u74 u75 u76 u77 u78 u79 u80 u81 u82 : Value, ∀ w1 (z83 : Bool), Below wA.heap.size wA w1 → z83 = !(Qb && decide (nl = nl') && decide (cl = cl') && decide (tl = tl') && decide (dl = dl') && decide (ml = ml') && decide (bl = bl')) → Q .normal ⟨#[v0, v1, (.pointer (some ⟨g, 0, none⟩)), (.pointer (some ⟨g', 0, none⟩)), v4, v5, v6, v7, v8, v9, v10, v11, v12, v13, u14, u15, u16, u17, u18, u19, u20, u21, u22, u23, u24, u25, u26, u27, u28, u29, u30, u31, u32, u33, u34, u35, u36, u37, u38, u39, u40, u41, u42, u43, u44, u45, u46, u47, u48, u49, u50, u51, u52, u53, u54, u55, u56, u57, u58, u59, u60, u61, u62, u63, u64, u65, u66, u67, u68, u69, u70, u71, u72, u73, u74, u75, u76, u77, u78, u79, u80, u81, u82, (.bool z83), undef, undef, undef, undef, undef, undef, undef, undef, undef, undef, undef, undef, undef, undef, undef, undef, undef, undef, undef, undef, undef, undef, undef, undef, undef, undef, undef, undef, undef, undef, undef, undef, undef, undef, undef, undef, undef, undef, undef, undef, undef, undef, undef, undef, undef, undef, undef, undef, undef, undef, undef, undef, undef, undef, undef, undef, undef, undef, undef, undef, undef, undef, undef, undef, undef, undef, undef, undef, undef, undef, undef, undef, undef, undef, undef, undef, undef, undef, undef, undef, undef, undef, undef, undef, undef, undef, undef, undef, undef, undef, undef, undef, undef, undef, undef, undef, undef, undef, undef, undef, undef, undef, undef, undef, undef, undef, undef, undef, undef, undef, undef, undef, undef, undef, undef, undef, undef, undef, undef, undef, undef, undef, undef, undef, undef, undef, undef, undef, undef, undef, undef, undef, undef, undef, undef, undef, undef, undef, undef, undef, undef, undef, undef, undef, undef, undef, undef, undef, undef, undef, undef, undef, undef, undef, undef, undef, undef, undef, undef, undef, undef, undef, undef, undef, undef, undef, undef, undef, undef, undef, undef, undef, undef, undef, undef, undef, undef, undef], []⟩ w1) :
    Code.wp Tryd.prog ((Tryd.f21.body.bind (reg 1)).getD .skip) Q ⟨#[v0, v1, (.pointer (some ⟨g, 0, none⟩)), (.pointer (some ⟨g', 0, none⟩)), v4, v5, v6, v7, v8, v9, v10, v11, v12, v13, undef, undef, undef, undef, undef, undef, undef, undef, undef, undef, undef, undef, undef, undef, undef, undef, undef, undef, undef, undef, undef, undef, undef, undef, undef, undef, undef, undef, undef, undef, undef, undef, undef, undef, undef, undef, undef, undef, undef, undef, undef, undef, undef, undef, undef, undef, undef, undef, undef, undef, undef, undef, undef, undef, undef, undef, undef, undef, undef, undef, undef, undef, undef, undef, undef, undef, undef, undef, undef, undef, undef, undef, undef, undef, undef, undef, undef, undef, undef, undef, undef, undef, undef, undef, undef, undef, undef, undef, undef, undef, undef, undef, undef, undef, undef, undef, undef, undef, undef, undef, undef, undef, undef, undef, undef, undef, undef, undef, undef, undef, undef, undef, undef, undef, undef, undef, undef, undef, undef, undef, undef, undef, undef, undef, undef, undef, undef, undef, undef, undef, undef, undef, undef, undef, undef, undef, undef, undef, undef, undef, undef, undef, undef, undef, undef, undef, undef, undef, undef, undef, undef, undef, undef, undef, undef, undef, undef, undef, undef, undef, undef, undef, undef, undef, undef, undef, undef, undef, undef, undef, undef, undef, undef, undef, undef, undef, undef, undef, undef, undef, undef, undef, undef, undef, undef, undef, undef, undef, undef, undef, undef, undef, undef, undef, undef, undef, undef, undef, undef, undef, undef, undef, undef, undef, undef, undef, undef, undef, undef, undef, undef, undef, undef, undef, undef, undef, undef, undef, undef, undef, undef, undef, undef, undef, undef, undef, undef, undef, undef, undef, undef, undef, undef, undef, undef, undef, undef, undef, undef, undef, undef, undef, undef, undef, undef, undef, undef, undef], []⟩ wA := by
  have H := hide h
  have HF := hide hF
  have g0 := hk.cell 0
  have g1 := hk.cell 1
  have g2 := hk.cell 2
  have g3 := hk.cell 3
  have g0' := hk'.cell 0
  have g1' := hk'.cell 1
  have g2' := hk'.cell 2
  have g3' := hk'.cell 3
  simp at g0 g1 g2 g3 g0' g1' g2' g3'
  have HK := hide hk
  have HK' := hide hk'
  clear h hF hk hk'
  conv => arg 2; whnf
  simp only [List.append_eq, List.cons_append, List.nil_append]
  go_wp2_with fail
  clear g0 g1 g2 g3 g0' g1' g2' g3'
  refine HF.out.mono ?_
  clear HF
  rintro e w1 ⟨rfl, hb1⟩
  have p4 := (HK.out.below hb1 HK.out.lt).cell 4
  have p4' := (HK'.out.below hb1 HK'.out.lt).cell 4
  have p5 := (HK.out.below hb1 HK.out.lt).cell 5
  have p5' := (HK'.out.below hb1 HK'.out.lt).cell 5
  have p6 := (HK.out.below hb1 HK.out.lt).cell 6
  have p6' := (HK'.out.below hb1 HK'.out.lt).cell 6
  have p7 := (HK.out.below hb1 HK.out.lt).cell 7
  have p7' := (HK'.out.below hb1 HK'.out.lt).cell 7
  have p8 := (HK.out.below hb1 HK.out.lt).cell 8
  have p8' := (HK'.out.below hb1 HK'.out.lt).cell 8
  have p9 := (HK.out.below hb1 HK.out.lt).cell 9
  have p9' := (HK'.out.below hb1 HK'.out.lt).cell 9
  simp at p4 p4' p5 p5' p6 p6' p7 p7' p8 p8' p9 p9'
  have HB := hide hb1
  clear hb1 HK HK'
  cases Qb
  · go_wp2_with fail; exact H.out _ _ _ _ _ _ _ _ _ _ _ _ _ _ _ _ _ _ _ _ _ _ _ _ _ _ _ _ _ _ _ _ _ _ _ _ _ _ _ _ _ _ _ _ _ _ _ _ _ _ _ _ _ _ _ _ _ _ _ _ _ _ _ _ _ _ _ _ _ _ _ HB.out (by first | (simp; done) | (simp; omega))
  by_cases en : nl = nl'
  case neg => go_wp2_with fail; exact H.out _ _ _ _ _ _ _ _ _ _ _ _ _ _ _ _ _ _ _ _ _ _ _ _ _ _ _ _ _ _ _ _ _ _ _ _ _ _ _ _ _ _ _ _ _ _ _ _ _ _ _ _ _ _ _ _ _ _ _ _ _ _ _ _ _ _ _ _ _ _ _ HB.out (by first | (simp [en]; done) | (simp [en]; omega))
  case pos =>
  subst en
  by_cases ec : cl = cl'
  case neg => go_wp2_with fail; exact H.out _ _ _ _ _ _ _ _ _ _ _ _ _ _ _ _ _ _ _ _ _ _ _ _ _ _ _ _ _ _ _ _ _ _ _ _ _ _ _ _ _ _ _ _ _ _ _ _ _ _ _ _ _ _ _ _ _ _ _ _ _ _ _ _ _ _ _ _ _ _ _ HB.out (by first | (simp [ec]; done) | (simp [ec]; omega))
  case pos =>
  subst ec
  by_cases et : tl = tl'
  case neg => go_wp2_with fail; exact H.out _ _ _ _ _ _ _ _ _ _ _ _ _ _ _ _ _ _ _ _ _ _ _ _ _ _ _ _ _ _ _ _ _ _ _ _ _ _ _ _ _ _ _ _ _ _ _ _ _ _ _ _ _ _ _ _ _ _ _ _ _ _ _ _ _ _ _ _ _ _ _ HB.out (by first | (simp [et]; done) | (simp [et]; omega))
  case pos =>
  subst et
  by_cases ed : dl = dl'
  case neg => go_wp2_with fail; exact H.out _ _ _ _ _ _ _ _ _ _ _ _ _ _ _ _ _ _ _ _ _ _ _ _ _ _ _ _ _ _ _ _ _ _ _ _ _ _ _ _ _ _ _ _ _ _ _ _ _ _ _ _ _ _ _ _ _ _ _ _ _ _ _ _ _ _ _ _ _ _ _ HB.out (by first | (simp [ed]; done) | (simp [ed]; omega))
  case pos =>
  subst ed
  by_cases em : ml = ml'
  case neg => go_wp2_with fail; exact H.out _ _ _ _ _ _ _ _ _ _ _ _ _ _ _ _ _ _ _ _ _ _ _ _ _ _ _ _ _ _ _ _ _ _ _ _ _ _ _ _ _ _ _ _ _ _ _ _ _ _ _ _ _ _ _ _ _ _ _ _ _ _ _ _ _ _ _ _ _ _ _ HB.out (by first | (simp [em]; done) | (simp [em]; omega))
  case pos =>
  subst em
  by_cases eb : bl = bl'
  case neg => go_wp2_with fail; exact H.out _ _ _ _ _ _ _ _ _ _ _ _ _ _ _ _ _ _ _ _ _ _ _ _ _ _ _ _ _ _ _ _ _ _ _ _ _ _ _ _ _ _ _ _ _ _ _ _ _ _ _ _ _ _ _ _ _ _ _ _ _ _ _ _ _ _ _ _ _ _ _ HB.out (by first | (simp [eb]; done) | (simp [eb]; omega))
  case pos =>
  subst eb
  go_wp2_with fail; exact H.out _ _ _ _ _ _ _ _ _ _ _ _ _ _ _ _ _ _ _ _ _ _ _ _ _ _ _ _ _ _ _ _ _ _ _ _ _ _ _ _ _ _ _ _ _ _ _ _ _ _ _ _ _ _ _ _ _ _ _ _ _ _ _ _ _ _ _ _ _ _ _ HB.out (by first | (simp; done) | (simp; omega))
end Go.Proofs.YtkldfbacagnhoaaDoor
