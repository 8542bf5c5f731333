/- Faces as bytes, in plain words; no statement of the seat is proved here. -/
import Derived.Test.YthehimjdjgmnjaaRound
import Derived.Test.YthehimjdjgmnjaaFaceDataD
import Derived.Deep.DeepCutAuto
import Derived.WalkLawsBesides
namespace Go.Proofs.Ythehimjdjgmnjaa
open Go.RowKit

theorem name_world {P : Program} {c : Code} {Q : Exit → Act → World → Prop} {a : Act} {w : World} (h : ∀ wB, wB = w → c.wp P Q a wB) : c.wp P Q a w := h w rfl
structure SgP where
  n : List UInt8
  st : Bool
  ps : List Ty
  r : Ty
deriving DecidableEq
structure FcP where
  n : List UInt8
  su : List UInt8
  fs : List Vr
  ms : List SgP
deriving DecidableEq
def Sg.pl (m : Sg) : SgP := ⟨m.n, m.st, m.ps, m.r⟩
def Fc.pl (f : Fc) : FcP := ⟨f.n, f.su, f.fs, f.ms.map Sg.pl⟩
def tyL (t : Ty) : List UInt8 := tx t.n ++ fl t.a
def vrL (v : Vr) : List UInt8 := tx v.n ++ tyL v.t
def sgL (m : SgP) : List UInt8 := tx m.n ++ (fl m.st ++ (tyL m.r ++ (vi m.ps.length ++ catAll tyL m.ps)))
def fcL (f : FcP) : List UInt8 := tx f.n ++ (tx f.su ++ (vi f.fs.length ++ (catAll vrL f.fs ++ (vi f.ms.length ++ catAll sgL f.ms))))
end Go.Proofs.Ythehimjdjgmnjaa
