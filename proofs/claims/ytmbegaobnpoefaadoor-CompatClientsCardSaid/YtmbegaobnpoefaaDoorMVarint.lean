/- Plain mathematics of package pack's numbers: seven bits a byte, the lowest first; no program in sight. -/
namespace Go.Proofs.YtmbegaobnpoefaaDoor
def vi (n : Nat) : List UInt8 := if h : n < 128 then [UInt8.ofNat n] else UInt8.ofNat (n % 128 + 128) :: vi (n / 128)
termination_by n
decreasing_by omega
section
variable {α : Type} (f : α → List UInt8) (l : List α)
end
def fl (b : Bool) : List UInt8 := [if b then 1 else 0]
end Go.Proofs.YtmbegaobnpoefaaDoor
namespace Go.Proofs.YtmbegaobnpoefaaDoor
end Go.Proofs.YtmbegaobnpoefaaDoor
namespace Go.Proofs.YtmbegaobnpoefaaDoor
end Go.Proofs.YtmbegaobnpoefaaDoor
