/- Short names of contracts of the verifier's state (a type taken, types taken off, one by one or in a row); no statement of the seat is proved here. -/
import Derived.Test.YtmbegaobnpoefaaDoorMCliV
namespace Go.Proofs.YtmbegaobnpoefaaDoor
open Go.RowKit Go.Maps
section
variable (B q gi g m s : Nat) (T : List Fc) (f : Fl) (b : Bd) (sg : Sg) (va vd : Value) (W p : Nat) (v : Vs)
abbrev TkE (e0 : Value) (v1 : Vs) : Prop := ∀ ww n', Sx ww B q gi g m s n' T f b sg va vd → WsN ww B W p v → Calls Tryd.prog 61 #[.pointer (some ⟨p, 0, none⟩)] ww
  (fun e w' => e = .returned e0 ∧ Sx w' B q gi g m s n' T f b sg va vd ∧ Keep (Fr3 s B W) ww w' ∧ WsN w' B W p v1)
abbrev PuF (k : Nat) (cs : Array Value) : Prop := ∀ ww n', Sx ww B q gi g m s n' T f b sg va vd → WsN ww B W p v → W ≤ ww.heap.size → n' ≤ 7000000000000000 →
  Calls Tryd.prog 62 #[.pointer (some ⟨q, 0, none⟩), .pointer (some ⟨p, 0, none⟩), .slice (some ⟨ww.heap.size, 0, none⟩) k k] (ww.alloc (.cells cs 24))
  (fun e w' => e = .returned (.bool false) ∧ Sx w' B q gi g m s (n' + 20 * k) T f b sg va vd ∧ Keep (Fr3 s B W) ww w')
abbrev PuT (k : Nat) (cs : Array Value) (v1 : Vs) : Prop := ∀ ww n', Sx ww B q gi g m s n' T f b sg va vd → WsN ww B W p v → W ≤ ww.heap.size → n' ≤ 7000000000000000 →
  Calls Tryd.prog 62 #[.pointer (some ⟨q, 0, none⟩), .pointer (some ⟨p, 0, none⟩), .slice (some ⟨ww.heap.size, 0, none⟩) k k] (ww.alloc (.cells cs 24))
  (fun e w' => e = .returned (.bool true) ∧ Sx w' B q gi g m s (n' + 20 * k) T f b sg va vd ∧ Keep (Fr3 s B W) ww w' ∧ WsN w' B W p v1)
abbrev PkF (k : Nat) (ts : List Ty) : Prop := ∀ ww n' AW cW, Sx ww B q gi g m s n' T f b sg va vd → WsN ww B W p v → Rd ww (Fr3 s B W) 2 AW k (ts.flatMap Ty.cells) → n' ≤ 7000000000000000 →
  Calls Tryd.prog 62 #[.pointer (some ⟨q, 0, none⟩), .pointer (some ⟨p, 0, none⟩), .slice AW k cW] ww
  (fun e w' => e = .returned (.bool false) ∧ Sx w' B q gi g m s (n' + 20 * k) T f b sg va vd ∧ Keep (Fr3 s B W) ww w')
abbrev PkT (k : Nat) (ts : List Ty) (v1 : Vs) : Prop := ∀ ww n' AW cW, Sx ww B q gi g m s n' T f b sg va vd → WsN ww B W p v → Rd ww (Fr3 s B W) 2 AW k (ts.flatMap Ty.cells) → n' ≤ 7000000000000000 →
  Calls Tryd.prog 62 #[.pointer (some ⟨q, 0, none⟩), .pointer (some ⟨p, 0, none⟩), .slice AW k cW] ww
  (fun e w' => e = .returned (.bool true) ∧ Sx w' B q gi g m s (n' + 20 * k) T f b sg va vd ∧ Keep (Fr3 s B W) ww w' ∧ WsN w' B W p v1)
end
end Go.Proofs.YtmbegaobnpoefaaDoor
