/-
  Contracts: the zone's look: known.
-/
import Derived.Test.YtamgpbkakmffiaaLook
import Derived.Test.YtamgpbkakmffiaaXor
import Derived.Deep.RegionHeld3
namespace Go.Proofs.Ytamgpbkakmffiaa
open Go.RowKit
set_option linter.unusedVariables false
set_option maxRecDepth 100000

theorem known_eq {L : List Ent} {H : List (List UInt8)} {i : Nat} {e : Ent} {h : List UInt8} (he : L[i]? = some e) (hh : H[i]? = some h) :
    knownL L H i = if e.lost then [] else if h ≠ [] then h else if [] ∈ othN L H i H.length then [] else
      if (crc (zxs (List.replicate 8 0) (othN L H i H.length)) : Int) = e.sum then zxs (List.replicate 8 0) (othN L H i H.length) else [] := by
  unfold knownL
  rw [he, hh]

theorem known_dec {l : List UInt8} (h : l.length = 8) : decide (l ≠ []) = true := decide_eq_true (by rintro rfl; cases h)

/-- What 'known' tells: bytes, or nothing. -/
def KnownPost (w : World) (K : List UInt8) (e : Ending) (w' : World) : Prop :=
  Below w.heap.size w w' ∧ ∃ V n cv, e = .returned (.tuple #[.slice V n cv, .bool (decide (K ≠ []))]) ∧ Sl byteR 1 w' (New w.heap.size w') V n cv K

section
variable {A B : Option Addr} {n c m cb N d : Nat} {L : List Ent} {H : List (List UInt8)} {w : World}

end

end Go.Proofs.Ytamgpbkakmffiaa
