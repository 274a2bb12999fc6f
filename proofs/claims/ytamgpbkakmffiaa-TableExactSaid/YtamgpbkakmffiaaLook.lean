/-
  Contracts: the zone's look: others, told.
-/
import Derived.Test.YtamgpbkakmffiaaHad
import Derived.Test.YtamgpbkakmffiaaSum
namespace Go.Proofs.Ytamgpbkakmffiaa
open Go.RowKit
set_option linter.unusedVariables false
set_option maxRecDepth 100000

theorem oth_in {L : List Ent} {H : List (List UInt8)} {b k n : Nat} {e : Ent} (hk : k < n) (hb : k ≠ b) (he : L[k]? = some e) (hl : e.lost = false) (hx : H[k]? = some []) : [] ∈ othN L H b n := by
  simp only [othN, List.mem_filterMap, List.mem_range]
  exact ⟨k, hk, by rw [if_neg (by simp [hb, he, hl]), hx]⟩

/-- What 'others' tells. -/
def OthPost (w : World) (O : List (List UInt8)) (e : Ending) (w' : World) : Prop :=
  Below w.heap.size w w' ∧
  (([] ∉ O ∧ ∃ V cv, e = .returned (.tuple #[.slice V O.length cv, .bool true]) ∧ Ow (slR byteR 1) 1 w' w.heap.size 0 27 (.slice V O.length cv) O.length O) ∨
   ([] ∈ O ∧ e = .returned (.tuple #[.slice none 0 0, .bool false])))

end Go.Proofs.Ytamgpbkakmffiaa
