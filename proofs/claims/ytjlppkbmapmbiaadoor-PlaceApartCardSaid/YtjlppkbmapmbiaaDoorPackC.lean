/-
  Contracts: slices.Grow (of nil), slices.Concat, pack.Put.
-/
import Derived.Test.YtjlppkbmapmbiaaDoorPack
import Derived.Test.YtjlppkbmapmbiaaDoorLit
import Derived.Lib.AppendZeros
import Derived.Lib.AppendZerosOnto
namespace Go.Proofs.YtjlppkbmapmbiaaDoor
open Go.RowKit
set_option linter.unusedVariables false
set_option maxRecDepth 100000

/-- How many there are in a row of rows. -/
def total (L : List (List UInt8)) : Nat := L.flatten.length
theorem total_step {L : List (List UInt8)} {k : Nat} {x : List UInt8} (h : L[k]? = some x) : total (L.take (k + 1)) = total (L.take k) + x.length := by
  obtain ⟨h1, e1⟩ := List.getElem?_eq_some_iff.1 h
  unfold total
  rw [List.take_succ_eq_append_getElem h1, e1]
  simp
theorem flatten_step {L : List (List UInt8)} {k : Nat} {x : List UInt8} (h : L[k]? = some x) : (L.take k).flatten ++ x = (L.take (k + 1)).flatten := by
  obtain ⟨h1, e1⟩ := List.getElem?_eq_some_iff.1 h
  rw [List.take_succ_eq_append_getElem h1, e1]
  simp
theorem total_le (L : List (List UInt8)) (k : Nat) : total (L.take k) ≤ total L := by
  have h : L.flatten = (L.take k).flatten ++ (L.drop k).flatten := by rw [← List.flatten_append, List.take_append_drop]
  unfold total
  rw [h, List.length_append]
  omega

theorem flat_two (a b : List UInt8) : [a, b].flatten = a ++ b := by simp
theorem total_two (a b : List UInt8) : total [a, b] = a.length + b.length := by simp [total]

end Go.Proofs.YtjlppkbmapmbiaaDoor
