/-
  What every row of the seat lists.
-/
import Derived.Test.YtamgpbkakmffiaaDoorRows
namespace Go.Proofs.YtamgpbkakmffiaaDoor
def laidL : List (String × DataW Unit) := Rows.placeExactRow.laid
end Go.Proofs.YtamgpbkakmffiaaDoor
