/-
  What every row of the seat lists.
-/
import Derived.Test.YtjlppkbmapmbiaaDoorRows
namespace Go.Proofs.YtjlppkbmapmbiaaDoor
def laidL : List (String × DataW Unit) := Rows.placeApartRow.laid
end Go.Proofs.YtjlppkbmapmbiaaDoor
