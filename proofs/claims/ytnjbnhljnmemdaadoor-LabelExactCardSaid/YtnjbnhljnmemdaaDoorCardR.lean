/-
  What every row of the seat lists.
-/
import Derived.Test.YtnjbnhljnmemdaaDoorRows
namespace Go.Proofs.YtnjbnhljnmemdaaDoor
def laidL : List (String × DataW Unit) := Rows.labelExactRow.laid
end Go.Proofs.YtnjbnhljnmemdaaDoor
