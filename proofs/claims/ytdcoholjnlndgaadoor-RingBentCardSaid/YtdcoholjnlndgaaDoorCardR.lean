/-
  What every row of the seat lists.
-/
import Derived.Test.YtdcoholjnlndgaaDoorRows
namespace Go.Proofs.YtdcoholjnlndgaaDoor
def laidL : List (String × DataW Unit) := Rows.ringApartRow.laid
end Go.Proofs.YtdcoholjnlndgaaDoor
