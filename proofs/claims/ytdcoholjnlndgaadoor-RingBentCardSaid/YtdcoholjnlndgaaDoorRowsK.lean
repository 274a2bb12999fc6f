/-
  Contracts: casematekeep.Rows.
-/
import Derived.Test.YtdcoholjnlndgaaDoorKeep
import Derived.Deep.RegionHeld3
namespace Go.Proofs.YtdcoholjnlndgaaDoor
open Go.RowKit
set_option linter.unusedVariables false

end Go.Proofs.YtdcoholjnlndgaaDoor
