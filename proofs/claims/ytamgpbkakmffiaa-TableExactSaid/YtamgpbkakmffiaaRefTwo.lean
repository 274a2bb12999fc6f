/-
  Contracts: casemateref01.Two.
-/
import Derived.Test.YtamgpbkakmffiaaKeep
import Derived.Test.YtamgpbkakmffiaaZx
import Derived.Deep.RegionHeld3
namespace Go.Proofs.Ytamgpbkakmffiaa
open Go.RowKit
set_option linter.unusedVariables false

end Go.Proofs.Ytamgpbkakmffiaa
