/-
  Contracts: package xor.
-/
import Derived.Test.YtamgpbkakmffiaaKeep
import Derived.Test.YtamgpbkakmffiaaLit
import Derived.Test.YtamgpbkakmffiaaZx
import Derived.Test.YtamgpbkakmffiaaMadeZ
namespace Go.Proofs.Ytamgpbkakmffiaa
open Go.RowKit
set_option linter.unusedVariables false
set_option maxRecDepth 100000

theorem all_arg_aux (N : Int) (h : N < 0 ∨ 96 < N) : (decide (N < 0) || decide (96 < N)) = true := by
  simp; omega

end Go.Proofs.Ytamgpbkakmffiaa
