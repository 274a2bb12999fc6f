/-
  Contracts: pack.Get, pack.Part, pack.Unpart.
-/
import Derived.Test.YtjlppkbmapmbiaaDoorPackC
import Derived.Deep.RegionWith
namespace Go.Proofs.YtjlppkbmapmbiaaDoor
open Go.RowKit
set_option linter.unusedVariables false
set_option maxRecDepth 100000

def Parted (w : World) (n p : Nat) (l r : List UInt8) (e : Ending) (w' : World) : Prop :=
  ∃ V cv V' cv', e = .returned (.tuple #[.slice V p cv, .slice V' (n - (1 + p)) cv', .int .i64 0]) ∧ Sl byteR 1 w' (New w.heap.size w') V p cv l ∧ Sl byteR 1 w' (New w.heap.size w') V' (n - (1 + p)) cv' r ∧ Below w.heap.size w w'

end Go.Proofs.YtjlppkbmapmbiaaDoor
