/-
  Contract: slices.Repeat of one entry.
-/
import Derived.Test.YtdcoholjnlndgaaDoorCopyN
import Derived.Test.YtdcoholjnlndgaaDoorStruct
import Derived.Deep.RegionLaw
import Derived.Deep.CutRange
import Derived.IntWalk
import Derived.Deep.DeepCutAuto
namespace Go.Proofs.YtdcoholjnlndgaaDoor
open Go.RowKit
set_option linter.unusedVariables false
set_option maxRecDepth 100000

theorem ent_infoR : (Tryd.prog.info? 80).map (fun i => (i.zero, i.size, i.bytes)) = some (some (.agg #[.int .i64 0, .int .i64 0, .bool false]), 3, 24) := by kernel_rfl
theorem ent_sizeR : (Tryd.prog.info? 80).map (·.size) = some 3 := by kernel_rfl
def zEnt : List Value := [.int .i64 0, .int .i64 0, .bool false]
theorem made_ent {k : Nat} (h : k = 2 ∨ k = 3 ∨ k = 4 ∨ k = 5) : madeCells (Value.agg #[.int .i64 0, .int .i64 0, .bool false]).cells (k * 3) = (flat k zEnt).toArray := by
  rcases h with rfl | rfl | rfl | rfl <;> kernel_rfl
theorem cells_ent : (Value.agg #[.int .i64 0, .int .i64 0, .bool false]).cells = #[.int .i64 0, .int .i64 0, .bool false] := by kernel_rfl

end Go.Proofs.YtdcoholjnlndgaaDoor
