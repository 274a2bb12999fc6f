/-
  Contracts: package pack: Put, Get.
-/
import Derived.Test.YtjlppkbmapmbiaaDoorKeep
import Derived.Test.YtjlppkbmapmbiaaDoorNum
import Derived.Lib.AppendZeros
namespace Go.Proofs.YtjlppkbmapmbiaaDoor
open Go.RowKit
set_option linter.unusedVariables false

/-- The bytes of a number by size. -/
def leI (n size : Int) : List UInt8 := le size.toNat n.toNat

theorem ta_8_8 (v : Value) (W : World) : (Instr.typeAssert (.iface 5 v) 20 5 true).run Tryd.prog W = .ok (.tuple #[v, .bool true]) W := by kernel_rfl
theorem ta_32_8 (v : Value) (W : World) : (Instr.typeAssert (.iface 84 v) 20 5 true).run Tryd.prog W = .ok (.tuple #[.int .u8 0, .bool false]) W := by kernel_rfl
theorem ta_32_32 (v : Value) (W : World) : (Instr.typeAssert (.iface 84 v) 20 84 false).run Tryd.prog W = .ok v W := by kernel_rfl

end Go.Proofs.YtjlppkbmapmbiaaDoor
