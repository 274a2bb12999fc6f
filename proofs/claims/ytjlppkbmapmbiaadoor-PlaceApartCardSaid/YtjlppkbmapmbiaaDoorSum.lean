/-
  Contracts: sum.down, sum.on, sum.Of; the reference's down, Eight, More, Sum.
  Contracts: the reference's down, Eight.
-/
import Derived.Test.YtjlppkbmapmbiaaDoorKeep
import Derived.Test.YtjlppkbmapmbiaaDoorCrc
import Derived.Laws.BitsAllLaws
namespace Go.Proofs.YtjlppkbmapmbiaaDoor
open Go.RowKit
set_option linter.unusedVariables false
set_option maxRecDepth 100000

theorem u32_and1 {r : Nat} (h : r < 4294967296) : bits .and .u32 (r : Int) 1 = ((r % 2 : Nat) : Int) := by
  have := u32_and_nat r 1 h (by omega)
  rw [Nat.and_one_is_mod] at this
  exact this
theorem u32_and255 {r : Nat} (h : r < 4294967296) : bits .and .u32 (r : Int) 255 = ((r % 256 : Nat) : Int) := by
  have := u32_and_nat r 255 h (by omega)
  rw [show (255 : Nat) = 2 ^ 8 - 1 from rfl, Nat.and_two_pow_sub_one_eq_mod] at this
  exact this

theorem crcFrom_snoc {r : Nat} {l : List UInt8} {k : Nat} {x : UInt8} (h : l[k]? = some x) : crcFrom r (l.take (k + 1)) = onN (crcFrom r (l.take k)) x.toNat := by
  obtain ⟨h1, e1⟩ := List.getElem?_eq_some_iff.1 h
  rw [List.take_succ_eq_append_getElem h1, e1]
  simp [crcFrom, List.foldl_append]

end Go.Proofs.YtjlppkbmapmbiaaDoor

namespace Go.Proofs.YtjlppkbmapmbiaaDoor
open Go.RowKit
set_option linter.unusedVariables false
set_option maxRecDepth 100000

theorem xor_i64 (a b : Nat) (ha : a < 9223372036854775808) (hb : b < 9223372036854775808) : bits .xor .i64 (a : Int) (b : Int) = ((a ^^^ b : Nat) : Int) := by
  have hx : a ^^^ b < 2 ^ 63 := Nat.xor_lt_two_pow (by omega) (by omega)
  show IntKind.i64.wrap ((BitVec.ofInt 64 (a : Int) ^^^ BitVec.ofInt 64 (b : Int)).toNat : Int) = _
  rw [BitVec.toNat_xor, ofInt64_nat a ha, ofInt64_nat b hb, IntKind.wrap_i64]
  omega

end Go.Proofs.YtjlppkbmapmbiaaDoor
