/-
  Contracts: math/bits.Mul64, Mul, of one and a small number.
-/
import Derived.Test.YtamgpbkakmffiaaDoorKeep
namespace Go.Proofs.YtamgpbkakmffiaaDoor
open Go.RowKit
set_option linter.unusedVariables false
set_option maxRecDepth 100000

set_option maxHeartbeats 1000000 in
theorem mul64_small (k : Int) (hk : k = 2 ∨ k = 3 ∨ k = 4 ∨ k = 5 ∨ k = 6) (w : World) : Calls Tryd.prog 125 #[.int .u64 1, .int .u64 k] w fun e w' => e = .returned (.tuple #[.int .u64 0, .int .u64 k]) ∧ w = w' := by
  have b1 : bits .and .u64 1 4294967295 = 1 := by decide
  rcases hk with rfl | rfl | rfl | rfl | rfl
  · have b2 : bits .and .u64 2 4294967295 = 2 := by decide
    go_enter Tryd.func125, Tryd.ntmps125
    go_wp2_with fail
    go_ret2
    exact ⟨rfl, rfl⟩
  · have b2 : bits .and .u64 3 4294967295 = 3 := by decide
    go_enter Tryd.func125, Tryd.ntmps125
    go_wp2_with fail
    go_ret2
    exact ⟨rfl, rfl⟩
  · have b2 : bits .and .u64 4 4294967295 = 4 := by decide
    go_enter Tryd.func125, Tryd.ntmps125
    go_wp2_with fail
    go_ret2
    exact ⟨rfl, rfl⟩
  · have b2 : bits .and .u64 5 4294967295 = 5 := by decide
    go_enter Tryd.func125, Tryd.ntmps125
    go_wp2_with fail
    go_ret2
    exact ⟨rfl, rfl⟩
  · have b2 : bits .and .u64 6 4294967295 = 6 := by decide
    go_enter Tryd.func125, Tryd.ntmps125
    go_wp2_with fail
    go_ret2
    exact ⟨rfl, rfl⟩
set_option maxHeartbeats 1000000 in
theorem mul_small (k : Int) (hk : k = 2 ∨ k = 3 ∨ k = 4 ∨ k = 5 ∨ k = 6) (w : World) : Calls Tryd.prog 118 #[.int .u64 1, .int .u64 k] w fun e w' => e = .returned (.tuple #[.int .u64 0, .int .u64 k]) ∧ w = w' := by
  have HM := hide (mul64_small k hk)
  clear hk
  go_enter Tryd.func118, Tryd.ntmps118
  go_wp2_with fail
  refine (HM.out _).mono ?_
  rintro e w1 ⟨rfl, rfl⟩
  go_wp2_with fail
  go_ret2
  exact ⟨rfl, rfl⟩

end Go.Proofs.YtamgpbkakmffiaaDoor
