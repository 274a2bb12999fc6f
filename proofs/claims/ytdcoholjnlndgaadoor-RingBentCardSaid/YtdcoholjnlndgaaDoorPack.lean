/-
  Contracts: package pack: Put, Get.
-/
import Derived.Test.YtdcoholjnlndgaaDoorKeep
import Derived.Test.YtdcoholjnlndgaaDoorNum
import Derived.Lib.AppendZeros
namespace Go.Proofs.YtdcoholjnlndgaaDoor
open Go.RowKit
set_option linter.unusedVariables false

/-- The bytes of a number by size. -/
def leI (n size : Int) : List UInt8 := le size.toNat n.toNat

/-- A number in a type of its size, or nothing. -/
def sizedV (n size : Int) : Value :=
  if FitsP n size then (if size = 1 then .iface 5 (.int .u8 n) else if size = 2 then .iface 124 (.int .u16 n) else .iface 125 (.int .u32 n)) else .nilIface

theorem sizedV_none {n size : Int} (h : ¬ FitsP n size) : sizedV n size = .nilIface := by simp [sizedV, h]

theorem sized_8 {n : Int} (h : FitsP n 1) : sizedV n 1 = .iface 5 (.int .u8 n) := by simp [sizedV, h]
theorem sized_16 {n : Int} (h : FitsP n 2) : sizedV n 2 = .iface 124 (.int .u16 n) := by simp [sizedV, h]
theorem sized_32 {n : Int} (h : FitsP n 4) : sizedV n 4 = .iface 125 (.int .u32 n) := by simp [sizedV, h]

set_option maxHeartbeats 1000000 in
theorem sized_ok (n size : Int) (w : World) (h : FitsP n size) :
    Calls Tryd.prog 72 #[.int .i64 n, .int .i64 size] w fun e w' => e = .returned (sizedV n size) ∧ w = w' := by
  have h' := h
  obtain ⟨hs, h0, h1⟩ := h
  have b0 : decide (0 ≤ n) = true := by simpa using h0
  rcases hs with rfl | rfl | rfl
  · have hn : n < 256 := by simpa using h1
    have b1 : decide (n < 256) = true := by simpa using hn
    rw [sized_8 h']
    clear h' h1
    go_enter Tryd.func72, Tryd.ntmps72
    go_wp2
    go_ret
    exact ⟨rfl, rfl⟩
  · have hn : n < 65536 := by simpa using h1
    have b1 : decide (n < 65536) = true := by simpa using hn
    rw [sized_16 h']
    clear h' h1
    go_enter Tryd.func72, Tryd.ntmps72
    go_wp2
    go_ret
    exact ⟨rfl, rfl⟩
  · have hn : n < 4294967296 := by simpa using h1
    have b1 : decide (n < 4294967296) = true := by simpa using hn
    rw [sized_32 h']
    clear h' h1
    go_enter Tryd.func72, Tryd.ntmps72
    go_wp2
    go_ret
    exact ⟨rfl, rfl⟩

set_option maxHeartbeats 1000000 in
theorem sized_none (n size : Int) (w : World) (h : ¬ FitsP n size) :
    Calls Tryd.prog 72 #[.int .i64 n, .int .i64 size] w fun e w' => e = .returned .nilIface ∧ w = w' := by
  by_cases h1 : size = 1
  · subst h1
    have hh : Hid (¬ (0 ≤ n ∧ n < 256)) := fun hn => h ⟨.inl rfl, hn.1, by simpa using hn.2⟩
    clear h
    go_enter Tryd.func72, Tryd.ntmps72
    go_wp2
    all_goals (first | (exfalso; exact hh.out ⟨by omega, by omega⟩) | (go_ret; exact ⟨rfl, rfl⟩))
  by_cases h2 : size = 2
  · subst h2
    have hh : Hid (¬ (0 ≤ n ∧ n < 65536)) := fun hn => h ⟨.inr (.inl rfl), hn.1, by simpa using hn.2⟩
    clear h
    go_enter Tryd.func72, Tryd.ntmps72
    go_wp2
    all_goals (first | (exfalso; exact hh.out ⟨by omega, by omega⟩) | (go_ret; exact ⟨rfl, rfl⟩))
  by_cases h4 : size = 4
  · subst h4
    have hh : Hid (¬ (0 ≤ n ∧ n < 4294967296)) := fun hn => h ⟨.inr (.inr rfl), hn.1, by simpa using hn.2⟩
    clear h
    go_enter Tryd.func72, Tryd.ntmps72
    go_wp2
    all_goals (first | (exfalso; exact hh.out ⟨by omega, by omega⟩) | (go_ret; exact ⟨rfl, rfl⟩))
  have b1 : (size == 1) = false := by simpa using h1
  have b2 : (size == 2) = false := by simpa using h2
  have b4 : (size == 4) = false := by simpa using h4
  clear h h1 h2 h4
  go_enter Tryd.func72, Tryd.ntmps72
  go_wp2
  go_ret
  exact ⟨rfl, rfl⟩

theorem ta_8_8 (v : Value) (W : World) : (Instr.typeAssert (.iface 5 v) 20 5 true).run Tryd.prog W = .ok (.tuple #[v, .bool true]) W := by kernel_rfl
theorem ta_16_8 (v : Value) (W : World) : (Instr.typeAssert (.iface 124 v) 20 5 true).run Tryd.prog W = .ok (.tuple #[.int .u8 0, .bool false]) W := by kernel_rfl
theorem ta_32_8 (v : Value) (W : World) : (Instr.typeAssert (.iface 125 v) 20 5 true).run Tryd.prog W = .ok (.tuple #[.int .u8 0, .bool false]) W := by kernel_rfl
theorem ta_16_16 (v : Value) (W : World) : (Instr.typeAssert (.iface 124 v) 20 124 true).run Tryd.prog W = .ok (.tuple #[v, .bool true]) W := by kernel_rfl
theorem ta_32_16 (v : Value) (W : World) : (Instr.typeAssert (.iface 125 v) 20 124 true).run Tryd.prog W = .ok (.tuple #[.int .u16 0, .bool false]) W := by kernel_rfl
theorem ta_32_32 (v : Value) (W : World) : (Instr.typeAssert (.iface 125 v) 20 125 false).run Tryd.prog W = .ok v W := by kernel_rfl

set_option maxHeartbeats 1000000 in
theorem bytesOf_8 (n : Nat) (w : World) (h : n < 256) :
    Calls Tryd.prog 74 #[.iface 5 (.int .u8 n)] w fun e w' => ∃ A c, e = .returned (.slice A 1 c) ∧ Ow byteR 1 w' w.heap.size w.heap.size 5 (.slice A 1 c) 1 (le 1 n) ∧ Below w.heap.size w w' := by
  have t1 := ta_8_8
  go_enter Tryd.func74, Tryd.ntmps74
  have hc := cells_le1 n h
  have HC := hide hc
  clear hc
  go_wp2
  go_ret
  exact ⟨_, _, rfl, own_lit (le_len 1 n) (by omega) HC.out, alloc_below w _⟩
set_option maxHeartbeats 1000000 in
theorem bytesOf_16 (n : Nat) (w : World) (h : n < 65536) :
    Calls Tryd.prog 74 #[.iface 124 (.int .u16 n)] w fun e w' => ∃ A c, e = .returned (.slice A 2 c) ∧ Ow byteR 1 w' w.heap.size w.heap.size 5 (.slice A 2 c) 2 (le 2 n) ∧ Below w.heap.size w w' := by
  have t1 := ta_16_8
  have t2 := ta_16_16
  go_enter Tryd.func74, Tryd.ntmps74
  have hc := cells_le2 n h
  have HC := hide hc
  clear hc
  go_wp2
  go_ret
  exact ⟨_, _, rfl, own_lit (le_len 2 n) (by omega) HC.out, alloc_below w _⟩
set_option maxHeartbeats 1000000 in
theorem bytesOf_32 (n : Nat) (w : World) (h : n < 4294967296) :
    Calls Tryd.prog 74 #[.iface 125 (.int .u32 n)] w fun e w' => ∃ A c, e = .returned (.slice A 4 c) ∧ Ow byteR 1 w' w.heap.size w.heap.size 5 (.slice A 4 c) 4 (le 4 n) ∧ Below w.heap.size w w' := by
  have t1 := ta_32_8
  have t2 := ta_32_16
  have t3 := ta_32_32
  go_enter Tryd.func74, Tryd.ntmps74
  have hc := cells_le4 n h
  have HC := hide hc
  clear hc
  go_wp2
  go_ret
  exact ⟨_, _, rfl, own_lit (le_len 4 n) (by omega) HC.out, alloc_below w _⟩

end Go.Proofs.YtdcoholjnlndgaaDoor
