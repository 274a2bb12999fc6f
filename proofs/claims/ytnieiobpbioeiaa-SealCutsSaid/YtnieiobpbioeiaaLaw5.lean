/-
  The walks of the laws casematelaw05: wakes, SealFlipped.
-/
import Derived.Test.YtnieiobpbioeiaaSealR
import Derived.Test.YtnieiobpbioeiaaSealG
namespace Go.Proofs.Ytnieiobpbioeiaa
open Go.RowKit
set_option linter.unusedVariables false
set_option maxRecDepth 100000

theorem open_flip {a s : Nat} {l : List UInt8} (hl : l.length ≤ 96) (bit bits : Int) : openS (flipL (sealL a s l) bit bits) = (noSec, 5) := by
  have hlen := seal_len a s l
  exact open_bent hl (oddN_lt _) (oddN_odd _) (flipAt_lt (by omega) bit)

theorem open_good {A : Option Addr} {n c : Nat} {a s : Nat} {l : List UInt8} {w : World} (h : Bs w A n c (sealL a s l)) (hl : l.length ≤ 96) (ha : a ≤ 65535) (hs : s ≤ 4294967295) :
    Calls Try.prog 46 #[.slice A n c] w fun e w' => ∃ A' c', e = .returned (.tuple #[.agg #[.int .i64 a, .int .i64 s, .slice A' l.length c'], .int .i64 0]) ∧ Bs w' A' l.length c' l ∧ Below w.heap.size w w' := by
  have hn : n ≤ 65536 := by have := h.len; rw [seal_len] at this; omega
  refine (open_any h hn).mono ?_
  rintro e w' ⟨A', n', c', he, hs', hb⟩
  rw [open_seal hl ha hs] at he hs'
  have := hs'.len
  subst this
  exact ⟨A', c', he, hs', hb⟩
theorem open_bad {A : Option Addr} {n c : Nat} {l : List UInt8} {w : World} (h : Bs w A n c l) (hn : n ≤ 65536) (k : Int) (hO : openS l = (noSec, k)) :
    Calls Try.prog 46 #[.slice A n c] w fun e w' => ∃ A' c', e = .returned (.tuple #[.agg #[.int .i64 0, .int .i64 0, .slice A' 0 c'], .int .i64 k]) ∧ Bs w' A' 0 c' [] ∧ Below w.heap.size w w' := by
  refine (open_any h hn).mono ?_
  rintro e w' ⟨A', n', c', he, hs', hb⟩
  rw [hO] at he hs'
  have := hs'.len
  subst this
  exact ⟨A', c', he, hs', hb⟩

set_option maxHeartbeats 1000000 in
theorem wakes5 (w : World) : Calls Try.prog 52 #[] w fun e w' => e = .returned (.bool true) ∧ Below w.heap.size w w' := by
  have hl0 := lit_bytes w [1, 2] #[.int .u8 1, .int .u8 2] 5 (by simp) rfl
  have hb0 := alloc_below w (.cells #[.int .u8 1, .int .u8 2] 5)
  go_enter Try.func52, Try.ntmps52
  go_wp2_with fail
  refine (make_ok hl0 3 7 (by omega) (by omega) (by simp)).mono ?_
  rintro e w1 ⟨V1, c1, rfl, ho1, hb1⟩
  have hr1 := ho1.read byteR_fine
  go_wp2_with fail
  refine (open_good hr1 (by simp) (by omega) (by omega)).mono ?_
  rintro e w2 ⟨A2, c2, rfl, hs2, hb2⟩
  have hb3 := alloc_below w2 (.cells #[.int .i64 3, .int .i64 7, .slice A2 2 c2] 62)
  have hr3 := hr1.on byteR_fine (th hb2 hb3)
  go_wp2_with fail
  refine (flip_any hr3 (by simp) 0 1 ⟨by omega, by omega⟩ ⟨by omega, by omega⟩).mono ?_
  rintro e w4 ⟨V4, c4, rfl, ho4, hb4⟩
  go_wp2_with fail
  refine (open_bad (ho4.read byteR_fine) (by simp) 5 (open_flip (by simp) 0 1)).mono ?_
  rintro e w5 ⟨A5, c5, rfl, hs5, hb5⟩
  have k0 := box_cell (th hb4 hb5) 0 _ rfl
  have k1 := box_cell (th hb4 hb5) 1 _ rfl
  have k2 := box_cell (th hb4 hb5) 2 _ rfl
  have hlt : w2.heap.size < w5.heap.size := Nat.lt_of_lt_of_le (by simp) (th hb4 hb5).size
  go_wp2_with fail
  go_ret
  exact ⟨rfl, th hb0 (th hb1 (th hb2 (th hb3 (th hb4 (th hb5 (alloc_below _ _))))))⟩

end Go.Proofs.Ytnieiobpbioeiaa
