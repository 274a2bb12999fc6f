/-
  Contracts: seal.Flip.
-/
import Derived.Test.YtnieiobpbioeiaaSeal
import Derived.Test.YtnieiobpbioeiaaZx
namespace Go.Proofs.Ytnieiobpbioeiaa
open Go.RowKit
set_option linter.unusedVariables false
set_option maxRecDepth 100000

/-- The bits that are asked to be turned: 32, the lowest one set. -/
def oddN (b : Int) : Nat := (b % 4294967296).toNat / 2 * 2 + 1
theorem oddN_lt (b : Int) : oddN b < 4294967296 := by unfold oddN; omega
theorem oddN_odd (b : Int) : oddN b % 2 = 1 := by unfold oddN; omega
theorem or_one (x : Nat) : x ||| 1 = x / 2 * 2 + 1 := by
  apply Nat.eq_of_testBit_eq
  intro i
  rw [Nat.testBit_or]
  cases i with
  | zero => simp
  | succ i =>
    rw [Nat.testBit_succ, Nat.testBit_succ, Nat.testBit_succ, show (x / 2 * 2 + 1) / 2 = x / 2 by omega]
    simp
/-- Where they begin. -/
def flipAt (n : Nat) (bit : Int) : Nat := (bit % (8 * n : Int)).toNat
theorem flipAt_lt {n : Nat} (h : 0 < n) (bit : Int) : flipAt n bit < 8 * n := by
  unfold flipAt
  have := Int.emod_lt_of_pos bit (show (0 : Int) < 8 * n by omega)
  have := Int.emod_nonneg bit (show (8 * n : Int) ≠ 0 by omega)
  omega
def flipL (l : List UInt8) (bit bits : Int) : List UInt8 := bent l (flipAt l.length bit) (oddN bits)
theorem flipL_len (l : List UInt8) (bit bits : Int) : (flipL l bit bits).length = l.length := bent_len _ _ _

set_option maxHeartbeats 1000000 in
theorem flip_any {A : Option Addr} {n c : Nat} {l : List UInt8} {w : World} (hl : Bs w A n c l) (hn : n ≤ 60000) (bit bits : Int) (hbit : InI bit) (hbits : InI bits) :
    Calls Try.prog 48 #[.slice A n c, .int .i64 bit, .int .i64 bits] w fun e w' => ∃ V cv, e = .returned (.slice V n cv) ∧ Ow byteR 1 w' w.heap.size w.heap.size 5 (.slice V n cv) n (flipL l bit bits) ∧ Below w.heap.size w w' := by
  have hlen := hl.len
  by_cases h0 : n = 0
  · subst h0
    have hl0 : l = [] := List.eq_nil_of_length_eq_zero hlen
    subst hl0
    have hf : flipL [] bit bits = [] := rfl
    rw [hf]
    go_enter Try.func48, Try.ntmps48
    go_wp2_with fail
    refine (clone_any _ _ _ _ _ hl (by omega)).mono ?_
    rintro e w1 ⟨V1, c1, rfl, ho1, hb1⟩
    go_wp2_with fail
    go_ret
    exact ⟨V1, c1, rfl, ho1, hb1⟩
  have e0 : (8 * (n : Int) == 0) = false := by simp; omega
  obtain ⟨X, hX⟩ : ∃ X, X = oddN bits := ⟨_, rfl⟩
  obtain ⟨a, ha⟩ : ∃ a, a = flipAt n bit := ⟨_, rfl⟩
  have hXl : X < 4294967296 := by rw [hX]; exact oddN_lt _
  have hal : a < 8 * n := by rw [ha]; exact flipAt_lt (by omega) bit
  have hfl : flipL l bit bits = bent l a X := by rw [flipL, hlen, ha, hX]
  have hor : Go.bits .or .u32 (bits % 4294967296) 1 = (X : Int) := by
    have h := u32_or (bits % 4294967296) 1 (by omega) (by omega) (by omega) (by omega)
    rw [h, hX, oddN, ← or_one]
    rfl
  have hat : (wrap64 (bit.tmod (8 * n) + 8 * n)).tmod (8 * n) = (a : Int) := by
    have h0' := Int.emod_lt_of_pos bit (show (0 : Int) < 8 * n by omega)
    have h1' := Int.emod_nonneg bit (show (8 * n : Int) ≠ 0 by omega)
    have key : bit.tmod (8 * n) + 8 * n = bit % (8 * n) + 8 * n ∨ bit.tmod (8 * n) + 8 * n = bit % (8 * n) := by
      rw [Int.tmod_eq_emod]
      split <;> omega
    rw [ha, flipAt, Int.toNat_of_nonneg h1']
    rcases key with h | h <;> rw [h, IntWalk.wrap64_in _ ⟨by omega, by omega⟩, Int.tmod_eq_emod_of_nonneg (by omega)]
    · rw [Int.add_emod_right, Int.emod_emod]
    · rw [Int.emod_emod]
  rw [hfl]
  have HL := hide hlen
  clear hX ha hfl hlen hbit hbits
  go_enter Try.func48, Try.ntmps48
  go_wp2_with fail
  refine (clone_any _ _ _ _ _ hl (by omega)).mono ?_
  rintro e w1 ⟨V1, c1, rfl, ho1, hb1⟩
  go_wp2_with fail
  go_loopw [31] (fun i wr => ∃ k : Nat, k ≤ 32 ∧ i = .int .i64 k ∧ Ow byteR 1 wr w.heap.size w.heap.size 5 (.slice V1 n c1) n (bent l a (X % 2 ^ k)) ∧ Below w.heap.size w wr) (fun i _ => 32 - (intOf i).toNat)
  case atStart => exact ⟨0, by omega, rfl, by rw [Nat.pow_zero, Nat.mod_one, bent_zero]; exact ho1, hb1⟩
  case round =>
    obtain ⟨k, hk, rfl, ho, hb⟩ := hrel
    by_cases hlt : k < 32
    · have hpk : X / 2 ^ k < 4294967296 := Nat.lt_of_le_of_lt (Nat.div_le_self _ _) hXl
      have hc : (X : Int) / 2 ^ k = ((X / 2 ^ k : Nat) : Int) := by push_cast; rfl
      have hand := u32_and1 hpk
      rw [← hc] at hand
      have hnx : X % 2 ^ (k + 1) = X % 2 ^ k + 2 ^ k * (X / 2 ^ k % 2) := by rw [Nat.pow_succ, Nat.mod_mul]
      have hXk : X % 2 ^ k < 2 ^ k := Nat.mod_lt _ (Nat.pow_pos (by omega))
      by_cases hbk : X / 2 ^ k % 2 = 1
      · rw [hbk] at hand hnx
        rw [Nat.mul_one] at hnx
        have HN := hide hnx
        clear hnx hc
        by_cases hin : a + k < 8 * n
        · obtain ⟨j, hj⟩ : ∃ j, j = (a + k) / 8 := ⟨_, rfl⟩
          obtain ⟨m, hm⟩ : ∃ m, m = (a + k) % 8 := ⟨_, rfl⟩
          have hj8 : ((a : Int) + (k : Int)) / 8 = (j : Int) := by omega
          have hm8 : ((a : Int) + (k : Int)) % 8 = (m : Int) := by omega
          have hjn : j < n := by omega
          have hm' : m < 8 := by omega
          obtain ⟨g, x, u, rfl, hg, hgl, hx, hu, hcell, hfr, hst⟩ := ho.spot byteR_fine hjn
          have hu' : u = .int .u8 (x.toNat : Int) := by have h : [u] = _ := hu; simpa using h
          subst hu'
          have hbit := bent_bit (l := l) (at_ := a) (x := X % 2 ^ k) (i := k) (b := x) hXk (by rw [← hj]; exact hx)
          rw [← hj, ← hm, ← HN.out] at hbit
          obtain ⟨y, hy⟩ : ∃ y, y = x ^^^ UInt8.ofNat (2 ^ m) := ⟨_, rfl⟩
          rw [← hy] at hbit
          have hp8 : 2 ^ m < 256 := Nat.lt_of_lt_of_le (Nat.pow_lt_pow_right (by omega) hm') (Nat.le_refl _)
          have hv : Go.bits .xor .u8 (x.toNat : Int) (2 ^ m % 256) = (y.toNat : Int) := by
            have h1 : (2 : Int) ^ m % 256 = ((UInt8.ofNat (2 ^ m)).toNat : Int) := by
              rw [UInt8.toNat_ofNat']; push_cast; rfl
            rw [h1, hy]
            exact xor_u8 x (UInt8.ofNat (2 ^ m))
          have ho2 := hst (.int .u8 (y.toNat : Int)) y rfl rfl
          rw [← hbit] at ho2
          have hb2 : Below w.heap.size w (wr.setCell ⟨g, j, none⟩ (.int .u8 (y.toNat : Int))) := hb.setCell hg _
          clear hbit hst hj hm hx hu hy
          go_wp2_with fail
          go_region
          all_goals go_wp2_with fail
          go_roundw
          case rel => exact ⟨k + 1, by omega, by go_num, ho2.drew byteR_fine, hb2.drew⟩
          case measure => simp [intOf]; omega
        · have hout := bent_out (l := l) (at_ := a) (x := X % 2 ^ k) (i := k) hXk (by rw [HL.out]; omega)
          rw [← HN.out] at hout
          have HO := hide hout
          clear hout
          go_wp2_with fail
          go_roundw
          case rel => exact ⟨k + 1, by omega, by go_num, by rw [HO.out]; exact ho, hb⟩
          case measure => simp [intOf]; omega
      · have hb0 : X / 2 ^ k % 2 = 0 := by omega
        rw [hb0] at hand hnx
        rw [Nat.mul_zero, Nat.add_zero] at hnx
        have HN := hide hnx
        clear hnx hc hbk
        go_wp2_with fail
        go_roundw
        case rel => exact ⟨k + 1, by omega, by go_num, by rw [HN.out]; exact ho, hb⟩
        case measure => simp [intOf]; omega
    · obtain rfl : k = 32 := by omega
      go_wp2_with fail
      go_ret
      rw [Nat.mod_eq_of_lt (by omega)] at ho
      exact ⟨V1, c1, rfl, ho, hb⟩

end Go.Proofs.Ytnieiobpbioeiaa
