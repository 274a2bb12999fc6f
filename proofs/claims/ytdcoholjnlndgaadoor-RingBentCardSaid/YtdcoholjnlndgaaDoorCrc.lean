/-
  Plain: the row that goes down bit by bit, and the sums of bytes.
-/
import Derived.Test.YtdcoholjnlndgaaDoorNum
namespace Go.Proofs.YtdcoholjnlndgaaDoor
open Go.RowKit
set_option linter.unusedVariables false

/-- A row gone down by one bit. -/
def stepN (r : Nat) : Nat := if r % 2 = 1 then (r / 2) ^^^ 2197175160 else r / 2
def stepsN : Nat → Nat → Nat
  | 0, r => r
  | k + 1, r => stepN (stepsN k r)
/-- A row gone on by a byte. -/
def onN (r b : Nat) : Nat := (r / 256) ^^^ stepsN 8 ((r % 256) ^^^ b)
def crcFrom (r : Nat) (l : List UInt8) : Nat := l.foldl (fun r b => onN r b.toNat) r
def crc (l : List UInt8) : Nat := 4294967295 - crcFrom 4294967295 l

theorem stepN_lt {r : Nat} (h : r < 4294967296) : stepN r < 4294967296 := by
  unfold stepN
  split
  · exact Nat.xor_lt_two_pow (n := 32) (by omega) (by omega)
  · omega
theorem stepsN_lt {k r : Nat} (h : r < 4294967296) : stepsN k r < 4294967296 := by
  induction k with
  | zero => exact h
  | succ k ih => exact stepN_lt ih
theorem onN_lt {r b : Nat} (h : r < 4294967296) (hb : b < 256) : onN r b < 4294967296 :=
  Nat.xor_lt_two_pow (n := 32) (by omega) (stepsN_lt (Nat.xor_lt_two_pow (n := 32) (by omega) (by omega)))
theorem crcFrom_lt {r : Nat} {l : List UInt8} (h : r < 4294967296) : crcFrom r l < 4294967296 := by
  induction l generalizing r with
  | nil => exact h
  | cons b l ih => exact ih (onN_lt h b.toNat_lt)
theorem crc_lt (l : List UInt8) : crc l < 4294967296 := by unfold crc; omega

theorem xor_half (a b : Nat) : (a ^^^ b) / 2 = (a / 2) ^^^ (b / 2) := by
  have := Nat.shiftRight_xor_distrib (a := a) (b := b) (i := 1)
  simpa [Nat.shiftRight_eq_div_pow] using this
theorem stepN_xor (a b : Nat) : stepN (a ^^^ b) = stepN a ^^^ stepN b := by
  have h2 : (a ^^^ b) % 2 = (a + b) % 2 := by
    have h := Nat.xor_mod_two_pow (a := a) (b := b) (n := 1)
    rw [Nat.pow_one] at h
    rw [h]
    rcases Nat.mod_two_eq_zero_or_one a with ha | ha <;> rcases Nat.mod_two_eq_zero_or_one b with hb | hb <;> rw [ha, hb] <;> simp <;> omega
  unfold stepN
  rw [xor_half]
  rcases Nat.mod_two_eq_zero_or_one a with ha | ha <;> rcases Nat.mod_two_eq_zero_or_one b with hb | hb
  · rw [if_neg (by omega), if_neg (by omega), if_neg (by omega)]
  · rw [if_pos (by omega), if_neg (by omega), if_pos (by omega), Nat.xor_assoc]
  · rw [if_pos (by omega), if_pos (by omega), if_neg (by omega), Nat.xor_assoc, Nat.xor_assoc, Nat.xor_comm (b / 2)]
  · rw [if_neg (by omega), if_pos (by omega), if_pos (by omega)]
    rw [Nat.xor_assoc, ← Nat.xor_assoc 2197175160, Nat.xor_comm 2197175160 (b / 2), Nat.xor_assoc (b / 2), Nat.xor_self, Nat.xor_zero]
theorem stepsN_xor (k a b : Nat) : stepsN k (a ^^^ b) = stepsN k a ^^^ stepsN k b := by
  induction k with
  | zero => rfl
  | succ k ih => simp only [stepsN, ih, stepN_xor]
theorem stepN_even (h : Nat) : stepN (2 * h) = h := by
  unfold stepN
  rw [if_neg (by omega)]
  omega
theorem stepsN_pow (k h : Nat) : stepsN k (2 ^ k * h) = h := by
  induction k generalizing h with
  | zero => simp [stepsN]
  | succ k ih => rw [stepsN, Nat.pow_succ, Nat.mul_assoc, ih, stepN_even]
theorem split256 (r : Nat) : r = (2 ^ 8 * (r / 256)) ^^^ (r % 256) := by
  apply Nat.eq_of_testBit_eq
  intro i
  have h1 : r % 256 = r % 2 ^ 8 := rfl
  have h2 : r / 256 = r / 2 ^ 8 := rfl
  rw [Nat.testBit_xor, h1, h2, Nat.testBit_mod_two_pow, Nat.testBit_two_pow_mul, Nat.testBit_div_two_pow]
  by_cases h : i < 8
  · simp [h, Nat.not_le.2 h]
  · simp [h, Nat.not_lt.1 h]
/-- Eight goings down of a row with a byte laid on are one going on. -/
theorem onN_eq (r b : Nat) : stepsN 8 (r ^^^ b) = onN r b := by
  have : r ^^^ b = (2 ^ 8 * (r / 256)) ^^^ ((r % 256) ^^^ b) := by
    rw [← Nat.xor_assoc, ← split256]
  rw [this, stepsN_xor, stepsN_pow]
  rfl

theorem not_u32 {R : Nat} (h : R < 4294967296) : 4294967295 ^^^ R = 4294967295 - R := by
  apply Nat.eq_of_testBit_eq
  intro i
  have h1 : 4294967295 - R = 2 ^ 32 - (R + 1) := by omega
  rw [h1, Nat.testBit_xor, show (4294967295 : Nat) = 2 ^ 32 - 1 from rfl, Nat.testBit_two_pow_sub_one, Nat.testBit_two_pow_sub_succ (by omega)]
  by_cases hi : i < 32
  · simp [hi]
  · have : R.testBit i = false := Nat.testBit_lt_two_pow (Nat.lt_of_lt_of_le h (by rw [show (4294967296 : Nat) = 2 ^ 32 from rfl]; exact Nat.pow_le_pow_right (by omega) (by omega)))
    simp [hi, this]

end Go.Proofs.YtdcoholjnlndgaaDoor
