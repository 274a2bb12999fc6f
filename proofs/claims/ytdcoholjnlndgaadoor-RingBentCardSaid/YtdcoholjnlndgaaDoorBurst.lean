/-
  Plain: bytes as one number; a sum's row gone down over all of it; bits turned side by side change the sum.
-/
import Derived.Test.YtdcoholjnlndgaaDoorCrc
namespace Go.Proofs.YtdcoholjnlndgaaDoor
open Go.RowKit
set_option linter.unusedVariables false

theorem stepsN_add (a b r : Nat) : stepsN (a + b) r = stepsN a (stepsN b r) := by
  induction a with
  | zero => rw [Nat.zero_add]; rfl
  | succ a ih => rw [Nat.succ_add]; show stepN (stepsN (a + b) r) = stepN (stepsN a (stepsN b r)); rw [ih]
theorem pow256 (n : Nat) : 256 ^ n = 2 ^ (8 * n) := by rw [Nat.pow_mul]
theorem add_xor {a n : Nat} (h : a < 2 ^ n) (b : Nat) : a + 2 ^ n * b = a ^^^ (2 ^ n * b) := by
  apply Nat.eq_of_testBit_eq
  intro i
  rw [Nat.add_comm, Nat.testBit_two_pow_mul_add _ h, Nat.testBit_xor, Nat.testBit_two_pow_mul]
  by_cases hi : i < n
  · simp [hi, Nat.not_le.2 hi]
  · have : a.testBit i = false := Nat.testBit_lt_two_pow (Nat.lt_of_lt_of_le h (Nat.pow_le_pow_right (by omega) (by omega)))
    simp [hi, Nat.not_lt.1 hi, this]
theorem num_xor (l r : List UInt8) : num (l ++ r) = num l ^^^ (2 ^ (8 * l.length) * num r) := by
  rw [num_append, pow256]
  exact add_xor (by rw [← pow256]; exact num_lt l) _

theorem crcFrom_eq (r : Nat) (l : List UInt8) : crcFrom r l = stepsN (8 * l.length) (r ^^^ num l) := by
  induction l generalizing r with
  | nil => simp [crcFrom, num, stepsN]
  | cons b l ih =>
    have h1 : num (b :: l) = b.toNat ^^^ (2 ^ 8 * num l) := by
      have := num_xor [b] l
      simpa [num] using this
    have h2 : crcFrom r (b :: l) = crcFrom (onN r b.toNat) l := rfl
    have h3 : stepsN 8 (r ^^^ (b.toNat ^^^ (2 ^ 8 * num l))) = onN r b.toNat ^^^ num l := by
      rw [← Nat.xor_assoc, stepsN_xor 8, onN_eq, stepsN_pow]
    rw [h2, ih, h1, List.length_cons, show 8 * (l.length + 1) = 8 * l.length + 8 by omega, stepsN_add, h3]

/-- The sum that stands behind is that of what stands before. -/
theorem sum_iff {l : List UInt8} {n : Nat} (hn : n ≤ l.length) (hd : num (l.drop n) < 4294967296) : num (l.drop n) = crc (l.take n) ↔ stepsN (8 * n) (4294967295 ^^^ num l) = 4294967295 := by
  have h1 : num l = num (l.take n) ^^^ (2 ^ (8 * n) * num (l.drop n)) := by
    have := num_xor (l.take n) (l.drop n)
    rwa [List.take_append_drop, List.length_take, Nat.min_eq_left hn] at this
  have h2 : stepsN (8 * n) (4294967295 ^^^ num l) = crcFrom 4294967295 (l.take n) ^^^ num (l.drop n) := by
    rw [h1, ← Nat.xor_assoc, stepsN_xor, stepsN_pow, crcFrom_eq, List.length_take, Nat.min_eq_left hn]
  have hc := crcFrom_lt (r := 4294967295) (l := l.take n) (by omega)
  rw [h2, crc]
  generalize crcFrom 4294967295 (l.take n) = c at *
  generalize num (l.drop n) = d at *
  rw [← not_u32 hc]
  constructor
  · rintro rfl
    rw [Nat.xor_comm c, Nat.xor_assoc, Nat.xor_self, Nat.xor_zero]
  · intro h
    rw [← h, Nat.xor_comm c d, Nat.xor_assoc, Nat.xor_self, Nat.xor_zero]

theorem stepN_pos {r : Nat} (h : r < 4294967296) (h0 : r ≠ 0) : stepN r ≠ 0 := by
  unfold stepN
  split
  · intro h1
    have h2 := Nat.testBit_xor (x := r / 2) (y := 2197175160) (i := 31)
    rw [h1, Nat.zero_testBit, Nat.testBit_lt_two_pow (x := r / 2) (i := 31) (by omega)] at h2
    revert h2
    decide
  · omega
theorem stepsN_ne {k r : Nat} (h : r < 4294967296) (h0 : r ≠ 0) : stepsN k r ≠ 0 := by
  induction k with
  | zero => exact h0
  | succ k ih => exact stepN_pos (stepsN_lt h) ih
/-- Bits side by side do not go down to nothing. -/
theorem burst_ne {at_ y k : Nat} (hy : y < 4294967296) (h0 : y ≠ 0) : stepsN k (2 ^ at_ * y) ≠ 0 := by
  by_cases h : at_ ≤ k
  · rw [show k = (k - at_) + at_ by omega, stepsN_add, stepsN_pow]
    exact stepsN_ne hy h0
  · rw [show at_ = k + (at_ - k) by omega, Nat.pow_add, Nat.mul_assoc, stepsN_pow]
    exact Nat.mul_ne_zero (Nat.ne_of_gt (Nat.pow_pos (by omega))) h0

/-- Bytes with the bits of x turned from at on. -/
def bent (l : List UInt8) (at_ x : Nat) : List UInt8 := le l.length (num l ^^^ (2 ^ at_ * x))
theorem bent_len (l : List UInt8) (at_ x : Nat) : (bent l at_ x).length = l.length := le_len _ _
theorem num_bent (l : List UInt8) (at_ x : Nat) : num (bent l at_ x) = num l ^^^ (2 ^ at_ * x % 2 ^ (8 * l.length)) := by
  rw [bent, num_le, pow256, Nat.xor_mod_two_pow, Nat.mod_eq_of_lt (by rw [← pow256]; exact num_lt l)]
theorem bent_cut {at_ x n : Nat} (h : at_ < n) : 2 ^ at_ * x % 2 ^ n = 2 ^ at_ * (x % 2 ^ (n - at_)) := by
  rw [show n = at_ + (n - at_) by omega, Nat.pow_add, Nat.mul_mod_mul_left]
  congr 3
  omega
theorem odd_cut {x k : Nat} (h : x % 2 = 1) (hk : 0 < k) : x % 2 ^ k ≠ 0 := by
  intro h0
  have h1 : x % 2 ^ k % 2 = x % 2 := Nat.mod_mod_of_dvd _ (by have := Nat.pow_dvd_pow 2 (show 1 ≤ k by omega); simpa using this)
  omega
/-- A right sum is none any more, if up to 32 bits side by side are turned. -/
theorem sum_bent {l : List UInt8} {n at_ x : Nat} (hn : n ≤ l.length) (hl : l.length ≤ n + 4) (hx : x < 4294967296) (ho : x % 2 = 1) (ha : at_ < 8 * l.length) (h : num (l.drop n) = crc (l.take n)) :
    num ((bent l at_ x).drop n) ≠ crc ((bent l at_ x).take n) := by
  have hd : ∀ m : List UInt8, m.length = l.length → num (m.drop n) < 4294967296 := fun m hm => by
    have h1 := num_lt (m.drop n)
    rw [List.length_drop, hm] at h1
    exact Nat.lt_of_lt_of_le h1 (show 256 ^ (l.length - n) ≤ 256 ^ 4 from Nat.pow_le_pow_right (by omega) (by omega))
  rw [sum_iff hn (hd l rfl)] at h
  rw [Ne, sum_iff (by rw [bent_len]; exact hn) (hd _ (bent_len _ _ _)), num_bent, ← Nat.xor_assoc, stepsN_xor, h, bent_cut ha]
  intro h1
  have h2 : stepsN (8 * n) (2 ^ at_ * (x % 2 ^ (8 * l.length - at_))) = 0 := by
    have := congrArg (4294967295 ^^^ ·) h1
    simpa [← Nat.xor_assoc] using this
  exact burst_ne (Nat.lt_of_le_of_lt (Nat.mod_le _ _) hx) (odd_cut ho (by omega)) h2

theorem bent_bent (l : List UInt8) (at_ x : Nat) : bent (bent l at_ x) at_ x = l := by
  have h : num (bent (bent l at_ x) at_ x) = num l := by
    rw [num_bent, num_bent, bent_len, Nat.xor_assoc, Nat.xor_self, Nat.xor_zero]
  have h2 := le_num (bent (bent l at_ x) at_ x)
  rw [h, bent_len, bent_len, le_num] at h2
  exact h2.symm
theorem bent_zero (l : List UInt8) (at_ : Nat) : bent l at_ 0 = l := by
  rw [bent, Nat.mul_zero, Nat.xor_zero, le_num]
theorem bent_ne {l : List UInt8} {at_ x : Nat} (ho : x % 2 = 1) (ha : at_ < 8 * l.length) : bent l at_ x ≠ l := by
  intro h
  have h1 := num_bent l at_ x
  rw [h, bent_cut ha] at h1
  have h2 : 2 ^ at_ * (x % 2 ^ (8 * l.length - at_)) = 0 := by
    have := congrArg (num l ^^^ ·) h1.symm
    simpa [← Nat.xor_assoc] using this
  exact Nat.mul_ne_zero (Nat.ne_of_gt (Nat.pow_pos (by omega))) (odd_cut ho (by omega)) h2

theorem le_at {k n i : Nat} (h : i < k) : (le k n)[i]? = some (UInt8.ofNat (n / 256 ^ i)) := by
  induction k generalizing n i with
  | zero => omega
  | succ k ih =>
    cases i with
    | zero => simp [le]
    | succ i =>
      simp only [le, List.getElem?_cons_succ]
      rw [ih (by omega), Nat.div_div_eq_div_mul, Nat.pow_succ, Nat.mul_comm 256]
theorem le_bit {k n i j : Nat} {b : UInt8} (h : (le k n)[i]? = some b) (hj : j < 8) : b.toNat.testBit j = n.testBit (8 * i + j) := by
  have hi : i < k := by have := (List.getElem?_eq_some_iff.1 h).1; rwa [le_len] at this
  rw [le_at hi] at h
  injection h with h
  subst h
  rw [UInt8.toNat_ofNat', Nat.testBit_mod_two_pow, pow256, Nat.testBit_div_two_pow]
  simp [hj, Nat.add_comm]
/-- Lists of bytes with the same bits. -/
theorem bits_ext {k n : Nat} {l : List UInt8} (hl : l.length = k) (h : ∀ i b, l[i]? = some b → ∀ j, j < 8 → b.toNat.testBit j = n.testBit (8 * i + j)) : l = le k n := by
  apply List.ext_getElem?
  intro i
  by_cases hi : i < k
  · have h1 := List.getElem?_eq_getElem (l := l) (i := i) (by omega)
    have h2 := List.getElem?_eq_getElem (l := le k n) (i := i) (by rw [le_len]; exact hi)
    rw [h1, h2]
    congr 1
    apply UInt8.toNat_inj.1
    apply Nat.eq_of_testBit_eq
    intro j
    by_cases hj : j < 8
    · rw [h i _ h1 j hj, le_bit h2 hj]
    · rw [Nat.testBit_lt_two_pow (Nat.lt_of_lt_of_le (UInt8.toNat_lt _) (Nat.pow_le_pow_right (by omega) (by omega))), Nat.testBit_lt_two_pow (Nat.lt_of_lt_of_le (UInt8.toNat_lt _) (Nat.pow_le_pow_right (by omega) (by omega)))]
  · rw [List.getElem?_eq_none (by omega), List.getElem?_eq_none (by rw [le_len]; omega)]
theorem num_bit {l : List UInt8} {i j : Nat} {b : UInt8} (h : l[i]? = some b) (hj : j < 8) : b.toNat.testBit j = (num l).testBit (8 * i + j) := by
  rw [← le_num l] at h
  exact le_bit h hj
/-- One bit more. -/
theorem bent_bit {l : List UInt8} {at_ x i : Nat} {b : UInt8} (hx : x < 2 ^ i) (hb : (bent l at_ x)[(at_ + i) / 8]? = some b) :
    bent l at_ (x + 2 ^ i) = (bent l at_ x).set ((at_ + i) / 8) (b ^^^ UInt8.ofNat (2 ^ ((at_ + i) % 8))) := by
  symm
  refine bits_ext (by rw [List.length_set, bent_len]) fun p c hc j hj => ?_
  have hexp : num l ^^^ (2 ^ at_ * (x + 2 ^ i)) = (num l ^^^ (2 ^ at_ * x)) ^^^ 2 ^ (at_ + i) := by
    rw [show x + 2 ^ i = x ^^^ 2 ^ i by have := add_xor hx 1; simpa using this, Nat.xor_assoc]
    congr 1
    apply Nat.eq_of_testBit_eq
    intro q
    rw [Nat.testBit_two_pow_mul, Nat.testBit_xor, Nat.testBit_xor, Nat.testBit_two_pow_mul, Nat.testBit_two_pow, Nat.testBit_two_pow]
    by_cases hq : at_ ≤ q
    · by_cases h2 : at_ + i = q
      · have : i = q - at_ := by omega
        simp [hq, this]
      · have : ¬ i = q - at_ := by omega
        simp [hq, h2, this]
    · have : ¬ at_ + i = q := by omega
      simp [hq, this]
  rw [hexp, Nat.testBit_xor, Nat.testBit_two_pow]
  by_cases hp : p = (at_ + i) / 8
  · subst hp
    have hlt := (List.getElem?_eq_some_iff.1 hb).1
    rw [List.getElem?_set_self hlt] at hc
    injection hc with hc
    subst hc
    rw [UInt8.toNat_xor, Nat.testBit_xor, UInt8.toNat_ofNat', Nat.testBit_mod_two_pow, Nat.testBit_two_pow, le_bit hb hj]
    congr 1
    by_cases h2 : (at_ + i) % 8 = j
    · have : at_ + i = 8 * ((at_ + i) / 8) + j := by omega
      simp [h2, hj, ← this]
    · have : ¬ at_ + i = 8 * ((at_ + i) / 8) + j := by omega
      simp [h2, this]
  · rw [List.getElem?_set_ne (by omega)] at hc
    have h2 : ¬ at_ + i = 8 * p + j := by omega
    rw [le_bit hc hj]
    simp [h2]
/-- A bit beyond the bytes. -/
theorem bent_out {l : List UInt8} {at_ x i : Nat} (hx : x < 2 ^ i) (h : 8 * l.length ≤ at_ + i) : bent l at_ (x + 2 ^ i) = bent l at_ x := by
  have h1 : num (bent l at_ (x + 2 ^ i)) = num (bent l at_ x) := by
    rw [num_bent, num_bent]
    congr 1
    rw [Nat.mul_add, ← Nat.pow_add, show at_ + i = 8 * l.length + (at_ + i - 8 * l.length) by omega, Nat.pow_add, Nat.add_mul_mod_self_left]
  have h2 := le_num (bent l at_ (x + 2 ^ i))
  rw [h1, bent_len, ← bent_len l at_ x, le_num] at h2
  exact h2.symm

/-- All bits beyond the bytes. -/
theorem bent_high {l : List UInt8} {at_ X k : Nat} (h : 8 * l.length ≤ at_ + k) : bent l at_ (X % 2 ^ k) = bent l at_ X := by
  have h1 : num (bent l at_ X) = num (bent l at_ (X % 2 ^ k)) := by
    rw [num_bent, num_bent]
    congr 1
    conv => lhs; rw [← Nat.mod_add_div X (2 ^ k)]
    rw [Nat.mul_add, ← Nat.mul_assoc, ← Nat.pow_add, show at_ + k = 8 * l.length + (at_ + k - 8 * l.length) by omega, Nat.pow_add, Nat.mul_assoc, Nat.add_mul_mod_self_left]
  have h2 := le_num (bent l at_ X)
  rw [h1, bent_len, ← bent_len l at_ (X % 2 ^ k), le_num] at h2
  exact h2

end Go.Proofs.YtdcoholjnlndgaaDoor
