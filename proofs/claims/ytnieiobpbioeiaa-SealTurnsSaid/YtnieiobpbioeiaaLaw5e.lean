/-
  The walk of the law casematelaw05.SealTurns.
-/
import Derived.Test.YtnieiobpbioeiaaLaw5
namespace Go.Proofs.Ytnieiobpbioeiaa
open Go.RowKit
set_option linter.unusedVariables false
set_option maxRecDepth 100000

theorem u8_shr_bit (x m : Nat) (hx : x < 256) : bits .and .u8 ((x : Int) / 2 ^ m) 1 = if x.testBit m then 1 else 0 := by
  have h1 : (x : Int) / 2 ^ m = ((x / 2 ^ m : Nat) : Int) := by push_cast; rfl
  have h2 := u8_and_nat (x / 2 ^ m) 1 (Nat.lt_of_le_of_lt (Nat.div_le_self _ _) hx) (by omega)
  rw [h1]
  refine h2.trans ?_
  rw [Nat.and_one_is_mod, Nat.testBit_eq_decide_div_mod_eq]
  rcases Nat.mod_two_eq_zero_or_one (x / 2 ^ m) with h | h <;> rw [h] <;> rfl
theorem and_i64 (a b : Nat) (ha : a < 9223372036854775808) (hb : b < 9223372036854775808) : bits .and .i64 (a : Int) (b : Int) = ((a &&& b : Nat) : Int) := by
  have hx : a &&& b < 2 ^ 63 := Nat.and_lt_two_pow _ (by omega)
  show IntKind.i64.wrap ((BitVec.ofInt 64 (a : Int) &&& BitVec.ofInt 64 (b : Int)).toNat : Int) = _
  rw [BitVec.toNat_and, ofInt64_nat a ha, ofInt64_nat b hb, IntKind.wrap_i64]
  omega
theorem i64_shr_bit (x m : Nat) (hx : x < 4294967296) : bits .and .i64 ((x : Int) / 2 ^ m) 1 = if x.testBit m then 1 else 0 := by
  have h1 : (x : Int) / 2 ^ m = ((x / 2 ^ m : Nat) : Int) := by push_cast; rfl
  have h2 := and_i64 (x / 2 ^ m) 1 (Nat.lt_of_le_of_lt (Nat.div_le_self _ _) (by omega)) (by omega)
  rw [h1]
  refine h2.trans ?_
  rw [Nat.and_one_is_mod, Nat.testBit_eq_decide_div_mod_eq]
  rcases Nat.mod_two_eq_zero_or_one (x / 2 ^ m) with h | h <;> rw [h] <;> rfl
/-- A bit of bytes that were turned. -/
theorem bent_testBit {l : List UInt8} {a X i : Nat} {b c : UInt8} (hi : i < 8 * l.length) (hb : l[i / 8]? = some b) (hc : (bent l a X)[i / 8]? = some c) :
    c.toNat.testBit (i % 8) = (b.toNat.testBit (i % 8) ^^ (decide (a ≤ i) && X.testBit (i - a))) := by
  have h8 : i % 8 < 8 := Nat.mod_lt _ (by omega)
  have e : 8 * (i / 8) + i % 8 = i := Nat.div_add_mod i 8
  have h1 := num_bit hb h8
  have h2 := num_bit hc h8
  rw [e] at h1 h2
  rw [h1, h2, num_bent, Nat.testBit_xor, Nat.testBit_mod_two_pow, Nat.testBit_two_pow_mul]
  simp [hi]

set_option maxHeartbeats 2000000 in
theorem turns_even {A : Option Addr} {n c : Nat} {l : List UInt8} {w : World} (hl : Bs w A n c l) (bit : Int) (bits' : Int) (h0 : ¬ n = 0) (e0 : ((n : Int) == 0) = false) (h3 : ¬ 300 < n) (e3 : decide (300 < (n : Int)) = false)
    (hneg : ¬ bit < 0) (e4 : decide (bit < 0) = false) (hneg2 : ¬ bits' < 0) (e5 : decide (bits' < 0) = false) (X a B : Nat) (hXl : X < 4294967296) (hal : a < 8 * n) (hat : bit % (8 * n) = (a : Int)) (hat2 : bit.tmod (8 * n) = (a : Int))
    (hB : bits' % 4294967296 = (B : Int)) (hB1 : bits'.tmod 4294967296 = (B : Int)) (hBl : B < 4294967296) (HL : Hid (l.length = n))
    (HF : Hid (Calls Try.prog 48 #[.slice A n c, .int .i64 bit, .int .i64 bits'] w fun e w' => ∃ V cv, e = .returned (.slice V n cv) ∧ Ow byteR 1 w' w.heap.size w.heap.size 5 (.slice V n cv) n (bent l a X) ∧ Below w.heap.size w w'))
    (e6 : ((B : Int) % 2 == 0) = true) (e7 : (B : Int) + 1 = (X : Int)) :
    Calls Try.prog 15 #[.slice A n c, .int .i64 bit, .int .i64 bits'] w fun e w' => e = .returned (.bool true) ∧ Below w.heap.size w w' := by
  go_enter Try.func15, Try.ntmps15
  go_wp2_with fail
  refine HF.out.mono ?_
  rintro e w1 ⟨V1, c1, rfl, ho1, hb1⟩
  have hr1 := ho1.read byteR_fine
  have hl1 := hl.on byteR_fine hb1
  go_wp2_with fail
  go_loopw [10] (fun i wr => ∃ k : Nat, k ≤ 8 * n ∧ i = .int .i64 k ∧ Below w1.heap.size w1 wr) (fun i _ => 8 * n - (intOf i).toNat)
  case atStart => exact ⟨0, by omega, rfl, Below.refl _ _⟩
  case round =>
    obtain ⟨k, hk, rfl, hb⟩ := hrel
    by_cases hlt : k < 8 * n
    · obtain ⟨j, hj⟩ : ∃ j, j = k / 8 := ⟨_, rfl⟩
      obtain ⟨m, hm⟩ : ∃ m, m = k % 8 := ⟨_, rfl⟩
      have hj8 : (k : Int) / 8 = (j : Int) := by omega
      have hm8 : (k : Int) % 8 = (m : Int) := by omega
      have hjn : j < n := by omega
      have hm' : m < 8 := by omega
      obtain ⟨ad, x, rfl, hadl, hx, hxc⟩ := at_byte (hl1.on byteR_fine hb) hjn
      obtain ⟨bd, y, rfl, hbdl, hy, hyc⟩ := at_byte (hr1.on byteR_fine hb) hjn
      have hbt := bent_testBit (a := a) (X := X) (by rw [HL.out]; exact hlt) (by rw [← hj]; exact hx) (by rw [← hj]; exact hy)
      rw [← hm] at hbt
      have hsx := u8_shr_bit x.toNat m x.toNat_lt
      have hsy := u8_shr_bit y.toNat m y.toNat_lt
      have hx256 := x.toNat_lt
      have hy256 := y.toNat_lt
      have HBT := hide hbt
      have hj0 : (0 : Int) ≤ (j : Int) := Int.natCast_nonneg _
      have hj1 : (j : Int) < (n : Int) := by omega
      have hm0 : (0 : Int) ≤ (m : Int) := Int.natCast_nonneg _
      clear hbt hx hy hj hm
      by_cases hak : a ≤ k
      · obtain ⟨r, hr⟩ : ∃ r, k = a + r := ⟨k - a, by omega⟩
        have hkr : (k : Int) - (a : Int) = (r : Int) := by omega
        clear hr
        by_cases h32 : r < 32
        · have hxr := i64_shr_bit X r hXl
          cases hP : x.toNat.testBit m <;> cases hT : X.testBit r
          all_goals
            rw [hP] at hsx
            rw [hT] at hxr
            have hR := HBT.out
            rw [hP, show k - a = r by omega, hT] at hR
            simp [hak] at hR
            rw [hR] at hsy
            clear hP hT hR
            go_wp2_with fail
            go_quiet (fail)
            go_wp2_with fail
            go_roundw
            case rel => exact ⟨k + 1, by omega, by go_num, hb.trans ((drewN_below _ nq).mono hb.size)⟩
            case measure => simp [intOf]; omega
        · have hT : X.testBit r = false := Nat.testBit_lt_two_pow (Nat.lt_of_lt_of_le hXl (Nat.pow_le_pow_right (n := 2) (i := 32) (by omega) (by omega)))
          cases hP : x.toNat.testBit m
          all_goals
            rw [hP] at hsx
            have hR := HBT.out
            rw [hP, show k - a = r by omega, hT] at hR
            simp at hR
            rw [hR] at hsy
            clear hP hT hR
            go_wp2_with fail
            go_quiet (fail)
            go_wp2_with fail
            go_roundw
            case rel => exact ⟨k + 1, by omega, by go_num, hb.trans ((drewN_below _ nq).mono hb.size)⟩
            case measure => simp [intOf]; omega
      · cases hP : x.toNat.testBit m
        all_goals
          have hT : True := trivial
          rw [hP] at hsx
          have hR := HBT.out
          rw [hP] at hR
          simp [hak] at hR
          rw [hR] at hsy
          clear hP hT hR
          go_wp2_with fail
          go_quiet (fail)
          go_wp2_with fail
          go_roundw
          case rel => exact ⟨k + 1, by omega, by go_num, hb.trans ((drewN_below _ nq).mono hb.size)⟩
          case measure => simp [intOf]; omega
    · go_wp2_with fail
      refine (wakes5 _).mono ?_
      rintro e w2 ⟨rfl, hb2⟩
      go_wp2_with fail
      go_ret
      exact ⟨rfl, th hb1 (th hb hb2)⟩


set_option maxHeartbeats 2000000 in
theorem turns_odd {A : Option Addr} {n c : Nat} {l : List UInt8} {w : World} (hl : Bs w A n c l) (bit : Int) (bits' : Int) (h0 : ¬ n = 0) (e0 : ((n : Int) == 0) = false) (h3 : ¬ 300 < n) (e3 : decide (300 < (n : Int)) = false)
    (hneg : ¬ bit < 0) (e4 : decide (bit < 0) = false) (hneg2 : ¬ bits' < 0) (e5 : decide (bits' < 0) = false) (X a B : Nat) (hXl : X < 4294967296) (hal : a < 8 * n) (hat : bit % (8 * n) = (a : Int)) (hat2 : bit.tmod (8 * n) = (a : Int))
    (hB : bits' % 4294967296 = (B : Int)) (hB1 : bits'.tmod 4294967296 = (B : Int)) (hBl : B < 4294967296) (HL : Hid (l.length = n))
    (HF : Hid (Calls Try.prog 48 #[.slice A n c, .int .i64 bit, .int .i64 bits'] w fun e w' => ∃ V cv, e = .returned (.slice V n cv) ∧ Ow byteR 1 w' w.heap.size w.heap.size 5 (.slice V n cv) n (bent l a X) ∧ Below w.heap.size w w'))
    (e6 : ((B : Int) % 2 == 0) = false) (e7 : (B : Int) = (X : Int)) :
    Calls Try.prog 15 #[.slice A n c, .int .i64 bit, .int .i64 bits'] w fun e w' => e = .returned (.bool true) ∧ Below w.heap.size w w' := by
  obtain rfl : X = B := by omega
  go_enter Try.func15, Try.ntmps15
  go_wp2_with fail
  refine HF.out.mono ?_
  rintro e w1 ⟨V1, c1, rfl, ho1, hb1⟩
  have hr1 := ho1.read byteR_fine
  have hl1 := hl.on byteR_fine hb1
  go_wp2_with fail
  go_loopw [10] (fun i wr => ∃ k : Nat, k ≤ 8 * n ∧ i = .int .i64 k ∧ Below w1.heap.size w1 wr) (fun i _ => 8 * n - (intOf i).toNat)
  case atStart => exact ⟨0, by omega, rfl, Below.refl _ _⟩
  case round =>
    obtain ⟨k, hk, rfl, hb⟩ := hrel
    by_cases hlt : k < 8 * n
    · obtain ⟨j, hj⟩ : ∃ j, j = k / 8 := ⟨_, rfl⟩
      obtain ⟨m, hm⟩ : ∃ m, m = k % 8 := ⟨_, rfl⟩
      have hj8 : (k : Int) / 8 = (j : Int) := by omega
      have hm8 : (k : Int) % 8 = (m : Int) := by omega
      have hjn : j < n := by omega
      have hm' : m < 8 := by omega
      obtain ⟨ad, x, rfl, hadl, hx, hxc⟩ := at_byte (hl1.on byteR_fine hb) hjn
      obtain ⟨bd, y, rfl, hbdl, hy, hyc⟩ := at_byte (hr1.on byteR_fine hb) hjn
      have hbt := bent_testBit (a := a) (X := X) (by rw [HL.out]; exact hlt) (by rw [← hj]; exact hx) (by rw [← hj]; exact hy)
      rw [← hm] at hbt
      have hsx := u8_shr_bit x.toNat m x.toNat_lt
      have hsy := u8_shr_bit y.toNat m y.toNat_lt
      have hx256 := x.toNat_lt
      have hy256 := y.toNat_lt
      have HBT := hide hbt
      have hj0 : (0 : Int) ≤ (j : Int) := Int.natCast_nonneg _
      have hj1 : (j : Int) < (n : Int) := by omega
      have hm0 : (0 : Int) ≤ (m : Int) := Int.natCast_nonneg _
      clear hbt hx hy hj hm
      by_cases hak : a ≤ k
      · obtain ⟨r, hr⟩ : ∃ r, k = a + r := ⟨k - a, by omega⟩
        have hkr : (k : Int) - (a : Int) = (r : Int) := by omega
        clear hr
        by_cases h32 : r < 32
        · have hxr := i64_shr_bit X r hXl
          cases hP : x.toNat.testBit m <;> cases hT : X.testBit r
          all_goals
            rw [hP] at hsx
            rw [hT] at hxr
            have hR := HBT.out
            rw [hP, show k - a = r by omega, hT] at hR
            simp [hak] at hR
            rw [hR] at hsy
            clear hP hT hR
            go_wp2_with fail
            go_quiet (fail)
            go_wp2_with fail
            go_roundw
            case rel => exact ⟨k + 1, by omega, by go_num, hb.trans ((drewN_below _ nq).mono hb.size)⟩
            case measure => simp [intOf]; omega
        · have hT : X.testBit r = false := Nat.testBit_lt_two_pow (Nat.lt_of_lt_of_le hXl (Nat.pow_le_pow_right (n := 2) (i := 32) (by omega) (by omega)))
          cases hP : x.toNat.testBit m
          all_goals
            rw [hP] at hsx
            have hR := HBT.out
            rw [hP, show k - a = r by omega, hT] at hR
            simp at hR
            rw [hR] at hsy
            clear hP hT hR
            go_wp2_with fail
            go_quiet (fail)
            go_wp2_with fail
            go_roundw
            case rel => exact ⟨k + 1, by omega, by go_num, hb.trans ((drewN_below _ nq).mono hb.size)⟩
            case measure => simp [intOf]; omega
      · cases hP : x.toNat.testBit m
        all_goals
          have hT : True := trivial
          rw [hP] at hsx
          have hR := HBT.out
          rw [hP] at hR
          simp [hak] at hR
          rw [hR] at hsy
          clear hP hT hR
          go_wp2_with fail
          go_quiet (fail)
          go_wp2_with fail
          go_roundw
          case rel => exact ⟨k + 1, by omega, by go_num, hb.trans ((drewN_below _ nq).mono hb.size)⟩
          case measure => simp [intOf]; omega
    · go_wp2_with fail
      refine (wakes5 _).mono ?_
      rintro e w2 ⟨rfl, hb2⟩
      go_wp2_with fail
      go_ret
      exact ⟨rfl, th hb1 (th hb hb2)⟩


set_option maxHeartbeats 2000000 in
theorem law_sealTurns {A : Option Addr} {n c : Nat} {l : List UInt8} {w : World} (hl : Bs w A n c l) (bit : Int) (hbit : InI bit) (bits' : Int) (hbits : InI bits') :
    Calls Try.prog 15 #[.slice A n c, .int .i64 bit, .int .i64 bits'] w fun e w' => e = .returned (.bool true) ∧ Below w.heap.size w w' := by
  have hlen := hl.len
  by_cases h0 : n = 0
  · subst h0
    clear hlen
    go_enter Try.func15, Try.ntmps15
    go_wp2_with fail
    go_ret
    exact ⟨rfl, Below.refl _ _⟩
  have e0 : ((n : Int) == 0) = false := by simp; omega
  by_cases h3 : 300 < n
  · clear hlen
    go_enter Try.func15, Try.ntmps15
    go_wp2_with fail
    go_ret
    exact ⟨rfl, Below.refl _ _⟩
  have e3 : decide (300 < (n : Int)) = false := by simp; omega
  by_cases hneg : bit < 0
  · have e4 : decide (bit < 0) = true := by simpa using hneg
    clear hlen
    go_enter Try.func15, Try.ntmps15
    go_wp2_with fail
    go_ret
    exact ⟨rfl, Below.refl _ _⟩
  have e4 : decide (bit < 0) = false := by simpa using hneg
  by_cases hneg2 : bits' < 0
  · have e5 : decide (bits' < 0) = true := by simpa using hneg2
    clear hlen
    go_enter Try.func15, Try.ntmps15
    go_wp2_with fail
    go_ret
    exact ⟨rfl, Below.refl _ _⟩
  have e5 : decide (bits' < 0) = false := by simpa using hneg2
  obtain ⟨X, hX⟩ : ∃ X, X = oddN bits' := ⟨_, rfl⟩
  obtain ⟨a, ha⟩ : ∃ a, a = flipAt n bit := ⟨_, rfl⟩
  have hXl : X < 4294967296 := by rw [hX]; exact oddN_lt _
  have hal : a < 8 * n := by rw [ha]; exact flipAt_lt (by omega) bit
  have hfl : flipL l bit bits' = bent l a X := by rw [flipL, hlen, ha, hX]
  have hat : bit % (8 * n) = (a : Int) := by
    rw [ha, flipAt, Int.toNat_of_nonneg (Int.emod_nonneg bit (show (8 * n : Int) ≠ 0 by omega))]
  have hat2 : bit.tmod (8 * n) = (a : Int) := by rw [Int.tmod_eq_emod_of_nonneg (by omega), hat]
  obtain ⟨B, hB⟩ : ∃ B : Nat, bits' % 4294967296 = (B : Int) := ⟨(bits' % 4294967296).toNat, by omega⟩
  have hB1 : bits'.tmod 4294967296 = (B : Int) := by rw [Int.tmod_eq_emod_of_nonneg (by omega), hB]
  have hBX : X = B / 2 * 2 + 1 := by rw [hX, oddN, hB]; rfl
  have hBl : B < 4294967296 := by omega
  have hfp := flip_any hl (by omega) bit bits' hbit hbits
  rw [hfl] at hfp
  have hB2 : (((B : Int) % 2 == 0) = true ∧ (B : Int) + 1 = (X : Int)) ∨ (((B : Int) % 2 == 0) = false ∧ (B : Int) = (X : Int)) := by
    by_cases h : B % 2 = 0
    · exact .inl ⟨by simp; omega, by omega⟩
    · exact .inr ⟨by simp; omega, by omega⟩
  have HL := hide hlen
  have HF := hide hfp
  clear hX ha hfl hlen hbit hbits hfp hBX
  rcases hB2 with ⟨e6, e7⟩ | ⟨e6, e7⟩
  · exact turns_even hl bit bits' h0 e0 h3 e3 hneg e4 hneg2 e5 X a B hXl hal hat hat2 hB hB1 hBl HL HF e6 e7
  · exact turns_odd hl bit bits' h0 e0 h3 e3 hneg e4 hneg2 e5 X a B hXl hal hat hat2 hB hB1 hBl HL HF e6 e7

end Go.Proofs.Ytnieiobpbioeiaa
