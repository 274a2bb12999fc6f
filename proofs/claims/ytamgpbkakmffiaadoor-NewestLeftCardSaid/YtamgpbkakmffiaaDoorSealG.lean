/-
  Contracts: seal.Flip.
  Contracts: casemateref01.mod, Flip.
-/
import Derived.Test.YtamgpbkakmffiaaDoorSeal
import Derived.Test.YtamgpbkakmffiaaDoorZRef
namespace Go.Proofs.YtamgpbkakmffiaaDoor
open Go.RowKit
set_option linter.unusedVariables false
set_option maxRecDepth 100000

/-- The bits that are asked to be turned: 32, the lowest one set. -/
def oddN (b : Int) : Nat := (b % 4294967296).toNat / 2 * 2 + 1
theorem oddN_lt (b : Int) : oddN b < 4294967296 := by unfold oddN; omega
theorem oddN_odd (b : Int) : oddN b % 2 = 1 := by unfold oddN; omega
theorem or_one (x : Nat) : x ||| 1 = x / 2 * 2 + 1 := by
  apply Nat.eq_of_testBit_eq
  intro i
  rw [Nat.testBit_or]
  cases i with
  | zero => simp
  | succ i =>
    rw [Nat.testBit_succ, Nat.testBit_succ, Nat.testBit_succ, show (x / 2 * 2 + 1) / 2 = x / 2 by omega]
    simp
/-- Where they begin. -/
def flipAt (n : Nat) (bit : Int) : Nat := (bit % (8 * n : Int)).toNat
theorem flipAt_lt {n : Nat} (h : 0 < n) (bit : Int) : flipAt n bit < 8 * n := by
  unfold flipAt
  have := Int.emod_lt_of_pos bit (show (0 : Int) < 8 * n by omega)
  have := Int.emod_nonneg bit (show (8 * n : Int) ≠ 0 by omega)
  omega
def flipL (l : List UInt8) (bit bits : Int) : List UInt8 := bent l (flipAt l.length bit) (oddN bits)
theorem flipL_len (l : List UInt8) (bit bits : Int) : (flipL l bit bits).length = l.length := bent_len _ _ _

end Go.Proofs.YtamgpbkakmffiaaDoor

namespace Go.Proofs.YtamgpbkakmffiaaDoor
open Go.RowKit
set_option linter.unusedVariables false
set_option maxRecDepth 100000

set_option maxHeartbeats 1000000 in
theorem mod_any (a n : Int) (ha : InI a) (hn : 0 < n) (hn' : n ≤ 4294967296) (w : World) :
    Calls Tryd.prog 92 #[.int .i64 a, .int .i64 n] w fun e w' => e = .returned (.int .i64 (a % n)) ∧ w = w' := by
  have h0 := Int.emod_lt_of_pos a hn
  have h1 := Int.emod_nonneg a (Int.ne_of_gt hn)
  have e0 : (n == 0) = false := by simp; omega
  have key : (a.tmod n = a % n ∧ ¬ a.tmod n < 0) ∨ (a.tmod n < 0 ∧ a.tmod n + n = a % n) := by
    rw [Int.tmod_eq_emod]
    split <;> omega
  rcases key with ⟨h, h2⟩ | ⟨h2, h⟩
  · have e1 : decide (a.tmod n < 0) = false := by simpa using h2
    rw [← h]
    clear h h1 h0
    go_enter Tryd.func92, Tryd.ntmps92
    go_wp2_with fail
    go_ret
    exact ⟨rfl, rfl⟩
  · have e1 : decide (a.tmod n < 0) = true := by simpa using h2
    rw [← h]
    have h3 : 0 ≤ a.tmod n + n ∧ a.tmod n + n < n := by omega
    clear h h1 h0
    go_enter Tryd.func92, Tryd.ntmps92
    go_wp2_with fail
    go_ret
    exact ⟨rfl, rfl⟩

set_option maxHeartbeats 1000000 in
theorem rflip_any {A : Option Addr} {n c : Nat} {l : List UInt8} {w : World} (hl : Bs w A n c l) (hn : n ≤ 60000) (bit bits : Int) (hbit : InI bit) (hbits : InI bits) :
    Calls Tryd.prog 54 #[.slice A n c, .int .i64 bit, .int .i64 bits] w fun e w' => ∃ V cv, e = .returned (.slice V n cv) ∧ Ow byteR 1 w' w.heap.size w.heap.size 5 (.slice V n cv) n (flipL l bit bits) ∧ Below w.heap.size w w' := by
  have hlen := hl.len
  by_cases h0 : n = 0
  · subst h0
    have hl0 : l = [] := List.eq_nil_of_length_eq_zero hlen
    subst hl0
    have hf : flipL [] bit bits = [] := rfl
    rw [hf]
    go_enter Tryd.func54, Tryd.ntmps54
    go_wp2_with fail
    refine (twin_any _ _ _ _ _ hl (by omega)).mono ?_
    rintro e w1 ⟨V1, c1, rfl, ho1, hb1⟩
    go_wp2_with fail
    go_ret
    exact ⟨V1, c1, rfl, ho1, hb1⟩
  have e0 : ((n : Int) == 0) = false := by simp; omega
  obtain ⟨X, hX⟩ : ∃ X, X = oddN bits := ⟨_, rfl⟩
  obtain ⟨a, ha⟩ : ∃ a, a = flipAt n bit := ⟨_, rfl⟩
  have hXl : X < 4294967296 := by rw [hX]; exact oddN_lt _
  have hal : a < 8 * n := by rw [ha]; exact flipAt_lt (by omega) bit
  have hfl : flipL l bit bits = bent l a X := by rw [flipL, hlen, ha, hX]
  have hm1 := fun w => mod_any bit (8 * (n : Int)) hbit (by omega) (by omega) w
  have hm2 := fun w => mod_any bits 4294967296 hbits (by omega) (by omega) w
  have hae : bit % (8 * (n : Int)) = (a : Int) := by
    rw [ha, flipAt, Int.toNat_of_nonneg (Int.emod_nonneg bit (show (8 * n : Int) ≠ 0 by omega))]
  rw [hae] at hm1
  obtain ⟨B, hB⟩ : ∃ B : Nat, bits % 4294967296 = (B : Int) := ⟨(bits % 4294967296).toNat, by omega⟩
  have hBX : X = B / 2 * 2 + 1 := by rw [hX, oddN, hB]; rfl
  rw [hB] at hm2
  have hBl : B < 4294967296 := by omega
  rw [hfl]
  have HL := hide hlen
  have HM1 := hide hm1
  have HM2 := hide hm2
  clear hX ha hfl hlen hbit hbits hm1 hm2 hae hB
  have hB2 : (((B : Int) % 2 == 0) = true ∧ (B : Int) + 1 = (X : Int)) ∨ (((B : Int) % 2 == 0) = false ∧ (B : Int) = (X : Int)) := by
    by_cases h : B % 2 = 0
    · exact .inl ⟨by simp; omega, by omega⟩
    · exact .inr ⟨by simp; omega, by omega⟩
  clear hBX
  rcases hB2 with ⟨e1, e2⟩ | ⟨e1, e2⟩
  all_goals
    go_enter Tryd.func54, Tryd.ntmps54
    go_wp2_with fail
    refine (twin_any _ _ _ _ _ hl (by omega)).mono ?_
    rintro e w1 ⟨V1, c1, rfl, ho1, hb1⟩
    go_wp2_with fail
    refine (HM1.out _).mono ?_
    rintro e w2 ⟨rfl, rfl⟩
    go_wp2_with fail
    refine (HM2.out _).mono ?_
    rintro e w2 ⟨rfl, rfl⟩
    go_wp2_with fail
  all_goals
    go_loopw [9, 10] (fun x i wr => ∃ k : Nat, a + k ≤ 8 * n ∧ x = .int .i64 ((X / 2 ^ k : Nat) : Int) ∧ i = .int .i64 ((a : Int) + (k : Int)) ∧ Ow byteR 1 wr w.heap.size w.heap.size 5 (.slice V1 n c1) n (bent l a (X % 2 ^ k)) ∧ Below w.heap.size w wr) (fun _ i _ => 8 * n - (intOf i).toNat)
    case atStart => exact ⟨0, by omega, by simp, by simp, by rw [Nat.pow_zero, Nat.mod_one, bent_zero]; exact ho1, hb1⟩
    case round =>
      obtain ⟨k, hk, rfl, rfl, ho, hb⟩ := hrel
      have hYl : X / 2 ^ k ≤ X := Nat.div_le_self _ _
      have hnx : X % 2 ^ (k + 1) = X % 2 ^ k + 2 ^ k * (X / 2 ^ k % 2) := by rw [Nat.pow_succ, Nat.mod_mul]
      have hXk : X % 2 ^ k < 2 ^ k := Nat.mod_lt _ (Nat.pow_pos (by omega))
      have hY2 : X / 2 ^ (k + 1) = X / 2 ^ k / 2 := by rw [Nat.pow_succ, Nat.div_div_eq_div_mul]
      have hend : X / 2 ^ k = 0 → X % 2 ^ k = X := fun h => by
        have := Nat.mod_add_div X (2 ^ k)
        rw [h] at this
        simpa using this
      have hhigh := fun h => bent_high (l := l) (at_ := a) (X := X) (k := k) h
      rw [HL.out] at hhigh
      obtain ⟨Y, hY⟩ : ∃ Y, Y = X / 2 ^ k := ⟨_, rfl⟩
      rw [← hY] at hYl hnx hY2 hend ⊢
      by_cases hin : a + k < 8 * n
      · by_cases hy0 : 0 < Y
        · obtain ⟨j, hj⟩ : ∃ j, j = (a + k) / 8 := ⟨_, rfl⟩
          obtain ⟨m, hm⟩ : ∃ m, m = (a + k) % 8 := ⟨_, rfl⟩
          have hj8 : ((a : Int) + (k : Int)) / 8 = (j : Int) := by omega
          have hm8 : ((a : Int) + (k : Int)) % 8 = (m : Int) := by omega
          have hjn : j < n := by omega
          have hm' : m < 8 := by omega
          have e3 : decide (0 < (Y : Int)) = true := by simpa using hy0
          have e4 : decide ((a : Int) + (k : Int) < 8 * (n : Int)) = true := by simp; omega
          by_cases hbk : Y % 2 = 1
          · rw [hbk, Nat.mul_one] at hnx
            have e5 : ((Y : Int) % 2 == 1) = true := by simp; omega
            obtain ⟨g, x, u, rfl, hg, hgl, hx, hu, hcell, hfr, hst⟩ := ho.spot byteR_fine hjn
            have hu' : u = .int .u8 (x.toNat : Int) := by have h : [u] = _ := hu; simpa using h
            subst hu'
            have hbit := bent_bit (l := l) (at_ := a) (x := X % 2 ^ k) (i := k) (b := x) hXk (by rw [← hj]; exact hx)
            rw [← hj, ← hm, ← hnx] at hbit
            obtain ⟨y, hy⟩ : ∃ y, y = x ^^^ UInt8.ofNat (2 ^ m) := ⟨_, rfl⟩
            rw [← hy] at hbit
            have hv : Go.bits .xor .u8 (x.toNat : Int) (2 ^ m % 256) = (y.toNat : Int) := by
              have h1 : (2 : Int) ^ m % 256 = ((UInt8.ofNat (2 ^ m)).toNat : Int) := by
                rw [UInt8.toNat_ofNat']; push_cast; rfl
              rw [h1, hy]
              exact xor_u8 x (UInt8.ofNat (2 ^ m))
            have ho2 := hst (.int .u8 (y.toNat : Int)) y rfl rfl
            rw [← hbit] at ho2
            have hb2 : Below w.heap.size w (wr.setCell ⟨g, j, none⟩ (.int .u8 (y.toNat : Int))) := hb.setCell hg _
            have HY2 := hide hY2
            clear hbit hst hj hm hx hu hy hY hnx hhigh hend hY2 hin hbk
            go_wp2_with fail
            go_roundw
            case rel => exact ⟨k + 1, by omega, by rw [HY2.out]; go_num, by go_num, ho2, hb2⟩
            case measure => simp [intOf]; omega
          · have hb0 : Y % 2 = 0 := by omega
            rw [hb0, Nat.mul_zero, Nat.add_zero] at hnx
            have e5 : ((Y : Int) % 2 == 1) = false := by simp; omega
            have HY2 := hide hY2
            have HN := hide hnx
            clear hj hm hY hnx hhigh hend hY2 hin hbk
            go_wp2_with fail
            go_roundw
            case rel => exact ⟨k + 1, by omega, by rw [HY2.out]; go_num, by go_num, by rw [HN.out]; exact ho, hb⟩
            case measure => simp [intOf]; omega
        · have e3 : decide (0 < (Y : Int)) = false := by simp; omega
          have hoe : Ow byteR 1 wr w.heap.size w.heap.size 5 (.slice V1 n c1) n (bent l a X) := by rw [hend (by omega)] at ho; exact ho
          clear hY hnx hhigh hend hY2
          go_wp2_with fail
          go_ret
          exact ⟨V1, c1, rfl, hoe, hb⟩
      · have hoe : Ow byteR 1 wr w.heap.size w.heap.size 5 (.slice V1 n c1) n (bent l a X) := by rw [hhigh (by omega)] at ho; exact ho
        have e4 : decide ((a : Int) + (k : Int) < 8 * (n : Int)) = false := by simp; omega
        have hz : 0 < Y ∨ Y = 0 := by omega
        clear hY hnx hhigh hend hY2
        rcases hz with hz | hz
        · have e3 : decide (0 < (Y : Int)) = true := by simpa using hz
          go_wp2_with fail
          go_ret
          exact ⟨V1, c1, rfl, hoe, hb⟩
        · have e3 : decide (0 < (Y : Int)) = false := by simp; omega
          go_wp2_with fail
          go_ret
          exact ⟨V1, c1, rfl, hoe, hb⟩

end Go.Proofs.YtamgpbkakmffiaaDoor
