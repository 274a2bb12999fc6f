/-
  Contracts: sum.down, sum.on, sum.Of; the reference's down, Eight, More, Sum.
  Contracts: the reference's down, Eight.
-/
import Derived.Test.YtdcoholjnlndgaaDoorKeep
import Derived.Test.YtdcoholjnlndgaaDoorCrc
import Derived.Laws.BitsAllLaws
namespace Go.Proofs.YtdcoholjnlndgaaDoor
open Go.RowKit
set_option linter.unusedVariables false
set_option maxRecDepth 100000

theorem u32_and1 {r : Nat} (h : r < 4294967296) : bits .and .u32 (r : Int) 1 = ((r % 2 : Nat) : Int) := by
  have := u32_and_nat r 1 h (by omega)
  rw [Nat.and_one_is_mod] at this
  exact this
theorem u32_and255 {r : Nat} (h : r < 4294967296) : bits .and .u32 (r : Int) 255 = ((r % 256 : Nat) : Int) := by
  have := u32_and_nat r 255 h (by omega)
  rw [show (255 : Nat) = 2 ^ 8 - 1 from rfl, Nat.and_two_pow_sub_one_eq_mod] at this
  exact this

theorem crcFrom_snoc {r : Nat} {l : List UInt8} {k : Nat} {x : UInt8} (h : l[k]? = some x) : crcFrom r (l.take (k + 1)) = onN (crcFrom r (l.take k)) x.toNat := by
  obtain ⟨h1, e1⟩ := List.getElem?_eq_some_iff.1 h
  rw [List.take_succ_eq_append_getElem h1, e1]
  simp [crcFrom, List.foldl_append]

end Go.Proofs.YtdcoholjnlndgaaDoor

namespace Go.Proofs.YtdcoholjnlndgaaDoor
open Go.RowKit
set_option linter.unusedVariables false
set_option maxRecDepth 100000

theorem xor_i64 (a b : Nat) (ha : a < 9223372036854775808) (hb : b < 9223372036854775808) : bits .xor .i64 (a : Int) (b : Int) = ((a ^^^ b : Nat) : Int) := by
  have hx : a ^^^ b < 2 ^ 63 := Nat.xor_lt_two_pow (by omega) (by omega)
  show IntKind.i64.wrap ((BitVec.ofInt 64 (a : Int) ^^^ BitVec.ofInt 64 (b : Int)).toNat : Int) = _
  rw [BitVec.toNat_xor, ofInt64_nat a ha, ofInt64_nat b hb, IntKind.wrap_i64]
  omega

set_option maxHeartbeats 1000000 in
theorem ref_down (r : Nat) (hr : r < 4294967296) (w : World) :
    Calls Tryd.prog 70 #[.int .i64 r] w fun e w' => e = .returned (.int .i64 (stepN r)) ∧ w = w' := by
  obtain ⟨Y, hY⟩ : ∃ Y, Y = stepN r := ⟨_, rfl⟩
  rw [← hY]
  by_cases ho : r % 2 = 1
  · have e1 : ((r : Int) % 2 == 1) = true := by simp; omega
    have e2 : bits .xor .i64 ((r : Int) / 2) 2197175160 = (Y : Int) := by
      rw [hY, stepN, if_pos ho]
      exact xor_i64 (r / 2) 2197175160 (by omega) (by omega)
    clear hY
    go_enter Tryd.func70, Tryd.ntmps70
    go_wp2_with fail
    go_ret
    exact ⟨rfl, rfl⟩
  · have e1 : ((r : Int) % 2 == 1) = false := by simp; omega
    have e2 : (r : Int) / 2 = (Y : Int) := by rw [hY, stepN, if_neg ho]; rfl
    clear hY
    go_enter Tryd.func70, Tryd.ntmps70
    go_wp2_with fail
    go_ret
    exact ⟨rfl, rfl⟩

set_option maxHeartbeats 1000000 in
theorem ref_eight (r : Nat) (hr : r < 4294967296) (w : World) :
    Calls Tryd.prog 64 #[.int .i64 r] w fun e w' => e = .returned (.int .i64 (stepsN 8 r)) ∧ w = w' := by
  go_enter Tryd.func64, Tryd.ntmps64
  go_wp2_with fail
  go_loop [0, 3] (fun v i => ∃ k : Nat, k ≤ 8 ∧ i = .int .i64 k ∧ v = .int .i64 (stepsN k r)) (fun _ i => 8 - (intOf i).toNat)
  case atStart => exact ⟨0, by omega, rfl, rfl⟩
  case round =>
    obtain ⟨k, hk, rfl, rfl⟩ := hrel
    by_cases hlt : k < 8
    · have hd := ref_down (stepsN k r) (stepsN_lt hr)
      have hst : stepN (stepsN k r) = stepsN (k + 1) r := rfl
      rw [hst] at hd
      obtain ⟨R, hR⟩ : ∃ R, R = stepsN k r := ⟨_, rfl⟩
      rw [← hR] at hd ⊢
      have HD := hide hd
      clear hd hst hR
      go_wp2_with fail
      refine (HD.out _).mono ?_
      rintro e w' ⟨rfl, rfl⟩
      go_wp2_with fail
      go_round
      case rel => exact ⟨k + 1, by omega, by go_num, rfl⟩
      case measure => simp [intOf]; omega
    · obtain rfl : k = 8 := by omega
      go_wp2_with fail
      go_ret
      exact ⟨rfl, rfl⟩

set_option maxHeartbeats 1000000 in
theorem ref_sum {A : Option Addr} {n c : Nat} {l : List UInt8} {w : World} (ha : Bs w A n c l) (hn : n ≤ 65536) :
    Calls Tryd.prog 47 #[.slice A n c] w fun e w' => e = .returned (.int .i64 (crc l)) ∧ w = w' := by
  have hl := ha.len
  have HL := hide hl
  clear hl
  go_enter Tryd.func47, Tryd.ntmps47
  go_wp2_with fail
  refine Calls.mono (R := fun e w' => e = .returned (.int .i64 (crc l)) ∧ w = w') ?_ ?_
  · go_enter Tryd.func57, Tryd.ntmps57
    go_wp2_with fail
    go_loop [5, 6] (fun v i => ∃ k : Nat, k ≤ n ∧ i = .int .i64 k ∧ v = .int .i64 (crcFrom 4294967295 (l.take k))) (fun _ i => n - (intOf i).toNat)
    case atStart => exact ⟨0, Nat.zero_le _, rfl, rfl⟩
    case round =>
      obtain ⟨k, hk, rfl, rfl⟩ := hrel
      by_cases hlt : k < n
      · obtain ⟨ad, x, rfl, _, hx, hc⟩ := at_byte ha hlt
        have hst := crcFrom_snoc (r := 4294967295) hx
        obtain ⟨R, hR⟩ : ∃ R, R = crcFrom 4294967295 (l.take k) := ⟨_, rfl⟩
        have hRl : R < 4294967296 := by rw [hR]; exact crcFrom_lt (by omega)
        rw [← hR] at hst ⊢
        rw [← onN_eq] at hst
        have hxl := x.toNat_lt
        have h2 := xor_i64 R x.toNat (by omega) (by omega)
        have hX : R ^^^ x.toNat < 4294967296 := Nat.xor_lt_two_pow (n := 32) (by omega) (by omega)
        have hd := ref_eight _ hX
        obtain ⟨X, hXX⟩ : ∃ X, X = R ^^^ x.toNat := ⟨_, rfl⟩
        rw [← hXX] at hX h2 hst hd
        have HD := hide hd
        have HST := hide hst
        clear hd hst hR hx hXX
        go_wp2_with fail
        refine (HD.out _).mono ?_
        rintro e w' ⟨rfl, rfl⟩
        go_wp2_with fail
        go_round
        case rel => exact ⟨k + 1, by omega, by go_num, by rw [HST.out]⟩
        case measure => simp [intOf]; omega
      · obtain rfl : k = n := by omega
        rw [List.take_of_length_le (by rw [HL.out]; omega)]
        have hc := crcFrom_lt (r := 4294967295) (l := l) (by omega)
        have hq : (4294967295 : Int) - ((crcFrom 4294967295 l : Nat) : Int) = ((crc l : Nat) : Int) := by unfold crc; omega
        obtain ⟨R, hR⟩ : ∃ R, R = crcFrom 4294967295 l := ⟨_, rfl⟩
        rw [← hR] at hc hq ⊢
        clear hR
        go_wp2_with fail
        go_ret
        exact ⟨rfl, rfl⟩
  · rintro e w' ⟨rfl, rfl⟩
    go_wp2_with fail
    go_ret
    exact ⟨rfl, rfl⟩

end Go.Proofs.YtdcoholjnlndgaaDoor
