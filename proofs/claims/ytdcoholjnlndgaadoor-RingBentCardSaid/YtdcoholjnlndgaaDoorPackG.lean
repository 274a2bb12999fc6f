/-
  Contracts: pack.Get, pack.Part, pack.Unpart.
-/
import Derived.Test.YtdcoholjnlndgaaDoorPackC
import Derived.Deep.RegionWith
namespace Go.Proofs.YtdcoholjnlndgaaDoor
open Go.RowKit
set_option linter.unusedVariables false
set_option maxRecDepth 100000

set_option maxHeartbeats 1000000 in
theorem get_arg {A : Option Addr} {n c : Nat} {w : World} (size : Int) (h : ¬ Sized size) :
    Calls Tryd.prog 61 #[.slice A n c, .int .i64 size] w fun e w' => e = .returned (.tuple #[.int .i64 0, .slice none 0 0, .int .i64 1]) ∧ w = w' := by
  have h1 : (size != 1) = true := by simp; exact fun e => h (.inl e)
  have h2 : (size != 2) = true := by simp; exact fun e => h (.inr (.inl e))
  have h4 : (size != 4) = true := by simp; exact fun e => h (.inr (.inr e))
  clear h
  go_enter Tryd.func61, Tryd.ntmps61
  go_wp2_with fail
  go_ret3
  exact ⟨rfl, rfl⟩

set_option maxHeartbeats 1000000 in
theorem get_short {A : Option Addr} {n c : Nat} {w : World} (size : Int) (h : Sized size) (hn : (n : Int) < size) :
    Calls Tryd.prog 61 #[.slice A n c, .int .i64 size] w fun e w' => e = .returned (.tuple #[.int .i64 0, .slice none 0 0, .int .i64 4]) ∧ w = w' := by
  rcases h with rfl | rfl | rfl
  all_goals
    go_enter Tryd.func61, Tryd.ntmps61
    go_wp2_with fail
    go_ret3
    exact ⟨rfl, rfl⟩

set_option maxHeartbeats 1000000 in
theorem get_ok {A : Option Addr} {n c : Nat} {l : List UInt8} {w : World} (ha : Bs w A n c l) (hn : n ≤ 65536) (size : Nat) (h : size = 1 ∨ size = 2 ∨ size = 4) (hs : size ≤ n) :
    Calls Tryd.prog 61 #[.slice A n c, .int .i64 size] w fun e w' => ∃ V cv, e = .returned (.tuple #[.int .i64 (num (l.take size)), .slice V (n - size) cv, .int .i64 0]) ∧ Ow byteR 1 w' w.heap.size w.heap.size 5 (.slice V (n - size) cv) (n - size) (l.drop size) ∧ Below w.heap.size w w' := by
  have hcap := ha.cap
  have hs4 : size ≤ 4 := by omega
  have hlen := ha.len
  have HL := hide hlen
  clear hlen
  have hg : (((size : Int) != 1) = false) ∨ (((size : Int) != 1) = true ∧ ((size : Int) != 2) = false) ∨ (((size : Int) != 1) = true ∧ ((size : Int) != 2) = true ∧ ((size : Int) != 4) = false) := by
    rcases h with rfl | rfl | rfl
    · exact .inl rfl
    · exact .inr (.inl ⟨rfl, rfl⟩)
    · exact .inr (.inr ⟨rfl, rfl, rfl⟩)
  clear h
  by_cases hck : c = size
  · have hcut := rest1_end ha hs hck
    rcases hg with g1 | ⟨g1, g2⟩ | ⟨g1, g2, g3⟩
    all_goals
      go_enter Tryd.func61, Tryd.ntmps61
      go_wp2_with fail
      go_loop [4, 29] (fun v i => ∃ k : Nat, k ≤ size ∧ i = .int .i64 k ∧ v = .int .i64 (num (l.take k))) (fun _ i => size - (intOf i).toNat)
      case atStart => exact ⟨0, Nat.zero_le _, rfl, rfl⟩
      case round =>
        obtain ⟨k, hk, rfl, rfl⟩ := hrel
        by_cases hlt : k < size
        · obtain ⟨ad, x, rfl, _, hx, hc⟩ := at_byte ha (by omega : k < n)
          have hx256 := x.toNat_lt
          have hst := get_step (num (l.take k)) x.toNat k (by omega) (num_take_lt l k (by rw [HL.out]; omega)) x.toNat_lt
          rw [← num_step hx] at hst
          have HST := hide hst
          clear hx hst
          go_wp2_with fail
          go_round
          case rel => exact ⟨k + 1, by omega, by go_num, by rw [HST.out]⟩
          case measure => simp [intOf]; omega
        · obtain rfl : k = size := by omega
          go_wp2_with fail
          refine (clone_any _ _ _ _ _ hcut (by omega)).mono ?_
          rintro e w1 ⟨V1, c1, rfl, ho1, hb1⟩
          go_wp2_with fail
          go_ret3
          exact ⟨V1, c1, rfl, ho1, hb1⟩
  · have hcut := rest1 ha hs hck
    rcases hg with g1 | ⟨g1, g2⟩ | ⟨g1, g2, g3⟩
    all_goals
      go_enter Tryd.func61, Tryd.ntmps61
      go_wp2_with fail
      go_loop [4, 29] (fun v i => ∃ k : Nat, k ≤ size ∧ i = .int .i64 k ∧ v = .int .i64 (num (l.take k))) (fun _ i => size - (intOf i).toNat)
      case atStart => exact ⟨0, Nat.zero_le _, rfl, rfl⟩
      case round =>
        obtain ⟨k, hk, rfl, rfl⟩ := hrel
        by_cases hlt : k < size
        · obtain ⟨ad, x, rfl, _, hx, hc⟩ := at_byte ha (by omega : k < n)
          have hx256 := x.toNat_lt
          have hst := get_step (num (l.take k)) x.toNat k (by omega) (num_take_lt l k (by rw [HL.out]; omega)) x.toNat_lt
          rw [← num_step hx] at hst
          have HST := hide hst
          clear hx hst
          go_wp2_with fail
          go_round
          case rel => exact ⟨k + 1, by omega, by go_num, by rw [HST.out]⟩
          case measure => simp [intOf]; omega
        · obtain rfl : k = size := by omega
          go_wp2_with fail
          refine (clone_any _ _ _ _ _ hcut (by omega)).mono ?_
          rintro e w1 ⟨V1, c1, rfl, ho1, hb1⟩
          go_wp2_with fail
          go_ret3
          exact ⟨V1, c1, rfl, ho1, hb1⟩

def Parted (w : World) (n p : Nat) (l r : List UInt8) (e : Ending) (w' : World) : Prop :=
  ∃ V cv V' cv', e = .returned (.tuple #[.slice V p cv, .slice V' (n - (1 + p)) cv', .int .i64 0]) ∧ Sl byteR 1 w' (New w.heap.size w') V p cv l ∧ Sl byteR 1 w' (New w.heap.size w') V' (n - (1 + p)) cv' r ∧ Below w.heap.size w w'

end Go.Proofs.YtdcoholjnlndgaaDoor
