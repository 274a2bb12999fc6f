/-
  Contracts: anchor.in, num and its closure; slices.IndexFunc, ContainsFunc, Index, Contains over ints.
-/
import Derived.Test.YtikjhcfalofgaaaAncP
import Derived.Test.YtikjhcfalofgaaaGeom
namespace Go.Proofs.Ytikjhcfalofgaaa
open Go.RowKit
set_option linter.unusedVariables false
set_option maxRecDepth 100000

/-- slices.Index over ints. -/
def IdxPost (L : List Int) (x : Int) (w : World) (e : Ending) (w' : World) : Prop := w = w' ∧ ((∃ k : Nat, k < L.length ∧ L[k]? = some x ∧ x ∉ L.take k ∧ e = .returned (.int .i64 k)) ∨ (x ∉ L ∧ e = .returned (.int .i64 (-1))))
set_option maxHeartbeats 1000000 in
theorem index_any (A : Option Addr) (n c : Nat) (L : List Int) (x : Int) (w : World) (ha : Is w A n c L) (hn : n ≤ 65536) :
    Calls Try.prog 34 #[.slice A n c, .int .i64 x] w (IdxPost L x w) := by
  unfold IdxPost
  have hlen := ha.len
  have HLEN := hide hlen
  clear hlen
  go_enter Try.func34, Try.ntmps34
  go_wp2_with fail
  go_loop [8] (fun i => ∃ k : Nat, k ≤ n ∧ i = .int .i64 k ∧ Hid (x ∉ L.take k)) (fun i => n - (intOf i).toNat)
  case atStart => exact ⟨0, Nat.zero_le _, rfl, hide (by simp)⟩
  case round =>
    obtain ⟨k, hk, rfl, hno⟩ := hrel
    by_cases hlt : k < n
    · obtain ⟨ad, y, rfl, hadl, hy, hyi, hcell⟩ := at_int ha hlt
      by_cases hok : x = y
      · obtain rfl := hok.symm
        have HY := hide hy
        clear hy hok
        go_wp2_with fail
        go_ret
        exact ⟨rfl, .inl ⟨k, by rw [HLEN.out]; exact hlt, HY.out, hno.out, rfl⟩⟩
      · have hb : (x == y) = false := by simpa using hok
        have hnext : x ∉ L.take (k + 1) := by
          obtain ⟨h1, e1⟩ := List.getElem?_eq_some_iff.1 hy
          rw [List.take_succ_eq_append_getElem h1, e1]
          intro h
          rcases List.mem_append.1 h with h | h
          · exact hno.out h
          · simp at h; exact hok h
        have HN := hide hnext
        clear hok hy hnext
        go_wp2_with fail
        go_round
        case rel => exact ⟨k + 1, by omega, by go_num, HN⟩
        case measure => simp [intOf]; omega
    · obtain rfl : k = n := by omega
      have hfin : x ∉ L := by
        have h := hno.out
        rwa [List.take_of_length_le (by rw [HLEN.out]; omega)] at h
      have HF := hide hfin
      clear hfin
      go_wp2_with fail
      go_ret
      exact ⟨rfl, .inr ⟨HF.out, rfl⟩⟩

end Go.Proofs.Ytikjhcfalofgaaa
