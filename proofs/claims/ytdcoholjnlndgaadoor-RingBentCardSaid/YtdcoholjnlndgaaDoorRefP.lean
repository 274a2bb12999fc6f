/-
  Contracts: casemateref01.Put, Get, Part.
-/
import Derived.Test.YtdcoholjnlndgaaDoorPackG
namespace Go.Proofs.YtdcoholjnlndgaaDoor
open Go.RowKit
set_option linter.unusedVariables false
set_option maxRecDepth 100000

theorem le_snoc (k n : Nat) : le (k + 1) n = le k n ++ [UInt8.ofNat (n / 256 ^ k)] := by
  induction k generalizing n with
  | zero => simp [le]
  | succ k ih =>
    rw [le, ih, le, List.cons_append]
    congr 2
    rw [Nat.div_div_eq_div_mul, Nat.pow_succ, Nat.mul_comm]

set_option maxHeartbeats 1000000 in
theorem rput_any {A : Option Addr} {n c : Nat} {xs : List UInt8} {w : World} (ha : Bs w A n c xs) (hn : n ≤ 60000) (N k : Nat) (hk : k ≤ 8) (hN : N < 9223372036854775807) :
    Calls Tryd.prog 33 #[.slice A n c, .int .i64 N, .int .i64 k] w fun e w' => ∃ V cv, e = .returned (.slice V (n + k) cv) ∧ Ow byteR 1 w' w.heap.size w.heap.size 5 (.slice V (n + k) cv) (n + k) (xs ++ le k N) ∧ Below w.heap.size w w' := by
  obtain ⟨i0, hi0, hz0, hz1, hz2⟩ := info_parts u8_info
  go_enter Tryd.func33, Tryd.ntmps33
  go_wp2_with fail
  refine (twin_any _ _ _ xs _ ha (by omega)).mono ?_
  rintro e w1 ⟨V1, c1, rfl, ho1, hb1⟩
  go_wp2_with fail
  go_loopw [1, 7, 8] (fun N' v i wr => ∃ j : Nat, ∃ V cv, j ≤ k ∧ i = .int .i64 j ∧ N' = .int .i64 ((N / 256 ^ j : Nat) : Int) ∧ v = .slice V (n + j) cv ∧ Ow byteR 1 wr w.heap.size w.heap.size 5 (.slice V (n + j) cv) (n + j) (xs ++ le j N) ∧ Below w.heap.size w wr) (fun _ _ i _ => k - (intOf i).toNat)
  case atStart => exact ⟨0, V1, c1, Nat.zero_le _, rfl, by simp, rfl, by simpa [le] using ho1, hb1⟩
  case round =>
    obtain ⟨j, V, cv, hj, rfl, rfl, rfl, ho, hb⟩ := hrel
    by_cases hlt : j < k
    · obtain ⟨M, hM⟩ : ∃ M, M = N / 256 ^ j := ⟨_, rfl⟩
      have hMN : M ≤ N := by rw [hM]; exact Nat.div_le_self _ _
      have hM2 : M / 256 = N / 256 ^ (j + 1) := by rw [hM, Nat.div_div_eq_div_mul, Nat.pow_succ]
      have hle := le_snoc j N
      rw [← hM] at hle ⊢
      have HM2 := hide hM2
      have HLE := hide hle
      clear hM hM2 hle
      have hs : Sl byteR 1 (wr.alloc (.cells #[.int .u8 ((M : Int) % 256)] 5)) (fun _ => True) (some ⟨wr.heap.size, 0, none⟩) 1 1 [UInt8.ofNat M] := lit_plain (R := byteR) (by show _ = _; simp [UInt8.toNat_ofNat']) trivial
      have ho2 := ho.alloc byteR_fine (.cells #[.int .u8 ((M : Int) % 256)] 5)
      have hb2 : Below w.heap.size w (wr.alloc (.cells #[.int .u8 ((M : Int) % 256)] 5)) := hb.alloc hb.size _
      go_wp2_with (at_builtin; go_loud (refine wpList_append_ow _ rfl (.tmp 16) (.tmp 19) _ rfl byteR_fine w.heap.size w.heap.size 5 i0 _ 1 Tryd.underlying54 hi0 hz0 hz1 hz2 rfl (by omega) (.slice V (n + j) cv) (n + j) _ rfl ho2 _ _ 1 1 _ rfl hs (fun _ _ _ h => h) (by simp only [maxLen]; omega) (by omega) hb2.size ?_); intro V2 w2 ho4 hg4 hat4)
      rw [List.append_assoc, ← HLE.out, Nat.add_assoc] at ho4
      obtain ⟨V3, cv3, rfl⟩ := ho4.form
      go_roundw
      case rel => exact ⟨j + 1, V3, cv3, by omega, by go_num, by rw [← HM2.out]; go_num, rfl, ho4, hb2.trans (below_grown hg4 ho2.lt hb2.size)⟩
      case measure => simp [intOf]; omega
    · obtain rfl : j = k := by omega
      go_wp2_with fail
      go_ret
      exact ⟨V, cv, rfl, ho, hb⟩

theorem num_drop_step {l : List UInt8} {k : Nat} {x : UInt8} (h : l[k]? = some x) (m : Nat) (hm : k < m) : num ((l.take m).drop k) = x.toNat + 256 * num ((l.take m).drop (k + 1)) := by
  obtain ⟨h1, e1⟩ := List.getElem?_eq_some_iff.1 h
  rw [List.drop_eq_getElem_cons (by rw [List.length_take]; omega), List.getElem_take, e1, num]

end Go.Proofs.YtdcoholjnlndgaaDoor
