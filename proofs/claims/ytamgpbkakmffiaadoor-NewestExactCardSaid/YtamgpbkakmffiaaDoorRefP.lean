/-
  Contracts: casemateref01.Put, Get, Part.
-/
import Derived.Test.YtamgpbkakmffiaaDoorPackG
namespace Go.Proofs.YtamgpbkakmffiaaDoor
open Go.RowKit
set_option linter.unusedVariables false
set_option maxRecDepth 100000

theorem le_snoc (k n : Nat) : le (k + 1) n = le k n ++ [UInt8.ofNat (n / 256 ^ k)] := by
  induction k generalizing n with
  | zero => simp [le]
  | succ k ih =>
    rw [le, ih, le, List.cons_append]
    congr 2
    rw [Nat.div_div_eq_div_mul, Nat.pow_succ, Nat.mul_comm]

set_option maxHeartbeats 1000000 in
theorem rput_any {A : Option Addr} {n c : Nat} {xs : List UInt8} {w : World} (ha : Bs w A n c xs) (hn : n ≤ 60000) (N k : Nat) (hk : k ≤ 8) (hN : N < 9223372036854775807) :
    Calls Tryd.prog 86 #[.slice A n c, .int .i64 N, .int .i64 k] w fun e w' => ∃ V cv, e = .returned (.slice V (n + k) cv) ∧ Ow byteR 1 w' w.heap.size w.heap.size 5 (.slice V (n + k) cv) (n + k) (xs ++ le k N) ∧ Below w.heap.size w w' := by
  obtain ⟨i0, hi0, hz0, hz1, hz2⟩ := info_parts u8_info
  go_enter Tryd.func86, Tryd.ntmps86
  go_wp2_with fail
  refine (twin_any _ _ _ xs _ ha (by omega)).mono ?_
  rintro e w1 ⟨V1, c1, rfl, ho1, hb1⟩
  go_wp2_with fail
  go_loopw [1, 7, 8] (fun N' v i wr => ∃ j : Nat, ∃ V cv, j ≤ k ∧ i = .int .i64 j ∧ N' = .int .i64 ((N / 256 ^ j : Nat) : Int) ∧ v = .slice V (n + j) cv ∧ Ow byteR 1 wr w.heap.size w.heap.size 5 (.slice V (n + j) cv) (n + j) (xs ++ le j N) ∧ Below w.heap.size w wr) (fun _ _ i _ => k - (intOf i).toNat)
  case atStart => exact ⟨0, V1, c1, Nat.zero_le _, rfl, by simp, rfl, by simpa [le] using ho1, hb1⟩
  case round =>
    obtain ⟨j, V, cv, hj, rfl, rfl, rfl, ho, hb⟩ := hrel
    by_cases hlt : j < k
    · obtain ⟨M, hM⟩ : ∃ M, M = N / 256 ^ j := ⟨_, rfl⟩
      have hMN : M ≤ N := by rw [hM]; exact Nat.div_le_self _ _
      have hM2 : M / 256 = N / 256 ^ (j + 1) := by rw [hM, Nat.div_div_eq_div_mul, Nat.pow_succ]
      have hle := le_snoc j N
      rw [← hM] at hle ⊢
      have HM2 := hide hM2
      have HLE := hide hle
      clear hM hM2 hle
      have hs : Sl byteR 1 (wr.alloc (.cells #[.int .u8 ((M : Int) % 256)] 5)) (fun _ => True) (some ⟨wr.heap.size, 0, none⟩) 1 1 [UInt8.ofNat M] := lit_plain (R := byteR) (by show _ = _; simp [UInt8.toNat_ofNat']) trivial
      have ho2 := ho.alloc byteR_fine (.cells #[.int .u8 ((M : Int) % 256)] 5)
      have hb2 : Below w.heap.size w (wr.alloc (.cells #[.int .u8 ((M : Int) % 256)] 5)) := hb.alloc hb.size _
      go_wp2_with (at_builtin; go_loud (refine wpList_append_ow _ rfl (.tmp 16) (.tmp 19) _ rfl byteR_fine w.heap.size w.heap.size 5 i0 _ 1 Tryd.underlying58 hi0 hz0 hz1 hz2 rfl (by omega) (.slice V (n + j) cv) (n + j) _ rfl ho2 _ _ 1 1 _ rfl hs (fun _ _ _ h => h) (by simp only [maxLen]; omega) (by omega) hb2.size ?_); intro V2 w2 ho4 hg4 hat4)
      rw [List.append_assoc, ← HLE.out, Nat.add_assoc] at ho4
      obtain ⟨V3, cv3, rfl⟩ := ho4.form
      go_roundw
      case rel => exact ⟨j + 1, V3, cv3, by omega, by go_num, by rw [← HM2.out]; go_num, rfl, ho4, hb2.trans (below_grown hg4 ho2.lt hb2.size)⟩
      case measure => simp [intOf]; omega
    · obtain rfl : j = k := by omega
      go_wp2_with fail
      go_ret
      exact ⟨V, cv, rfl, ho, hb⟩

theorem num_drop_step {l : List UInt8} {k : Nat} {x : UInt8} (h : l[k]? = some x) (m : Nat) (hm : k < m) : num ((l.take m).drop k) = x.toNat + 256 * num ((l.take m).drop (k + 1)) := by
  obtain ⟨h1, e1⟩ := List.getElem?_eq_some_iff.1 h
  rw [List.drop_eq_getElem_cons (by rw [List.length_take]; omega), List.getElem_take, e1, num]

set_option maxHeartbeats 1000000 in
theorem rget_any {A : Option Addr} {n c : Nat} {l : List UInt8} {w : World} (ha : Bs w A n c l) (k : Nat) (hk : k ≤ 4) (hkn : k ≤ n) :
    Calls Tryd.prog 43 #[.slice A n c, .int .i64 k] w fun e w' => e = .returned (.int .i64 (num (l.take k))) ∧ w = w' := by
  have hlen := ha.len
  have HL := hide hlen
  clear hlen
  go_enter Tryd.func43, Tryd.ntmps43
  go_wp2_with fail
  go_loop [5, 6] (fun v i => ∃ j : Nat, j ≤ k ∧ i = .int .i64 ((j : Int) - 1) ∧ v = .int .i64 (num ((l.take k).drop j))) (fun _ i => (intOf i + 1).toNat)
  case atStart => exact ⟨k, Nat.le_refl _, by go_num, by rw [List.drop_of_length_le (by rw [List.length_take]; omega)]; rfl⟩
  case round =>
    obtain ⟨j, hj, rfl, rfl⟩ := hrel
    rcases Nat.eq_zero_or_pos j with rfl | hpos
    · go_wp2_with fail
      go_ret
      exact ⟨rfl, rfl⟩
    · obtain ⟨i, rfl⟩ : ∃ i, j = i + 1 := ⟨j - 1, by omega⟩
      obtain ⟨ad, x, rfl, _, hx, hc⟩ := at_byte ha (by omega : i < n)
      have h256 := x.toNat_lt
      have hst := num_drop_step hx k (by omega)
      have hlt := num_lt ((l.take k).drop (i + 1))
      have hpow : 256 ^ ((l.take k).drop (i + 1)).length ≤ 256 ^ 3 := Nat.pow_le_pow_right (by omega) (by rw [List.length_drop, List.length_take]; omega)
      have hb : num ((l.take k).drop (i + 1)) < 16777216 := by omega
      have HST := hide hst
      clear hx hst hlt hpow
      go_wp2_with fail
      go_round
      case rel => exact ⟨i, by omega, rfl, by rw [HST.out]; first | rfl | go_num⟩
      case measure => simp [intOf]

set_option maxHeartbeats 1000000 in
theorem rpart_any {A : Option Addr} {n c : Nat} {l : List UInt8} {w : World} (ha : Bs w A n c l) (hn : n ≤ 255) :
    Calls Tryd.prog 114 #[.slice A n c] w fun e w' => ∃ V cv, e = .returned (.slice V (n + 1) cv) ∧ Ow byteR 1 w' w.heap.size w.heap.size 5 (.slice V (n + 1) cv) (n + 1) (partL l) ∧ Below w.heap.size w w' := by
  obtain ⟨i0, hi0, hz0, hz1, hz2⟩ := info_parts u8_info
  have hl := ha.len
  have ho := own_lit (w := w) (e := 5) (n := 1) (le_len 1 n) (by omega) (cells_le1 n (by omega))
  have hb := alloc_below w (.cells #[.int .u8 (n : Int)] 5)
  have ha1 := ha.on byteR_fine hb
  have he : le 1 n ++ l = partL l := by simp [le, partL, hl]
  have HE := hide he
  clear he hl
  go_enter Tryd.func114, Tryd.ntmps114
  go_wp2_with (at_builtin; go_loud (refine wpList_append_ow _ rfl (.tmp 6) (.tmp 7) _ rfl byteR_fine w.heap.size w.heap.size 5 i0 _ 1 Tryd.underlying58 hi0 hz0 hz1 hz2 rfl (by omega) (.slice (some ⟨w.heap.size, 0, none⟩) 1 1) 1 _ rfl ho _ A n c l rfl ha1 (fun _ _ _ h => h) (by simp only [maxLen]; omega) (by omega) hb.size ?_); intro V2 w2 ho4 hg4 hat4)
  rw [HE.out, Nat.add_comm 1 n] at ho4
  obtain ⟨V3, cv3, rfl⟩ := ho4.form
  go_ret
  exact ⟨V3, cv3, rfl, ho4, hb.trans (below_grown hg4 ho.lt hb.size)⟩

end Go.Proofs.YtamgpbkakmffiaaDoor
