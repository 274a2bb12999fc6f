/-
  Contracts: package xor.
-/
import Derived.Test.YtikjhcfalofgaaaKeep
import Derived.Test.YtikjhcfalofgaaaLit
import Derived.Test.YtikjhcfalofgaaaZRef
import Derived.Test.YtikjhcfalofgaaaMadeZ
namespace Go.Proofs.Ytikjhcfalofgaaa
open Go.RowKit
set_option linter.unusedVariables false
set_option maxRecDepth 100000

set_option maxHeartbeats 400000 in
theorem into_any (base lo : Nat) (A A' : Option Addr) (n c m c' : Nat) (xs ys : List UInt8) (w : World) (S : Nat → Prop) (hm : m = n)
    (ho : Ow byteR 1 w base lo 5 (.slice A n c) n xs) (hb : Sl byteR 1 w S A' m c' ys) (hS : ∀ b, S b → b < base) (hn : n ≤ 65536) :
    Calls Try.prog 57 #[.slice A n c, .slice A' m c'] w fun e w' => e = .returned (.tuple #[]) ∧ Ow byteR 1 w' base lo 5 (.slice A n c) n (zx xs ys) ∧ Below base w w' := by
  have hxl := ho.len
  have hyl := hb.len
  subst hm
  go_enter Try.func57, Try.ntmps57
  go_wp2
  go_loopw [8] (fun i wr => ∃ k : Nat, k ≤ m ∧ i = .int .i64 k ∧ Ow byteR 1 wr base lo 5 (.slice A m c) m (zx (xs.take k) (ys.take k) ++ xs.drop k) ∧ Below base w wr) (fun i _ => m - (intOf i).toNat)
  case atStart => exact ⟨0, Nat.zero_le _, rfl, by simpa [zx] using ho, Below.refl _ _⟩
  case round =>
    obtain ⟨k, hk, rfl, ho1, hb1⟩ := hrel
    by_cases hlt : k < m
    · have hb2 : Sl byteR 1 wr S A' m c' ys := hb.move byteR_fine (fun b hb' => hb1.block b (hS b hb')) (fun _ h => h)
      obtain ⟨ad, y, rfl, hadb, hy, hc⟩ := at_byte hb2 hlt
      obtain ⟨g, x, u, rfl, hg, hgl, hx, hu, hcell, hfr, hst⟩ := ho1.spot byteR_fine hlt
      have hu' : u = .int .u8 (x.toNat : Int) := by injection hu
      subst hu'
      have hst2 := hst (.int .u8 ((x ^^^ y).toNat : Int)) (x ^^^ y) rfl rfl
      have hnx : (zx (xs.take k) (ys.take k) ++ xs.drop k).set k (x ^^^ y) = zx (xs.take (k + 1)) (ys.take (k + 1)) ++ xs.drop (k + 1) := by
        rw [zx_at xs ys k (by omega) (by omega)] at hx
        rw [List.getElem?_eq_getElem (by omega)] at hy
        injection hx with hx
        injection hy with hy
        rw [← hx, ← hy, zx_step xs ys k (by omega) (by omega)]
      rw [hnx, ← xor_u8] at hst2
      clear hst hnx hx hy hu hxl hyl
      go_wp2
      go_roundw
      case rel => exact ⟨k + 1, by omega, by go_num, hst2, hb1.setCell (by exact hg) _⟩
      case measure => simp [intOf]; omega
    · go_wp2
      go_end0
      refine ⟨rfl, ?_, hb1⟩
      rw [List.take_of_length_le (by omega), List.take_of_length_le (by omega), List.drop_of_length_le (by omega), List.append_nil] at ho1
      exact ho1

set_option maxHeartbeats 400000 in
theorem alike_any (N : Int) (A : Option Addr) (n c : Nat) (L : List (List UInt8)) (w : World) (ha : Rs w A n c L) (hn : n ≤ 65536) (hl : ∀ l ∈ L, l.length ≤ 65536) :
    Calls Try.prog 56 #[.int .i64 N, .slice A n c] w fun e w' => e = .returned (.bool (L.all fun l => decide ((l.length : Int) = N))) ∧ w = w' := by
  have HL := hide hl
  clear hl
  go_enter Try.func56, Try.ntmps56
  go_wp2
  go_loop [9] (fun i => ∃ k : Nat, k ≤ n ∧ i = .int .i64 k ∧ (L.take k).all (fun l => decide ((l.length : Int) = N)) = true) (fun i => n - (intOf i).toNat)
  case atStart => exact ⟨0, Nat.zero_le _, rfl, rfl⟩
  case round =>
    obtain ⟨k, hk, rfl, hall⟩ := hrel
    have HALL := hide hall
    clear hall
    by_cases hlt : k < n
    · obtain ⟨ad, l, A1, n1, c1, rfl, _, hx, hs, hcell⟩ := at_row ha hlt
      have hll := hs.len
      subst hll
      have HX := hide hx
      clear hx
      by_cases he : (l.length : Int) = N
      · have h1 : ((l.length : Int) != N) = false := by simp [he]
        have HE := hide he
        clear he
        go_wp2
        go_round
        case rel => exact ⟨k + 1, by omega, by go_num, all_take_step HX.out HALL.out (by simp [HE.out])⟩
        case measure => simp [intOf]; omega
      · have h1 : ((l.length : Int) != N) = true := by simpa using he
        go_wp2
        go_ret
        refine ⟨?_, rfl⟩
        have : L.all (fun l => decide ((l.length : Int) = N)) = false := by
          rw [List.all_eq_false]
          exact ⟨l, List.mem_of_getElem? HX.out, by simp [he]⟩
        rw [this]
        rfl
    · go_wp2
      go_ret
      have h := HALL.out
      rw [List.take_of_length_le (by rw [ha.len]; omega)] at h
      rw [h]
      exact ⟨rfl, rfl⟩

set_option maxHeartbeats 400000 in
theorem all_ok (N : Nat) (A : Option Addr) (n c : Nat) (L : List (List UInt8)) (w : World) (ha : Rs w A n c L) (hn : n ≤ 65536) (hN : N ≤ 96) (hl : ∀ l ∈ L, l.length = N) :
    Calls Try.prog 36 #[.slice A n c, .int .i64 N] w fun e w' => ∃ V cv, e = .returned (.tuple #[.slice V N cv, .int .i64 0]) ∧ Ow byteR 1 w' w.heap.size w.heap.size 5 (.slice V N cv) N (zxs (List.replicate N 0) L) ∧ Below w.heap.size w w' := by
  obtain ⟨i0, hi0, hz0, hz1, hz2⟩ := info_parts u8_info
  have hal : (L.all fun l => decide ((l.length : Int) = (N : Int))) = true := by
    rw [List.all_eq_true]
    intro l hl'
    simp [hl l hl']
  have hmk := run_make_all (P := Try.prog) 29 5 i0 _ 1 1 Try.underlying29 hi0 hz0 hz1 hz2 .i64 .i64 N (by omega) (by omega)
  simp only [Nat.mul_one, Value.cells] at hmk
  have HA := hide hal
  have HL := hide hl
  clear hal hl
  go_enter Try.func36, Try.ntmps36
  go_wp2_with (first
    | (go_at_call 56; refine (alike_any _ _ _ _ L _ ha hn (by intro l hl; rw [HL.out l hl]; omega)).mono ?_; rintro e w' ⟨rfl, rfl⟩; rw [HA.out]))
  go_loopw [25] (fun i wr => ∃ k : Nat, k ≤ n ∧ i = .int .i64 k ∧ Ow byteR 1 wr w.heap.size w.heap.size 5 (.slice (some ⟨w.heap.size, 0, none⟩) N N) N (zxs (List.replicate N 0) (L.take k)) ∧ Below w.heap.size w wr) (fun i _ => n - (intOf i).toNat)
  case atStart => exact ⟨0, Nat.zero_le _, rfl, made_zero w _ N (by omega), (Below.refl _ _).alloc (Nat.le_refl _) _⟩
  case round =>
    obtain ⟨k, hk, rfl, ho, hb⟩ := hrel
    by_cases hlt : k < n
    · have har : Sl (slR byteR 1) 1 wr (Old w) A n c L := ha.move bytesR_fine (fun b hb' => hb.block b hb') (fun _ h => h)
      obtain ⟨ad, l, A1, n1, c1, rfl, _, hx, hs, hcell⟩ := at_row har hlt
      have hn1 : n1 = N := by rw [← hs.len]; exact HL.out l (List.mem_of_getElem? hx)
      subst hn1
      have hnext := zxs_step (o := List.replicate n1 0) hx
      have HN := hide hnext
      clear hx hnext
      go_wp2_with (go_at_call 57; refine (into_any _ _ _ _ _ _ _ _ _ l _ (Old w) rfl ho hs (fun _ h => h) (by omega)).mono ?_; rintro e w2 ⟨rfl, ho2, hb2⟩)
      rw [HN.out] at ho2
      go_roundw
      case rel => exact ⟨k + 1, by omega, by go_num, ho2, hb.trans hb2⟩
      case measure => simp [intOf]; omega
    · go_wp2
      go_ret2
      rw [List.take_of_length_le (by rw [ha.len]; omega)] at ho
      exact ⟨_, _, rfl, ho, hb⟩

theorem all_arg_aux (N : Int) (h : N < 0 ∨ 96 < N) : (decide (N < 0) || decide (96 < N)) = true := by
  simp; omega

set_option maxHeartbeats 400000 in
theorem all_arg (N : Int) (V : Value) (w : World) (h : N < 0 ∨ 96 < N) :
    Calls Try.prog 36 #[V, .int .i64 N] w fun e w' => e = .returned (.tuple #[.slice none 0 0, .int .i64 1]) ∧ w = w' := by
  rcases h with h | h
  · go_enter Try.func36, Try.ntmps36
    go_wp2
    go_ret2
    exact ⟨rfl, rfl⟩
  · have h0 : ¬ N < 0 := by omega
    go_enter Try.func36, Try.ntmps36
    go_wp2
    go_ret2
    exact ⟨rfl, rfl⟩

set_option maxHeartbeats 400000 in
theorem all_len (N : Nat) (A : Option Addr) (n c : Nat) (L : List (List UInt8)) (w : World) (ha : Rs w A n c L) (hn : n ≤ 65536) (hN : N ≤ 96) (hll : ∀ l ∈ L, l.length ≤ 65536) (hl : ¬ ∀ l ∈ L, l.length = N) :
    Calls Try.prog 36 #[.slice A n c, .int .i64 N] w fun e w' => e = .returned (.tuple #[.slice none 0 0, .int .i64 2]) ∧ w = w' := by
  have hal : (L.all fun l => decide ((l.length : Int) = (N : Int))) = false := by
    rw [List.all_eq_false]
    apply Classical.byContradiction
    intro hno
    refine hl fun l hl' => Classical.byContradiction fun hne => hno ⟨l, hl', ?_⟩
    simp; omega
  have HA := hide hal
  have HL := hide hll
  have HH := hide hl
  clear hal hll hl
  go_enter Try.func36, Try.ntmps36
  go_wp2_with (first
    | (go_at_call 56; refine (alike_any _ _ _ _ L _ ha hn HL.out).mono ?_; rintro e w' ⟨rfl, rfl⟩; rw [HA.out]))
  go_ret2
  exact ⟨rfl, rfl⟩

end Go.Proofs.Ytikjhcfalofgaaa
