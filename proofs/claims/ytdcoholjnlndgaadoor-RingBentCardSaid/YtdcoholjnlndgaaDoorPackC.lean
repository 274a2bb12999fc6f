/-
  Contracts: slices.Grow (of nil), slices.Concat, pack.Put.
-/
import Derived.Test.YtdcoholjnlndgaaDoorPack
import Derived.Test.YtdcoholjnlndgaaDoorLit
import Derived.Lib.AppendZeros
import Derived.Lib.AppendZerosOnto
namespace Go.Proofs.YtdcoholjnlndgaaDoor
open Go.RowKit
set_option linter.unusedVariables false
set_option maxRecDepth 100000

set_option maxHeartbeats 1000000 in
theorem grow_nil (n : Nat) (w : World) (hn : n ≤ 65536) :
    Calls Tryd.prog 75 #[.slice none 0 0, .int .i64 n] w fun e w' => ∃ A c, e = .returned (.slice A 0 c) ∧ Ow byteR 1 w' w.heap.size w.heap.size 5 (.slice A 0 c) 0 [] ∧ Below w.heap.size w w' := by
  obtain ⟨i0, hi0, hz0, hz1, hz2⟩ := info_parts u8_info
  rcases Nat.eq_zero_or_pos n with rfl | hpos
  · go_enter Tryd.func75, Tryd.ntmps75
    go_wp2
    go_ret
    exact ⟨none, 0, rfl, Ow.nil_ _ _ _ _, Below.refl _ _⟩
  · have hG := grownCap_ge w n 0 5
    have hG2 := grownCap_le_maxLen w n 0 5 (by simp only [maxLen]; omega)
    have hrz : ∀ ty, (Builtin.append_ #[54, 3] ty #[.slice none 0 0, .int .i64 (n : Int)]).run Tryd.prog w =
        .ok (.slice (some ⟨w.heap.size, 0, none⟩) n (grownCap w n 0 5)) (w.drew.alloc (.cells (Builtin.zeroCells #[.int .u8 0] n ++ Builtin.zeroCells #[.int .u8 0] (grownCap w n 0 5 - n)) 5)) := fun ty => by
      have h := Lib.run_append_grow_zeros (P := Tryd.prog) w 54 3 ty 5 i0 _ .i64 .i64 Tryd.underlying54 Tryd.underlying3 hi0 hz0 none 0 0 [] (run_firstCells_none w.drew i0.size 0 0 0) n hpos (by omega) (by omega) (by omega) (by rw [hz2]; omega)
        (growslice_fits (by omega) (by rw [hz2]; omega))
      simpa [Value.cells] using h
    obtain ⟨G, hGe⟩ : ∃ G, G = grownCap w n 0 5 := ⟨_, rfl⟩
    rw [← hGe] at hrz hG hG2
    have ho : Ow byteR 1 (w.drew.alloc (.cells (Builtin.zeroCells #[.int .u8 0] n ++ Builtin.zeroCells #[.int .u8 0] (G - n)) 5)) w.heap.size w.heap.size 5 (.slice (some ⟨w.heap.size, 0, none⟩) 0 G) 0 [] :=
      ⟨rfl, [], World.ownsRow_made w.drew _ G (Nat.le_refl _) hG2 (by simp [size_zeroCells]; omega), by simp, fun i x hx => by simp at hx⟩
    have hG63 : G ≤ 9223372036854775807 := by unfold maxLen at hG2; omega
    have HR := hide hrz
    clear hGe hG2 hrz
    go_enter Tryd.func75, Tryd.ntmps75
    go_wp2_with (at_builtin; refine Lib.wpList_append_run _ rfl _ _ _ _ rfl _ _ rfl rfl _ _ (HR.out _) ?_)
    go_ret
    exact ⟨_, _, rfl, ho, ((Below.refl _ _).drew).alloc (Nat.le_refl _) _⟩

/-- How many there are in a row of rows. -/
def total (L : List (List UInt8)) : Nat := L.flatten.length
theorem total_step {L : List (List UInt8)} {k : Nat} {x : List UInt8} (h : L[k]? = some x) : total (L.take (k + 1)) = total (L.take k) + x.length := by
  obtain ⟨h1, e1⟩ := List.getElem?_eq_some_iff.1 h
  unfold total
  rw [List.take_succ_eq_append_getElem h1, e1]
  simp
theorem flatten_step {L : List (List UInt8)} {k : Nat} {x : List UInt8} (h : L[k]? = some x) : (L.take k).flatten ++ x = (L.take (k + 1)).flatten := by
  obtain ⟨h1, e1⟩ := List.getElem?_eq_some_iff.1 h
  rw [List.take_succ_eq_append_getElem h1, e1]
  simp
theorem total_le (L : List (List UInt8)) (k : Nat) : total (L.take k) ≤ total L := by
  have h : L.flatten = (L.take k).flatten ++ (L.drop k).flatten := by rw [← List.flatten_append, List.take_append_drop]
  unfold total
  rw [h, List.length_append]
  omega

set_option maxHeartbeats 1000000 in
theorem concat_any (A : Option Addr) (m c : Nat) (L : List (List UInt8)) (w : World) (ha : Rs w A m c L) (hm : m ≤ 65536) (ht : total L ≤ 65536) :
    Calls Tryd.prog 73 #[.slice A m c] w fun e w' => ∃ V cv, e = .returned (.slice V (total L) cv) ∧ Ow byteR 1 w' w.heap.size w.heap.size 5 (.slice V (total L) cv) (total L) L.flatten ∧ Below w.heap.size w w' := by
  obtain ⟨i0, hi0, hz0, hz1, hz2⟩ := info_parts u8_info
  have hll := ha.len
  have HLL := hide hll
  clear hll
  go_enter Tryd.func73, Tryd.ntmps73
  go_wp2_with fail
  go_loop [3, 11] (fun s i => ∃ k : Nat, k ≤ m ∧ i = .int .i64 k ∧ s = .int .i64 (total (L.take k))) (fun _ i => m - (intOf i).toNat)
  case atStart => exact ⟨0, Nat.zero_le _, rfl, rfl⟩
  case round =>
    obtain ⟨k, hk, rfl, rfl⟩ := hrel
    have htk := total_le L k
    by_cases hlt : k < m
    · obtain ⟨ad, l, A1, n1, c1, rfl, _, hx, hs, hcell⟩ := at_row ha hlt
      have hstep := total_step hx
      have htk1 := total_le L (k + 1)
      rw [hs.len] at hstep
      have hn1 : n1 ≤ 65536 := by omega
      have HS := hide hstep
      clear hx hstep
      have b1 : ¬ ((total (L.take k) : Int) + (n1 : Int) < 0) := by omega
      go_wp2_with fail
      go_round
      case rel => exact ⟨k + 1, by omega, by go_num, by rw [HS.out]; go_num⟩
      case measure => simp [intOf]; omega
    · obtain rfl : k = m := by omega
      rw [List.take_of_length_le (by rw [HLL.out]; omega)]
      clear htk
      go_wp2_with fail
      refine (grow_nil (total L) w ht).mono ?_
      rintro e w1 ⟨V1, c1, rfl, ho1, hb1⟩
      go_wp2_with fail
      go_loopw [6, 27] (fun v i wr => ∃ j : Nat, ∃ V cv, j ≤ k ∧ i = .int .i64 j ∧ v = .slice V (total (L.take j)) cv ∧ Ow byteR 1 wr w.heap.size w.heap.size 5 (.slice V (total (L.take j)) cv) (total (L.take j)) (L.take j).flatten ∧ Below w.heap.size w wr) (fun _ i _ => k - (intOf i).toNat)
      case atStart => exact ⟨0, _, _, Nat.zero_le _, rfl, rfl, ho1, hb1⟩
      case round =>
        obtain ⟨j, V, cv, hj, rfl, rfl, ho, hb⟩ := hrel
        have htj := total_le L j
        by_cases hlt2 : j < k
        · have har := ha.on bytesR_fine hb
          obtain ⟨ad, l, A1, n1, c1', rfl, _, hx, hs, hcell⟩ := at_row har hlt2
          have hstep := total_step hx
          have hflat := flatten_step hx
          have htj1 := total_le L (j + 1)
          rw [hs.len] at hstep
          have HS := hide hstep
          have HF := hide hflat
          have hsum : total (L.take j) + n1 ≤ 65536 := by omega
          clear hx hstep hflat htj1
          go_wp2_with (at_builtin; go_loud (refine wpList_append_ow _ rfl (.tmp 31) (.tmp 32) _ rfl byteR_fine w.heap.size w.heap.size 5 i0 _ 1 Tryd.underlying54 hi0 hz0 hz1 hz2 rfl (by omega) (.slice V (total (L.take j)) cv) (total (L.take j)) _ rfl ho _ A1 n1 c1' l rfl hs (fun _ _ _ h => h) (by simp only [maxLen]; omega) (by omega) hb.size ?_); intro V2 w2 ho4 hg4 hat4)
          rw [HF.out, ← HS.out] at ho4
          obtain ⟨V3, cv3, rfl⟩ := ho4.form
          go_roundw
          case rel => exact ⟨j + 1, V3, cv3, by omega, by go_num, rfl, ho4, hb.trans (below_grown hg4 ho.lt hb.size)⟩
          case measure => simp [intOf]; omega
        · obtain rfl : j = k := by omega
          rw [List.take_of_length_le (by rw [HLL.out]; omega)] at ho
          rw [List.take_of_length_le (by rw [HLL.out]; omega)]
          go_wp2_with fail
          go_ret
          exact ⟨V, cv, rfl, ho, hb⟩

theorem put_none {A : Option Addr} {n c : Nat} {w : World} (N size : Int) (h : ¬ FitsP N size) :
    Calls Tryd.prog 69 #[.slice A n c, .int .i64 N, .int .i64 size] w fun e w' => e = .returned (.tuple #[.slice none 0 0, .int .i64 1]) ∧ w = w' := by
  have HS := hide (sized_none N size w h)
  clear h
  go_enter Tryd.func69, Tryd.ntmps69
  go_wp2_with fail
  refine (unhide HS).mono ?_
  rintro e w' ⟨rfl, rfl⟩
  go_wp2_with fail
  go_ret2
  exact ⟨rfl, rfl⟩

theorem flat_two (a b : List UInt8) : [a, b].flatten = a ++ b := by simp
theorem total_two (a b : List UInt8) : total [a, b] = a.length + b.length := by simp [total]

/-- Two slices, one behind the other. -/
theorem concat_two {A A' : Option Addr} {n c n' c' N : Nat} {xs ys : List UInt8} {w : World} (hN : w.heap.size = N) (ha : Bs w A n c xs) (hb : Bs w A' n' c' ys) (hn : n + n' ≤ 65536) :
    Calls Tryd.prog 73 #[.slice (some ⟨N, 0, none⟩) 2 2] (w.alloc (.cells #[.slice A n c, .slice A' n' c'] 54)) fun e w' =>
      ∃ V cv, e = .returned (.slice V (n + n') cv) ∧ Ow byteR 1 w' w.heap.size w.heap.size 5 (.slice V (n + n') cv) (n + n') (xs ++ ys) ∧ Below w.heap.size w w' := by
  have ht : total [xs, ys] = n + n' := by rw [total_two, ha.len, hb.len]
  have h := concat_any (some ⟨N, 0, none⟩) 2 2 [xs, ys] (w.alloc (.cells #[.slice A n c, .slice A' n' c'] 54)) (lit_two_at _ hN ha hb) (by omega) (by omega)
  refine h.mono fun e w' ⟨V, cv, he, ho, hbl⟩ => ?_
  rw [ht] at he ho
  rw [flat_two] at ho
  exact ⟨V, cv, he, ho.less byteR_fine (by simp) (by simp), th (alloc_below w _) hbl⟩

set_option maxHeartbeats 1000000 in
theorem put_ok {A : Option Addr} {n c : Nat} {xs : List UInt8} {w : World} (ha : Bs w A n c xs) (hn : n ≤ 60000) (N size : Int) (h : FitsP N size) :
    Calls Tryd.prog 69 #[.slice A n c, .int .i64 N, .int .i64 size] w fun e w' => ∃ V cv, e = .returned (.tuple #[.slice V (n + size.toNat) cv, .int .i64 0]) ∧ Ow byteR 1 w' w.heap.size w.heap.size 5 (.slice V (n + size.toNat) cv) (n + size.toNat) (xs ++ le size.toNat N.toNat) ∧ Below w.heap.size w w' := by
  have HS := hide (sized_ok N size w h)
  obtain ⟨hs, h0, h1⟩ := id h
  obtain ⟨M, rfl⟩ : ∃ M : Nat, N = (M : Int) := ⟨N.toNat, by omega⟩
  have hh := hide h
  clear h0
  rw [Int.toNat_natCast]
  rcases hs with rfl | rfl | rfl
  · have hM : M < 256 := Int.ofNat_lt.1 (by simpa using h1)
    rw [sized_8 (unhide hh)] at HS
    clear h h1 hh
    go_enter Tryd.func69, Tryd.ntmps69
    go_wp2_with fail
    refine (unhide HS).mono ?_
    rintro e w' ⟨rfl, rfl⟩
    go_wp2_with fail
    refine (bytesOf_8 M w hM).mono ?_
    rintro e w1 ⟨V1, c1, rfl, ho1, hb1⟩
    go_wp2_with fail
    refine (concat_two (N := w1.heap.size) rfl (ha.on byteR_fine hb1) (ho1.read byteR_fine) (by omega)).mono ?_
    rintro e w2 ⟨V2, c2, rfl, ho2, hb2⟩
    go_wp2_with fail
    go_ret2
    exact ⟨V2, c2, rfl, ho2.less byteR_fine hb1.size hb1.size, th hb1 hb2⟩
  · have hM : M < 65536 := Int.ofNat_lt.1 (by simpa using h1)
    rw [sized_16 (unhide hh)] at HS
    clear h h1 hh
    go_enter Tryd.func69, Tryd.ntmps69
    go_wp2_with fail
    refine (unhide HS).mono ?_
    rintro e w' ⟨rfl, rfl⟩
    go_wp2_with fail
    refine (bytesOf_16 M w hM).mono ?_
    rintro e w1 ⟨V1, c1, rfl, ho1, hb1⟩
    go_wp2_with fail
    refine (concat_two (N := w1.heap.size) rfl (ha.on byteR_fine hb1) (ho1.read byteR_fine) (by omega)).mono ?_
    rintro e w2 ⟨V2, c2, rfl, ho2, hb2⟩
    go_wp2_with fail
    go_ret2
    exact ⟨V2, c2, rfl, ho2.less byteR_fine hb1.size hb1.size, th hb1 hb2⟩
  · have hM : M < 4294967296 := Int.ofNat_lt.1 (by simpa using h1)
    rw [sized_32 (unhide hh)] at HS
    clear h h1 hh
    go_enter Tryd.func69, Tryd.ntmps69
    go_wp2_with fail
    refine (unhide HS).mono ?_
    rintro e w' ⟨rfl, rfl⟩
    go_wp2_with fail
    refine (bytesOf_32 M w hM).mono ?_
    rintro e w1 ⟨V1, c1, rfl, ho1, hb1⟩
    go_wp2_with fail
    refine (concat_two (N := w1.heap.size) rfl (ha.on byteR_fine hb1) (ho1.read byteR_fine) (by omega)).mono ?_
    rintro e w2 ⟨V2, c2, rfl, ho2, hb2⟩
    go_wp2_with fail
    go_ret2
    exact ⟨V2, c2, rfl, ho2.less byteR_fine hb1.size hb1.size, th hb1 hb2⟩

end Go.Proofs.YtdcoholjnlndgaaDoor
