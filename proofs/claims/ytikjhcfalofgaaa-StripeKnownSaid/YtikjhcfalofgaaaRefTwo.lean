/-
  Contracts: casemateref01.Two.
-/
import Derived.Test.YtikjhcfalofgaaaKeep
import Derived.Test.YtikjhcfalofgaaaZRef
import Derived.Deep.RegionHeld3
namespace Go.Proofs.Ytikjhcfalofgaaa
open Go.RowKit
set_option linter.unusedVariables false

set_option maxHeartbeats 400000 in
theorem rtwo_any (A A' : Option Addr) (n c m c' : Nat) (xs ys : List UInt8) (w : World) (ha : Bs w A n c xs) (hb : Bs w A' m c' ys) (hn : n ≤ 65536) (hm : m = n) :
    Calls Try.prog 45 #[.slice A n c, .slice A' m c'] w fun e w' => ∃ V cv, e = .returned (.slice V n cv) ∧ Ow byteR 1 w' w.heap.size w.heap.size 5 (.slice V n cv) n (zx xs ys) ∧ Below w.heap.size w w' := by
  obtain ⟨i0, hi0, hz0, hz1, hz2⟩ := info_parts u8_info
  have hxl := ha.len
  have hyl := hb.len
  subst hm
  have HX := hide hxl
  have HY := hide hyl
  clear hxl hyl
  go_enter Try.func45, Try.ntmps45
  go_wp2
  go_loopw [5, 6] (fun v i wr => ∃ k : Nat, k ≤ m ∧ i = .int .i64 k ∧ Ow byteR 1 wr w.heap.size w.heap.size 5 v k (zx (xs.take k) (ys.take k)) ∧ Below w.heap.size w wr) (fun _ i _ => m - (intOf i).toNat)
  case atStart => exact ⟨0, Nat.zero_le _, rfl, by simpa [zx] using Ow.nil_ _ _ _ _, Below.refl _ _⟩
  case round =>
    obtain ⟨k, hk, rfl, ho, hb1⟩ := hrel
    by_cases hlt : k < m
    · obtain ⟨ad, x, rfl, hadl, hx, hxw⟩ := at_byte ha hlt
      obtain ⟨bd, y, rfl, hbdl, hy, hyw⟩ := at_byte hb hlt
      have hxc := below_cell hb1 hadl hxw
      have hyc := below_cell hb1 hbdl hyw
      obtain ⟨V0, c0, rfl⟩ := ho.form
      have hb3 : Below w.heap.size w (wr.alloc (.cells #[.int .u8 ((x ^^^ y).toNat : Int)] 5)).drew := (hb1.alloc hb1.size _).drew
      have ho3 := (ho.alloc byteR_fine (.cells #[.int .u8 ((x ^^^ y).toNat : Int)] 5)).drew byteR_fine
      have hs3 : Sl byteR 1 (wr.alloc (.cells #[.int .u8 ((x ^^^ y).toNat : Int)] 5)).drew (fun _ => True) (some ⟨wr.heap.size, 0, none⟩) 1 1 [x ^^^ y] := (lit_plain (R := byteR) rfl trivial).drew byteR_fine
      have hnext : zx (xs.take k) (ys.take k) ++ [x ^^^ y] = zx (xs.take (k + 1)) (ys.take (k + 1)) := by
        obtain ⟨h1, e1⟩ := List.getElem?_eq_some_iff.1 hx
        obtain ⟨h2, e2⟩ := List.getElem?_eq_some_iff.1 hy
        rw [List.take_succ_eq_append_getElem h1, List.take_succ_eq_append_getElem h2, e1, e2]
        unfold zx
        rw [List.zipWith_append (by simp; omega)]
        rfl
      have HN := hide hnext
      clear hnext hx hy
      rw [← xor_u8] at hb3 ho3 hs3
      have hk0 : (0 : Int) ≤ (k : Int) := Int.natCast_nonneg _
      have hk1 : (k : Int) < (m : Int) := by omega
      go_wp2
      go_region_held3 (fun w' => w'.cell? (ad.add k) = some (.int .u8 (x.toNat : Int)) ∧ w'.cell? (bd.add k) = some (.int .u8 (y.toNat : Int))) (first | go_keep | exact ⟨below_cell hb4 hadl hxw, below_cell hb4 hbdl hyw⟩) ((refine step_append_ow _ (by rfl) _ _ _ (by rfl) byteR_fine w.heap.size w.heap.size 5 i0 _ 1 Try.underlying29 hi0 hz0 hz1 hz2 rfl (by omega) (.slice V0 k c0) k _ (by rfl) ho3 _ _ 1 1 _ (by rfl) hs3 (fun _ _ _ h => h) (by simp only [maxLen]; omega) (by omega) hb3.size ?_; intro V1 w2 ho4 hg4 hat4; have hb4 := hb3.trans (below_grown hg4 ho3.lt hb3.size)))
      rw [HN.out] at ho4
      go_wp2
      go_roundw
      case rel => exact ⟨k + 1, by omega, by go_num, ho4, hb4⟩
      case measure => simp [intOf]; omega
    · go_wp2
      go_ret
      rw [List.take_of_length_le (by rw [HX.out]; omega), List.take_of_length_le (by rw [HY.out]; omega)] at ho
      obtain rfl : k = m := by omega
      obtain ⟨V, cv, rfl⟩ := ho.form
      exact ⟨V, cv, rfl, ho, hb1⟩

end Go.Proofs.Ytikjhcfalofgaaa
