/-
  Contracts: casematelaw03.wakes; the walks of the laws.
-/
import Derived.Test.YtagkangpplkohaaRef3b
namespace Go.Proofs.Ytagkangpplkohaa
open Go.RowKit
set_option linter.unusedVariables false

set_option maxHeartbeats 400000 in
theorem wakes3 (w : World) : Calls Try.prog 15 #[] w fun e w' => e = .returned (.bool true) ∧ Below w.heap.size w w' := by
  have b5 : Bs (w.alloc (.cells #[.int .u8 5] 5)) (some ⟨w.heap.size, 0, none⟩) 1 1 [5] := lit_bytes_at rfl rfl (by omega) rfl
  have b3 : Bs ((w.alloc (.cells #[.int .u8 5] 5)).alloc (.cells #[.int .u8 3] 5)) (some ⟨w.heap.size + 1, 0, none⟩) 1 1 [3] := lit_bytes_at (by simp) rfl (by omega) rfl
  have b5' := b5.on byteR_fine (alloc_below _ (.cells #[.int .u8 3] 5))
  have hb2 : Below w.heap.size w ((w.alloc (.cells #[.int .u8 5] 5)).alloc (.cells #[.int .u8 3] 5)) := (alloc_below w _).trans ((alloc_below _ _).mono (alloc_below w _).size)
  go_enter Try.func15, Try.ntmps15
  go_wp2_with (go_at_call 13; refine (two_ok _ _ _ _ _ _ [5] [3] _ rfl b5' b3 (by simp)).mono ?_; rintro e w1 ⟨V, cv, rfl, ho, hb3⟩)
  have c3 : Bs (w1.alloc (.cells #[.int .u8 3] 5)) (some ⟨w1.heap.size, 0, none⟩) 1 1 [3] := lit_bytes_at rfl rfl (by omega) rfl
  have hl : Rs ((w1.alloc (.cells #[.int .u8 3] 5)).alloc (.cells #[.slice none 0 0, .slice (some ⟨w1.heap.size, 0, none⟩) 1 1] 22)) (some ⟨w1.heap.size + 1, 0, none⟩) 2 2 [[], [3]] := lit_two_at _ (by simp) (Sl.nil_ 0) c3
  have hl' := hl.on bytesR_fine (alloc_below _ (.cells #[.int .u8 6] 5))
  have c6 : Bs (((w1.alloc (.cells #[.int .u8 3] 5)).alloc (.cells #[.slice none 0 0, .slice (some ⟨w1.heap.size, 0, none⟩) 1 1] 22)).alloc (.cells #[.int .u8 6] 5)) (some ⟨w1.heap.size + 1 + 1, 0, none⟩) 1 1 [6] := lit_bytes_at (by simp) rfl (by omega) rfl
  have hb4 : Below w1.heap.size w1 (((w1.alloc (.cells #[.int .u8 3] 5)).alloc (.cells #[.slice none 0 0, .slice (some ⟨w1.heap.size, 0, none⟩) 1 1] 22)).alloc (.cells #[.int .u8 6] 5)) := (((Below.refl _ _).alloc (Nat.le_refl _) _).alloc (by simp) _).alloc (by simp; omega) _
  have hall : AllBut [[], [3]] 0 1 := by
    intro i l hx hne
    match i, hne with
    | 1, _ => simp at hx; subst hx; rfl
    | (j + 2), _ => simp at hx
  have HA := hide hall
  clear hall
  refine (rest_any _ _ 1 _ 2 _ 0 [[], [3]] [6] _ hl' c6 (by omega) (by omega) (by omega)).mono ?_
  rintro e w2 ⟨hb5, h | h⟩
  · obtain ⟨_, V2, cv2, rfl, ho2⟩ := h
    have hr1 := (ho.read byteR_fine).on byteR_fine (hb4.trans (hb5.mono hb4.size))
    have hr2 := ho2.read byteR_fine
    obtain ⟨ad, x, rfl, _, hx, hxc⟩ := at_byte hr1 (by omega : 0 < 1)
    obtain ⟨bd, y, rfl, _, hy, hyc⟩ := at_byte hr2 (by omega : 0 < 1)
    obtain rfl : x = 6 := by simp [zx] at hx; rw [← hx]; decide
    obtain rfl : y = 5 := by simp [zxs, zx] at hy; rw [← hy]; decide
    rw [add_zero'] at hxc hyc
    clear hx hy
    go_wp2
    go_ret
    exact ⟨rfl, th (th hb2 hb3) (th hb4 hb5)⟩
  · exact absurd HA.out h.1

theorem zx_comm (a b : List UInt8) : zx a b = zx b a := by
  unfold zx
  rw [List.zipWith_comm]
  congr
  funext x y
  exact UInt8.xor_comm _ _
theorem zx_back (a b : List UInt8) (h : b.length = a.length) : zx (zx a b) b = a := by
  unfold zx
  apply List.ext_getElem
  · simp; omega
  · intro i h1 h2
    simp [UInt8.xor_assoc]
theorem zx_self (a : List UInt8) : zx a a = List.replicate a.length 0 := by
  unfold zx
  apply List.ext_getElem
  · simp
  · intro i h1 h2
    simp

set_option maxHeartbeats 1000000 in
theorem law_xorTwos {A B : Option Addr} {n c m d : Nat} {xs ys : List UInt8} {w : World} (ha : Bs w A n c xs) (hb : Bs w B m d ys) :
    Calls Try.prog 3 #[.slice A n c, .slice B m d] w fun e w' => e = .returned (.bool true) ∧ Below w.heap.size w w' := by
  by_cases h200 : 200 < n
  · go_enter Try.func3, Try.ntmps3
    go_wp2_with fail
    go_ret
    exact ⟨rfl, Below.refl _ _⟩
  by_cases hmn : m = n
  · subst hmn
    have hla := ha.len
    have hlb := hb.len
    have e1 := zx_comm xs ys
    have e2 := zx_back xs ys (by omega)
    have e3 := zx_self xs
    rw [hla] at e3
    have E1 := hide e1
    have E2 := hide e2
    have E3 := hide e3
    have hml : m ≤ 65536 := by omega
    obtain ⟨i0, hi0, hz0, hz1, hz2⟩ := info_parts u8_info
    have hmk := run_make_all (P := Try.prog) 22 5 i0 _ 1 1 Try.underlying22 hi0 hz0 hz1 hz2 .i64 .i64 m (by omega) (by omega)
    simp only [Nat.mul_one, Value.cells] at hmk
    clear e1 e2 e3 hla hlb
    go_enter Try.func3, Try.ntmps3
    go_wp2_with fail
    refine (two_ok _ _ _ _ _ _ xs ys _ rfl ha hb hml).mono ?_
    rintro e w1 ⟨V1, c1, rfl, ho1, hb1⟩
    have ha1 := ha.on byteR_fine hb1
    have hb1' := hb.on byteR_fine hb1
    go_wp2_with fail
    refine (two_ok _ _ _ _ _ _ ys xs _ rfl hb1' ha1 hml).mono ?_
    rintro e w2 ⟨V2, c2, rfl, ho2, hb2⟩
    have ho1' := (ho1.read byteR_fine).on byteR_fine hb2
    go_wp2_with fail
    refine (two_ok _ _ _ _ _ _ (zx xs ys) ys _ rfl ho1' (hb1'.on byteR_fine hb2) hml).mono ?_
    rintro e w3 ⟨V3, c3, rfl, ho3, hb3⟩
    have ha3 := ha.on byteR_fine (th (th hb1 hb2) hb3)
    go_wp2_with fail
    refine (two_ok _ _ _ _ _ _ xs xs _ rfl ha3 ha3 hml).mono ?_
    rintro e w4 ⟨V4, c4, rfl, ho4, hb4⟩
    have r1 := ho1'.on byteR_fine (th hb3 hb4)
    have r2 := (ho2.read byteR_fine).on byteR_fine (th hb3 hb4)
    have r3 := (ho3.read byteR_fine).on byteR_fine hb4
    have r4 := ho4.read byteR_fine
    have ra := ha3.on byteR_fine hb4
    rw [← E1.out] at r2
    rw [E2.out] at r3
    rw [E3.out] at r4
    go_wp2_with fail
    refine (bytes_same _ r1 r2 hml).mono ?_
    rintro e w5 ⟨rfl, hb5⟩
    go_wp2_with fail
    refine (bytes_same _ (r3.on byteR_fine hb5) (ra.on byteR_fine hb5) hml).mono ?_
    rintro e w6 ⟨rfl, hb6⟩
    go_wp2_with fail
    refine (bytes_same _ ((r4.on byteR_fine (th hb5 hb6)).on byteR_fine (alloc_below _ _)) ((made_zero w6 5 m hml).read byteR_fine) hml).mono ?_
    rintro e w7 ⟨rfl, hb7⟩
    go_wp2_with fail
    refine (wakes3 _).mono ?_
    rintro e w8 ⟨rfl, hb8⟩
    go_wp2_with fail
    go_ret
    exact ⟨rfl, th (th (th (th hb1 hb2) (th hb3 hb4)) (th hb5 hb6)) (th (alloc_below _ _) (th hb7 hb8))⟩
  · have hne : ((m : Int) != (n : Int)) = true := by simp; omega
    go_enter Try.func3, Try.ntmps3
    go_wp2_with fail
    go_ret
    exact ⟨rfl, Below.refl _ _⟩

end Go.Proofs.Ytagkangpplkohaa
