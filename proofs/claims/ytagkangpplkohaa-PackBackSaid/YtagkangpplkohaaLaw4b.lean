/-
  The walk of the law casematelaw04.PackBack.
-/
import Derived.Test.YtagkangpplkohaaLaw4
import Derived.Deep.DeepCutAuto
namespace Go.Proofs.Ytagkangpplkohaa
open Go.RowKit
set_option linter.unusedVariables false

set_option maxHeartbeats 2000000 in
set_option maxRecDepth 100000 in
theorem law_packBack {A : Option Addr} {n c : Nat} {xs : List UInt8} {w : World} (ha : Bs w A n c xs) (N : Int) (hN : InI N) (size : Int) (hsize : InI size) {B : Option Addr} {m d : Nat} {ys : List UInt8} (hb : Bs w B m d ys) :
    Calls Try.prog 11 #[.slice A n c, .int .i64 N, .int .i64 size, .slice B m d] w fun e w' => e = .returned (.bool true) ∧ Below w.heap.size w w' := by
  by_cases h255 : 255 < n
  · have e1 : decide (255 < (n : Int)) = true := by simp; omega
    go_enter Try.func11, Try.ntmps11
    go_wp2_with fail
    go_ret
    exact ⟨rfl, Below.refl _ _⟩
  have e1 : decide (255 < (n : Int)) = false := by simp; omega
  by_cases h400 : 400 < m
  · have e2 : decide (400 < (m : Int)) = true := by simp; omega
    go_enter Try.func11, Try.ntmps11
    go_wp2_with fail
    go_ret
    exact ⟨rfl, Below.refl _ _⟩
  have e2 : decide (400 < (m : Int)) = false := by simp; omega
  obtain ⟨i0, hi0, hz0, hz1, hz2⟩ := info_parts u8_info
  have hn255 : n ≤ 255 := by omega
  have hm400 : m ≤ 400 := by omega
  have hxl := ha.len
  have HXL := hide hxl
  have hpx : (UInt8.ofNat xs.length).toNat = n := by rw [UInt8.toNat_ofNat']; omega
  have hpl : partL xs ++ ys = UInt8.ofNat xs.length :: (xs ++ ys) := rfl
  have hpt : (xs ++ ys).take (UInt8.ofNat xs.length).toNat = xs := by rw [hpx, ← hxl, List.take_left]
  have hpd : (xs ++ ys).drop (UInt8.ofNat xs.length).toNat = ys := by rw [hpx, ← hxl, List.drop_left]
  have HPX := hide hpx
  have HPL := hide hpl
  have HPT := hide hpt
  have HPD := hide hpd
  clear h255 h400 hxl hpx hpl hpt hpd
  by_cases hf : FitsP N size
  · have hs124 := hf.1
    have h0 := hf.2.1
    have hlt := hf.2.2
    have hS : ∃ S : Nat, size = (S : Int) ∧ (S = 1 ∨ S = 2 ∨ S = 4) := by
      rcases hs124 with h | h | h
      · exact ⟨1, h, by omega⟩
      · exact ⟨2, h, by omega⟩
      · exact ⟨4, h, by omega⟩
    obtain ⟨S, rfl, hS124⟩ := hS
    obtain ⟨M, rfl⟩ : ∃ M : Nat, N = (M : Int) := ⟨N.toNat, by omega⟩
    have hM : M < 256 ^ S := by
      rw [Int.toNat_natCast] at hlt
      exact Int.ofNat_lt.1 (by rw [Int.natCast_pow]; exact hlt)
    have hp := put_ok ha (by omega) (M : Int) (S : Int) hf
    rw [Int.toNat_natCast, Int.toNat_natCast] at hp
    have HP := hide hp
    have hS4 : S ≤ 4 := by omega
    have hS1 : 1 ≤ S := by omega
    have hlen : (le S M).length = S := le_len S M
    have htk : (xs ++ le S M).take n = xs := by rw [← HXL.out, List.take_left]
    have hdp : (xs ++ le S M).drop n = le S M := by rw [← HXL.out, List.drop_left]
    have htk2 : (le S M ++ ys).take S = le S M := by rw [List.take_append_of_le_length (by omega), List.take_of_length_le (by omega)]
    have hdp2 : (le S M ++ ys).drop S = ys := by
      have := List.drop_left (l₁ := le S M) (l₂ := ys)
      rwa [hlen] at this
    have hnum : num (le S M) = M := by rw [num_le, Nat.mod_eq_of_lt hM]
    have HTK := hide htk
    have HDP := hide hdp
    have HTK2 := hide htk2
    have HDP2 := hide hdp2
    have HNUM := hide hnum
    have HS := hide hS124
    clear hp hf hs124 h0 hlt hM hlen htk hdp htk2 hdp2 hnum hS124 hN hsize
    go_enter Try.func11, Try.ntmps11
    go_wp2_with fail
    refine (unhide HP).mono ?_
    rintro e w1 ⟨V1, c1, rfl, ho1, hb1⟩
    have r1 := ho1.read byteR_fine
    have t1 := r1.init_ (j := n) (by omega)
    rw [HTK.out] at t1
    have hcap1 := r1.cap
    have ha1 := ha.on byteR_fine hb1
    have hne : ¬ c1 = n := by omega
    have d1 := rest1 r1 (i := n) (by omega) hne
    rw [HDP.out, Nat.add_sub_cancel_left] at d1
    have hb1' := hb.on byteR_fine hb1
    clear ho1 ha
    go_wp2_with fail
    refine (bytes_same xs t1 ha1 (by omega)).mono ?_
    rintro e w2 ⟨rfl, hb2⟩
    have d2 := d1.on byteR_fine hb2
    go_wp2_with fail
    refine (twin_any _ _ _ (le S M) _ d2 (by omega)).mono ?_
    rintro e w3 ⟨V3, c3, rfl, ho3, hb3⟩
    have y3 := (hb1'.on byteR_fine hb2).on byteR_fine hb3
    go_wp2_with (at_builtin; go_loud (refine wpList_append_ow _ rfl (.tmp 55) (.tmp 56) _ rfl byteR_fine w2.heap.size w2.heap.size 5 i0 _ 1 Try.underlying22 hi0 hz0 hz1 hz2 rfl (by omega) (.slice V3 S c3) S _ rfl ho3 _ B m d ys rfl y3 (fun _ _ _ h => h) (by simp only [maxLen]; omega) (by omega) hb3.size ?_); intro V4 w4 ho4 hg4 hat4)
    obtain ⟨V5, c5, rfl⟩ := ho4.form
    have hb4 : Below w2.heap.size w2 w4 := hb3.trans (below_grown hg4 ho3.lt hb3.size)
    refine (get_ok (ho4.read byteR_fine) (by omega) S HS.out (by omega)).mono ?_
    rintro e w5 ⟨V6, c6, rfl, ho5, hb5⟩
    rw [HTK2.out, HNUM.out, Nat.add_sub_cancel_left]
    rw [HDP2.out, Nat.add_sub_cancel_left] at ho5
    have k5 := th hb2 (th hb4 hb5)
    have a5 := ha1.on byteR_fine k5
    have y5 := hb1'.on byteR_fine k5
    go_wp2_with fail
    refine (bytes_same ys (ho5.read byteR_fine) y5 (by omega)).mono ?_
    rintro e w6 ⟨rfl, hb6⟩
    have a6 := a5.on byteR_fine hb6
    have y6 := y5.on byteR_fine hb6
    go_wp2_with fail
    refine (part_ok a6 hn255).mono ?_
    rintro e p1 ⟨P1, pc1, rfl, po1, pb1⟩
    have pr1 := po1.read byteR_fine
    go_wp2_with fail
    refine (twin_any _ _ _ (partL xs) _ pr1 (by omega)).mono ?_
    rintro e p2 ⟨P2, pc2, rfl, po2, pb2⟩
    have hy2 := (y6).on byteR_fine (th pb1 pb2)
    go_wp2_with (at_builtin; go_loud (refine wpList_append_ow _ rfl (.tmp 83) (.tmp 84) _ rfl byteR_fine p1.heap.size p1.heap.size 5 i0 _ 1 Try.underlying22 hi0 hz0 hz1 hz2 rfl (by omega) (.slice P2 (n + 1) pc2) (n + 1) _ rfl po2 _ B m d ys rfl hy2 (fun _ _ _ h => h) (by simp only [maxLen]; omega) (by omega) pb2.size ?_); intro P3 p3 po3 pg3 pat3)
    obtain ⟨P4, pc4, rfl⟩ := po3.form
    have pb3 : Below p1.heap.size p1 p3 := pb2.trans (below_grown pg3 po2.lt pb2.size)
    have pr3 := po3.read byteR_fine
    rw [HPL.out] at pr3
    refine (unpart_ok pr3 (by rw [HPX.out]; omega) (by omega)).mono ?_
    rintro e p4 ⟨Q1, qc1, Q2, qc2, rfl, q1, q2, pb4⟩
    rw [HPT.out] at q1
    rw [HPD.out] at q2
    rw [HPX.out] at q1 q2 ⊢
    have hlast : n + 1 + m - (1 + n) = m := by omega
    rw [hlast] at q2 ⊢
    clear hlast
    have kk := th pb1 (th pb3 pb4)
    have ae := (a6).on byteR_fine kk
    have be := (y6).on byteR_fine kk
    go_wp2_with fail
    refine (bytes_same _ q1 ae (by omega)).mono ?_
    rintro e p5 ⟨rfl, pb5⟩
    go_wp2_with fail
    refine (bytes_same _ (q2.on byteR_fine pb5) (be.on byteR_fine pb5) (by omega)).mono ?_
    rintro e p6 ⟨rfl, pb6⟩
    go_wp2_with fail
    refine (wakes4 _).mono ?_
    rintro e p7 ⟨rfl, pb7⟩
    go_wp2_with fail
    go_ret
    exact ⟨rfl, th (th hb1 (th k5 hb6)) (th kk (th pb5 (th pb6 pb7)))⟩
  · have HP := hide (put_none (A := A) (n := n) (c := c) (w := w) N size hf)
    clear hf
    go_enter Try.func11, Try.ntmps11
    go_wp2_with fail
    refine (unhide HP).mono ?_
    rintro e w1 ⟨rfl, rfl⟩
    go_wp2_with fail
    refine (part_ok ha hn255).mono ?_
    rintro e p1 ⟨P1, pc1, rfl, po1, pb1⟩
    have pr1 := po1.read byteR_fine
    go_wp2_with fail
    refine (twin_any _ _ _ (partL xs) _ pr1 (by omega)).mono ?_
    rintro e p2 ⟨P2, pc2, rfl, po2, pb2⟩
    have hy2 := (hb).on byteR_fine (th pb1 pb2)
    go_wp2_with (at_builtin; go_loud (refine wpList_append_ow _ rfl (.tmp 83) (.tmp 84) _ rfl byteR_fine p1.heap.size p1.heap.size 5 i0 _ 1 Try.underlying22 hi0 hz0 hz1 hz2 rfl (by omega) (.slice P2 (n + 1) pc2) (n + 1) _ rfl po2 _ B m d ys rfl hy2 (fun _ _ _ h => h) (by simp only [maxLen]; omega) (by omega) pb2.size ?_); intro P3 p3 po3 pg3 pat3)
    obtain ⟨P4, pc4, rfl⟩ := po3.form
    have pb3 : Below p1.heap.size p1 p3 := pb2.trans (below_grown pg3 po2.lt pb2.size)
    have pr3 := po3.read byteR_fine
    rw [HPL.out] at pr3
    refine (unpart_ok pr3 (by rw [HPX.out]; omega) (by omega)).mono ?_
    rintro e p4 ⟨Q1, qc1, Q2, qc2, rfl, q1, q2, pb4⟩
    rw [HPT.out] at q1
    rw [HPD.out] at q2
    rw [HPX.out] at q1 q2 ⊢
    have hlast : n + 1 + m - (1 + n) = m := by omega
    rw [hlast] at q2 ⊢
    clear hlast
    have kk := th pb1 (th pb3 pb4)
    have ae := (ha).on byteR_fine kk
    have be := (hb).on byteR_fine kk
    go_wp2_with fail
    refine (bytes_same _ q1 ae (by omega)).mono ?_
    rintro e p5 ⟨rfl, pb5⟩
    go_wp2_with fail
    refine (bytes_same _ (q2.on byteR_fine pb5) (be.on byteR_fine pb5) (by omega)).mono ?_
    rintro e p6 ⟨rfl, pb6⟩
    go_wp2_with fail
    refine (wakes4 _).mono ?_
    rintro e p7 ⟨rfl, pb7⟩
    go_wp2_with fail
    go_ret
    exact ⟨rfl, th (Below.refl _ _) (th kk (th pb5 (th pb6 pb7)))⟩

end Go.Proofs.Ytagkangpplkohaa
