/-
  The walks of the laws casematelaw03.XorTurn, XorLost.
-/
import Derived.Test.YtagkangpplkohaaLaw3b
namespace Go.Proofs.Ytagkangpplkohaa
open Go.RowKit
set_option linter.unusedVariables false

set_option maxHeartbeats 1000000 in
theorem law_xorTurn {A : Option Addr} {n c : Nat} {L : List (List UInt8)} {w : World} (ha : Rs w A n c L) (N : Int) (hN : InI N) (i : Int) (hi : InI i) {B : Option Addr} {q d : Nat} {ys : List UInt8} (hy : Bs w B q d ys) :
    Calls Try.prog 8 #[.slice A n c, .int .i64 N, .int .i64 i, .slice B q d] w fun e w' => e = .returned (.bool true) ∧ Below w.heap.size w w' := by
  have hh := heavy_any A n c L w ha
  by_cases hv : heavyB L = true
  · rw [hv] at hh
    have HH := hide hh
    clear hh hv
    go_enter Try.func8, Try.ntmps8
    go_wp2_with fail
    refine (unhide HH).mono ?_
    rintro e w' ⟨rfl, rfl⟩
    go_wp2_with fail
    go_ret
    exact ⟨rfl, Below.refl _ _⟩
  have hv' : heavyB L = false := by simpa using hv
  rw [hv'] at hh
  obtain ⟨hL20, hL200⟩ := heavy_len hv'
  have HH := hide hh
  clear hh hv hv'
  by_cases hN0 : N < 0
  · go_enter Try.func8, Try.ntmps8
    go_wp2_with fail
    refine (unhide HH).mono ?_
    rintro e w' ⟨rfl, rfl⟩
    go_wp2_with fail
    go_ret
    exact ⟨rfl, Below.refl _ _⟩
  by_cases hN96 : 96 < N
  · go_enter Try.func8, Try.ntmps8
    go_wp2_with fail
    refine (unhide HH).mono ?_
    rintro e w' ⟨rfl, rfl⟩
    go_wp2_with fail
    go_ret
    exact ⟨rfl, Below.refl _ _⟩
  have hnl := ha.len
  have hn20 : n ≤ 20 := by omega
  have HL := hide hL200
  have HNL := hide hnl
  clear hL20 hL200 hnl
  by_cases hlong : IsLong L N (-1)
  · have HLO := hide (long_true N (-1) A n c L w ha (by omega) hlong)
    have HLONG := hide hlong
    clear hlong
    by_cases hn0 : n = 0
    · subst hn0
      go_enter Try.func8, Try.ntmps8
      go_wp2_with fail
      refine (unhide HH).mono ?_
      rintro e w' ⟨rfl, rfl⟩
      go_wp2_with fail
      refine (unhide HLO).mono ?_
      rintro e w' ⟨rfl, rfl⟩
      go_wp2_with fail
      go_ret
      exact ⟨rfl, Below.refl _ _⟩
    have hn1 : 1 ≤ n := by omega
    obtain ⟨M, rfl⟩ : ∃ M : Nat, N = (M : Int) := ⟨N.toNat, by omega⟩
    have hM : M ≤ 96 := by omega
    have hLM : ∀ l ∈ L, l.length = M := by
      intro l hl
      obtain ⟨j, hj, e⟩ := List.getElem_of_mem hl
      have := HLONG.out j l (by rw [← e]; exact List.getElem?_eq_getElem hj) (by omega)
      omega
    have HM := hide hLM
    clear hLM HLONG
    have e1 : ((n : Int) == 0) = false := by simp; omega
    have e2 : decide ((M : Int) < 0) = false := by simp
    have e3 : decide (96 < (M : Int)) = false := by simp; omega
    clear hn0 hN0 hN96
    by_cases hq : q = M
    · subst hq
      have e4 : ((q : Int) != (q : Int)) = false := by simp
      go_enter Try.func8, Try.ntmps8
      go_wp2_with fail
      refine (unhide HH).mono ?_
      rintro e w' ⟨rfl, rfl⟩
      go_wp2_with fail
      refine (unhide HLO).mono ?_
      rintro e w' ⟨rfl, rfl⟩
      go_wp2_with fail
      obtain ⟨k, hk, hkn⟩ := uint_mod i n hn1 (by omega)
      rw [hk]
      clear hk
      refine (all_ok q _ _ _ L _ ha (by omega) hM HM.out).mono ?_
      rintro e w1 ⟨V1, c1, rfl, ho1, hb1⟩
      have ha1 := ha.on bytesR_fine hb1
      have hy1 := hy.on byteR_fine hb1
      obtain ⟨ad, l, A1, n1, c1', rfl, _, hlx, hls, hlc⟩ := at_row ha1 hkn
      have hn1q : n1 = q := by rw [← hls.len]; exact HM.out l (List.mem_of_getElem? hlx)
      subst hn1q
      have hlk : l = L[k]'(by rw [HNL.out]; exact hkn) := by
        rw [List.getElem?_eq_getElem (by rw [HNL.out]; exact hkn)] at hlx
        injection hlx with hlx
        exact hlx.symm
      have HLK := hide hlk
      clear hlx hlk
      go_wp2_with fail
      refine (turn_ok _ _ _ _ _ _ _ _ _ _ l ys _ rfl rfl (ho1.read byteR_fine) hls hy1 (by omega)).mono ?_
      rintro e w2 ⟨V2, c2, rfl, ho2, hb2⟩
      have ha2 := ha1.on bytesR_fine hb2
      have hy2 := hy1.on byteR_fine hb2
      go_wp2_with fail
      refine (twinrows_any _ _ _ L _ ha2 (by omega) (fun l hl => by rw [HM.out l hl]; omega)).mono ?_
      rintro e w3 ⟨V3, c3, rfl, ho3, hb3⟩
      have hy3 := hy2.on byteR_fine hb3
      go_wp2_with fail
      refine (twin_any _ _ _ ys _ hy3 (by omega)).mono ?_
      rintro e w4 ⟨V4, c4, rfl, ho4, hb4⟩
      have ho3' := ho3.below bytesR_fine hb4
      obtain ⟨g, x, u, rfl, hg, hgl, hx, hu, hcell, hfr, hst⟩ := ho3'.spot bytesR_fine hkn
      have ho5 := hst (.slice V4 n1 c4) ys rfl ⟨V4, n1, c4, rfl, ho4.apart byteR_fine hb3.size hb3.size (fun r hr => by have := (ho3.lt r hr).2; omega)⟩
      have hb5 : Below w2.heap.size w2 (w4.setCell ⟨g, k, none⟩ (.slice V4 n1 c4)) := (th hb3 hb4).setCell (by exact hg) _
      have hset : ∀ l ∈ L.set k ys, l.length = n1 := by
        intro l' hl'
        rcases List.mem_or_eq_of_mem_set hl' with h | rfl
        · exact HM.out l' h
        · exact hy.len
      have HSET := hide hset
      clear hst hx hset hu
      go_wp2_with fail
      refine (all_ok n1 _ _ _ (L.set k ys) _ (ho5.read bytesR_fine) (by omega) hM HSET.out).mono ?_
      rintro e w6 ⟨V6, c6, rfl, ho6, hb6⟩
      have heq : zx (zx (zxs (List.replicate n1 0) L) l) ys = zxs (List.replicate n1 0) (L.set k ys) := by
        have hkl : k < L.length := by rw [HNL.out]; exact hkn
        have hE : ∀ l' ∈ L.eraseIdx k, l'.length = n1 := fun l' hl' => HM.out l' (List.mem_of_mem_eraseIdx hl')
        have h1 := zxs_cons_erase (List.replicate n1 0) L k hkl
        have h2 := zxs_cons_erase (List.replicate n1 0) (L.set k ys) k (by rw [List.length_set]; exact hkl)
        rw [List.eraseIdx_set_eq, List.getElem_set_self] at h2
        rw [h2, h1, HLK.out, zx_assoc (zxs (List.replicate n1 0) (L.eraseIdx k)), zx_self' _ n1 (HM.out _ (List.getElem_mem hkl)), zx_comm (zxs (List.replicate n1 0) (L.eraseIdx k)), zxs_zero n1 _ (zxs_len _ _ n1 (by simp) hE)]
      rw [← heq] at ho6
      clear heq
      have r1 := (ho2.read byteR_fine).on byteR_fine (th hb5 hb6)
      go_wp2_with fail
      refine (bytes_same _ r1 (ho6.read byteR_fine) (by omega)).mono ?_
      rintro e w7 ⟨rfl, hb7⟩
      go_wp2_with fail
      refine (wakes3 _).mono ?_
      rintro e w8 ⟨rfl, hb8⟩
      go_wp2_with fail
      go_ret
      exact ⟨rfl, th (th hb1 hb2) (th (th hb5 hb6) (th hb7 hb8))⟩
    · have e4 : ((q : Int) != (M : Int)) = true := by simp; omega
      go_enter Try.func8, Try.ntmps8
      go_wp2_with fail
      refine (unhide HH).mono ?_
      rintro e w' ⟨rfl, rfl⟩
      go_wp2_with fail
      refine (unhide HLO).mono ?_
      rintro e w' ⟨rfl, rfl⟩
      go_wp2_with fail
      go_ret
      exact ⟨rfl, Below.refl _ _⟩
  · have HLO := hide (long_false N (-1) A n c L w ha (by omega) hlong)
    clear hlong
    go_enter Try.func8, Try.ntmps8
    go_wp2_with fail
    refine (unhide HH).mono ?_
    rintro e w' ⟨rfl, rfl⟩
    go_wp2_with fail
    refine (unhide HLO).mono ?_
    rintro e w' ⟨rfl, rfl⟩
    go_wp2_with fail
    go_ret
    exact ⟨rfl, Below.refl _ _⟩

set_option maxHeartbeats 1000000 in
theorem law_xorLost {A B X : Option Addr} {n c m d q r : Nat} {xs ys zs : List UInt8} {w : World} (ha : Bs w A n c xs) (hb : Bs w B m d ys) (hx : Bs w X q r zs) :
    Calls Try.prog 6 #[.slice A n c, .slice B m d, .slice X q r] w fun e w' => e = .returned (.bool true) ∧ Below w.heap.size w w' := by
  by_cases h200 : 200 < n
  · have e1 : decide (200 < (n : Int)) = true := by simp; omega
    go_enter Try.func6, Try.ntmps6
    go_wp2_with fail
    go_ret
    exact ⟨rfl, Below.refl _ _⟩
  have e1 : decide (200 < (n : Int)) = false := by simp; omega
  by_cases hmn : ¬ m = n
  · have e2 : ((m : Int) != (n : Int)) = true := by simp; omega
    go_enter Try.func6, Try.ntmps6
    go_wp2_with fail
    go_ret
    exact ⟨rfl, Below.refl _ _⟩
  obtain rfl : m = n := by omega
  have e2 : ((m : Int) != (m : Int)) = false := by simp
  by_cases hqm : ¬ q = m
  · have e3 : ((q : Int) != (m : Int)) = true := by simp; omega
    go_enter Try.func6, Try.ntmps6
    go_wp2_with fail
    go_ret
    exact ⟨rfl, Below.refl _ _⟩
  obtain rfl : q = m := by omega
  by_cases h96 : 96 < q
  · have e4 : decide (96 < (q : Int)) = true := by simp; omega
    go_enter Try.func6, Try.ntmps6
    go_wp2_with fail
    go_ret
    exact ⟨rfl, Below.refl _ _⟩
  have e4 : decide (96 < (q : Int)) = false := by simp; omega
  have hlx := ha.len
  have hly := hb.len
  have hlz := hx.len
  have heq : zxs (List.replicate q 0) [zx xs zs, zx ys zs] = zxs (List.replicate q 0) [xs, ys] := by
    show zx (zx (List.replicate q 0) (zx xs zs)) (zx ys zs) = zx (zx (List.replicate q 0) xs) ys
    rw [zxs_zero q xs hlx, zxs_zero q (zx xs zs) (by rw [zx_len]; omega), zx_comm ys zs, ← zx_assoc, zx_assoc xs zs zs, zx_self' zs q hlz, zx_comm xs, zxs_zero q xs hlx]
  have hl1 : ∀ l ∈ [xs, ys], l.length = q := by intro l hl; simp at hl; rcases hl with rfl | rfl; exact hlx; exact hly
  have hl2 : ∀ l ∈ [zx xs zs, zx ys zs], l.length = q := by intro l hl; simp at hl; rcases hl with rfl | rfl <;> rw [zx_len] <;> omega
  have HEQ := hide heq
  have H1 := hide hl1
  have H2 := hide hl2
  have hq96 : q ≤ 96 := by omega
  clear heq hl1 hl2 hlx hly hlz h96 h200
  go_enter Try.func6, Try.ntmps6
  go_wp2_with fail
  refine (two_ok _ _ _ _ _ _ xs zs _ rfl ha hx (by omega)).mono ?_
  rintro e w1 ⟨V1, c1, rfl, ho1, hb1⟩
  go_wp2_with fail
  refine (two_ok _ _ _ _ _ _ ys zs _ rfl (hb.on byteR_fine hb1) (hx.on byteR_fine hb1) (by omega)).mono ?_
  rintro e w2 ⟨V2, c2, rfl, ho2, hb2⟩
  have hb12 := th hb1 hb2
  have l1 := lit_two_at (N := w2.heap.size) 22 rfl (ha.on byteR_fine hb12) (hb.on byteR_fine hb12)
  go_wp2_with fail
  refine (all_ok q _ _ _ [xs, ys] _ l1 (by omega) hq96 H1.out).mono ?_
  rintro e w3 ⟨V3, c3, rfl, ho3, hb3⟩
  have hb23 := th (alloc_below w2 _) hb3
  have l2 := lit_two_at (N := w3.heap.size) 22 rfl ((ho1.read byteR_fine).on byteR_fine (th hb2 hb23)) ((ho2.read byteR_fine).on byteR_fine hb23)
  go_wp2_with fail
  refine (all_ok q _ _ _ [zx xs zs, zx ys zs] _ l2 (by omega) hq96 H2.out).mono ?_
  rintro e w4 ⟨V4, c4, rfl, ho4, hb4⟩
  rw [HEQ.out] at ho4
  have hb34 := th (alloc_below w3 _) hb4
  go_wp2_with fail
  refine (bytes_same _ ((ho3.read byteR_fine).on byteR_fine hb34) (ho4.read byteR_fine) (by omega)).mono ?_
  rintro e w5 ⟨rfl, hb5⟩
  go_wp2_with fail
  refine (wakes3 _).mono ?_
  rintro e w6 ⟨rfl, hb6⟩
  go_wp2_with fail
  go_ret
  exact ⟨rfl, th (th hb12 hb23) (th hb34 (th hb5 hb6))⟩

end Go.Proofs.Ytagkangpplkohaa
