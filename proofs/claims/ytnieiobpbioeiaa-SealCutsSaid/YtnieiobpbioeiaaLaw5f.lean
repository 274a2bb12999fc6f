/-
  The walk of the law casematelaw05.SealCuts.
-/
import Derived.Test.YtnieiobpbioeiaaLaw5c
import Derived.Test.YtnieiobpbioeiaaLaw5g
import Derived.Test.YtnieiobpbioeiaaZeroO
namespace Go.Proofs.Ytnieiobpbioeiaa
open Go.RowKit
set_option linter.unusedVariables false
set_option maxRecDepth 100000

theorem open_cut {l : List UInt8} (h : l.length < 11 ∨ 107 < l.length) : openS l = (noSec, 4) := by
  unfold openS
  rw [if_pos h]

set_option maxHeartbeats 1000000 in
theorem law_sealCuts {V : Value} {x : Sec} {w : World} (h : ArgR secR w V x) (i : Int) (hi : InI i) :
    Calls Try.prog 12 #[V, .int .i64 i] w fun e w' => e = .returned (.bool true) ∧ Below w.heap.size w w' := by
  obtain ⟨A, n, c, rfl, _, _, hl⟩ := sec_form h
  have hlen := hl.len
  have hb0 := alloc_below w (.cells #[.int .i64 x.addr, .int .i64 x.stamp, .slice A n c] 62)
  by_cases hn : 96 < n
  · clear hlen
    go_enter Try.func12, Try.ntmps12
    go_wp2_with fail
    go_ret
    exact ⟨rfl, hb0⟩
  have HR : ∀ W, Calls Try.prog 51 #[.agg #[.int .i64 x.addr, .int .i64 x.stamp, .slice A n c]] W fun e w' => e = .returned (.bool (decide (SecOk x))) ∧ Below W.heap.size W w' := fun W => right_any x
  by_cases hok : SecOk x
  · rw [decide_eq_true hok] at HR
    obtain ⟨a, s, ea, es, ha, hs⟩ := secOk_nat hok
    obtain ⟨xa, xs, l⟩ := x
    dsimp only at ea es hl hlen hok HR hb0 ⊢
    subst ea; subst es
    have hl0 := hl.on byteR_fine hb0
    have hsl := seal_len a s l
    rw [hlen] at hsl
    have hmk : ∀ W, Bs W A n c l → _ := fun W h => make_ok (w := W) h a s ha hs (by omega)
    obtain ⟨S, hS⟩ : ∃ S, S = sealL a s l := ⟨_, rfl⟩
    rw [← hS] at hmk hsl
    obtain ⟨k, hk, hk11⟩ := umodN i 11 (by omega) (by omega)
    have hk : wrap64 ((IntKind.u64.wrap i).tmod 11) = (k : Int) := hk
    obtain ⟨i0, hi0, hz0, hz1, hz2⟩ := info_parts u8_info
    have hO1 : openS (S.take k) = (noSec, 4) := open_cut (.inl (by rw [List.length_take]; omega))
    have hO2 : openS (S ++ List.replicate 108 0) = (noSec, 4) := open_cut (.inr (by simp))
    have HO1 := hide hO1
    have HO2 := hide hO2
    have HMK := hide hmk
    clear hlen hS hsl hok hmk hl0 hO1 hO2
    go_enter Try.func12, Try.ntmps12
    go_wp2_with fail
    refine (HR _).mono ?_
    rintro e w1 ⟨rfl, hb1⟩
    have k0 := box_cell hb1 0 _ rfl
    have k1 := box_cell hb1 1 _ rfl
    have k2 := box_cell hb1 2 _ rfl
    have hl1 := hl.on byteR_fine (th hb0 hb1)
    go_wp2_with fail
    refine (HMK.out _ hl1).mono ?_
    rintro e w2 ⟨V2, c2, rfl, ho2, hb2⟩
    have hr2 := ho2.read byteR_fine
    have hkc : k ≤ c2 := by have := hr2.cap; omega
    go_wp2_with fail
    refine (open_bad (hr2.init_ (j := k) (by omega)) (by omega) 4 HO1.out).mono ?_
    rintro e w3 ⟨A3, c3, rfl, hs3, hb3⟩
    have hb4 := alloc_below w3 (.cells #[.int .i64 0, .int .i64 0, .slice A3 0 c3] 62)
    go_wp2_with fail
    refine (twin_any _ _ _ S _ (hr2.on byteR_fine (th hb3 hb4)) (by omega)).mono ?_
    rintro e w5 ⟨A5, c5, rfl, ho5, hb5⟩
    obtain ⟨A6, c6, w6, hr6, hs6, hg6⟩ := run_append_zeros_ow (P := Try.prog) w5 _ _ 31 3 31 5 i0 _ .i64 .i64 Try.underlying31 Try.underlying3 hi0 hz0 hz1 hz2 rfl (.slice A5 (n + 11) c5) (n + 11) S ho5 108 (by omega) (by omega) hb5.size
    have hb6 := below_grown hg6 ho5.lt hb5.size
    go_wp2_with (at_builtin; refine Lib.wpList_append_run _ rfl _ _ _ _ rfl _ _ rfl rfl _ _ hr6 ?_)
    refine (open_bad hs6 (by omega) 4 HO2.out).mono ?_
    rintro e w7 ⟨A7, c7, rfl, hs7, hb7⟩
    go_wp2_with fail
    refine (wakes5 _).mono ?_
    rintro e w9 ⟨rfl, hb9⟩
    go_wp2_with fail
    go_ret
    refine ⟨rfl, ?_⟩
    have hbb := th hb0 (th hb1 (th hb2 (th hb3 hb4)))
    have hb56 : Below _ _ w6 := hb5.trans hb6
    have hball := th hbb hb56
    exact th hball (th hb7 (th (alloc_below _ _) hb9))
  · rw [decide_eq_false hok] at HR
    clear hlen hok
    go_enter Try.func12, Try.ntmps12
    go_wp2_with fail
    refine (HR _).mono ?_
    rintro e w1 ⟨rfl, hb1⟩
    go_wp2_with fail
    go_ret
    exact ⟨rfl, th hb0 hb1⟩

end Go.Proofs.Ytnieiobpbioeiaa
