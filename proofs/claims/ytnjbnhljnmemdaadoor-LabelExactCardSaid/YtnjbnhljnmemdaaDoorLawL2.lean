/-
  The walk of the law LabelJoins.
-/
import Derived.Test.YtnjbnhljnmemdaaDoorLawL1
namespace Go.Proofs.YtnjbnhljnmemdaaDoor
open Go.RowKit Go.Lib
set_option linter.unusedVariables false
set_option maxRecDepth 100000

theorem sL_append (s t : ByteArray) : sL (s ++ t) = sL s ++ sL t := by
  show (s ++ t).data.toList = _
  rw [ByteArray.data_append, Array.toList_append]
theorem lab_good {l : List UInt8} (h : labE l = 0) : ∀ x ∈ decs l, ¬ Bad x := fun x hx => ((labE_ok.1 h).1 x hx).1
theorem lab_join {a b : List UInt8} (ha : labE a = 0) (hb : labE b = 0) : labE (a ++ b) = if 6 < (decs a).length + (decs b).length then 2 else 0 := by
  have h := decs_append a (lab_good ha) b
  unfold labE
  rw [h, List.length_append, if_pos]
  intro x hx
  rcases List.mem_append.1 hx with hx | hx
  · exact (labE_ok.1 ha).1 x hx
  · exact (labE_ok.1 hb).1 x hx
theorem cut_join {a b : List UInt8} (ha : ∀ x ∈ decs a, ¬ Bad x) : cutL (a ++ b) ((decs a).length : Int) = a := by
  have h := decs_append a ha b
  have hp : posN (a ++ b) (decs a).length = a.length := by
    unfold posN
    rw [h, List.take_left, decs_sum]
  unfold cutL
  rw [Int.toNat_natCast, hp, List.take_left]

set_option maxHeartbeats 2000000 in
theorem law_labelJoins {w : World} (hT : Tabs w) (a : ByteArray) (ha : a.size ≤ maxLen) (b : ByteArray) (hb : b.size ≤ maxLen) :
    Calls Tryd.prog 7 #[.string a, .string b] w fun e w' => e = .returned (.bool true) ∧ Below w.heap.size w w' := by
  by_cases h200 : a.size ≤ 200
  · have hi0 : ¬ (200 : Int) < (a.size : Int) := by omega
    by_cases g200 : b.size ≤ 200
    · have hi1 : ¬ (200 : Int) < (b.size : Int) := by omega
      have hca := fun w hT => lcheck_any a (by omega) w hT
      have hcb := fun w hT => lcheck_any b (by omega) w hT
      by_cases hA : labE (sL a) = 0
      · by_cases hB : labE (sL b) = 0
        · have hra := fun w => runes_any a (by omega) w
          have hrb := fun w => runes_any b (by omega) w
          have hab : (a ++ b).size ≤ 65536 := by rw [ByteArray.size_append]; omega
          have hcc := fun w hT => lcheck_any (a ++ b) hab w hT
          have hrc := fun w => runes_any (a ++ b) hab w
          rw [hA] at hca
          rw [hB] at hcb
          rw [sL_append, lab_join hA hB] at hcc
          rw [sL_append, decs_append _ (lab_good hA), List.length_append] at hrc
          have hcut := fun w h => cut_any (a ++ b) hab ((decs (sL a)).length : Int) h w
          rw [sL_append, cut_join (lab_good hA), mk_sL] at hcut
          have hna := (labE_ok.1 hA).2
          have hnb := (labE_ok.1 hB).2
          obtain ⟨x, hx⟩ : ∃ x, x = (decs (sL a)).length := ⟨_, rfl⟩
          obtain ⟨y, hy⟩ : ∃ y, y = (decs (sL b)).length := ⟨_, rfl⟩
          rw [← hx] at hra hcc hrc hcut hna
          rw [← hy] at hrb hcc hrc hnb
          rw [show ((x + y : Nat) : Int) = (x : Int) + (y : Int) by omega] at hrc
          have HCA := hide hca
          have HCB := hide hcb
          have HRA := hide hra
          have HRB := hide hrb
          have HRC := hide hrc
          have HCUT := hide (fun w => hcut w ⟨by omega, by omega⟩)
          clear hca hcb hra hrb hrc hcut hA hB hx hy
          by_cases h6 : 6 < x + y
          · rw [if_pos h6] at hcc
            have hi6 : (6 : Int) < (x : Int) + (y : Int) := by omega
            have HCC := hide hcc
            clear hcc h6
            go_enter Tryd.func7, Tryd.ntmps7
            go_wp2_with fail
            refine (HCA.out _ hT).mono ?_
            rintro e w1 ⟨rfl, hb1⟩
            have hT1 := hT.below hb1
            go_wp2_with fail
            refine (HCB.out _ hT1).mono ?_
            rintro e w2 ⟨rfl, hb2⟩
            go_wp2_with fail
            refine (HRA.out _).mono ?_
            rintro e w3 ⟨rfl, hb3⟩
            go_wp2_with fail
            refine (HRB.out _).mono ?_
            rintro e w4 ⟨rfl, hb4⟩
            have hT4 := hT.below (th hb1 (th hb2 (th hb3 hb4)))
            go_wp2_with fail
            refine (HCC.out _ hT4).mono ?_
            rintro e w5 ⟨rfl, hb5⟩
            go_wp2_with fail
            refine (HRC.out _).mono ?_
            rintro e w6 ⟨rfl, hb6⟩
            go_wp2_with fail
            refine (HCUT.out _).mono ?_
            rintro e w7 ⟨rfl, hb7⟩
            have hT7 := hT4.below (th hb5 (th hb6 hb7))
            go_wp2_with fail
            refine (wakes01 _ hT7).mono ?_
            rintro e w8 ⟨rfl, hb8⟩
            go_wp2_with fail
            go_ret
            exact ⟨rfl, th hb1 (th hb2 (th hb3 (th hb4 (th hb5 (th hb6 (th hb7 hb8))))))⟩
          · rw [if_neg h6] at hcc
            have hi6 : ¬ (6 : Int) < (x : Int) + (y : Int) := by omega
            have HCC := hide hcc
            clear hcc h6
            go_enter Tryd.func7, Tryd.ntmps7
            go_wp2_with fail
            refine (HCA.out _ hT).mono ?_
            rintro e w1 ⟨rfl, hb1⟩
            have hT1 := hT.below hb1
            go_wp2_with fail
            refine (HCB.out _ hT1).mono ?_
            rintro e w2 ⟨rfl, hb2⟩
            go_wp2_with fail
            refine (HRA.out _).mono ?_
            rintro e w3 ⟨rfl, hb3⟩
            go_wp2_with fail
            refine (HRB.out _).mono ?_
            rintro e w4 ⟨rfl, hb4⟩
            have hT4 := hT.below (th hb1 (th hb2 (th hb3 hb4)))
            go_wp2_with fail
            refine (HCC.out _ hT4).mono ?_
            rintro e w5 ⟨rfl, hb5⟩
            go_wp2_with fail
            refine (HRC.out _).mono ?_
            rintro e w6 ⟨rfl, hb6⟩
            go_wp2_with fail
            refine (HCUT.out _).mono ?_
            rintro e w7 ⟨rfl, hb7⟩
            have hT7 := hT4.below (th hb5 (th hb6 hb7))
            go_wp2_with fail
            refine (wakes01 _ hT7).mono ?_
            rintro e w8 ⟨rfl, hb8⟩
            go_wp2_with fail
            go_ret
            exact ⟨rfl, th hb1 (th hb2 (th hb3 (th hb4 (th hb5 (th hb6 (th hb7 hb8))))))⟩
        · rw [hA] at hca
          obtain ⟨E, hE⟩ : ∃ E, E = labE (sL b) := ⟨_, rfl⟩
          rw [← hE] at hcb hB
          have hne : (E != 0) = true := by simpa using hB
          have HCA := hide hca
          have HCB := hide hcb
          clear hca hcb hE hA hB
          go_enter Tryd.func7, Tryd.ntmps7
          go_wp2_with fail
          refine (HCA.out _ hT).mono ?_
          rintro e w1 ⟨rfl, hb1⟩
          go_wp2_with fail
          refine (HCB.out _ (hT.below hb1)).mono ?_
          rintro e w2 ⟨rfl, hb2⟩
          go_wp2_with fail
          refine (wakes01 _ (hT.below (th hb1 hb2))).mono ?_
          rintro e w3 ⟨rfl, hb3⟩
          go_wp2_with fail
          go_ret
          exact ⟨rfl, th hb1 (th hb2 hb3)⟩
      · obtain ⟨E, hE⟩ : ∃ E, E = labE (sL a) := ⟨_, rfl⟩
        rw [← hE] at hca hA
        have hne : (E != 0) = true := by simpa using hA
        have HCA := hide hca
        clear hca hcb hE hA
        go_enter Tryd.func7, Tryd.ntmps7
        go_wp2_with fail
        refine (HCA.out _ hT).mono ?_
        rintro e w1 ⟨rfl, hb1⟩
        go_wp2_with fail
        refine (wakes01 _ (hT.below hb1)).mono ?_
        rintro e w3 ⟨rfl, hb3⟩
        go_wp2_with fail
        go_ret
        exact ⟨rfl, th hb1 hb3⟩
    · have hi1 : (200 : Int) < (b.size : Int) := by omega
      go_enter Tryd.func7, Tryd.ntmps7
      go_wp2_with fail
      go_ret
      exact ⟨rfl, Below.refl _ _⟩
  · have hi0 : (200 : Int) < (a.size : Int) := by omega
    go_enter Tryd.func7, Tryd.ntmps7
    go_wp2_with fail
    go_ret
    exact ⟨rfl, Below.refl _ _⟩

end Go.Proofs.YtnjbnhljnmemdaaDoor
