/-
  The walk of the law LabelCuts.
-/
import Derived.Test.YtnjbnhljnmemdaaDoorLawL3
import Derived.Deep.RegionHeld3
import Derived.Deep.CutRange
import Derived.Deep.DeepCutAuto
namespace Go.Proofs.YtnjbnhljnmemdaaDoor
open Go.RowKit Go.Lib
set_option linter.unusedVariables false
set_option maxRecDepth 100000

theorem cut_cut (l : List UInt8) (n m : Nat) : cutL (cutL l (n : Int)) (m : Int) = cutL l ((if (m : Int) < (n : Int) then (m : Int) else (n : Int))) := by
  have h1 : cutL (cutL l (n : Int)) (m : Int) = (l.take (posN l n)).take (posN (l.take (posN l n)) m) := by
    unfold cutL
    rw [Int.toNat_natCast, Int.toNat_natCast]
  have h2 : (if (m : Int) < (n : Int) then (m : Int) else (n : Int)).toNat = min m n := by split <;> omega
  have h3 : posN l (min m n) ≤ posN l n := by
    rw [← posN_cut]
    exact Nat.le_trans (posN_le _ _) (by rw [List.length_take]; omega)
  rw [h1, posN_cut, List.take_take]
  unfold cutL
  rw [h2, Nat.min_eq_left h3]

set_option maxHeartbeats 1000000 in
theorem cuts_walk {w : World} (hT : Tabs w) (s a d t : ByteArray) (n m : Int) (N M R X Y : Nat) (Q : Int) (h400 : s.size ≤ 400)
    (hn : IntKind.u64.wrap n % 500 = (N : Int)) (hn' : (IntKind.u64.wrap n).tmod 500 = (N : Int)) (hm : IntKind.u64.wrap m % 500 = (M : Int)) (hm' : (IntKind.u64.wrap m).tmod 500 = (M : Int))
    (hN : N < 500) (hM : M < 500) (hR : R ≤ 400) (hX : X ≤ 400) (hY : Y ≤ 400)
    (hq : min (N : Int) (M : Int) = Q)
    (hx : min (N : Int) (R : Int) = (X : Int)) (hxy : (X : Int) + (Y : Int) = (R : Int))
    (hle : a.size ≤ s.size) (he : s.extract 0 a.size = a) (hd : s.extract a.size s.size = d)
    (hc1 : ∀ w, Calls Tryd.prog 19 #[.string s, .int .i64 N] w fun e w' => e = .returned (.string a) ∧ Below w.heap.size w w')
    (hc2 : ∀ w, Calls Tryd.prog 19 #[.string a, .int .i64 M] w fun e w' => e = .returned (.string t) ∧ Below w.heap.size w w')
    (hc3 : ∀ w, Calls Tryd.prog 19 #[.string s, .int .i64 Q] w fun e w' => e = .returned (.string t) ∧ Below w.heap.size w w')
    (hc4 : ∀ w, Calls Tryd.prog 19 #[.string s, .int .i64 (-1)] w fun e w' => e = .returned (.string ⟨#[]⟩) ∧ Below w.heap.size w w')
    (hc5 : ∀ w, Calls Tryd.prog 19 #[.string s, .int .i64 500] w fun e w' => e = .returned (.string s) ∧ Below w.heap.size w w')
    (hra : ∀ w, Calls Tryd.prog 17 #[.string a] w fun e w' => e = .returned (.int .i64 X) ∧ Below w.heap.size w w')
    (hrs : ∀ w, Calls Tryd.prog 17 #[.string s] w fun e w' => e = .returned (.int .i64 R) ∧ Below w.heap.size w w')
    (hrd : ∀ w, Calls Tryd.prog 17 #[.string d] w fun e w' => e = .returned (.int .i64 Y) ∧ Below w.heap.size w w') :
    Calls Tryd.prog 5 #[.string s, .int .i64 n, .int .i64 m] w fun e w' => e = .returned (.bool true) ∧ Below w.heap.size w w' := by
  have hi0 : ¬ (400 : Int) < (s.size : Int) := by omega
  have hi1 : ¬ (s.size : Int) < (a.size : Int) := by omega
  have hg0 : decide (s.size < a.size) = false := decide_eq_false (by omega)
  have hg1 : s.size < a.size ↔ False := ⟨fun h => by omega, False.elim⟩
  have HC1 := hide hc1
  have HC2 := hide hc2
  have HC3 := hide hc3
  have HC4 := hide hc4
  have HC5 := hide hc5
  have HRA := hide hra
  have HRS := hide hrs
  have HRD := hide hrd
  have hsum2 : IntKind.i64.wrap (R : Int) = (R : Int) := IntWalk.i64_in (R : Int) ⟨by omega, by omega⟩
  have hsum : IntKind.i64.wrap ((X : Int) + (Y : Int)) = (R : Int) := by rw [hxy]; exact IntWalk.i64_in (R : Int) ⟨by omega, by omega⟩
  clear hc1 hc2 hc3 hc4 hc5 hra hrs hrd
  go_enter Tryd.func5, Tryd.ntmps5
  go_wp2_with fail
  refine (HC1.out _).mono ?_
  rintro e w1 ⟨rfl, hb1⟩
  have hcur : Below w1.heap.size w1 w1 := Below.refl _ _
  go_upto_region 5 with fail
  go_cut [56] (fun v wx => v = .bool false ∧ Below w1.heap.size w1 wx)
  case first =>
    go_region_held3 (fun w' => True) (trivial) (first
      | ((with_reducible refine (HRA.out _).mono ?_); rintro e w2 ⟨rfl, hz⟩; have hcur := th (by first | exact hcur | exact hcur.drew) hz)
      | ((with_reducible refine (HRS.out _).mono ?_); rintro e w2 ⟨rfl, hz⟩; have hcur := th (by first | exact hcur | exact hcur.drew) hz)
      | ((with_reducible refine (HRD.out _).mono ?_); rintro e w2 ⟨rfl, hz⟩; have hcur := th (by first | exact hcur | exact hcur.drew) hz))
    all_goals (go_wp2_with fail; go_meet; exact ⟨by first | rfl | (rw [hsum2]; simp) | (simp [hsum2]), by first | exact hcur | exact hcur.drew⟩)
  case rest =>
    obtain ⟨rfl, hb2⟩ := hcut
    go_wp2_with fail
    refine (HC2.out _).mono ?_
    rintro e w3 ⟨rfl, hb3⟩
    go_wp2_with fail
    refine (HC3.out _).mono ?_
    rintro e w4 ⟨rfl, hb4⟩
    go_wp2_with fail
    refine (HC4.out _).mono ?_
    rintro e w5 ⟨rfl, hb5⟩
    go_wp2_with fail
    refine (HC5.out _).mono ?_
    rintro e w6 ⟨rfl, hb6⟩
    have hbb := th hb1 (th hb2 (th hb3 (th hb4 (th hb5 hb6))))
    go_wp2_with fail
    refine (wakes01 _ (hT.below hbb)).mono ?_
    rintro e w7 ⟨rfl, hb7⟩
    go_wp2_with fail
    go_ret
    exact ⟨rfl, th hbb hb7⟩


set_option maxHeartbeats 1000000 in
theorem law_labelCuts {w : World} (hT : Tabs w) (s : ByteArray) (hs : s.size ≤ maxLen) (n : Int) (hn : InI n) (m : Int) (hm : InI m) :
    Calls Tryd.prog 5 #[.string s, .int .i64 n, .int .i64 m] w fun e w' => e = .returned (.bool true) ∧ Below w.heap.size w w' := by
  by_cases h400 : s.size ≤ 400
  · obtain ⟨N, hN, hn1, hn2⟩ := um_of n 500 (by omega) (by omega)
    obtain ⟨M, hM, hm1, hm2⟩ := um_of m 500 (by omega) (by omega)
    have hl : (sL s).length = s.size := sL_len s
    have hP := posN_le (sL s) N
    have hRl := runes_le (sL s)
    have ha : (mkS (cutL (sL s) N)).size = posN (sL s) N := by
      rw [← sL_len, sL_mk]
      unfold cutL
      rw [List.length_take, Int.toNat_natCast]
      omega
    have hda : decs (cutL (sL s) N) = (decs (sL s)).take N := by
      unfold cutL
      rw [Int.toNat_natCast, decs_cut]
    have hext : s.extract 0 (posN (sL s) N) = mkS (cutL (sL s) N) := by
      rw [sL_extract s 0 _ (by omega)]
      unfold cutL
      rw [List.drop_zero, Nat.sub_zero, Int.toNat_natCast]
    have hdr : sL (s.extract (posN (sL s) N) s.size) = (sL s).drop (posN (sL s) N) := by
      rw [sL_extract s _ _ (Nat.le_refl _), sL_mk, List.take_of_length_le (by rw [List.length_drop]; omega)]
    have hdd : decs (sL (s.extract (posN (sL s) N) s.size)) = (decs (sL s)).drop N := by rw [hdr, decs_drop]
    have hdz : (s.extract (posN (sL s) N) s.size).size ≤ 400 := by rw [← sL_len, hdr, List.length_drop]; omega
    refine cuts_walk hT s (mkS (cutL (sL s) N)) (s.extract (posN (sL s) N) s.size) (mkS (cutL (sL s) (min (N : Int) (M : Int)))) n m N M (decs (sL s)).length (min N (decs (sL s)).length) ((decs (sL s)).length - N) (min (N : Int) (M : Int)) h400 hn1 hn2 hm1 hm2 hN hM (by omega) (by omega) (by omega) rfl (by omega) (by omega) (by omega) (by rw [ha]; exact hext) (by rw [ha]) ?_ ?_ ?_ ?_ ?_ ?_ ?_ ?_
    · exact fun w => cut_any s (by omega) N ⟨by omega, by omega⟩ w
    · intro w
      have h := cut_any (mkS (cutL (sL s) N)) (by omega) M ⟨by omega, by omega⟩ w
      rw [sL_mk, cut_cut, show (if (M : Int) < (N : Int) then (M : Int) else (N : Int)) = min (N : Int) (M : Int) by split <;> omega] at h
      exact h
    · exact fun w => cut_any s (by omega) _ ⟨by omega, by omega⟩ w
    · intro w
      have h := cut_any s (by omega) (-1) ⟨by omega, by omega⟩ w
      rw [show cutL (sL s) (-1) = [] by unfold cutL; rw [show (-1 : Int).toNat = 0 from rfl, posN_zero, List.take_zero]] at h
      exact h
    · intro w
      have h := cut_any s (by omega) 500 ⟨by omega, by omega⟩ w
      rw [show cutL (sL s) 500 = sL s by unfold cutL; rw [show (500 : Int).toNat = 500 from rfl, posN_all (by omega), List.take_length], mk_sL] at h
      exact h
    · intro w
      have h := runes_any (mkS (cutL (sL s) N)) (by omega) w
      rw [sL_mk, hda, List.length_take] at h
      exact h
    · exact fun w => runes_any s (by omega) w
    · intro w
      have h := runes_any (s.extract (posN (sL s) N) s.size) (by omega) w
      rw [hdd, List.length_drop] at h
      exact h
  · have hi0 : (400 : Int) < (s.size : Int) := by omega
    go_enter Tryd.func5, Tryd.ntmps5
    go_wp2_with fail
    go_ret
    exact ⟨rfl, Below.refl _ _⟩

end Go.Proofs.YtnjbnhljnmemdaaDoor
