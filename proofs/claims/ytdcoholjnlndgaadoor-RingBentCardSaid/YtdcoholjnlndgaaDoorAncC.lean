/-
  Contracts: anchor.in, num and its closure; slices.IndexFunc, ContainsFunc, Index, Contains over ints.
-/
import Derived.Test.YtdcoholjnlndgaaDoorAncP
import Derived.Test.YtdcoholjnlndgaaDoorGeom
namespace Go.Proofs.YtdcoholjnlndgaaDoor
open Go.RowKit
set_option linter.unusedVariables false
set_option maxRecDepth 100000

theorem ain_any (n lo hi : Int) (w : World) : Calls Tryd.prog 36 #[.int .i64 n, .int .i64 lo, .int .i64 hi] w fun e w' => e = .returned (.bool (decide (lo ≤ n ∧ n ≤ hi))) ∧ w = w' := by
  by_cases h1 : lo ≤ n
  · by_cases h2 : n ≤ hi
    · have e1 : decide (lo ≤ n ∧ n ≤ hi) = true := by simp [h1, h2]
      rw [e1]
      go_enter Tryd.func36, Tryd.ntmps36
      go_wp2_with fail
      go_ret
      exact ⟨rfl, rfl⟩
    · have e1 : decide (lo ≤ n ∧ n ≤ hi) = false := by simp [h2]
      rw [e1]
      go_enter Tryd.func36, Tryd.ntmps36
      go_wp2_with fail
      go_ret
      exact ⟨rfl, rfl⟩
  · have e1 : decide (lo ≤ n ∧ n ≤ hi) = false := by simp [h1]
    rw [e1]
    go_enter Tryd.func36, Tryd.ntmps36
    go_wp2_with fail
    go_ret
    exact ⟨rfl, rfl⟩


theorem numc_any (n : Int) (w : World) : Calls Tryd.prog 49 #[.int .i64 n] w fun e w' => e = .returned (.bool (!decide (NumOk n))) ∧ w = w' := by
  have hi := fun w => ain_any n 0 4294967295 w
  have e : decide (NumOk n) = decide (0 ≤ n ∧ n ≤ 4294967295) := rfl
  rw [e]
  generalize decide (0 ≤ n ∧ n ≤ 4294967295) = b at hi ⊢
  have HI := hide hi
  clear hi e
  cases b
  all_goals
    go_enter Tryd.func49, Tryd.ntmps49
    go_wp2_with fail
    refine (HI.out _).mono ?_
    rintro e w1 ⟨rfl, rfl⟩
    go_wp2_with fail
    go_ret
    exact ⟨rfl, rfl⟩

set_option maxHeartbeats 1000000 in
theorem indexn_any (A : Option Addr) (n c : Nat) (L : List Int) (w : World) (ha : Is w A n c L) (hn : n ≤ 65536) :
    Calls Tryd.prog 58 #[.slice A n c, .func (.func 49) #[] #[]] w fun e w' => w = w' ∧
      (((∀ x ∈ L, NumOk x) ∧ e = .returned (.int .i64 (-1))) ∨ (¬ (∀ x ∈ L, NumOk x)) ∧ ∃ k : Nat, e = .returned (.int .i64 k)) := by
  have hlen := ha.len
  have HLEN := hide hlen
  clear hlen
  go_enter Tryd.func58, Tryd.ntmps58
  go_wp2_with fail
  go_loop [8] (fun i => ∃ k : Nat, k ≤ n ∧ i = .int .i64 k ∧ Hid (∀ x ∈ L.take k, NumOk x)) (fun i => n - (intOf i).toNat)
  case atStart => exact ⟨0, Nat.zero_le _, rfl, by intro x hx; simp at hx⟩
  case round =>
    obtain ⟨k, hk, rfl, hall⟩ := hrel
    by_cases hlt : k < n
    · obtain ⟨ad, x, rfl, hadl, hx, hxi, hcell⟩ := at_int ha hlt
      have hw := fun w => numc_any x w
      by_cases hok : NumOk x
      · rw [decide_eq_true hok] at hw
        have hnext : ∀ y ∈ L.take (k + 1), NumOk y := by
          obtain ⟨h1, e1⟩ := List.getElem?_eq_some_iff.1 hx
          rw [List.take_succ_eq_append_getElem h1, e1]
          intro y hy
          rcases List.mem_append.1 hy with hy | hy
          · exact hall.out y hy
          · simp at hy; subst hy; exact hok
        have HN := hide hnext
        have HW := hide hw
        clear hw hnext hok hx hxi
        go_wp2_with fail
        refine (HW.out _).mono ?_
        rintro e w1 ⟨rfl, rfl⟩
        go_wp2_with fail
        go_round
        case rel => exact ⟨k + 1, by omega, by go_num, HN⟩
        case measure => simp [intOf]; omega
      · rw [decide_eq_false hok] at hw
        have hbad : ¬ ∀ y ∈ L, NumOk y := fun h => hok (h x (List.mem_of_getElem? hx))
        have HB := hide hbad
        have HW := hide hw
        clear hw hbad hok hx hxi
        go_wp2_with fail
        refine (HW.out _).mono ?_
        rintro e w1 ⟨rfl, rfl⟩
        go_wp2_with fail
        go_ret
        exact ⟨rfl, .inr ⟨HB.out, k, rfl⟩⟩
    · obtain rfl : k = n := by omega
      go_wp2_with fail
      go_ret
      refine ⟨rfl, .inl ⟨?_, rfl⟩⟩
      have h := hall.out
      rwa [List.take_of_length_le (by rw [HLEN.out]; omega)] at h

set_option maxHeartbeats 1000000 in
theorem contn_any (A : Option Addr) (n c : Nat) (L : List Int) (w : World) (ha : Is w A n c L) (hn : n ≤ 65536) :
    Calls Tryd.prog 48 #[.slice A n c, .func (.func 49) #[] #[]] w fun e w' => e = .returned (.bool (!L.all fun x => decide (NumOk x))) ∧ w = w' := by
  have hi := indexn_any A n c L w ha hn
  obtain ⟨B, hB⟩ : ∃ B, B = !L.all fun x => decide (NumOk x) := ⟨_, rfl⟩
  have hB1 : (∀ x ∈ L, NumOk x) → B = false := fun h => by rw [hB, show (L.all fun x => decide (NumOk x)) = true by simpa using h]; rfl
  have hB2 : ¬ (∀ x ∈ L, NumOk x) → B = true := fun h => by rw [hB, show (L.all fun x => decide (NumOk x)) = false by rw [← Bool.not_eq_true]; simpa using h]; rfl
  rw [← hB]
  have HI := hide hi
  have H1 := hide hB1
  have H2 := hide hB2
  clear hi hB1 hB2 hB
  go_enter Tryd.func48, Tryd.ntmps48
  go_wp2_with fail
  refine HI.out.mono ?_
  rintro e w1 ⟨rfl, ⟨h, rfl⟩ | ⟨h, k, rfl⟩⟩
  · obtain rfl := H1.out h
    clear h
    go_wp2_with fail
    go_ret
    exact ⟨rfl, rfl⟩
  · obtain rfl := H2.out h
    clear h
    go_wp2_with fail
    go_ret
    exact ⟨by simp, rfl⟩

theorem anum_any (A : Option Addr) (n c : Nat) (L : List Int) (w : World) (ha : Is w A n c L) (hn : n ≤ 65536) :
    Calls Tryd.prog 35 #[.slice A n c] w fun e w' => e = .returned (.bool (L.all fun x => decide (NumOk x))) ∧ w = w' := by
  have hc := contn_any A n c L w ha hn
  generalize (L.all fun x => decide (NumOk x)) = b at hc ⊢
  have HC := hide hc
  clear hc
  cases b
  all_goals
    go_enter Tryd.func35, Tryd.ntmps35
    go_wp2_with fail
    refine HC.out.mono ?_
    rintro e w1 ⟨rfl, rfl⟩
    go_wp2_with fail
    go_ret
    exact ⟨rfl, rfl⟩

/-- slices.Index over ints. -/
def IdxPost (L : List Int) (x : Int) (w : World) (e : Ending) (w' : World) : Prop := w = w' ∧ ((∃ k : Nat, k < L.length ∧ L[k]? = some x ∧ x ∉ L.take k ∧ e = .returned (.int .i64 k)) ∨ (x ∉ L ∧ e = .returned (.int .i64 (-1))))
set_option maxHeartbeats 1000000 in
theorem index_any (A : Option Addr) (n c : Nat) (L : List Int) (x : Int) (w : World) (ha : Is w A n c L) (hn : n ≤ 65536) :
    Calls Tryd.prog 45 #[.slice A n c, .int .i64 x] w (IdxPost L x w) := by
  unfold IdxPost
  have hlen := ha.len
  have HLEN := hide hlen
  clear hlen
  go_enter Tryd.func45, Tryd.ntmps45
  go_wp2_with fail
  go_loop [8] (fun i => ∃ k : Nat, k ≤ n ∧ i = .int .i64 k ∧ Hid (x ∉ L.take k)) (fun i => n - (intOf i).toNat)
  case atStart => exact ⟨0, Nat.zero_le _, rfl, hide (by simp)⟩
  case round =>
    obtain ⟨k, hk, rfl, hno⟩ := hrel
    by_cases hlt : k < n
    · obtain ⟨ad, y, rfl, hadl, hy, hyi, hcell⟩ := at_int ha hlt
      by_cases hok : x = y
      · obtain rfl := hok.symm
        have HY := hide hy
        clear hy hok
        go_wp2_with fail
        go_ret
        exact ⟨rfl, .inl ⟨k, by rw [HLEN.out]; exact hlt, HY.out, hno.out, rfl⟩⟩
      · have hb : (x == y) = false := by simpa using hok
        have hnext : x ∉ L.take (k + 1) := by
          obtain ⟨h1, e1⟩ := List.getElem?_eq_some_iff.1 hy
          rw [List.take_succ_eq_append_getElem h1, e1]
          intro h
          rcases List.mem_append.1 h with h | h
          · exact hno.out h
          · simp at h; exact hok h
        have HN := hide hnext
        clear hok hy hnext
        go_wp2_with fail
        go_round
        case rel => exact ⟨k + 1, by omega, by go_num, HN⟩
        case measure => simp [intOf]; omega
    · obtain rfl : k = n := by omega
      have hfin : x ∉ L := by
        have h := hno.out
        rwa [List.take_of_length_le (by rw [HLEN.out]; omega)] at h
      have HF := hide hfin
      clear hfin
      go_wp2_with fail
      go_ret
      exact ⟨rfl, .inr ⟨HF.out, rfl⟩⟩

theorem contains_any (A : Option Addr) (n c : Nat) (L : List Int) (x : Int) (w : World) (ha : Is w A n c L) (hn : n ≤ 65536) :
    Calls Tryd.prog 30 #[.slice A n c, .int .i64 x] w fun e w' => e = .returned (.bool (decide (x ∈ L))) ∧ w = w' := by
  have hi := index_any A n c L x w ha hn
  unfold IdxPost at hi
  obtain ⟨B, hB⟩ : ∃ B, B = decide (x ∈ L) := ⟨_, rfl⟩
  have hB1 : x ∈ L → B = true := fun h => by rw [hB]; exact decide_eq_true h
  have hB2 : x ∉ L → B = false := fun h => by rw [hB]; exact decide_eq_false h
  rw [← hB]
  have HI := hide hi
  have H1 := hide hB1
  have H2 := hide hB2
  clear hi hB1 hB2 hB
  go_enter Tryd.func30, Tryd.ntmps30
  go_wp2_with fail
  refine HI.out.mono ?_
  rintro e w1 ⟨rfl, ⟨k, _, h, _, rfl⟩ | ⟨h, rfl⟩⟩
  · obtain rfl := H1.out (List.mem_of_getElem? h)
    clear h
    go_wp2_with fail
    go_ret
    exact ⟨by simp, rfl⟩
  · obtain rfl := H2.out h
    clear h
    go_wp2_with fail
    go_ret
    exact ⟨rfl, rfl⟩

end Go.Proofs.YtdcoholjnlndgaaDoor
