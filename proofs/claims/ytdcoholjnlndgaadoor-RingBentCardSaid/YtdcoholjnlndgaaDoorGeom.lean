/-
  Contracts: geom.in, geom.Check; casemateref01.Geometry; table.num, its closure, slices.IndexFunc and ContainsFunc over entries.
-/
import Derived.Test.YtdcoholjnlndgaaDoorTabP
import Derived.Test.YtdcoholjnlndgaaDoorSeal
import Derived.BigQuiet
namespace Go.Proofs.YtdcoholjnlndgaaDoor
open Go.RowKit
set_option linter.unusedVariables false
set_option maxRecDepth 100000

theorem gin_any (n lo hi : Int) (w : World) : Calls Tryd.prog 44 #[.int .i64 n, .int .i64 lo, .int .i64 hi] w fun e w' => e = .returned (.bool (decide (lo ≤ n ∧ n ≤ hi))) ∧ w = w' := by
  by_cases h1 : lo ≤ n
  · by_cases h2 : n ≤ hi
    · have e1 : decide (lo ≤ n ∧ n ≤ hi) = true := by simp [h1, h2]
      rw [e1]
      go_enter Tryd.func44, Tryd.ntmps44
      go_wp2_with fail
      go_ret
      exact ⟨rfl, rfl⟩
    · have e1 : decide (lo ≤ n ∧ n ≤ hi) = false := by simp [h2]
      rw [e1]
      go_enter Tryd.func44, Tryd.ntmps44
      go_wp2_with fail
      go_ret
      exact ⟨rfl, rfl⟩
  · have e1 : decide (lo ≤ n ∧ n ≤ hi) = false := by simp [h1]
    rw [e1]
    go_enter Tryd.func44, Tryd.ntmps44
    go_wp2_with fail
    go_ret
    exact ⟨rfl, rfl⟩

/-- What geom.Check says. -/
def geoErr (g : Geo) : Int := if GeoOk g then 0 else 1
theorem geo_bits (g : Geo) : decide (GeoOk g) = (decide (1 ≤ g.zones ∧ g.zones ≤ 4) && decide (1 ≤ g.data ∧ g.data ≤ 4) && decide (0 ≤ g.spares ∧ g.spares ≤ 2) && decide (14 ≤ g.slots ∧ g.slots ≤ 30) && decide (1 ≤ g.anchors ∧ g.anchors ≤ 3)) := by
  rw [Bool.eq_iff_iff]
  simp [GeoOk, and_assoc]

set_option maxHeartbeats 2000000 in
theorem gcheck_any (g : Geo) (w : World) :
    Calls Tryd.prog 27 #[g.v] w fun e w' => e = .returned (.int .i64 (geoErr g)) ∧ Below w.heap.size w w' := by
  have h0 := geo_bits g
  obtain ⟨z, d, s, l, a⟩ := g
  dsimp only at h0
  have i1 := fun w => gin_any z 1 4 w
  have i2 := fun w => gin_any d 1 4 w
  have i3 := fun w => gin_any s 0 2 w
  have i4 := fun w => gin_any l 14 30 w
  have i5 := fun w => gin_any a 1 3 w
  have hb := alloc_below w (.cells #[.int .i64 z, .int .i64 d, .int .i64 s, .int .i64 l, .int .i64 a] 23)
  unfold Geo.v
  dsimp only
  unfold geoErr
  rw [show (if GeoOk ⟨z, d, s, l, a⟩ then (0 : Int) else 1) = if decide (GeoOk ⟨z, d, s, l, a⟩) = true then 0 else 1 by simp, h0]
  obtain ⟨b1, e1⟩ : ∃ b, b = decide (1 ≤ z ∧ z ≤ 4) := ⟨_, rfl⟩
  obtain ⟨b2, e2⟩ : ∃ b, b = decide (1 ≤ d ∧ d ≤ 4) := ⟨_, rfl⟩
  obtain ⟨b3, e3⟩ : ∃ b, b = decide (0 ≤ s ∧ s ≤ 2) := ⟨_, rfl⟩
  obtain ⟨b4, e4⟩ : ∃ b, b = decide (14 ≤ l ∧ l ≤ 30) := ⟨_, rfl⟩
  obtain ⟨b5, e5⟩ : ∃ b, b = decide (1 ≤ a ∧ a ≤ 3) := ⟨_, rfl⟩
  rw [← e1] at i1 ⊢
  rw [← e2] at i2 ⊢
  rw [← e3] at i3 ⊢
  rw [← e4] at i4 ⊢
  rw [← e5] at i5 ⊢
  have I1 := hide i1
  have I2 := hide i2
  have I3 := hide i3
  have I4 := hide i4
  have I5 := hide i5
  clear h0 e1 e2 e3 e4 e5 i1 i2 i3 i4 i5
  cases b1
  · go_enter Tryd.func27, Tryd.ntmps27
    go_wp2_with fail
    refine (I1.out _).mono ?_
    rintro e w1 ⟨rfl, rfl⟩
    go_wp2_with fail
    go_ret
    exact ⟨rfl, hb⟩
  cases b2
  · go_enter Tryd.func27, Tryd.ntmps27
    go_wp2_with fail
    refine (I1.out _).mono ?_
    rintro e w1 ⟨rfl, rfl⟩
    go_wp2_with fail
    refine (I2.out _).mono ?_
    rintro e w1 ⟨rfl, rfl⟩
    go_wp2_with fail
    go_ret
    exact ⟨rfl, hb⟩
  cases b3
  · go_enter Tryd.func27, Tryd.ntmps27
    go_wp2_with fail
    refine (I1.out _).mono ?_
    rintro e w1 ⟨rfl, rfl⟩
    go_wp2_with fail
    refine (I2.out _).mono ?_
    rintro e w1 ⟨rfl, rfl⟩
    go_wp2_with fail
    refine (I3.out _).mono ?_
    rintro e w1 ⟨rfl, rfl⟩
    go_wp2_with fail
    go_ret
    exact ⟨rfl, hb⟩
  cases b4
  · go_enter Tryd.func27, Tryd.ntmps27
    go_wp2_with fail
    refine (I1.out _).mono ?_
    rintro e w1 ⟨rfl, rfl⟩
    go_wp2_with fail
    refine (I2.out _).mono ?_
    rintro e w1 ⟨rfl, rfl⟩
    go_wp2_with fail
    refine (I3.out _).mono ?_
    rintro e w1 ⟨rfl, rfl⟩
    go_wp2_with fail
    refine (I4.out _).mono ?_
    rintro e w1 ⟨rfl, rfl⟩
    go_wp2_with fail
    go_ret
    exact ⟨rfl, hb⟩
  cases b5
  all_goals
    go_enter Tryd.func27, Tryd.ntmps27
    go_wp2_with fail
    refine (I1.out _).mono ?_
    rintro e w1 ⟨rfl, rfl⟩
    go_wp2_with fail
    refine (I2.out _).mono ?_
    rintro e w1 ⟨rfl, rfl⟩
    go_wp2_with fail
    refine (I3.out _).mono ?_
    rintro e w1 ⟨rfl, rfl⟩
    go_wp2_with fail
    refine (I4.out _).mono ?_
    rintro e w1 ⟨rfl, rfl⟩
    go_wp2_with fail
    refine (I5.out _).mono ?_
    rintro e w1 ⟨rfl, rfl⟩
    go_wp2_with fail
    go_ret
    exact ⟨rfl, hb⟩

theorem num_any (n : Int) (w : World) : Calls Tryd.prog 67 #[.int .i64 n] w fun e w' => e = .returned (.bool (decide (NumOk n))) ∧ w = w' := by
  unfold NumOk
  by_cases h1 : 0 ≤ n
  · by_cases h2 : n ≤ 4294967295
    · have e1 : decide (0 ≤ n ∧ n ≤ 4294967295) = true := by simp [h1, h2]
      rw [e1]
      go_enter Tryd.func67, Tryd.ntmps67
      go_wp2_with fail
      go_ret
      exact ⟨rfl, rfl⟩
    · have e1 : decide (0 ≤ n ∧ n ≤ 4294967295) = false := by simp [h2]
      rw [e1]
      go_enter Tryd.func67, Tryd.ntmps67
      go_wp2_with fail
      go_ret
      exact ⟨rfl, rfl⟩
  · have e1 : decide (0 ≤ n ∧ n ≤ 4294967295) = false := by simp [h1]
    rw [e1]
    go_enter Tryd.func67, Tryd.ntmps67
    go_wp2_with fail
    go_ret
    exact ⟨rfl, rfl⟩

set_option maxHeartbeats 1000000 in
/-- table.Check's closure: is an entry wrong? -/
theorem wrong_any (x : Ent) (w : World) : Calls Tryd.prog 66 #[x.v] w fun e w' => e = .returned (.bool (decide (¬ EntOk x))) ∧ Below w.heap.size w w' := by
  obtain ⟨s, u, l⟩ := x
  have i1 := fun w => num_any s w
  have i2 := fun w => num_any u w
  have hb := alloc_below w (.cells #[.int .i64 s, .int .i64 u, .bool l] 80)
  unfold Ent.v
  dsimp only
  by_cases h1 : NumOk s
  · by_cases h2 : NumOk u
    · rw [decide_eq_true h1] at i1
      rw [decide_eq_true h2] at i2
      rw [show decide (¬ EntOk ⟨s, u, l⟩) = false from decide_eq_false (fun h => h ⟨h1, h2⟩)]
      clear h1 h2
      go_enter Tryd.func66, Tryd.ntmps66
      go_wp2_with fail
      refine (i1 _).mono ?_
      rintro e w1 ⟨rfl, rfl⟩
      go_wp2_with fail
      refine (i2 _).mono ?_
      rintro e w1 ⟨rfl, rfl⟩
      go_wp2_with fail
      go_ret
      exact ⟨rfl, hb⟩
    · rw [decide_eq_true h1] at i1
      rw [decide_eq_false h2] at i2
      rw [show decide (¬ EntOk ⟨s, u, l⟩) = true from decide_eq_true (fun h => h2 h.2)]
      clear h1 h2
      go_enter Tryd.func66, Tryd.ntmps66
      go_wp2_with fail
      refine (i1 _).mono ?_
      rintro e w1 ⟨rfl, rfl⟩
      go_wp2_with fail
      refine (i2 _).mono ?_
      rintro e w1 ⟨rfl, rfl⟩
      go_wp2_with fail
      go_ret
      exact ⟨rfl, hb⟩
  · rw [decide_eq_false h1] at i1
    rw [show decide (¬ EntOk ⟨s, u, l⟩) = true from decide_eq_true (fun h => h1 h.1)]
    clear h1
    go_enter Tryd.func66, Tryd.ntmps66
    go_wp2_with fail
    refine (i1 _).mono ?_
    rintro e w1 ⟨rfl, rfl⟩
    go_wp2_with fail
    go_ret
    exact ⟨rfl, hb⟩

end Go.Proofs.YtdcoholjnlndgaaDoor
