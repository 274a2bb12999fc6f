/-
  Contracts: casematelaw07.Some; casemateref01.Geometry; casemateref08.in, What, At, Entry, Table, Had.
-/
import Derived.Test.YtamgpbkakmffiaaDoorHad
import Derived.Test.YtamgpbkakmffiaaDoorRefSum
namespace Go.Proofs.YtamgpbkakmffiaaDoor
open Go.RowKit
set_option linter.unusedVariables false
set_option maxRecDepth 100000

/-- int(uint(i) % n). -/
def um (i : Int) (n : Int) : Int := wrap64 ((IntKind.u64.wrap i).tmod n)
theorem um_is (i : Int) (n : Nat) (hn : 1 ≤ n) (hn' : n ≤ 4294967296) : ∃ k : Nat, um i n = (k : Int) ∧ k < n := by
  have h0 : 0 ≤ IntKind.u64.wrap i := by rw [IntKind.wrap_u64]; exact Int.emod_nonneg _ (by omega)
  have h1 : (IntKind.u64.wrap i).tmod (n : Int) = IntKind.u64.wrap i % (n : Int) := Int.tmod_eq_emod_of_nonneg h0
  have h2 : 0 ≤ IntKind.u64.wrap i % (n : Int) := Int.emod_nonneg _ (by omega)
  have h3 : IntKind.u64.wrap i % (n : Int) < n := Int.emod_lt_of_pos _ (by omega)
  unfold um
  rw [h1, IntWalk.wrap64_in _ ⟨by omega, by omega⟩]
  exact ⟨(IntKind.u64.wrap i % (n : Int)).toNat, by omega, by omega⟩

/-- A right geometry, of any numbers. -/
def someG (z d s l a : Int) : Geo := ⟨1 + um z 4, 1 + um d 4, um s 3, 14 + um l 17, 1 + um a 3⟩
theorem someG_ok (z d s l a : Int) : GeoOk (someG z d s l a) := by
  obtain ⟨k1, e1, h1⟩ := um_is z 4 (by omega) (by omega)
  obtain ⟨k2, e2, h2⟩ := um_is d 4 (by omega) (by omega)
  obtain ⟨k3, e3, h3⟩ := um_is s 3 (by omega) (by omega)
  obtain ⟨k4, e4, h4⟩ := um_is l 17 (by omega) (by omega)
  obtain ⟨k5, e5, h5⟩ := um_is a 3 (by omega) (by omega)
  unfold someG
  rw [show um z 4 = um z ((4 : Nat) : Int) from rfl, show um d 4 = um d ((4 : Nat) : Int) from rfl, show um s 3 = um s ((3 : Nat) : Int) from rfl, show um l 17 = um l ((17 : Nat) : Int) from rfl, show um a 3 = um a ((3 : Nat) : Int) from rfl, e1, e2, e3, e4, e5]
  exact ⟨⟨by show (1 : Int) ≤ 1 + k1; omega, by show 1 + (k1 : Int) ≤ 4; omega⟩, ⟨by show (1 : Int) ≤ 1 + k2; omega, by show 1 + (k2 : Int) ≤ 4; omega⟩, ⟨by show (0 : Int) ≤ k3; omega, by show (k3 : Int) ≤ 2; omega⟩, ⟨by show (14 : Int) ≤ 14 + k4; omega, by show 14 + (k4 : Int) ≤ 30; omega⟩, by show (1 : Int) ≤ 1 + k5; omega, by show 1 + (k5 : Int) ≤ 3; omega⟩

theorem um_zero (n : Int) : um 0 n = 0 := by
  unfold um
  rw [IntKind.wrap_u64, Int.zero_emod, Int.zero_tmod, IntWalk.wrap64_in _ ⟨by omega, by omega⟩]
theorem some_zero : someG 0 0 0 0 0 = ⟨1, 1, 0, 14, 1⟩ := by
  unfold someG
  simp only [um_zero]
  rfl
theorem geo_one : GeoOk ⟨1, 1, 0, 14, 1⟩ := by decide

set_option maxHeartbeats 1000000 in
theorem some_any (z d s l a : Int) (hz : InI z) (hd : InI d) (hs : InI s) (hl : InI l) (ha : InI a) (w : World) :
    Calls Tryd.prog 30 #[.int .i64 z, .int .i64 d, .int .i64 s, .int .i64 l, .int .i64 a] w fun e w' => e = .returned (someG z d s l a).v ∧ Below w.heap.size w w' := by
  obtain ⟨k1, e1, h1⟩ := um_is z 4 (by omega) (by omega)
  obtain ⟨k2, e2, h2⟩ := um_is d 4 (by omega) (by omega)
  obtain ⟨k3, e3, h3⟩ := um_is s 3 (by omega) (by omega)
  obtain ⟨k4, e4, h4⟩ := um_is l 17 (by omega) (by omega)
  obtain ⟨k5, e5, h5⟩ := um_is a 3 (by omega) (by omega)
  unfold someG
  rw [show um z 4 = um z ((4 : Nat) : Int) from rfl, show um d 4 = um d ((4 : Nat) : Int) from rfl, show um s 3 = um s ((3 : Nat) : Int) from rfl, show um l 17 = um l ((17 : Nat) : Int) from rfl, show um a 3 = um a ((3 : Nat) : Int) from rfl, e1, e2, e3, e4, e5]
  replace e1 : wrap64 ((IntKind.u64.wrap z).tmod 4) = (k1 : Int) := e1
  replace e2 : wrap64 ((IntKind.u64.wrap d).tmod 4) = (k2 : Int) := e2
  replace e3 : wrap64 ((IntKind.u64.wrap s).tmod 3) = (k3 : Int) := e3
  replace e4 : wrap64 ((IntKind.u64.wrap l).tmod 17) = (k4 : Int) := e4
  replace e5 : wrap64 ((IntKind.u64.wrap a).tmod 3) = (k5 : Int) := e5
  unfold Geo.v
  dsimp only
  go_enter Tryd.func30, Tryd.ntmps30
  go_wp2_with fail
  exact bodyPost_ret (v := .agg #[.int .i64 (1 + k1), .int .i64 (1 + k2), .int .i64 k3, .int .i64 (14 + k4), .int .i64 (1 + k5)]) (by simp [results, Tryd.results30, go_sem]) rfl ⟨rfl, alloc_below _ _⟩

theorem geo_i8 (n lo hi : Int) (w : World) : Calls Tryd.prog 63 #[.int .i64 n, .int .i64 lo, .int .i64 hi] w fun e w' => e = .returned (.bool (decide (lo ≤ n ∧ n ≤ hi))) ∧ w = w' := by
  by_cases h1 : lo ≤ n
  · by_cases h2 : n ≤ hi
    · have e1 : decide (lo ≤ n ∧ n ≤ hi) = true := by simp [h1, h2]
      rw [e1]
      go_enter Tryd.func63, Tryd.ntmps63
      go_wp2_with fail
      go_ret
      exact ⟨rfl, rfl⟩
    · have e1 : decide (lo ≤ n ∧ n ≤ hi) = false := by simp [h2]
      rw [e1]
      go_enter Tryd.func63, Tryd.ntmps63
      go_wp2_with fail
      go_ret
      exact ⟨rfl, rfl⟩
  · have e1 : decide (lo ≤ n ∧ n ≤ hi) = false := by simp [h1]
    rw [e1]
    go_enter Tryd.func63, Tryd.ntmps63
    go_wp2_with fail
    go_ret
    exact ⟨rfl, rfl⟩

theorem what_any (g : Geo) (hg : GeoOk g) (k : Int) (w : World) :
    Calls Tryd.prog 27 #[g.v, .int .i64 k] w fun e w' => e = .returned (.bool (decide (-1 ≤ k ∧ k ≤ g.data - 1))) ∧ Below w.heap.size w w' := by
  obtain ⟨z, d, s, l, a⟩ := g
  have hd := hg.2.1
  dsimp only at hd
  unfold Geo.v
  dsimp only
  have hi := fun w => geo_i8 k (-1) (d - 1) w
  obtain ⟨D, hD⟩ : ∃ D, D = decide (-1 ≤ k ∧ k ≤ d - 1) := ⟨_, rfl⟩
  rw [← hD] at hi ⊢
  have HI := hide hi
  clear hi hD
  go_enter Tryd.func27, Tryd.ntmps27
  go_wp2_with fail
  refine (HI.out _).mono ?_
  rintro e w1 ⟨rfl, rfl⟩
  go_wp2_with fail
  go_ret
  exact ⟨rfl, alloc_below _ _⟩

theorem gat_any (g : Geo) (k : Int) (w : World) :
    Calls Tryd.prog 65 #[g.v, .int .i64 k] w fun e w' => e = .returned (.int .i64 (if k = -1 then g.data else k)) ∧ Below w.heap.size w w' := by
  obtain ⟨z, d, s, l, a⟩ := g
  unfold Geo.v
  dsimp only
  by_cases h : k = -1
  · subst h
    rw [if_pos rfl]
    go_enter Tryd.func65, Tryd.ntmps65
    go_wp2_with fail
    go_ret
    exact ⟨rfl, alloc_below _ _⟩
  · rw [if_neg h]
    have e1 : (k == -1) = false := by simpa using h
    clear h
    go_enter Tryd.func65, Tryd.ntmps65
    go_wp2_with fail
    go_ret
    exact ⟨rfl, alloc_below _ _⟩

set_option maxHeartbeats 2000000 in
theorem rgeo_any (g : Geo) (w : World) :
    Calls Tryd.prog 23 #[g.v] w fun e w' => e = .returned (.bool (decide (GeoOk g))) ∧ Below w.heap.size w w' := by
  have h0 := geo_bits g
  obtain ⟨z, d, s, l, a⟩ := g
  dsimp only at h0
  have i1 := fun w => in_any z 1 4 w
  have i2 := fun w => in_any d 1 4 w
  have i3 := fun w => in_any s 0 2 w
  have i4 := fun w => in_any l 14 30 w
  have i5 := fun w => in_any a 1 3 w
  have hb := alloc_below w (.cells #[.int .i64 z, .int .i64 d, .int .i64 s, .int .i64 l, .int .i64 a] 23)
  unfold Geo.v
  dsimp only
  rw [h0]
  obtain ⟨b1, e1⟩ : ∃ b, b = decide (1 ≤ z ∧ z ≤ 4) := ⟨_, rfl⟩
  obtain ⟨b2, e2⟩ : ∃ b, b = decide (1 ≤ d ∧ d ≤ 4) := ⟨_, rfl⟩
  obtain ⟨b3, e3⟩ : ∃ b, b = decide (0 ≤ s ∧ s ≤ 2) := ⟨_, rfl⟩
  obtain ⟨b4, e4⟩ : ∃ b, b = decide (14 ≤ l ∧ l ≤ 30) := ⟨_, rfl⟩
  obtain ⟨b5, e5⟩ : ∃ b, b = decide (1 ≤ a ∧ a ≤ 3) := ⟨_, rfl⟩
  rw [← e1] at i1 ⊢
  rw [← e2] at i2 ⊢
  rw [← e3] at i3 ⊢
  rw [← e4] at i4 ⊢
  rw [← e5] at i5 ⊢
  have I1 := hide i1
  have I2 := hide i2
  have I3 := hide i3
  have I4 := hide i4
  have I5 := hide i5
  clear h0 e1 e2 e3 e4 e5 i1 i2 i3 i4 i5
  cases b1
  · go_enter Tryd.func23, Tryd.ntmps23
    go_wp2_with fail
    refine (I1.out _).mono ?_
    rintro e w1 ⟨rfl, rfl⟩
    go_wp2_with fail
    go_ret
    exact ⟨rfl, hb⟩
  cases b2
  · go_enter Tryd.func23, Tryd.ntmps23
    go_wp2_with fail
    refine (I1.out _).mono ?_
    rintro e w1 ⟨rfl, rfl⟩
    go_wp2_with fail
    refine (I2.out _).mono ?_
    rintro e w1 ⟨rfl, rfl⟩
    go_wp2_with fail
    go_ret
    exact ⟨rfl, hb⟩
  cases b3
  · go_enter Tryd.func23, Tryd.ntmps23
    go_wp2_with fail
    refine (I1.out _).mono ?_
    rintro e w1 ⟨rfl, rfl⟩
    go_wp2_with fail
    refine (I2.out _).mono ?_
    rintro e w1 ⟨rfl, rfl⟩
    go_wp2_with fail
    refine (I3.out _).mono ?_
    rintro e w1 ⟨rfl, rfl⟩
    go_wp2_with fail
    go_ret
    exact ⟨rfl, hb⟩
  cases b4
  · go_enter Tryd.func23, Tryd.ntmps23
    go_wp2_with fail
    refine (I1.out _).mono ?_
    rintro e w1 ⟨rfl, rfl⟩
    go_wp2_with fail
    refine (I2.out _).mono ?_
    rintro e w1 ⟨rfl, rfl⟩
    go_wp2_with fail
    refine (I3.out _).mono ?_
    rintro e w1 ⟨rfl, rfl⟩
    go_wp2_with fail
    refine (I4.out _).mono ?_
    rintro e w1 ⟨rfl, rfl⟩
    go_wp2_with fail
    go_ret
    exact ⟨rfl, hb⟩
  cases b5
  all_goals
    go_enter Tryd.func23, Tryd.ntmps23
    go_wp2_with fail
    refine (I1.out _).mono ?_
    rintro e w1 ⟨rfl, rfl⟩
    go_wp2_with fail
    refine (I2.out _).mono ?_
    rintro e w1 ⟨rfl, rfl⟩
    go_wp2_with fail
    refine (I3.out _).mono ?_
    rintro e w1 ⟨rfl, rfl⟩
    go_wp2_with fail
    refine (I4.out _).mono ?_
    rintro e w1 ⟨rfl, rfl⟩
    go_wp2_with fail
    refine (I5.out _).mono ?_
    rintro e w1 ⟨rfl, rfl⟩
    go_wp2_with fail
    go_ret
    exact ⟨rfl, hb⟩

end Go.Proofs.YtamgpbkakmffiaaDoor
