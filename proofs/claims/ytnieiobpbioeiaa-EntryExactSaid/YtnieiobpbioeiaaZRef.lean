/-
  Contracts: casematelaw07.Some; casemateref01.Geometry; casemateref08.in, What, At, Entry, Table, Had.
-/
import Derived.Test.YtnieiobpbioeiaaHad
import Derived.Test.YtnieiobpbioeiaaRefSum
namespace Go.Proofs.Ytnieiobpbioeiaa
open Go.RowKit
set_option linter.unusedVariables false
set_option maxRecDepth 100000

/-- int(uint(i) % n). -/
def um (i : Int) (n : Int) : Int := wrap64 ((IntKind.u64.wrap i).tmod n)
theorem um_is (i : Int) (n : Nat) (hn : 1 ≤ n) (hn' : n ≤ 4294967296) : ∃ k : Nat, um i n = (k : Int) ∧ k < n := by
  have h0 : 0 ≤ IntKind.u64.wrap i := by rw [IntKind.wrap_u64]; exact Int.emod_nonneg _ (by omega)
  have h1 : (IntKind.u64.wrap i).tmod (n : Int) = IntKind.u64.wrap i % (n : Int) := Int.tmod_eq_emod_of_nonneg h0
  have h2 : 0 ≤ IntKind.u64.wrap i % (n : Int) := Int.emod_nonneg _ (by omega)
  have h3 : IntKind.u64.wrap i % (n : Int) < n := Int.emod_lt_of_pos _ (by omega)
  unfold um
  rw [h1, IntWalk.wrap64_in _ ⟨by omega, by omega⟩]
  exact ⟨(IntKind.u64.wrap i % (n : Int)).toNat, by omega, by omega⟩

/-- A right geometry, of any numbers. -/
def someG (z d s l a : Int) : Geo := ⟨1 + um z 4, 1 + um d 4, um s 3, 14 + um l 17, 1 + um a 3⟩
theorem someG_ok (z d s l a : Int) : GeoOk (someG z d s l a) := by
  obtain ⟨k1, e1, h1⟩ := um_is z 4 (by omega) (by omega)
  obtain ⟨k2, e2, h2⟩ := um_is d 4 (by omega) (by omega)
  obtain ⟨k3, e3, h3⟩ := um_is s 3 (by omega) (by omega)
  obtain ⟨k4, e4, h4⟩ := um_is l 17 (by omega) (by omega)
  obtain ⟨k5, e5, h5⟩ := um_is a 3 (by omega) (by omega)
  unfold someG
  rw [show um z 4 = um z ((4 : Nat) : Int) from rfl, show um d 4 = um d ((4 : Nat) : Int) from rfl, show um s 3 = um s ((3 : Nat) : Int) from rfl, show um l 17 = um l ((17 : Nat) : Int) from rfl, show um a 3 = um a ((3 : Nat) : Int) from rfl, e1, e2, e3, e4, e5]
  exact ⟨⟨by show (1 : Int) ≤ 1 + k1; omega, by show 1 + (k1 : Int) ≤ 4; omega⟩, ⟨by show (1 : Int) ≤ 1 + k2; omega, by show 1 + (k2 : Int) ≤ 4; omega⟩, ⟨by show (0 : Int) ≤ k3; omega, by show (k3 : Int) ≤ 2; omega⟩, ⟨by show (14 : Int) ≤ 14 + k4; omega, by show 14 + (k4 : Int) ≤ 30; omega⟩, by show (1 : Int) ≤ 1 + k5; omega, by show 1 + (k5 : Int) ≤ 3; omega⟩

set_option maxHeartbeats 1000000 in
theorem some_any (z d s l a : Int) (hz : InI z) (hd : InI d) (hs : InI s) (hl : InI l) (ha : InI a) (w : World) :
    Calls Try.prog 40 #[.int .i64 z, .int .i64 d, .int .i64 s, .int .i64 l, .int .i64 a] w fun e w' => e = .returned (someG z d s l a).v ∧ Below w.heap.size w w' := by
  obtain ⟨k1, e1, h1⟩ := um_is z 4 (by omega) (by omega)
  obtain ⟨k2, e2, h2⟩ := um_is d 4 (by omega) (by omega)
  obtain ⟨k3, e3, h3⟩ := um_is s 3 (by omega) (by omega)
  obtain ⟨k4, e4, h4⟩ := um_is l 17 (by omega) (by omega)
  obtain ⟨k5, e5, h5⟩ := um_is a 3 (by omega) (by omega)
  unfold someG
  rw [show um z 4 = um z ((4 : Nat) : Int) from rfl, show um d 4 = um d ((4 : Nat) : Int) from rfl, show um s 3 = um s ((3 : Nat) : Int) from rfl, show um l 17 = um l ((17 : Nat) : Int) from rfl, show um a 3 = um a ((3 : Nat) : Int) from rfl, e1, e2, e3, e4, e5]
  replace e1 : wrap64 ((IntKind.u64.wrap z).tmod 4) = (k1 : Int) := e1
  replace e2 : wrap64 ((IntKind.u64.wrap d).tmod 4) = (k2 : Int) := e2
  replace e3 : wrap64 ((IntKind.u64.wrap s).tmod 3) = (k3 : Int) := e3
  replace e4 : wrap64 ((IntKind.u64.wrap l).tmod 17) = (k4 : Int) := e4
  replace e5 : wrap64 ((IntKind.u64.wrap a).tmod 3) = (k5 : Int) := e5
  unfold Geo.v
  dsimp only
  go_enter Try.func40, Try.ntmps40
  go_wp2_with fail
  exact bodyPost_ret (v := .agg #[.int .i64 (1 + k1), .int .i64 (1 + k2), .int .i64 k3, .int .i64 (14 + k4), .int .i64 (1 + k5)]) (by simp [results, Try.results40, go_sem]) rfl ⟨rfl, alloc_below _ _⟩

theorem geo_i8 (n lo hi : Int) (w : World) : Calls Try.prog 76 #[.int .i64 n, .int .i64 lo, .int .i64 hi] w fun e w' => e = .returned (.bool (decide (lo ≤ n ∧ n ≤ hi))) ∧ w = w' := by
  by_cases h1 : lo ≤ n
  · by_cases h2 : n ≤ hi
    · have e1 : decide (lo ≤ n ∧ n ≤ hi) = true := by simp [h1, h2]
      rw [e1]
      go_enter Try.func76, Try.ntmps76
      go_wp2_with fail
      go_ret
      exact ⟨rfl, rfl⟩
    · have e1 : decide (lo ≤ n ∧ n ≤ hi) = false := by simp [h2]
      rw [e1]
      go_enter Try.func76, Try.ntmps76
      go_wp2_with fail
      go_ret
      exact ⟨rfl, rfl⟩
  · have e1 : decide (lo ≤ n ∧ n ≤ hi) = false := by simp [h1]
    rw [e1]
    go_enter Try.func76, Try.ntmps76
    go_wp2_with fail
    go_ret
    exact ⟨rfl, rfl⟩

theorem what_any (g : Geo) (hg : GeoOk g) (k : Int) (w : World) :
    Calls Try.prog 38 #[g.v, .int .i64 k] w fun e w' => e = .returned (.bool (decide (-1 ≤ k ∧ k ≤ g.data - 1))) ∧ Below w.heap.size w w' := by
  obtain ⟨z, d, s, l, a⟩ := g
  have hd := hg.2.1
  dsimp only at hd
  unfold Geo.v
  dsimp only
  have hi := fun w => geo_i8 k (-1) (d - 1) w
  obtain ⟨D, hD⟩ : ∃ D, D = decide (-1 ≤ k ∧ k ≤ d - 1) := ⟨_, rfl⟩
  rw [← hD] at hi ⊢
  have HI := hide hi
  clear hi hD
  go_enter Try.func38, Try.ntmps38
  go_wp2_with fail
  refine (HI.out _).mono ?_
  rintro e w1 ⟨rfl, rfl⟩
  go_wp2_with fail
  go_ret
  exact ⟨rfl, alloc_below _ _⟩

theorem gat_any (g : Geo) (k : Int) (w : World) :
    Calls Try.prog 39 #[g.v, .int .i64 k] w fun e w' => e = .returned (.int .i64 (if k = -1 then g.data else k)) ∧ Below w.heap.size w w' := by
  obtain ⟨z, d, s, l, a⟩ := g
  unfold Geo.v
  dsimp only
  by_cases h : k = -1
  · subst h
    rw [if_pos rfl]
    go_enter Try.func39, Try.ntmps39
    go_wp2_with fail
    go_ret
    exact ⟨rfl, alloc_below _ _⟩
  · rw [if_neg h]
    have e1 : (k == -1) = false := by simpa using h
    clear h
    go_enter Try.func39, Try.ntmps39
    go_wp2_with fail
    go_ret
    exact ⟨rfl, alloc_below _ _⟩

theorem entry8_any {A : Option Addr} {n c : Nat} {l : List UInt8} {w : World} (s : Int) (ha : Bs w A n c l) (hn : n ≤ 60000) :
    Calls Try.prog 72 #[.int .i64 s, .slice A n c] w fun e w' => e = .returned (Ent.v ⟨s, crc l, false⟩) ∧ Below w.heap.size w w' := by
  have hb0 := alloc_below w (.cells #[.int .i64 0, .int .i64 0, .bool false] 54)
  have hs := ref_sum (ha.on byteR_fine hb0) (by omega)
  obtain ⟨K, hK⟩ : ∃ K, K = crc l := ⟨_, rfl⟩
  rw [← hK] at hs ⊢
  have HS := hide hs
  clear hs hK
  unfold Ent.v
  dsimp only
  go_enter Try.func72, Try.ntmps72
  go_wp2_with fail
  refine HS.out.mono ?_
  rintro e w1 ⟨rfl, rfl⟩
  go_wp2_with fail
  exact bodyPost_ret (v := .agg #[.int .i64 s, .int .i64 K, .bool false]) (by simp [results, Try.results72, go_sem]) rfl ⟨rfl, alloc_below _ _⟩

set_option maxHeartbeats 2000000 in
theorem rgeo_any (g : Geo) (w : World) :
    Calls Try.prog 32 #[g.v] w fun e w' => e = .returned (.bool (decide (GeoOk g))) ∧ Below w.heap.size w w' := by
  have h0 := geo_bits g
  obtain ⟨z, d, s, l, a⟩ := g
  dsimp only at h0
  have i1 := fun w => in_any z 1 4 w
  have i2 := fun w => in_any d 1 4 w
  have i3 := fun w => in_any s 0 2 w
  have i4 := fun w => in_any l 14 30 w
  have i5 := fun w => in_any a 1 3 w
  have hb := alloc_below w (.cells #[.int .i64 z, .int .i64 d, .int .i64 s, .int .i64 l, .int .i64 a] 23)
  unfold Geo.v
  dsimp only
  rw [h0]
  obtain ⟨b1, e1⟩ : ∃ b, b = decide (1 ≤ z ∧ z ≤ 4) := ⟨_, rfl⟩
  obtain ⟨b2, e2⟩ : ∃ b, b = decide (1 ≤ d ∧ d ≤ 4) := ⟨_, rfl⟩
  obtain ⟨b3, e3⟩ : ∃ b, b = decide (0 ≤ s ∧ s ≤ 2) := ⟨_, rfl⟩
  obtain ⟨b4, e4⟩ : ∃ b, b = decide (14 ≤ l ∧ l ≤ 30) := ⟨_, rfl⟩
  obtain ⟨b5, e5⟩ : ∃ b, b = decide (1 ≤ a ∧ a ≤ 3) := ⟨_, rfl⟩
  rw [← e1] at i1 ⊢
  rw [← e2] at i2 ⊢
  rw [← e3] at i3 ⊢
  rw [← e4] at i4 ⊢
  rw [← e5] at i5 ⊢
  have I1 := hide i1
  have I2 := hide i2
  have I3 := hide i3
  have I4 := hide i4
  have I5 := hide i5
  clear h0 e1 e2 e3 e4 e5 i1 i2 i3 i4 i5
  cases b1
  · go_enter Try.func32, Try.ntmps32
    go_wp2_with fail
    refine (I1.out _).mono ?_
    rintro e w1 ⟨rfl, rfl⟩
    go_wp2_with fail
    go_ret
    exact ⟨rfl, hb⟩
  cases b2
  · go_enter Try.func32, Try.ntmps32
    go_wp2_with fail
    refine (I1.out _).mono ?_
    rintro e w1 ⟨rfl, rfl⟩
    go_wp2_with fail
    refine (I2.out _).mono ?_
    rintro e w1 ⟨rfl, rfl⟩
    go_wp2_with fail
    go_ret
    exact ⟨rfl, hb⟩
  cases b3
  · go_enter Try.func32, Try.ntmps32
    go_wp2_with fail
    refine (I1.out _).mono ?_
    rintro e w1 ⟨rfl, rfl⟩
    go_wp2_with fail
    refine (I2.out _).mono ?_
    rintro e w1 ⟨rfl, rfl⟩
    go_wp2_with fail
    refine (I3.out _).mono ?_
    rintro e w1 ⟨rfl, rfl⟩
    go_wp2_with fail
    go_ret
    exact ⟨rfl, hb⟩
  cases b4
  · go_enter Try.func32, Try.ntmps32
    go_wp2_with fail
    refine (I1.out _).mono ?_
    rintro e w1 ⟨rfl, rfl⟩
    go_wp2_with fail
    refine (I2.out _).mono ?_
    rintro e w1 ⟨rfl, rfl⟩
    go_wp2_with fail
    refine (I3.out _).mono ?_
    rintro e w1 ⟨rfl, rfl⟩
    go_wp2_with fail
    refine (I4.out _).mono ?_
    rintro e w1 ⟨rfl, rfl⟩
    go_wp2_with fail
    go_ret
    exact ⟨rfl, hb⟩
  cases b5
  all_goals
    go_enter Try.func32, Try.ntmps32
    go_wp2_with fail
    refine (I1.out _).mono ?_
    rintro e w1 ⟨rfl, rfl⟩
    go_wp2_with fail
    refine (I2.out _).mono ?_
    rintro e w1 ⟨rfl, rfl⟩
    go_wp2_with fail
    refine (I3.out _).mono ?_
    rintro e w1 ⟨rfl, rfl⟩
    go_wp2_with fail
    refine (I4.out _).mono ?_
    rintro e w1 ⟨rfl, rfl⟩
    go_wp2_with fail
    refine (I5.out _).mono ?_
    rintro e w1 ⟨rfl, rfl⟩
    go_wp2_with fail
    go_ret
    exact ⟨rfl, hb⟩

set_option maxHeartbeats 1000000 in
theorem rhad_any (A : Option Addr) (n c : Nat) (H : List (List UInt8)) (g : Geo) (hg : GeoOk g) (w : World) (ha : Rs w A n c H) (hn : n ≤ 65536) :
    Calls Try.prog 35 #[g.v, .slice A n c] w fun e w' => e = .returned (.bool (decide (HadOk g.data H))) ∧ Below w.heap.size w w' := by
  have hlen := ha.len
  have hd := hg.2.1
  obtain ⟨z, d, s, l, a⟩ := g
  dsimp only at hd
  have hb0 := alloc_below w (.cells #[.int .i64 z, .int .i64 d, .int .i64 s, .int .i64 l, .int .i64 a] 23)
  have ha0 := ha.on bytesR_fine hb0
  obtain ⟨D, hD⟩ : ∃ D, D = decide (HadOk d H) := ⟨_, rfl⟩
  unfold Geo.v
  dsimp only
  rw [← hD]
  clear hg
  by_cases hnd : (n : Int) = d + 1
  · have e0 : ((n : Int) != d + 1) = false := by simpa using hnd
    have hT : (∀ x ∈ H, BlkOk x) → D = true := fun h => hD.trans (decide_eq_true ⟨by rw [hlen]; exact hnd, h⟩)
    have hF : ∀ x ∈ H, ¬ BlkOk x → D = false := fun x hx h => hD.trans (decide_eq_false fun hh => h (hh.2 x hx))
    have HT := hide hT
    have HF := hide hF
    have HLEN := hide hlen
    clear hT hF hD hlen hnd
    go_enter Try.func35, Try.ntmps35
    go_wp2_with fail
    go_loop [5] (fun i => ∃ k : Nat, k ≤ n ∧ i = .int .i64 k ∧ Hid (∀ x ∈ H.take k, BlkOk x)) (fun i => n - (intOf i).toNat)
    case atStart => exact ⟨0, Nat.zero_le _, rfl, by intro x hx; simp at hx⟩
    case round =>
      obtain ⟨k, hk, rfl, hall⟩ := hrel
      by_cases hlt : k < n
      · obtain ⟨ad, x, A1, n1, c1, rfl, hadl, hx, hs, hcell⟩ := at_row ha0 hlt
        have hxl := hs.len
        by_cases h0 : n1 = 0
        · have hnext : ∀ y ∈ H.take (k + 1), BlkOk y := by
            obtain ⟨h1, e1⟩ := List.getElem?_eq_some_iff.1 hx
            rw [List.take_succ_eq_append_getElem h1, e1]
            intro y hy
            rcases List.mem_append.1 hy with hy | hy
            · exact hall.out y hy
            · simp at hy; subst hy; exact .inl (by omega)
          have HN := hide hnext
          subst h0
          clear hnext hx hxl
          go_wp2_with fail
          go_round
          case rel => exact ⟨k + 1, by omega, by go_num, HN⟩
          case measure => simp [intOf]; omega
        · have e1 : ((n1 : Int) != 0) = true := by simp; omega
          by_cases h8 : n1 = 8
          · have hnext : ∀ y ∈ H.take (k + 1), BlkOk y := by
              obtain ⟨h1, e1⟩ := List.getElem?_eq_some_iff.1 hx
              rw [List.take_succ_eq_append_getElem h1, e1]
              intro y hy
              rcases List.mem_append.1 hy with hy | hy
              · exact hall.out y hy
              · simp at hy; subst hy; exact .inr (by omega)
            have HN := hide hnext
            subst h8
            clear hnext hx hxl h0
            go_wp2_with fail
            go_round
            case rel => exact ⟨k + 1, by omega, by go_num, HN⟩
            case measure => simp [intOf]; omega
          · have e2 : ((n1 : Int) != 8) = true := by simp; omega
            obtain rfl := HF.out x (List.mem_of_getElem? hx) (fun h => by rcases h with h | h <;> omega)
            clear hx hxl h0 h8
            go_wp2_with fail
            go_ret
            exact ⟨rfl, hb0⟩
      · obtain rfl : k = n := by omega
        have hh := hall.out
        rw [List.take_of_length_le (by rw [HLEN.out]; omega)] at hh
        obtain rfl := HT.out hh
        clear hh
        go_wp2_with fail
        go_ret
        exact ⟨rfl, hb0⟩
  · have e0 : ((n : Int) != d + 1) = true := by simpa using hnd
    obtain rfl := hD.trans (decide_eq_false fun hh => hnd (by rw [← hlen]; exact hh.1))
    clear hD hlen hnd
    go_enter Try.func35, Try.ntmps35
    go_wp2_with fail
    go_ret
    exact ⟨rfl, hb0⟩

end Go.Proofs.Ytnieiobpbioeiaa
