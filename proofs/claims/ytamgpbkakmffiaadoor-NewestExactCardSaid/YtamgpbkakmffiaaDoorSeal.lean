/-
  Contracts: seal.Make; the reference's Right, Seal.
-/
import Derived.Test.YtamgpbkakmffiaaDoorRefP
import Derived.Test.YtamgpbkakmffiaaDoorSum
import Derived.Test.YtamgpbkakmffiaaDoorSealP
import Derived.Deep.RegionHeld3
namespace Go.Proofs.YtamgpbkakmffiaaDoor
open Go.RowKit
set_option linter.unusedVariables false
set_option maxRecDepth 100000

theorem fits2 {a : Nat} (h : a ≤ 65535) : FitsP (a : Int) 2 := ⟨.inr (.inl rfl), by omega, by simp; omega⟩
theorem fits4 {a : Nat} (h : a ≤ 4294967295) : FitsP (a : Int) 4 := ⟨.inr (.inr rfl), by omega, by simp; omega⟩

/-- The cells of a thing that was boxed, in a later world. -/
theorem box_cell {w w' : World} {cs : Array Value} {e : TypeId} (hb : Below (w.alloc (.cells cs e)).heap.size (w.alloc (.cells cs e)) w') (k : Nat) (u : Value) (h : cs[k]? = some u) : w'.cell? ⟨w.heap.size, k, none⟩ = some u := by
  have h0 : (w.alloc (.cells cs e)).cell? ⟨w.heap.size, k, none⟩ = some u := by
    rw [World.cell?_alloc_at cs e _ _ rfl]
    exact h
  exact (hb.cell (by simp)).trans h0

theorem box_free {w w' : World} {cs : Array Value} {e : TypeId} (hb : Below (w.alloc (.cells cs e)).heap.size (w.alloc (.cells cs e)) w') (k : Nat) : w'.frozen? ⟨w.heap.size, k, none⟩ = false :=
  (hb.frozen (by simp)).trans (World.frozen?_alloc_at _ _ _ _ rfl)

set_option maxHeartbeats 1000000 in
theorem make_arg {V : Value} {w : World} (a s : Int) (h : ¬ ((0 ≤ a ∧ a ≤ 65535) ∧ 0 ≤ s ∧ s ≤ 4294967295)) :
    Calls Tryd.prog 90 #[.agg #[.int .i64 a, .int .i64 s, V]] w fun e w' => e = .returned (.tuple #[.slice none 0 0, .int .i64 1]) ∧ Below w.heap.size w w' := by
  by_cases h1 : a < 0
  · go_enter Tryd.func90, Tryd.ntmps90
    go_wp2_with fail
    go_ret2
    exact ⟨rfl, alloc_below _ _⟩
  by_cases h2 : 65535 < a
  · go_enter Tryd.func90, Tryd.ntmps90
    go_wp2_with fail
    go_ret2
    exact ⟨rfl, alloc_below _ _⟩
  by_cases h3 : s < 0
  · go_enter Tryd.func90, Tryd.ntmps90
    go_wp2_with fail
    go_ret2
    exact ⟨rfl, alloc_below _ _⟩
  have h4 : 4294967295 < s := by omega
  go_enter Tryd.func90, Tryd.ntmps90
  go_wp2_with fail
  go_ret2
  exact ⟨rfl, alloc_below _ _⟩

set_option maxHeartbeats 1000000 in
theorem make_len {A : Option Addr} {n c : Nat} {w : World} (a s : Nat) (ha : a ≤ 65535) (hs : s ≤ 4294967295) (hn : 96 < n) :
    Calls Tryd.prog 90 #[.agg #[.int .i64 a, .int .i64 s, .slice A n c]] w fun e w' => e = .returned (.tuple #[.slice none 0 0, .int .i64 2]) ∧ Below w.heap.size w w' := by
  have e1 : decide ((a : Int) < 0) = false := by simp
  have e2 : decide (65535 < (a : Int)) = false := by simp; omega
  have e3 : decide ((s : Int) < 0) = false := by simp
  have e4 : decide (4294967295 < (s : Int)) = false := by simp; omega
  go_enter Tryd.func90, Tryd.ntmps90
  go_wp2_with fail
  go_ret2
  exact ⟨rfl, alloc_below _ _⟩

set_option maxHeartbeats 1000000 in
theorem make_ok {A : Option Addr} {n c : Nat} {l : List UInt8} {w : World} (hl : Bs w A n c l) (a s : Nat) (ha : a ≤ 65535) (hs : s ≤ 4294967295) (hn : n ≤ 96) :
    Calls Tryd.prog 90 #[.agg #[.int .i64 a, .int .i64 s, .slice A n c]] w fun e w' => ∃ V cv, e = .returned (.tuple #[.slice V (n + 11) cv, .int .i64 0]) ∧ Ow byteR 1 w' w.heap.size w.heap.size 5 (.slice V (n + 11) cv) (n + 11) (sealL a s l) ∧ Below w.heap.size w w' := by
  have e1 : decide ((a : Int) < 0) = false := by simp
  have e2 : decide (65535 < (a : Int)) = false := by simp; omega
  have e3 : decide ((s : Int) < 0) = false := by simp
  have e4 : decide (4294967295 < (s : Int)) = false := by simp; omega
  have hb0 := alloc_below w (.cells #[.int .i64 a, .int .i64 s, .slice A n c] 122)
  have hl0 := hl.on byteR_fine hb0
  have F2 := hide (fits2 ha)
  have F4 := hide (fits4 hs)
  go_enter Tryd.func90, Tryd.ntmps90
  go_wp2_with fail
  refine (part_ok hl0 (by omega)).mono ?_
  rintro e w1 ⟨V1, c1, rfl, ho1, hb1⟩
  have k0 := box_cell hb1 0 _ rfl
  have k1 := box_cell hb1 1 _ rfl
  go_wp2_with fail
  refine (put_ok (ho1.read byteR_fine) (by omega) (a : Int) 2 F2.out).mono ?_
  rintro e w2 ⟨V2, c2, rfl, ho2, hb2⟩
  have k1 := box_cell (th hb1 hb2) 1 _ rfl
  go_wp2_with fail
  refine (put_ok (ho2.read byteR_fine) (by omega) (s : Int) 4 F4.out).mono ?_
  rintro e w3 ⟨V3, c3, rfl, ho3, hb3⟩
  have hr3 : Bs w3 V3 (n + 7) c3 (bodyL a s l) := ho3.read byteR_fine
  go_wp2_with fail
  refine (sum_of hr3 (by omega)).mono ?_
  rintro e w4 ⟨rfl, rfl⟩
  have F5 := fits4 (show crc (bodyL a s l) ≤ 4294967295 by have := crc_lt (bodyL a s l); omega)
  obtain ⟨Q, hQ⟩ : ∃ Q, Q = crc (bodyL a s l) := ⟨_, rfl⟩
  rw [← hQ] at F5 ⊢
  have HF := hide F5
  have HQ := hide hQ
  clear F5 hQ
  go_wp2_with fail
  refine (put_ok hr3 (by omega) (Q : Int) 4 HF.out).mono ?_
  rintro e w5 ⟨V5, c5, rfl, ho5, hb5⟩
  go_wp2_with fail
  go_ret2
  refine ⟨V5, c5, rfl, ?_, th hb0 (th (th hb1 hb2) (th hb3 hb5))⟩
  rw [sealL, ← HQ.out]
  exact ho5.less byteR_fine (by have := hb0.size; have := hb1.size; have := hb2.size; have := hb3.size; omega) (by have := hb0.size; have := hb1.size; have := hb2.size; have := hb3.size; omega)

/-- A right sector. -/
def SecOk (x : Sec) : Prop := (0 ≤ x.addr ∧ x.addr ≤ 65535) ∧ 0 ≤ x.stamp ∧ x.stamp ≤ 4294967295
instance (x : Sec) : Decidable (SecOk x) := by unfold SecOk; infer_instance

theorem in_any (n lo hi : Int) (w : World) : Calls Tryd.prog 62 #[.int .i64 n, .int .i64 lo, .int .i64 hi] w fun e w' => e = .returned (.bool (decide (lo ≤ n ∧ n ≤ hi))) ∧ w = w' := by
  by_cases h1 : lo ≤ n
  · by_cases h2 : n ≤ hi
    · have e1 : decide (lo ≤ n ∧ n ≤ hi) = true := by simp [h1, h2]
      rw [e1]
      go_enter Tryd.func62, Tryd.ntmps62
      go_wp2_with fail
      go_ret
      exact ⟨rfl, rfl⟩
    · have e1 : decide (lo ≤ n ∧ n ≤ hi) = false := by simp [h2]
      rw [e1]
      go_enter Tryd.func62, Tryd.ntmps62
      go_wp2_with fail
      go_ret
      exact ⟨rfl, rfl⟩
  · have e1 : decide (lo ≤ n ∧ n ≤ hi) = false := by simp [h1]
    rw [e1]
    go_enter Tryd.func62, Tryd.ntmps62
    go_wp2_with fail
    go_ret
    exact ⟨rfl, rfl⟩

theorem rput1 {A : Option Addr} {n c : Nat} {xs : List UInt8} {w : World} (ha : Bs w A n c xs) (hn : n ≤ 60000) (N : Nat) (hN : N < 9223372036854775807) :
    Calls Tryd.prog 86 #[.slice A n c, .int .i64 N, .int .i64 1] w fun e w' => ∃ V cv, e = .returned (.slice V (n + 1) cv) ∧ Ow byteR 1 w' w.heap.size w.heap.size 5 (.slice V (n + 1) cv) (n + 1) (xs ++ le 1 N) ∧ Below w.heap.size w w' := rput_any ha hn N 1 (by omega) hN
theorem rput2 {A : Option Addr} {n c : Nat} {xs : List UInt8} {w : World} (ha : Bs w A n c xs) (hn : n ≤ 60000) (N : Nat) (hN : N < 9223372036854775807) :
    Calls Tryd.prog 86 #[.slice A n c, .int .i64 N, .int .i64 2] w fun e w' => ∃ V cv, e = .returned (.slice V (n + 2) cv) ∧ Ow byteR 1 w' w.heap.size w.heap.size 5 (.slice V (n + 2) cv) (n + 2) (xs ++ le 2 N) ∧ Below w.heap.size w w' := rput_any ha hn N 2 (by omega) hN
theorem rput4 {A : Option Addr} {n c : Nat} {xs : List UInt8} {w : World} (ha : Bs w A n c xs) (hn : n ≤ 60000) (N : Nat) (hN : N < 9223372036854775807) :
    Calls Tryd.prog 86 #[.slice A n c, .int .i64 N, .int .i64 4] w fun e w' => ∃ V cv, e = .returned (.slice V (n + 4) cv) ∧ Ow byteR 1 w' w.heap.size w.heap.size 5 (.slice V (n + 4) cv) (n + 4) (xs ++ le 4 N) ∧ Below w.heap.size w w' := rput_any ha hn N 4 (by omega) hN

set_option maxHeartbeats 1000000 in
theorem rseal_any {A : Option Addr} {n c : Nat} {l : List UInt8} {w : World} (hl : Bs w A n c l) (a s : Nat) (ha : a ≤ 65535) (hs : s ≤ 4294967295) (hn : n ≤ 96) :
    Calls Tryd.prog 93 #[.agg #[.int .i64 a, .int .i64 s, .slice A n c]] w fun e w' => ∃ V cv, e = .returned (.slice V (n + 11) cv) ∧ Ow byteR 1 w' w.heap.size w.heap.size 5 (.slice V (n + 11) cv) (n + 11) (sealL a s l) ∧ Below w.heap.size w w' := by
  have hb0 : Below w.heap.size w (w.alloc (.cells #[.int .i64 a, .int .i64 s, .slice A n c] 122)).drew := (alloc_below w (.cells #[.int .i64 a, .int .i64 s, .slice A n c] 122)).drew
  have hl0 := hl.on byteR_fine hb0
  go_enter Tryd.func93, Tryd.ntmps93
  go_wp2_with fail
  have hc0 := box_cell (w' := (w.alloc (.cells #[.int .i64 a, .int .i64 s, .slice A n c] 122)).drew) ((Below.refl _ _).drew) 0 _ rfl
  have hc1 := box_cell (w' := (w.alloc (.cells #[.int .i64 a, .int .i64 s, .slice A n c] 122)).drew) ((Below.refl _ _).drew) 1 _ rfl
  have hc2 := box_cell (w' := (w.alloc (.cells #[.int .i64 a, .int .i64 s, .slice A n c] 122)).drew) ((Below.refl _ _).drew) 2 _ rfl
  go_region_held3 (fun w' => w'.cell? ⟨w.heap.size, 0, none⟩ = some (.int .i64 a) ∧ w'.cell? ⟨w.heap.size, 1, none⟩ = some (.int .i64 s) ∧ w'.cell? ⟨w.heap.size, 2, none⟩ = some (.slice A n c)) (first | exact ⟨hc0, hc1, hc2⟩ | exact ⟨box_cell (undrew hb1) 0 _ rfl, box_cell (undrew hb1) 1 _ rfl, box_cell (undrew hb1) 2 _ rfl⟩ | exact ⟨box_cell (th (undrew hb1) hb2) 0 _ rfl, box_cell (th (undrew hb1) hb2) 1 _ rfl, box_cell (th (undrew hb1) hb2) 2 _ rfl⟩ | exact ⟨box_cell (th (th (undrew hb1) hb2) hb3) 0 _ rfl, box_cell (th (th (undrew hb1) hb2) hb3) 1 _ rfl, box_cell (th (th (undrew hb1) hb2) hb3) 2 _ rfl⟩) (first
    | (go_at_call 114; (with_reducible refine (rpart_any hl0 (by omega)).mono ?_); rintro e w1 ⟨V1, c1, rfl, ho1, hb1⟩)
    | (go_at_call 86; (with_reducible refine (rput4 (ho2.read byteR_fine) (by omega) s (by omega)).mono ?_); rintro e w3 ⟨V3, c3, rfl, ho3, hb3⟩)
    | (go_at_call 86; (with_reducible refine (rput2 (ho1.read byteR_fine) (by omega) a (by omega)).mono ?_); rintro e w2 ⟨V2, c2, rfl, ho2, hb2⟩))
  all_goals
    have hr3 : Bs w3 V3 (n + 7) c3 (bodyL a s l) := ho3.read byteR_fine
    go_wp2_with fail
    refine (ref_sum hr3 (by omega)).mono ?_
    rintro e w4 ⟨rfl, rfl⟩
    have hq := crc_lt (bodyL a s l)
    obtain ⟨Q, hQ⟩ : ∃ Q, Q = crc (bodyL a s l) := ⟨_, rfl⟩
    rw [← hQ] at hq ⊢
    have HQ := hide hQ
    clear hQ
    go_wp2_with fail
    refine (rput4 hr3 (by omega) Q (by omega)).mono ?_
    rintro e w5 ⟨V5, c5, rfl, ho5, hb5⟩
    go_wp2_with fail
    go_ret
    refine ⟨V5, c5, rfl, ?_, th hb0 (th (th hb1 hb2) (th hb3 hb5))⟩
    rw [sealL, ← HQ.out]
    exact ho5.less byteR_fine (by have := hb0.size; have := hb1.size; have := hb2.size; have := hb3.size; omega) (by have := hb0.size; have := hb1.size; have := hb2.size; have := hb3.size; omega)

end Go.Proofs.YtamgpbkakmffiaaDoor
