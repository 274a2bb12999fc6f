/-
  Contract: casematelaw04.wakes; the walk of the law PackEdges.
-/
import Derived.Test.YtagkangpplkohaaRef4
namespace Go.Proofs.Ytagkangpplkohaa
open Go.RowKit
set_option linter.unusedVariables false

/-- int(uint(i) % uint(n)) is one of 0 .. n-1. -/
theorem umod (i : Int) (n : Nat) (hn : 1 ≤ n) (hn' : n ≤ 65536) : ∃ k : Nat, wrap64 ((IntKind.u64.wrap i).tmod (n : Int)) = (k : Int) ∧ k < n := by
  have h0 : 0 ≤ IntKind.u64.wrap i := by rw [IntKind.wrap_u64]; exact Int.emod_nonneg _ (by omega)
  have h1 : (IntKind.u64.wrap i).tmod (n : Int) = IntKind.u64.wrap i % (n : Int) := Int.tmod_eq_emod_of_nonneg h0
  have h2 : 0 ≤ IntKind.u64.wrap i % (n : Int) := Int.emod_nonneg _ (by omega)
  have h3 : IntKind.u64.wrap i % (n : Int) < n := Int.emod_lt_of_pos _ (by omega)
  rw [h1, IntWalk.wrap64_in _ ⟨by omega, by omega⟩]
  exact ⟨(IntKind.u64.wrap i % (n : Int)).toNat, by omega, by omega⟩
theorem umod3 (i : Int) : wrap64 ((IntKind.u64.wrap i).tmod 3) = 0 ∨ wrap64 ((IntKind.u64.wrap i).tmod 3) = 1 ∨ wrap64 ((IntKind.u64.wrap i).tmod 3) = 2 := by
  obtain ⟨k, hk, hlt⟩ := umod i 3 (by omega) (by omega)
  have hk' : wrap64 ((IntKind.u64.wrap i).tmod 3) = (k : Int) := hk
  rw [hk']
  omega

set_option maxHeartbeats 1000000 in
theorem wakes4 (w : World) : Calls Try.prog 28 #[] w fun e w' => e = .returned (.bool true) ∧ Below w.heap.size w w' := by
  have b9 : Bs (w.alloc (.cells #[.int .u8 9] 5)) (some ⟨w.heap.size, 0, none⟩) 1 1 [9] := lit_bytes_at rfl rfl (by omega) rfl
  have hp : ∀ {W : World} {A : Option Addr}, Bs W A 1 1 [9] → Calls Try.prog 27 #[.slice A 1 1, .int .i64 513, .int .i64 2] W fun e w' => ∃ V cv, e = .returned (.tuple #[.slice V 3 cv, .int .i64 0]) ∧ Bs w' V 3 cv [9, 1, 2] ∧ Below W.heap.size W w' := fun h =>
    (put_ok h (by omega) 513 2 ⟨.inr (.inl rfl), by omega, by decide⟩).mono fun e w' ⟨V, cv, he, ho, hb⟩ => ⟨V, cv, he, ho.read byteR_fine, hb⟩
  have hg : ∀ (W : World) (A : Option Addr), Bs W A 3 3 [1, 2, 7] → Calls Try.prog 29 #[.slice A 3 3, .int .i64 2] W fun e w' => ∃ V cv, e = .returned (.tuple #[.int .i64 513, .slice V 1 cv, .int .i64 0]) ∧ Below W.heap.size W w' := fun W A h =>
    (get_ok h (by omega) 2 (by omega) (by omega)).mono fun e w' ⟨V, cv, he, ho, hb⟩ => ⟨V, cv, he, hb⟩
  have hu : ∀ (W : World) (A : Option Addr), Bs W A 3 3 [1, 8, 9] → Calls Try.prog 31 #[.slice A 3 3] W fun e w' => ∃ V cv V' cv', e = .returned (.tuple #[.slice V 1 cv, .slice V' 1 cv', .int .i64 0]) ∧ Below W.heap.size W w' := fun W A h =>
    (unpart_ok h (by decide) (by omega)).mono fun e w' ⟨V, cv, V', cv', he, _, _, hb⟩ => ⟨V, cv, V', cv', he, hb⟩
  have HP := hide (hp b9)
  clear hp b9
  have HG := hide hg
  have HU := hide hu
  clear hg hu
  go_enter Try.func28, Try.ntmps28
  go_wp2_with fail
  refine (unhide HP).mono ?_
  rintro e w1 ⟨V1, c1, rfl, r1, hb1⟩
  have c3 : Bs (w1.alloc (.cells #[.int .u8 1, .int .u8 2, .int .u8 7] 5)) (some ⟨w1.heap.size, 0, none⟩) 3 3 [1, 2, 7] := lit_bytes_at rfl rfl (by omega) rfl
  go_wp2_with fail
  refine (HG.out _ _ c3).mono ?_
  rintro e w2 ⟨V2, c2, rfl, hb2⟩
  have d3 : Bs (w2.alloc (.cells #[.int .u8 1, .int .u8 8, .int .u8 9] 5)) (some ⟨w2.heap.size, 0, none⟩) 3 3 [1, 8, 9] := lit_bytes_at rfl rfl (by omega) rfl
  go_wp2_with fail
  refine (HU.out _ _ d3).mono ?_
  rintro e w3 ⟨V3, c3', V4, c4', rfl, hb3⟩
  have k3 := th (th (alloc_below w1 _) hb2) (th (alloc_below w2 _) hb3)
  have f3 : Bs (w3.alloc (.cells #[.int .u8 9, .int .u8 1, .int .u8 2] 5)) (some ⟨w3.heap.size, 0, none⟩) 3 3 [9, 1, 2] := lit_bytes_at rfl rfl (by omega) rfl
  have r3 := (r1.on byteR_fine k3).on byteR_fine (alloc_below w3 (.cells #[.int .u8 9, .int .u8 1, .int .u8 2] 5))
  clear c3 d3
  go_wp2_with fail
  refine (bytes_same _ r3 f3 (by omega)).mono ?_
  rintro e w4 ⟨rfl, hb4⟩
  go_wp2_with fail
  go_ret
  exact ⟨rfl, th (th (alloc_below w _) hb1) (th k3 (th (alloc_below w3 _) hb4))⟩

set_option maxHeartbeats 2000000 in
theorem law_packEdges {w : World} (k : Int) (hk : InI k) :
    Calls Try.prog 9 #[.int .i64 k] w fun e w' => e = .returned (.bool true) ∧ Below w.heap.size w w' := by
  rcases umod3 k with h | h | h
  · have hp : ∀ W : World, Calls Try.prog 27 #[.slice none 0 0, .int .i64 255, .int .i64 1] W fun e w' => ∃ V cv, e = .returned (.tuple #[.slice V 1 cv, .int .i64 0]) ∧ Bs w' V 1 cv (List.replicate 1 255) ∧ Below W.heap.size W w' := fun W =>
      (put_ok (A := none) (n := 0) (c := 0) (xs := []) (Sl.nil_ 0) (by omega) 255 1 ⟨.inl rfl, by omega, by decide⟩).mono fun e w' ⟨V, cv, he, ho, hb⟩ => ⟨V, cv, he, ho.read byteR_fine, hb⟩
    have hq : ∀ W : World, Calls Try.prog 27 #[.slice none 0 0, .int .i64 256, .int .i64 1] W fun e w' => e = .returned (.tuple #[.slice none 0 0, .int .i64 1]) ∧ W = w' := fun W =>
      put_none 256 1 (fun h => absurd h.2.2 (by decide))
    have hr : ∀ W : World, Calls Try.prog 27 #[.slice none 0 0, .int .i64 (-1), .int .i64 1] W fun e w' => e = .returned (.tuple #[.slice none 0 0, .int .i64 1]) ∧ W = w' := fun W =>
      put_none (-1) 1 (fun h => absurd h.2.1 (by decide))
    have ht : ∀ W : World, Calls Try.prog 27 #[.slice none 0 0, .int .i64 0, .int .i64 3] W fun e w' => e = .returned (.tuple #[.slice none 0 0, .int .i64 1]) ∧ W = w' := fun W =>
      put_none 0 3 (fun h => absurd h.1 (by decide))
    have HP := hide hp
    have HQ := hide hq
    have HR := hide hr
    have HT := hide ht
    clear hp hq hr ht
    go_enter Try.func9, Try.ntmps9
    go_wp2_with fail
    refine (unhide HP _).mono ?_
    rintro e w1 ⟨V1, c1, rfl, hb1, hw1⟩
    go_wp2_with fail
    refine (unhide HQ _).mono ?_
    rintro e w' ⟨rfl, rfl⟩
    go_wp2_with fail
    refine (unhide HR _).mono ?_
    rintro e w' ⟨rfl, rfl⟩
    go_wp2_with fail
    refine (unhide HT _).mono ?_
    rintro e w' ⟨rfl, rfl⟩
    go_wp2_with fail
    go_loop [13] (fun i => ∃ k : Nat, k ≤ 1 ∧ i = .int .i64 k) (fun i => 1 - (intOf i).toNat)
    case atStart => exact ⟨0, Nat.zero_le _, rfl⟩
    case round =>
      obtain ⟨k, hk, rfl⟩ := hrel
      by_cases hlt : k < 1
      · obtain ⟨ad, x, rfl, _, hx, hc⟩ := at_byte hb1 hlt
        obtain rfl : x = 255 := by
          rw [List.getElem?_replicate, if_pos hlt] at hx
          injection hx with hx
          exact hx.symm
        clear hx
        go_wp2_with fail
        go_round
        case rel => exact ⟨k + 1, by omega, by go_num⟩
        case measure => simp [intOf]; omega
      · go_wp2_with fail
        refine (wakes4 _).mono ?_
        rintro e w2 ⟨rfl, hb2⟩
        go_wp2_with fail
        go_ret
        exact ⟨rfl, th (th (th (alloc_below _ _) (alloc_below _ _)) hw1) hb2⟩
  · have hp : ∀ W : World, Calls Try.prog 27 #[.slice none 0 0, .int .i64 65535, .int .i64 2] W fun e w' => ∃ V cv, e = .returned (.tuple #[.slice V 2 cv, .int .i64 0]) ∧ Bs w' V 2 cv (List.replicate 2 255) ∧ Below W.heap.size W w' := fun W =>
      (put_ok (A := none) (n := 0) (c := 0) (xs := []) (Sl.nil_ 0) (by omega) 65535 2 ⟨.inr (.inl rfl), by omega, by decide⟩).mono fun e w' ⟨V, cv, he, ho, hb⟩ => ⟨V, cv, he, ho.read byteR_fine, hb⟩
    have hq : ∀ W : World, Calls Try.prog 27 #[.slice none 0 0, .int .i64 65536, .int .i64 2] W fun e w' => e = .returned (.tuple #[.slice none 0 0, .int .i64 1]) ∧ W = w' := fun W =>
      put_none 65536 2 (fun h => absurd h.2.2 (by decide))
    have hr : ∀ W : World, Calls Try.prog 27 #[.slice none 0 0, .int .i64 (-1), .int .i64 2] W fun e w' => e = .returned (.tuple #[.slice none 0 0, .int .i64 1]) ∧ W = w' := fun W =>
      put_none (-1) 2 (fun h => absurd h.2.1 (by decide))
    have ht : ∀ W : World, Calls Try.prog 27 #[.slice none 0 0, .int .i64 0, .int .i64 3] W fun e w' => e = .returned (.tuple #[.slice none 0 0, .int .i64 1]) ∧ W = w' := fun W =>
      put_none 0 3 (fun h => absurd h.1 (by decide))
    have HP := hide hp
    have HQ := hide hq
    have HR := hide hr
    have HT := hide ht
    clear hp hq hr ht
    go_enter Try.func9, Try.ntmps9
    go_wp2_with fail
    refine (unhide HP _).mono ?_
    rintro e w1 ⟨V1, c1, rfl, hb1, hw1⟩
    go_wp2_with fail
    refine (unhide HQ _).mono ?_
    rintro e w' ⟨rfl, rfl⟩
    go_wp2_with fail
    refine (unhide HR _).mono ?_
    rintro e w' ⟨rfl, rfl⟩
    go_wp2_with fail
    refine (unhide HT _).mono ?_
    rintro e w' ⟨rfl, rfl⟩
    go_wp2_with fail
    go_loop [13] (fun i => ∃ k : Nat, k ≤ 2 ∧ i = .int .i64 k) (fun i => 2 - (intOf i).toNat)
    case atStart => exact ⟨0, Nat.zero_le _, rfl⟩
    case round =>
      obtain ⟨k, hk, rfl⟩ := hrel
      by_cases hlt : k < 2
      · obtain ⟨ad, x, rfl, _, hx, hc⟩ := at_byte hb1 hlt
        obtain rfl : x = 255 := by
          rw [List.getElem?_replicate, if_pos hlt] at hx
          injection hx with hx
          exact hx.symm
        clear hx
        go_wp2_with fail
        go_round
        case rel => exact ⟨k + 1, by omega, by go_num⟩
        case measure => simp [intOf]; omega
      · go_wp2_with fail
        refine (wakes4 _).mono ?_
        rintro e w2 ⟨rfl, hb2⟩
        go_wp2_with fail
        go_ret
        exact ⟨rfl, th (th (th (alloc_below _ _) (alloc_below _ _)) hw1) hb2⟩
  · have hp : ∀ W : World, Calls Try.prog 27 #[.slice none 0 0, .int .i64 4294967295, .int .i64 4] W fun e w' => ∃ V cv, e = .returned (.tuple #[.slice V 4 cv, .int .i64 0]) ∧ Bs w' V 4 cv (List.replicate 4 255) ∧ Below W.heap.size W w' := fun W =>
      (put_ok (A := none) (n := 0) (c := 0) (xs := []) (Sl.nil_ 0) (by omega) 4294967295 4 ⟨.inr (.inr rfl), by omega, by decide⟩).mono fun e w' ⟨V, cv, he, ho, hb⟩ => ⟨V, cv, he, ho.read byteR_fine, hb⟩
    have hq : ∀ W : World, Calls Try.prog 27 #[.slice none 0 0, .int .i64 4294967296, .int .i64 4] W fun e w' => e = .returned (.tuple #[.slice none 0 0, .int .i64 1]) ∧ W = w' := fun W =>
      put_none 4294967296 4 (fun h => absurd h.2.2 (by decide))
    have hr : ∀ W : World, Calls Try.prog 27 #[.slice none 0 0, .int .i64 (-1), .int .i64 4] W fun e w' => e = .returned (.tuple #[.slice none 0 0, .int .i64 1]) ∧ W = w' := fun W =>
      put_none (-1) 4 (fun h => absurd h.2.1 (by decide))
    have ht : ∀ W : World, Calls Try.prog 27 #[.slice none 0 0, .int .i64 0, .int .i64 3] W fun e w' => e = .returned (.tuple #[.slice none 0 0, .int .i64 1]) ∧ W = w' := fun W =>
      put_none 0 3 (fun h => absurd h.1 (by decide))
    have HP := hide hp
    have HQ := hide hq
    have HR := hide hr
    have HT := hide ht
    clear hp hq hr ht
    go_enter Try.func9, Try.ntmps9
    go_wp2_with fail
    refine (unhide HP _).mono ?_
    rintro e w1 ⟨V1, c1, rfl, hb1, hw1⟩
    go_wp2_with fail
    refine (unhide HQ _).mono ?_
    rintro e w' ⟨rfl, rfl⟩
    go_wp2_with fail
    refine (unhide HR _).mono ?_
    rintro e w' ⟨rfl, rfl⟩
    go_wp2_with fail
    refine (unhide HT _).mono ?_
    rintro e w' ⟨rfl, rfl⟩
    go_wp2_with fail
    go_loop [13] (fun i => ∃ k : Nat, k ≤ 4 ∧ i = .int .i64 k) (fun i => 4 - (intOf i).toNat)
    case atStart => exact ⟨0, Nat.zero_le _, rfl⟩
    case round =>
      obtain ⟨k, hk, rfl⟩ := hrel
      by_cases hlt : k < 4
      · obtain ⟨ad, x, rfl, _, hx, hc⟩ := at_byte hb1 hlt
        obtain rfl : x = 255 := by
          rw [List.getElem?_replicate, if_pos hlt] at hx
          injection hx with hx
          exact hx.symm
        clear hx
        go_wp2_with fail
        go_round
        case rel => exact ⟨k + 1, by omega, by go_num⟩
        case measure => simp [intOf]; omega
      · go_wp2_with fail
        refine (wakes4 _).mono ?_
        rintro e w2 ⟨rfl, hb2⟩
        go_wp2_with fail
        go_ret
        exact ⟨rfl, th (th (th (alloc_below _ _) (alloc_below _ _)) hw1) hb2⟩

end Go.Proofs.Ytagkangpplkohaa
