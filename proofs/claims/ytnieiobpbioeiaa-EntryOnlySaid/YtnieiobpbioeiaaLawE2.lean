/-
  The walk of the law EntryOnly.
-/
import Derived.Test.YtnieiobpbioeiaaLawE1
namespace Go.Proofs.Ytnieiobpbioeiaa
open Go.RowKit
set_option linter.unusedVariables false
set_option maxRecDepth 100000

set_option maxHeartbeats 4000000 in
theorem law_entryOnly {w : World} {A B : Option Addr} {n c m cb : Nat} {b d : List UInt8} (addr : Int) (haddr : InI addr) (stamp : Int) (hstamp : InI stamp) (hl : Bs w A n c b) (hd : Bs w B m cb d) :
    Calls Try.prog 17 #[.int .i64 addr, .int .i64 stamp, .slice A n c, .slice B m cb] w fun e w' => e = .returned (.bool true) ∧ Below w.heap.size w w' := by
  by_cases h8 : n = 8
  · by_cases m8 : m = 8
    · subst h8
      subst m8
      obtain ⟨a, hae, ha⟩ := um_is addr 65536 (by omega) (by omega)
      obtain ⟨s, hse, hs⟩ := um_is stamp 4294967296 (by omega) (by omega)
      have hae' : wrap64 ((IntKind.u64.wrap addr).tmod 65536) = (a : Int) := hae
      have hse' : wrap64 ((IntKind.u64.wrap stamp).tmod 4294967296) = (s : Int) := hse
      have hd8 : d.length = 8 := hd.len
      obtain ⟨Q, hQ⟩ : ∃ Q, Q = crc b := ⟨_, rfl⟩
      obtain ⟨R, hR⟩ : ∃ R, R = crc d := ⟨_, rfl⟩
      have hy : ∀ lo, blkL 0 (sealL a s d) a ⟨s, Q, lo⟩ = if R = Q then (d, true) else ([], false) := fun lo => by
        rw [blk_seal (by omega) (by omega) (by omega), ← hR]
        by_cases h : R = Q
        · rw [if_pos h, if_pos ⟨rfl, rfl, hd8, by show (R : Int) = (Q : Int); omega⟩]
        · rw [if_neg h, if_neg (fun h2 => h (by have h3 : (R : Int) = (Q : Int) := h2.2.2.2; omega))]
      have HY := hide hy
      have HQ := hide hQ
      have HR := hide hR
      have HD8 := hide hd8
      have hmk := emake_ok s (by omega) hl rfl
      rw [← hQ] at hmk
      have HMK := hide hmk
      clear hae hse hQ hR hy hd8 hmk
      go_enter Try.func17, Try.ntmps17
      go_wp2_with fail
      refine HMK.out.mono ?_
      rintro e w1 ⟨rfl, hb1⟩
      have hb2 := alloc_below w1 (.cells #[.int .i64 s, .int .i64 Q, .bool false] 54)
      have hd2 := hd.on byteR_fine (th hb1 hb2)
      go_wp2_with fail
      refine (make_ok hd2 a s (by omega) (by omega) (by omega)).mono ?_
      rintro e w3 ⟨V3, c3, rfl, ho3, hb3⟩
      have hr3 := ho3.read byteR_fine
      have k0 := box_cell hb3 0 _ rfl
      have k1 := box_cell hb3 1 _ rfl
      have k2 := box_cell hb3 2 _ rfl
      by_cases hqr : R = Q
      · have y1 := HY.out false
        have y2 := HY.out true
        rw [if_pos hqr] at y1 y2
        have f1 : ((Q : Int) == (R : Int)) = true := by simp; omega
        have Y1 := hide y1
        have Y2 := hide y2
        clear hqr y1 y2
        go_wp2_with fail
        refine (eblock_is d true hr3 (by omega) Y1.out).mono ?_
        rintro e w4 ⟨V4, n4, c4, rfl, hs4, hb4⟩
        have hb5 := alloc_below w4 (.cells #[.int .i64 s, .int .i64 Q, .bool true] 54)
        have hr5 := hr3.on byteR_fine (th hb4 hb5)
        have j0 := box_cell (th hb3 hb4) 0 _ rfl
        have j1 := box_cell (th hb3 hb4) 1 _ rfl
        have j2 := box_cell (th hb3 hb4) 2 _ rfl
        go_wp2_with fail
        refine (eblock_is d true hr5 (by omega) Y2.out).mono ?_
        rintro e w6 ⟨V6, n6, c6, rfl, hs6, hb6⟩
        have hb36 := th hb4 (th hb5 hb6)
        have hl6 := hl.on byteR_fine (th hb1 (th hb2 (th hb3 hb36)))
        have hd6 := hd2.on byteR_fine (th hb3 hb36)
        have hv6 := hs4.on byteR_fine (th hb5 hb6)
        have hn4 := hs4.len
        have hn6 := hs6.len
        obtain rfl : n4 = 8 := by have := HD8.out; omega
        obtain rfl : n6 = 8 := by have := HD8.out; omega
        have hsm : Calls Try.prog 43 #[.slice A 8 c] w6 fun e w' => e = .returned (.int .i64 Q) ∧ w6 = w' := by
          rw [HQ.out]
          exact ref_sum hl6 (by omega)
        have hsm2 : Calls Try.prog 43 #[.slice B 8 cb] w6 fun e w' => e = .returned (.int .i64 R) ∧ w6 = w' := by
          rw [HR.out]
          exact ref_sum hd6 (by omega)
        have HS1 := hide hsm
        have HS2 := hide hsm2
        have HB1 := hide (bytes_same d hv6 hs6 (by omega))
        clear hsm hsm2 hn4 hn6
        go_wp2_with fail
        refine HS1.out.mono ?_
        rintro e w7 ⟨rfl, rfl⟩
        go_wp2_with fail
        refine HS2.out.mono ?_
        rintro e w7 ⟨rfl, rfl⟩
        go_wp2_with fail
        refine HB1.out.mono ?_
        rintro e w7 ⟨rfl, hb7⟩
        have HB2 := hide (bytes_same d (hv6.on byteR_fine hb7) (hd6.on byteR_fine hb7) (by omega))
        go_wp2_with fail
        refine HB2.out.mono ?_
        rintro e w8 ⟨rfl, hb8⟩
        go_wp2_with fail
        refine (wakes12 _).mono ?_
        rintro e w9 ⟨rfl, hb9⟩
        go_wp2_with fail
        go_ret
        exact ⟨rfl, th hb1 (th hb2 (th hb3 (th hb36 (th hb7 (th hb8 hb9)))))⟩
      · have y1 := HY.out false
        have y2 := HY.out true
        rw [if_neg hqr] at y1 y2
        have f1 : ((Q : Int) == (R : Int)) = false := by simp; omega
        have Y1 := hide y1
        have Y2 := hide y2
        clear hqr y1 y2
        go_wp2_with fail
        refine (eblock_is [] false hr3 (by omega) Y1.out).mono ?_
        rintro e w4 ⟨V4, n4, c4, rfl, hs4, hb4⟩
        have hb5 := alloc_below w4 (.cells #[.int .i64 s, .int .i64 Q, .bool true] 54)
        have hr5 := hr3.on byteR_fine (th hb4 hb5)
        have j0 := box_cell (th hb3 hb4) 0 _ rfl
        have j1 := box_cell (th hb3 hb4) 1 _ rfl
        have j2 := box_cell (th hb3 hb4) 2 _ rfl
        go_wp2_with fail
        refine (eblock_is [] false hr5 (by omega) Y2.out).mono ?_
        rintro e w6 ⟨V6, n6, c6, rfl, hs6, hb6⟩
        have hb36 := th hb4 (th hb5 hb6)
        have hl6 := hl.on byteR_fine (th hb1 (th hb2 (th hb3 hb36)))
        have hd6 := hd2.on byteR_fine (th hb3 hb36)
        have hv6 := hs4.on byteR_fine (th hb5 hb6)
        have hn4 := hs4.len
        have hn6 := hs6.len
        obtain rfl : n4 = 0 := by simpa using hn4.symm
        obtain rfl : n6 = 0 := by simpa using hn6.symm
        have hsm : Calls Try.prog 43 #[.slice A 8 c] w6 fun e w' => e = .returned (.int .i64 Q) ∧ w6 = w' := by
          rw [HQ.out]
          exact ref_sum hl6 (by omega)
        have hsm2 : Calls Try.prog 43 #[.slice B 8 cb] w6 fun e w' => e = .returned (.int .i64 R) ∧ w6 = w' := by
          rw [HR.out]
          exact ref_sum hd6 (by omega)
        have HS1 := hide hsm
        have HS2 := hide hsm2
        have HB1 := hide (bytes_same [] hv6 hs6 (by omega))
        clear hsm hsm2 hn4 hn6
        go_wp2_with fail
        refine HS1.out.mono ?_
        rintro e w7 ⟨rfl, rfl⟩
        go_wp2_with fail
        refine HS2.out.mono ?_
        rintro e w7 ⟨rfl, rfl⟩
        go_wp2_with fail
        refine HB1.out.mono ?_
        rintro e w7 ⟨rfl, hb7⟩
        go_wp2_with fail
        refine (wakes12 _).mono ?_
        rintro e w9 ⟨rfl, hb9⟩
        go_wp2_with fail
        go_ret
        exact ⟨rfl, th hb1 (th hb2 (th hb3 (th hb36 (th hb7 hb9))))⟩
    · have e8 : ((m : Int) != 8) = true := by simp; omega
      subst h8
      clear m8
      go_enter Try.func17, Try.ntmps17
      go_wp2_with fail
      go_ret
      exact ⟨rfl, Below.refl _ _⟩
  · have e8 : ((n : Int) != 8) = true := by simp; omega
    clear h8
    go_enter Try.func17, Try.ntmps17
    go_wp2_with fail
    go_ret
    exact ⟨rfl, Below.refl _ _⟩

end Go.Proofs.Ytnieiobpbioeiaa
