/-
  The walks of the laws casematelaw12: wakes, EntryMakes.
-/
import Derived.Test.YtnieiobpbioeiaaEnt
import Derived.Test.YtnieiobpbioeiaaSealG
import Derived.Test.YtnieiobpbioeiaaZRef
import Derived.Test.YtnieiobpbioeiaaLit
import Derived.Deep.RegionHeld3
namespace Go.Proofs.Ytnieiobpbioeiaa
open Go.RowKit
set_option linter.unusedVariables false
set_option maxRecDepth 100000

theorem emk_ok {s : Nat} {l : List UInt8} (hs : s ≤ 4294967295) (h8 : l.length = 8) : emkE (s : Int) l = (⟨(s : Int), (crc l : Int), false⟩, 0) := by
  unfold emkE
  rw [if_neg (by omega), if_neg (by omega)]
theorem pay_seal {a s : Nat} {l : List UInt8} (hl : l.length ≤ 96) (ha : a ≤ 65535) (hs : s ≤ 4294967295) (a' s' : Int) : payL 0 (sealL a s l) a' s' = if (a : Int) = a' ∧ (s : Int) = s' then (l, true) else ([], false) := by
  unfold payL
  rw [open_seal hl ha hs]
  simp only [true_and]
theorem blk_seal {a s : Nat} {l : List UInt8} (hl : l.length ≤ 96) (ha : a ≤ 65535) (hs : s ≤ 4294967295) (a' : Int) (e : Ent) : blkL 0 (sealL a s l) a' e = if (a : Int) = a' ∧ (s : Int) = e.stamp ∧ l.length = 8 ∧ (crc l : Int) = e.sum then (l, true) else ([], false) := by
  unfold blkL
  rw [pay_seal hl ha hs]
  by_cases h : (a : Int) = a' ∧ (s : Int) = e.stamp
  · rw [if_pos h]
    by_cases h2 : l.length = 8 ∧ (crc l : Int) = e.sum
    · rw [if_pos ⟨rfl, h2⟩, if_pos ⟨h.1, h.2, h2⟩]
    · rw [if_neg (fun h3 => h2 h3.2), if_neg (fun h3 => h2 h3.2.2)]
  · rw [if_neg h, if_neg (fun h3 => by cases h3.1), if_neg (fun h3 => h ⟨h3.1, h3.2.1⟩)]

/-- entry.Make of what is right. -/
theorem emake_ok {A : Option Addr} {n c : Nat} {l : List UInt8} {w : World} (s : Nat) (hs : s ≤ 4294967295) (hl : Bs w A n c l) (h8 : n = 8) :
    Calls Try.prog 55 #[.int .i64 s, .slice A n c] w fun e w' => e = .returned (.tuple #[.agg #[.int .i64 s, .int .i64 (crc l), .bool false], .int .i64 0]) ∧ Below w.heap.size w w' := by
  have h := emake_any (s : Int) hl (by omega)
  rw [emk_ok hs (by have := hl.len; omega)] at h
  exact h

/-- entry.Block of a reading whose answer is known. -/
theorem eblock_is {A : Option Addr} {n c : Nat} {l : List UInt8} {w : World} {err a s q : Int} {lo : Bool} (p : List UInt8) (b : Bool) (hl : Bs w A n c l) (hn : n ≤ 65536) (h : blkL err l a ⟨s, q, lo⟩ = (p, b)) :
    Calls Try.prog 57 #[.agg #[.int .i64 err, .slice A n c], .int .i64 a, .agg #[.int .i64 s, .int .i64 q, .bool lo]] w fun e w' => ∃ V nv cv, e = .returned (.tuple #[.slice V nv cv, .bool b]) ∧ Bs w' V nv cv p ∧ Below w.heap.size w w' := by
  have h2 := eblock_any err a ⟨s, q, lo⟩ hl hn
  rw [h] at h2
  refine h2.mono ?_
  rintro e w' ⟨hb, V, nv, cv, rfl, hs⟩
  exact ⟨V, nv, cv, rfl, hs, hb⟩

set_option maxHeartbeats 1000000 in
theorem wakes12 (w : World) : Calls Try.prog 56 #[] w fun e w' => e = .returned (.bool true) ∧ Below w.heap.size w w' := by
  have hl0 := lit_bytes w [1, 2, 3, 4, 5, 6, 7, 8] #[.int .u8 1, .int .u8 2, .int .u8 3, .int .u8 4, .int .u8 5, .int .u8 6, .int .u8 7, .int .u8 8] 5 (by simp) rfl
  have hb0 := alloc_below w (.cells #[.int .u8 1, .int .u8 2, .int .u8 3, .int .u8 4, .int .u8 5, .int .u8 6, .int .u8 7, .int .u8 8] 5)
  obtain ⟨b, hb⟩ : ∃ b : List UInt8, b = [1, 2, 3, 4, 5, 6, 7, 8] := ⟨_, rfl⟩
  have h8 : b.length = 8 := by rw [hb]; rfl
  rw [← hb] at hl0
  rw [h8] at hl0
  obtain ⟨Q, hQ⟩ : ∃ Q, Q = crc b := ⟨_, rfl⟩
  have y1 : blkL 0 (sealL 9 5 b) 9 ⟨5, Q, false⟩ = (b, true) := by rw [blk_seal (by omega) (by omega) (by omega), if_pos ⟨rfl, rfl, h8, by rw [hQ]⟩]
  have y2 : blkL 0 (sealL 9 5 b) 8 ⟨5, Q, false⟩ = ([], false) := by rw [blk_seal (by omega) (by omega) (by omega), if_neg (fun h => by have := h.1; omega)]
  have hmk := emake_ok 5 (by omega) hl0 rfl
  rw [← hQ] at hmk
  have HMK := hide hmk
  have Y1 := hide y1
  have Y2 := hide y2
  have H8 := hide h8
  clear hb hQ hmk y1 y2 h8
  go_enter Try.func56, Try.ntmps56
  go_wp2_with fail
  refine HMK.out.mono ?_
  rintro e w1 ⟨rfl, hb1⟩
  have hb2 := alloc_below w1 (.cells #[.int .i64 5, .int .i64 Q, .bool false] 54)
  have hl2 := hl0.on byteR_fine (th hb1 hb2)
  go_wp2_with fail
  refine (make_ok hl2 9 5 (by omega) (by omega) (by omega)).mono ?_
  rintro e w3 ⟨V3, c3, rfl, ho3, hb3⟩
  have hr3 := ho3.read byteR_fine
  have k0 := box_cell hb3 0 _ rfl
  have k1 := box_cell hb3 1 _ rfl
  have k2 := box_cell hb3 2 _ rfl
  go_wp2_with fail
  refine (eblock_is b true hr3 (by omega) Y1.out).mono ?_
  rintro e w4 ⟨V4, n4, c4, rfl, hs4, hb4⟩
  have hr4 := hr3.on byteR_fine hb4
  have j0 := box_cell (th hb3 hb4) 0 _ rfl
  have j1 := box_cell (th hb3 hb4) 1 _ rfl
  have j2 := box_cell (th hb3 hb4) 2 _ rfl
  go_wp2_with fail
  refine (eblock_is [] false hr4 (by omega) Y2.out).mono ?_
  rintro e w5 ⟨V5, n5, c5, rfl, hs5, hb5⟩
  have hby := bytes_same b (hs4.on byteR_fine hb5) (hl2.on byteR_fine (th hb3 (th hb4 hb5))) (by have := hs4.len; have := H8.out; omega)
  have HBY := hide hby
  clear hby
  go_wp2_with fail
  refine HBY.out.mono ?_
  rintro e w6 ⟨rfl, hb6⟩
  go_wp2_with fail
  go_ret
  exact ⟨rfl, th hb0 (th hb1 (th hb2 (th hb3 (th hb4 (th hb5 hb6)))))⟩

set_option maxHeartbeats 4000000 in
theorem law_entryMakes {w : World} {A : Option Addr} {n c : Nat} {b : List UInt8} (stamp : Int) (hstamp : InI stamp) (other : Int) (hother : InI other) (hl : Bs w A n c b) (bit : Int) (hbit : InI bit) (bits : Int) (hbits : InI bits) :
    Calls Try.prog 16 #[.int .i64 stamp, .int .i64 other, .slice A n c, .int .i64 bit, .int .i64 bits] w fun e w' => e = .returned (.bool true) ∧ Below w.heap.size w w' := by
  by_cases h8 : n = 8
  · subst h8
    by_cases hb0 : bit < 0
    · go_enter Try.func16, Try.ntmps16
      go_wp2_with fail
      go_ret
      exact ⟨rfl, Below.refl _ _⟩
    · by_cases hb1 : bits < 0
      · go_enter Try.func16, Try.ntmps16
        go_wp2_with fail
        go_ret
        exact ⟨rfl, Below.refl _ _⟩
      · obtain ⟨s, hse, hs⟩ := um_is stamp 4294967296 (by omega) (by omega)
        obtain ⟨t, hte, ht⟩ := um_is other 4294967296 (by omega) (by omega)
        have hse' : wrap64 ((IntKind.u64.wrap stamp).tmod 4294967296) = (s : Int) := hse
        have hte' : wrap64 ((IntKind.u64.wrap other).tmod 4294967296) = (t : Int) := hte
        have hl8 : b.length = 8 := hl.len
        obtain ⟨Q, hQ⟩ : ∃ Q, Q = crc b := ⟨_, rfl⟩
        obtain ⟨R, hR⟩ : ∃ R, R = crc (flipL b bit bits) := ⟨_, rfl⟩
        have hne : R ≠ Q := by
          rw [hQ, hR]
          unfold flipL
          exact crc_bent (oddN_lt _) (oddN_odd _) (flipAt_lt (by omega) bit)
        have f1 : ((Q : Int) == (R : Int)) = false := by simp; omega
        have hfl8 : (flipL b bit bits).length = 8 := by rw [flipL_len]; exact hl8
        have HQ := hide hQ
        have HR := hide hR
        have HFL := hide (rflip_any hl (by omega) bit bits hbit hbits)
        clear hse hte hl8 hQ hR hne hfl8
        go_enter Try.func16, Try.ntmps16
        go_wp2_with fail
        refine HFL.out.mono ?_
        rintro e w1 ⟨V1, c1, rfl, ho1, hb1'⟩
        have hl1 := hl.on byteR_fine hb1'
        have hr1 := ho1.read byteR_fine
        have hmk := emake_ok s (by omega) hl1 rfl
        rw [← HQ.out] at hmk
        have HMK := hide hmk
        clear hmk
        go_wp2_with fail
        refine HMK.out.mono ?_
        rintro e w2 ⟨rfl, hb2⟩
        have hb3 := alloc_below w2 (.cells #[.int .i64 s, .int .i64 Q, .bool false] 54)
        have hl3 := hl1.on byteR_fine (th hb2 hb3)
        have hmk := emake_ok t (by omega) hl3 rfl
        rw [← HQ.out] at hmk
        have HMK2 := hide hmk
        clear hmk
        go_wp2_with fail
        refine HMK2.out.mono ?_
        rintro e w4 ⟨rfl, hb4⟩
        have hb5 := alloc_below w4 (.cells #[.int .i64 t, .int .i64 Q, .bool false] 54)
        have hr5 := hr1.on byteR_fine (th hb2 (th hb3 (th hb4 hb5)))
        have hmk := emake_ok s (by omega) hr5 rfl
        rw [← HR.out] at hmk
        have HMK3 := hide hmk
        clear hmk
        go_wp2_with fail
        refine HMK3.out.mono ?_
        rintro e w6 ⟨rfl, hb6⟩
        have hb7 := alloc_below w6 (.cells #[.int .i64 s, .int .i64 R, .bool false] 54)
        have hl7 := hl3.on byteR_fine (th hb4 (th hb5 (th hb6 hb7)))
        have bx : ∀ W, Below (w6.alloc (.cells #[.int .i64 s, .int .i64 R, .bool false] 54)).heap.size (w6.alloc (.cells #[.int .i64 s, .int .i64 R, .bool false] 54)) W →
            W.cell? ⟨w2.heap.size, 0, none⟩ = some (.int .i64 s) ∧ W.cell? ⟨w2.heap.size, 1, none⟩ = some (.int .i64 Q) ∧ W.cell? ⟨w2.heap.size, 2, none⟩ = some (.bool false) ∧ W.cell? ⟨w4.heap.size, 0, none⟩ = some (.int .i64 t) ∧ W.cell? ⟨w4.heap.size, 1, none⟩ = some (.int .i64 Q) ∧ W.cell? ⟨w4.heap.size, 2, none⟩ = some (.bool false) ∧ W.cell? ⟨w6.heap.size, 0, none⟩ = some (.int .i64 s) ∧ W.cell? ⟨w6.heap.size, 1, none⟩ = some (.int .i64 R) ∧ W.cell? ⟨w6.heap.size, 2, none⟩ = some (.bool false) := fun W hW =>
          ⟨box_cell (th hb4 (th hb5 (th hb6 (th hb7 hW)))) 0 _ rfl, box_cell (th hb4 (th hb5 (th hb6 (th hb7 hW)))) 1 _ rfl, box_cell (th hb4 (th hb5 (th hb6 (th hb7 hW)))) 2 _ rfl, box_cell (th hb6 (th hb7 hW)) 0 _ rfl, box_cell (th hb6 (th hb7 hW)) 1 _ rfl, box_cell (th hb6 (th hb7 hW)) 2 _ rfl, box_cell hW 0 _ rfl, box_cell hW 1 _ rfl, box_cell hW 2 _ rfl⟩
        have BX := hide bx
        clear bx
        have hsm : ∀ W, Below (w6.alloc (.cells #[.int .i64 s, .int .i64 R, .bool false] 54)).heap.size (w6.alloc (.cells #[.int .i64 s, .int .i64 R, .bool false] 54)) W → Calls Try.prog 43 #[.slice A 8 c] W fun e w' => e = .returned (.int .i64 Q) ∧ W = w' := fun W hW => by
          rw [HQ.out]
          exact ref_sum (hl7.on byteR_fine hW) (by omega)
        have HSM := hide hsm
        clear hsm
        have hd0 : Below (w6.alloc (.cells #[.int .i64 s, .int .i64 R, .bool false] 54)).heap.size (w6.alloc (.cells #[.int .i64 s, .int .i64 R, .bool false] 54)) (w6.alloc (.cells #[.int .i64 s, .int .i64 R, .bool false] 54)).drew := (Below.refl _ _).drew
        have hbase := th hb1' (th hb2 (th hb3 (th hb4 (th hb5 (th hb6 hb7)))))
        have e3 : ((s : Int) == (s : Int)) = true := by simp
        have e4 : ((Q : Int) == (Q : Int)) = true := by simp
        go_wp2_with fail
        by_cases hst : s = t
        · subst hst
          go_region_held3 (fun w' => w'.cell? ⟨w2.heap.size, 0, none⟩ = some (.int .i64 s) ∧ w'.cell? ⟨w2.heap.size, 1, none⟩ = some (.int .i64 Q) ∧ w'.cell? ⟨w2.heap.size, 2, none⟩ = some (.bool false) ∧ w'.cell? ⟨w4.heap.size, 0, none⟩ = some (.int .i64 s) ∧ w'.cell? ⟨w4.heap.size, 1, none⟩ = some (.int .i64 Q) ∧ w'.cell? ⟨w4.heap.size, 2, none⟩ = some (.bool false) ∧ w'.cell? ⟨w6.heap.size, 0, none⟩ = some (.int .i64 s) ∧ w'.cell? ⟨w6.heap.size, 1, none⟩ = some (.int .i64 R) ∧ w'.cell? ⟨w6.heap.size, 2, none⟩ = some (.bool false)) (first | exact BX.out _ hd0 | exact BX.out _ hz0) (first
            | (go_at_call 43; refine (HSM.out _ hd0).mono ?_; rintro e wA ⟨rfl, rfl⟩)
            | (go_at_call 56; refine (wakes12 _).mono ?_; rintro e wA ⟨rfl, hz⟩; have hz0 : Below (w6.alloc (.cells #[.int .i64 s, .int .i64 R, .bool false] 54)).heap.size (w6.alloc (.cells #[.int .i64 s, .int .i64 R, .bool false] 54)) wA := th hd0 hz))
          all_goals go_wp2_with fail
          all_goals
            go_ret
            exact ⟨rfl, th hbase hz0⟩
        · have f2 : ((s : Int) == (t : Int)) = false := by simp; omega
          clear hst
          go_region_held3 (fun w' => w'.cell? ⟨w2.heap.size, 0, none⟩ = some (.int .i64 s) ∧ w'.cell? ⟨w2.heap.size, 1, none⟩ = some (.int .i64 Q) ∧ w'.cell? ⟨w2.heap.size, 2, none⟩ = some (.bool false) ∧ w'.cell? ⟨w4.heap.size, 0, none⟩ = some (.int .i64 t) ∧ w'.cell? ⟨w4.heap.size, 1, none⟩ = some (.int .i64 Q) ∧ w'.cell? ⟨w4.heap.size, 2, none⟩ = some (.bool false) ∧ w'.cell? ⟨w6.heap.size, 0, none⟩ = some (.int .i64 s) ∧ w'.cell? ⟨w6.heap.size, 1, none⟩ = some (.int .i64 R) ∧ w'.cell? ⟨w6.heap.size, 2, none⟩ = some (.bool false)) (first | exact BX.out _ hd0 | exact BX.out _ hz0) (first
            | (go_at_call 43; refine (HSM.out _ hd0).mono ?_; rintro e wA ⟨rfl, rfl⟩)
            | (go_at_call 56; refine (wakes12 _).mono ?_; rintro e wA ⟨rfl, hz⟩; have hz0 : Below (w6.alloc (.cells #[.int .i64 s, .int .i64 R, .bool false] 54)).heap.size (w6.alloc (.cells #[.int .i64 s, .int .i64 R, .bool false] 54)) wA := th hd0 hz))
          all_goals go_wp2_with fail
          all_goals
            go_ret
            exact ⟨rfl, th hbase hz0⟩
  · have e8 : ((n : Int) != 8) = true := by simp; omega
    clear h8
    go_enter Try.func16, Try.ntmps16
    go_wp2_with fail
    go_ret
    exact ⟨rfl, Below.refl _ _⟩

end Go.Proofs.Ytnieiobpbioeiaa
