/-
  Contracts: casemateref08.Block, TableOf; casematelaw09.Heavy of one reading.
-/
import Derived.Test.YtnieiobpbioeiaaEntR
namespace Go.Proofs.Ytnieiobpbioeiaa
open Go.RowKit
set_option linter.unusedVariables false
set_option maxRecDepth 100000

theorem pay_sct (err : Int) (l : List UInt8) (a s : Int) : payL err l a s = if (sctL err l a).2 = true ∧ (sctL err l a).1.stamp = s then ((sctL err l a).1.load, true) else ([], false) := by
  unfold payL sctL
  by_cases h : err = 0 ∧ (openS l).2 = 0 ∧ (openS l).1.addr = a
  · rw [if_pos h]
    by_cases hs : (openS l).1.stamp = s
    · rw [if_pos ⟨h.1, h.2.1, h.2.2, hs⟩, if_pos ⟨rfl, hs⟩]
    · rw [if_neg (fun h2 => hs h2.2.2.2), if_neg (fun h2 => hs h2.2)]
  · rw [if_neg h, if_neg (fun h2 => h ⟨h2.1, h2.2.1, h2.2.2.1⟩), if_neg (fun h2 => by cases h2.1)]
theorem blk_sct (err : Int) (l : List UInt8) (a : Int) (x : Ent) : blkL err l a x = if (sctL err l a).2 = true ∧ (sctL err l a).1.stamp = x.stamp ∧ (sctL err l a).1.load.length = 8 ∧ (crc (sctL err l a).1.load : Int) = x.sum then ((sctL err l a).1.load, true) else ([], false) := by
  unfold blkL
  rw [pay_sct]
  by_cases h : (sctL err l a).2 = true ∧ (sctL err l a).1.stamp = x.stamp
  · rw [if_pos h]
    by_cases h2 : (sctL err l a).1.load.length = 8 ∧ (crc (sctL err l a).1.load : Int) = x.sum
    · rw [if_pos ⟨rfl, h2⟩, if_pos ⟨h.1, h.2, h2⟩]
    · rw [if_neg (fun h3 => h2 h3.2), if_neg (fun h3 => h2 h3.2.2)]
  · rw [if_neg h, if_neg (fun h3 => by cases h3.1), if_neg (fun h3 => h ⟨h3.1, h3.2.1⟩)]
theorem sct_len {err : Int} {l : List UInt8} {a : Int} : (sctL err l a).1.load.length ≤ 96 := by
  unfold sctL
  split
  · rename_i h
    obtain ⟨_, _, p, ho, _, _, hp, _⟩ := seal_open h.2.1
    rw [ho]
    exact hp
  · simp [noSec]

set_option maxHeartbeats 2000000 in
theorem rblock_any {A : Option Addr} {n c : Nat} {l : List UInt8} {w : World} (err a : Int) (x : Ent) (hl : Bs w A n c l) (hn : n ≤ 65536) :
    Calls Try.prog 69 #[.agg #[.int .i64 err, .slice A n c], .int .i64 a, x.v] w (PayPost w (blkL err l a x)) := by
  rw [blk_sct]
  obtain ⟨xs, xc, xl⟩ := x
  have hb0 : Below w.heap.size w ((w.alloc (.cells #[.int .i64 err, .slice A n c] 85)).alloc (.cells #[.int .i64 xs, .int .i64 xc, .bool xl] 54)) := (alloc_below w _).alloc (by simp) _
  have hsc := sector_any err a (hl.on byteR_fine hb0) hn
  have hp96 := sct_len (err := err) (l := l) (a := a)
  unfold SctPost at hsc
  unfold PayPost Ent.v
  dsimp only
  obtain ⟨P, hP⟩ : ∃ P, P = sctL err l a := ⟨_, rfl⟩
  rw [← hP] at hsc hp96 ⊢
  obtain ⟨⟨sa, ss, pl⟩, pb⟩ := P
  dsimp only at hsc hp96 ⊢
  have hS0 : (w.alloc (.cells #[.int .i64 err, .slice A n c] 85)).heap.size = w.heap.size + 1 := by simp
  have bx : ∀ W, Below ((w.alloc (.cells #[.int .i64 err, .slice A n c] 85)).alloc (.cells #[.int .i64 xs, .int .i64 xc, .bool xl] 54)).heap.size ((w.alloc (.cells #[.int .i64 err, .slice A n c] 85)).alloc (.cells #[.int .i64 xs, .int .i64 xc, .bool xl] 54)) W → W.cell? ⟨w.heap.size + 1, 0, none⟩ = some (.int .i64 xs) ∧ W.cell? ⟨w.heap.size + 1, 1, none⟩ = some (.int .i64 xc) := fun W hW => ⟨bx_at2 hS0 hW 0 _ rfl, bx_at2 hS0 hW 1 _ rfl⟩
  have BX := hide bx
  have HSC := hide hsc
  have HP96 := hide hp96
  clear bx hsc hP hp96 hS0
  have hbox : ∀ (w1 : World) (V : Option Addr) (nv cv : Nat) (W : World), Below (w1.alloc (.cells #[.int .i64 sa, .int .i64 ss, .slice V nv cv] 62)).heap.size (w1.alloc (.cells #[.int .i64 sa, .int .i64 ss, .slice V nv cv] 62)) W → W.cell? ⟨w1.heap.size, 1, none⟩ = some (.int .i64 ss) ∧ W.cell? ⟨w1.heap.size, 2, none⟩ = some (.slice V nv cv) := fun w1 V nv cv W hW => ⟨box_cell hW 1 _ rfl, box_cell hW 2 _ rfl⟩
  have HBOX := hide hbox
  clear hbox
  cases pb with
  | false =>
    rw [if_neg (by simp)]
    dsimp only
    go_enter Try.func69, Try.ntmps69
    go_wp2_with fail
    refine HSC.out.mono ?_
    rintro e w1 ⟨hb1, V, nv, cv, rfl, hs1⟩
    have hb2 := alloc_below w1 (.cells #[.int .i64 sa, .int .i64 ss, .slice V nv cv] 62)
    obtain ⟨k0, k1⟩ := BX.out _ (th hb1 hb2)
    obtain ⟨j1, j2⟩ := HBOX.out w1 V nv cv _ (Below.refl _ _)
    go_wp2_with fail
    go_quiet (fail)
    go_wp2_with fail
    go_ret2
    exact ⟨th hb0 (th hb1 (th hb2 (drewN_below _ _))), none, 0, 0, rfl, Sl.nil_ _⟩
  | true =>
    by_cases hst : ss = xs
    · subst hst
      by_cases h8 : pl.length = 8
      · obtain ⟨Q, hQ⟩ : ∃ Q, Q = crc pl := ⟨_, rfl⟩
        by_cases hc : (Q : Int) = xc
        · rw [if_pos ⟨rfl, rfl, h8, by rw [← hQ]; exact hc⟩]
          have e3 : ((Q : Int) != xc) = false := by simpa using hc
          have H8 := hide h8
          have HQ := hide hQ
          clear hc h8 hQ
          dsimp only
          go_enter Try.func69, Try.ntmps69
          go_wp2_with fail
          refine HSC.out.mono ?_
          rintro e w1 ⟨hb1, V, nv, cv, rfl, hs1⟩
          obtain rfl : nv = 8 := by have h1 := hs1.len; have h2 := H8.out; omega
          have hb2 := alloc_below w1 (.cells #[.int .i64 sa, .int .i64 ss, .slice V 8 cv] 62)
          obtain ⟨k0, k1⟩ := BX.out _ (th hb1 hb2)
          obtain ⟨j1, j2⟩ := HBOX.out w1 V 8 cv _ (Below.refl _ _)
          have hs2 := hs1.on byteR_fine hb2
          have hsm : ∀ r, Calls Try.prog 43 #[.slice V 8 cv] ((w1.alloc (.cells #[.int .i64 sa, .int .i64 ss, .slice V 8 cv] 62)).drewN r) fun e w' => e = .returned (.int .i64 Q) ∧ w' = (w1.alloc (.cells #[.int .i64 sa, .int .i64 ss, .slice V 8 cv] 62)).drewN r := fun r => by
            rw [HQ.out]
            exact (ref_sum (hs2.move byteR_fine (w' := (w1.alloc (.cells #[.int .i64 sa, .int .i64 ss, .slice V 8 cv] 62)).drewN r) (S' := Old _) (fun _ _ => rfl) (fun _ h => h)) (by omega)).mono fun e w' ⟨h1, h2⟩ => ⟨h1, h2.symm⟩
          have HSM := hide hsm
          clear hsm
          go_wp2_with fail
          go_quiet ((go_at_call 43; exact Calls.quiet_of_same (HSM.out _)))
          go_wp2_with fail
          go_ret2
          exact ⟨th hb0 (th hb1 (th hb2 (drewN_below _ _))), V, 8, cv, rfl, hs2.on byteR_fine (drewN_below _ _)⟩
        · rw [if_neg (fun h => hc (by rw [hQ]; exact h.2.2.2))]
          have e3 : ((Q : Int) != xc) = true := by simpa using hc
          have H8 := hide h8
          have HQ := hide hQ
          clear hc h8 hQ
          dsimp only
          go_enter Try.func69, Try.ntmps69
          go_wp2_with fail
          refine HSC.out.mono ?_
          rintro e w1 ⟨hb1, V, nv, cv, rfl, hs1⟩
          obtain rfl : nv = 8 := by have h1 := hs1.len; have h2 := H8.out; omega
          have hb2 := alloc_below w1 (.cells #[.int .i64 sa, .int .i64 ss, .slice V 8 cv] 62)
          obtain ⟨k0, k1⟩ := BX.out _ (th hb1 hb2)
          obtain ⟨j1, j2⟩ := HBOX.out w1 V 8 cv _ (Below.refl _ _)
          have hs2 := hs1.on byteR_fine hb2
          have hsm : ∀ r, Calls Try.prog 43 #[.slice V 8 cv] ((w1.alloc (.cells #[.int .i64 sa, .int .i64 ss, .slice V 8 cv] 62)).drewN r) fun e w' => e = .returned (.int .i64 Q) ∧ w' = (w1.alloc (.cells #[.int .i64 sa, .int .i64 ss, .slice V 8 cv] 62)).drewN r := fun r => by
            rw [HQ.out]
            exact (ref_sum (hs2.move byteR_fine (w' := (w1.alloc (.cells #[.int .i64 sa, .int .i64 ss, .slice V 8 cv] 62)).drewN r) (S' := Old _) (fun _ _ => rfl) (fun _ h => h)) (by omega)).mono fun e w' ⟨h1, h2⟩ => ⟨h1, h2.symm⟩
          have HSM := hide hsm
          clear hsm
          go_wp2_with fail
          go_quiet ((go_at_call 43; exact Calls.quiet_of_same (HSM.out _)))
          go_wp2_with fail
          go_ret2
          exact ⟨th hb0 (th hb1 (th hb2 (drewN_below _ _))), none, 0, 0, rfl, Sl.nil_ _⟩
      · rw [if_neg (fun h => h8 h.2.2.1)]
        have H8 := hide h8
        clear h8
        dsimp only
        go_enter Try.func69, Try.ntmps69
        go_wp2_with fail
        refine HSC.out.mono ?_
        rintro e w1 ⟨hb1, V, nv, cv, rfl, hs1⟩
        have e8 : ((nv : Int) != 8) = true := by have h1 := hs1.len; have h2 := H8.out; simp; omega
        have hb2 := alloc_below w1 (.cells #[.int .i64 sa, .int .i64 ss, .slice V nv cv] 62)
        obtain ⟨k0, k1⟩ := BX.out _ (th hb1 hb2)
        obtain ⟨j1, j2⟩ := HBOX.out w1 V nv cv _ (Below.refl _ _)
        go_wp2_with fail
        go_quiet (fail)
        go_wp2_with fail
        go_ret2
        exact ⟨th hb0 (th hb1 (th hb2 (drewN_below _ _))), none, 0, 0, rfl, Sl.nil_ _⟩
    · rw [if_neg (fun h => hst h.2.1)]
      have e3 : (ss != xs) = true := by simpa using hst
      clear hst
      dsimp only
      go_enter Try.func69, Try.ntmps69
      go_wp2_with fail
      refine HSC.out.mono ?_
      rintro e w1 ⟨hb1, V, nv, cv, rfl, hs1⟩
      have hb2 := alloc_below w1 (.cells #[.int .i64 sa, .int .i64 ss, .slice V nv cv] 62)
      obtain ⟨k0, k1⟩ := BX.out _ (th hb1 hb2)
      obtain ⟨j1, j2⟩ := HBOX.out w1 V nv cv _ (Below.refl _ _)
      go_wp2_with fail
      go_quiet (fail)
      go_wp2_with fail
      go_ret2
      exact ⟨th hb0 (th hb1 (th hb2 (drewN_below _ _))), none, 0, 0, rfl, Sl.nil_ _⟩

end Go.Proofs.Ytnieiobpbioeiaa
