/-
  Contracts: entry.payload, Block, Make.
-/
import Derived.Test.YtnieiobpbioeiaaSealO
import Derived.Test.YtnieiobpbioeiaaStruct
import Derived.Test.YtnieiobpbioeiaaKeep
import Derived.Test.YtnieiobpbioeiaaBurst
namespace Go.Proofs.Ytnieiobpbioeiaa
open Go.RowKit
set_option linter.unusedVariables false
set_option maxRecDepth 100000

/-- A burst of up to 32 bits turns the sum. -/
theorem crc_bent {l : List UInt8} {at_ x : Nat} (hx : x < 4294967296) (ho : x % 2 = 1) (ha : at_ < 8 * l.length) : crc (bent l at_ x) ≠ crc l := by
  unfold crc
  have b1 := crcFrom_lt (r := 4294967295) (l := bent l at_ x) (by omega)
  have b2 := crcFrom_lt (r := 4294967295) (l := l) (by omega)
  intro h
  replace h : crcFrom 4294967295 (bent l at_ x) = crcFrom 4294967295 l := by omega
  rw [crcFrom_eq, crcFrom_eq, bent_len, num_bent, bent_cut ha] at h
  have h2 : stepsN (8 * l.length) (2 ^ at_ * (x % 2 ^ (8 * l.length - at_))) = 0 := by
    rw [← Nat.xor_assoc, stepsN_xor] at h
    have h4 := congrArg (stepsN (8 * l.length) (4294967295 ^^^ num l) ^^^ ·) h
    simpa [← Nat.xor_assoc] using h4
  exact burst_ne (Nat.lt_of_le_of_lt (Nat.mod_le _ _) hx) (odd_cut ho (by omega)) h2

/-- The payload of a reading that is a sector of an address and a stamp. -/
def payL (err : Int) (b : List UInt8) (a s : Int) : List UInt8 × Bool := if err = 0 ∧ (openS b).2 = 0 ∧ (openS b).1.addr = a ∧ (openS b).1.stamp = s then ((openS b).1.load, true) else ([], false)
def PayPost (w : World) (p : List UInt8 × Bool) (e : Ending) (w' : World) : Prop :=
  Below w.heap.size w w' ∧ ∃ V n c, e = .returned (.tuple #[.slice V n c, .bool p.2]) ∧ Bs w' V n c p.1

set_option maxHeartbeats 1000000 in
theorem payload_any {A : Option Addr} {n c : Nat} {l : List UInt8} {w : World} (err a s : Int) (hl : Bs w A n c l) (hn : n ≤ 65536) :
    Calls Try.prog 89 #[.agg #[.int .i64 err, .slice A n c], .int .i64 a, .int .i64 s] w (PayPost w (payL err l a s)) := by
  have hb0 := alloc_below w (.cells #[.int .i64 err, .slice A n c] 85)
  have hop := open_any (hl.on byteR_fine hb0) hn
  unfold OpenPost at hop
  unfold PayPost payL
  obtain ⟨O, hO⟩ : ∃ O, O = openS l := ⟨_, rfl⟩
  rw [← hO] at hop ⊢
  obtain ⟨⟨oa, os, ol⟩, oe⟩ := O
  dsimp only at hop ⊢
  have HOP := hide hop
  clear hop hO
  by_cases h0 : err = 0
  · subst h0
    by_cases h1 : oe = 0
    · subst h1
      by_cases h2 : oa = a
      · subst h2
        by_cases h3 : os = s
        · subst h3
          rw [if_pos ⟨rfl, rfl, rfl, rfl⟩]
          dsimp only
          go_enter Try.func89, Try.ntmps89
          go_wp2_with fail
          refine HOP.out.mono ?_
          rintro e w1 ⟨A1, n1, c1, rfl, hs1, hb1⟩
          go_wp2_with fail
          go_ret2
          exact ⟨th hb0 (th hb1 (alloc_below _ _)), A1, n1, c1, rfl, hs1.on byteR_fine (alloc_below _ _)⟩
        · rw [if_neg (fun h => h3 h.2.2.2)]
          have e3 : (os != s) = true := by simpa using h3
          clear h3
          dsimp only
          go_enter Try.func89, Try.ntmps89
          go_wp2_with fail
          refine HOP.out.mono ?_
          rintro e w1 ⟨A1, n1, c1, rfl, hs1, hb1⟩
          go_wp2_with fail
          go_ret2
          exact ⟨th hb0 (th hb1 (alloc_below _ _)), none, 0, 0, rfl, Sl.nil_ _⟩
      · rw [if_neg (fun h => h2 h.2.2.1)]
        have e3 : (oa != a) = true := by simpa using h2
        clear h2
        dsimp only
        go_enter Try.func89, Try.ntmps89
        go_wp2_with fail
        refine HOP.out.mono ?_
        rintro e w1 ⟨A1, n1, c1, rfl, hs1, hb1⟩
        go_wp2_with fail
        go_ret2
        exact ⟨th hb0 (th hb1 (alloc_below _ _)), none, 0, 0, rfl, Sl.nil_ _⟩
    · rw [if_neg (fun h => h1 h.2.1)]
      have e3 : (oe != 0) = true := by simpa using h1
      clear h1
      dsimp only
      go_enter Try.func89, Try.ntmps89
      go_wp2_with fail
      refine HOP.out.mono ?_
      rintro e w1 ⟨A1, n1, c1, rfl, hs1, hb1⟩
      go_wp2_with fail
      go_ret2
      exact ⟨th hb0 (th hb1 (alloc_below _ _)), none, 0, 0, rfl, Sl.nil_ _⟩
  · rw [if_neg (fun h => h0 h.1)]
    have e3 : (err != 0) = true := by simpa using h0
    clear h0
    dsimp only
    go_enter Try.func89, Try.ntmps89
    go_wp2_with fail
    go_ret2
    exact ⟨hb0, none, 0, 0, rfl, Sl.nil_ _⟩

theorem payL_len {err : Int} {b : List UInt8} {a s : Int} : (payL err b a s).1.length ≤ 96 := by
  unfold payL
  split
  · rename_i h
    obtain ⟨_, _, p, ho, _, _, hp, _⟩ := seal_open h.2.1
    rw [ho]
    exact hp
  · simp

/-- The block that a reading is. -/
def blkL (err : Int) (b : List UInt8) (a : Int) (e : Ent) : List UInt8 × Bool :=
  if (payL err b a e.stamp).2 = true ∧ (payL err b a e.stamp).1.length = 8 ∧ (crc (payL err b a e.stamp).1 : Int) = e.sum then ((payL err b a e.stamp).1, true) else ([], false)

set_option maxHeartbeats 1000000 in
theorem eblock_any {A : Option Addr} {n c : Nat} {l : List UInt8} {w : World} (err a : Int) (x : Ent) (hl : Bs w A n c l) (hn : n ≤ 65536) :
    Calls Try.prog 57 #[.agg #[.int .i64 err, .slice A n c], .int .i64 a, x.v] w (PayPost w (blkL err l a x)) := by
  obtain ⟨xs, xc, xl⟩ := x
  have hb0 : Below w.heap.size w ((w.alloc (.cells #[.int .i64 err, .slice A n c] 85)).alloc (.cells #[.int .i64 xs, .int .i64 xc, .bool xl] 54)) := (alloc_below w _).alloc (by simp) _
  have hpy := payload_any err a xs (hl.on byteR_fine hb0) hn
  have hp96 := payL_len (err := err) (b := l) (a := a) (s := xs)
  unfold PayPost at hpy ⊢
  unfold blkL Ent.v
  dsimp only
  obtain ⟨P, hP⟩ : ∃ P, P = payL err l a xs := ⟨_, rfl⟩
  rw [← hP] at hpy hp96 ⊢
  obtain ⟨pl, pb⟩ := P
  dsimp only at hpy hp96 ⊢
  have bx : ∀ W, Below ((w.alloc (.cells #[.int .i64 err, .slice A n c] 85)).alloc (.cells #[.int .i64 xs, .int .i64 xc, .bool xl] 54)).heap.size ((w.alloc (.cells #[.int .i64 err, .slice A n c] 85)).alloc (.cells #[.int .i64 xs, .int .i64 xc, .bool xl] 54)) W → W.cell? ⟨w.heap.size + 1, 1, none⟩ = some (.int .i64 xc) := fun W hW => by
    have h := box_cell hW 1 _ rfl
    simpa using h
  have BX := hide bx
  have HPY := hide hpy
  have HP96 := hide hp96
  clear bx hpy hP hp96
  cases pb with
  | false =>
    rw [if_neg (by simp)]
    dsimp only
    go_enter Try.func57, Try.ntmps57
    go_wp2_with fail
    refine HPY.out.mono ?_
    rintro e w1 ⟨hb1, V, nv, cv, rfl, hs1⟩
    have k1 := BX.out w1 hb1
    go_wp2_with fail
    go_quiet (fail)
    go_wp2_with fail
    go_ret2
    exact ⟨th hb0 (th hb1 (drewN_below _ _)), none, 0, 0, rfl, Sl.nil_ _⟩
  | true =>
    by_cases h8 : pl.length = 8
    · obtain ⟨Q, hQ⟩ : ∃ Q, Q = crc pl := ⟨_, rfl⟩
      by_cases hc : (Q : Int) = xc
      · rw [if_pos ⟨rfl, h8, by rw [← hQ]; exact hc⟩]
        have e3 : ((Q : Int) != xc) = false := by simpa using hc
        have H8 := hide h8
        have HQ := hide hQ
        clear hc h8 hQ
        dsimp only
        go_enter Try.func57, Try.ntmps57
        go_wp2_with fail
        refine HPY.out.mono ?_
        rintro e w1 ⟨hb1, V, nv, cv, rfl, hs1⟩
        have k1 := BX.out w1 hb1
        obtain rfl : nv = 8 := by have h1 := hs1.len; have h2 := H8.out; omega
        have hsm : ∀ r, Calls Try.prog 81 #[.slice V 8 cv] (w1.drewN r) fun e w' => e = .returned (.int .i64 Q) ∧ w' = w1.drewN r := fun r => by
          rw [HQ.out]
          exact (sum_of (hs1.move byteR_fine (w' := w1.drewN r) (S' := Old _) (fun _ _ => rfl) (fun _ h => h)) (by omega)).mono fun e w' ⟨h1, h2⟩ => ⟨h1, h2.symm⟩
        have HSM := hide hsm
        clear hsm
        go_wp2_with fail
        go_quiet ((go_at_call 81; exact Calls.quiet_of_same (HSM.out _)))
        go_wp2_with fail
        go_ret2
        exact ⟨th hb0 (th hb1 (drewN_below _ _)), V, 8, cv, rfl, hs1.on byteR_fine (drewN_below _ _)⟩
      · rw [if_neg (fun h => hc (by rw [hQ]; exact h.2.2))]
        have e3 : ((Q : Int) != xc) = true := by simpa using hc
        have H8 := hide h8
        have HQ := hide hQ
        clear hc h8 hQ
        dsimp only
        go_enter Try.func57, Try.ntmps57
        go_wp2_with fail
        refine HPY.out.mono ?_
        rintro e w1 ⟨hb1, V, nv, cv, rfl, hs1⟩
        have k1 := BX.out w1 hb1
        obtain rfl : nv = 8 := by have h1 := hs1.len; have h2 := H8.out; omega
        have hsm : ∀ r, Calls Try.prog 81 #[.slice V 8 cv] (w1.drewN r) fun e w' => e = .returned (.int .i64 Q) ∧ w' = w1.drewN r := fun r => by
          rw [HQ.out]
          exact (sum_of (hs1.move byteR_fine (w' := w1.drewN r) (S' := Old _) (fun _ _ => rfl) (fun _ h => h)) (by omega)).mono fun e w' ⟨h1, h2⟩ => ⟨h1, h2.symm⟩
        have HSM := hide hsm
        clear hsm
        go_wp2_with fail
        go_quiet ((go_at_call 81; exact Calls.quiet_of_same (HSM.out _)))
        go_wp2_with fail
        go_ret2
        exact ⟨th hb0 (th hb1 (drewN_below _ _)), none, 0, 0, rfl, Sl.nil_ _⟩
    · rw [if_neg (fun h => h8 h.2.1)]
      have H8 := hide h8
      clear h8
      dsimp only
      go_enter Try.func57, Try.ntmps57
      go_wp2_with fail
      refine HPY.out.mono ?_
      rintro e w1 ⟨hb1, V, nv, cv, rfl, hs1⟩
      have k1 := BX.out w1 hb1
      have e8 : ((nv : Int) != 8) = true := by have h1 := hs1.len; have h2 := H8.out; simp; omega
      go_wp2_with fail
      go_quiet (fail)
      go_wp2_with fail
      go_ret2
      exact ⟨th hb0 (th hb1 (drewN_below _ _)), none, 0, 0, rfl, Sl.nil_ _⟩

/-- A block's entry, or why not. -/
def emkE (s : Int) (l : List UInt8) : Ent × Int := if ¬ (0 ≤ s ∧ s ≤ 4294967295) then (⟨0, 0, false⟩, 1) else if l.length ≠ 8 then (⟨0, 0, false⟩, 2) else (⟨s, crc l, false⟩, 0)

set_option maxHeartbeats 1000000 in
theorem emake_any {A : Option Addr} {n c : Nat} {l : List UInt8} {w : World} (s : Int) (hl : Bs w A n c l) (hn : n ≤ 65536) :
    Calls Try.prog 55 #[.int .i64 s, .slice A n c] w fun e w' => e = .returned (.tuple #[(emkE s l).1.v, .int .i64 (emkE s l).2]) ∧ Below w.heap.size w w' := by
  have hlen := hl.len
  have hb0 := alloc_below w (.cells #[.int .i64 0, .int .i64 0, .bool false] 54)
  unfold emkE
  by_cases h1 : s < 0
  · rw [if_pos (by omega)]
    unfold Ent.v
    dsimp only
    clear hlen
    go_enter Try.func55, Try.ntmps55
    go_wp2_with fail
    exact bodyPost_ret (v := .tuple #[.agg #[.int .i64 0, .int .i64 0, .bool false], .int .i64 1]) (by simp [results, Try.results55, go_sem]) rfl ⟨rfl, hb0⟩
  · by_cases h2 : 4294967295 < s
    · rw [if_pos (by omega)]
      unfold Ent.v
      dsimp only
      clear hlen
      go_enter Try.func55, Try.ntmps55
      go_wp2_with fail
      exact bodyPost_ret (v := .tuple #[.agg #[.int .i64 0, .int .i64 0, .bool false], .int .i64 1]) (by simp [results, Try.results55, go_sem]) rfl ⟨rfl, hb0⟩
    · rw [if_neg (by omega)]
      by_cases h8 : n = 8
      · rw [if_neg (by omega)]
        subst h8
        have hs := sum_of (hl.on byteR_fine hb0) (by omega)
        obtain ⟨Q, hQ⟩ : ∃ Q, Q = crc l := ⟨_, rfl⟩
        rw [← hQ] at hs ⊢
        have HS := hide hs
        clear hs hQ hlen
        unfold Ent.v
        dsimp only
        go_enter Try.func55, Try.ntmps55
        go_wp2_with fail
        refine HS.out.mono ?_
        rintro e w1 ⟨rfl, rfl⟩
        go_wp2_with fail
        exact bodyPost_ret (v := .tuple #[.agg #[.int .i64 s, .int .i64 Q, .bool false], .int .i64 0]) (by simp [results, Try.results55, go_sem]) rfl ⟨rfl, alloc_below _ _⟩
      · rw [if_pos (by omega)]
        have e8 : ((n : Int) != 8) = true := by simp; omega
        clear h8 hlen
        unfold Ent.v
        dsimp only
        go_enter Try.func55, Try.ntmps55
        go_wp2_with fail
        exact bodyPost_ret (v := .tuple #[.agg #[.int .i64 0, .int .i64 0, .bool false], .int .i64 2]) (by simp [results, Try.results55, go_sem]) rfl ⟨rfl, hb0⟩

end Go.Proofs.Ytnieiobpbioeiaa
