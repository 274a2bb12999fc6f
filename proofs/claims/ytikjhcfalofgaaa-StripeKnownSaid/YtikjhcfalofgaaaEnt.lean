/-
  Contracts: entry.payload, Block, Make.
-/
import Derived.Test.YtikjhcfalofgaaaSealO
import Derived.Test.YtikjhcfalofgaaaStruct
import Derived.Test.YtikjhcfalofgaaaKeep
import Derived.Test.YtikjhcfalofgaaaBurst
namespace Go.Proofs.Ytikjhcfalofgaaa
open Go.RowKit
set_option linter.unusedVariables false
set_option maxRecDepth 100000

/-- A burst of up to 32 bits turns the sum. -/
theorem crc_bent {l : List UInt8} {at_ x : Nat} (hx : x < 4294967296) (ho : x % 2 = 1) (ha : at_ < 8 * l.length) : crc (bent l at_ x) ≠ crc l := by
  unfold crc
  have b1 := crcFrom_lt (r := 4294967295) (l := bent l at_ x) (by omega)
  have b2 := crcFrom_lt (r := 4294967295) (l := l) (by omega)
  intro h
  replace h : crcFrom 4294967295 (bent l at_ x) = crcFrom 4294967295 l := by omega
  rw [crcFrom_eq, crcFrom_eq, bent_len, num_bent, bent_cut ha] at h
  have h2 : stepsN (8 * l.length) (2 ^ at_ * (x % 2 ^ (8 * l.length - at_))) = 0 := by
    rw [← Nat.xor_assoc, stepsN_xor] at h
    have h4 := congrArg (stepsN (8 * l.length) (4294967295 ^^^ num l) ^^^ ·) h
    simpa [← Nat.xor_assoc] using h4
  exact burst_ne (Nat.lt_of_le_of_lt (Nat.mod_le _ _) hx) (odd_cut ho (by omega)) h2

/-- The payload of a reading that is a sector of an address and a stamp. -/
def payL (err : Int) (b : List UInt8) (a s : Int) : List UInt8 × Bool := if err = 0 ∧ (openS b).2 = 0 ∧ (openS b).1.addr = a ∧ (openS b).1.stamp = s then ((openS b).1.load, true) else ([], false)
def PayPost (w : World) (p : List UInt8 × Bool) (e : Ending) (w' : World) : Prop :=
  Below w.heap.size w w' ∧ ∃ V n c, e = .returned (.tuple #[.slice V n c, .bool p.2]) ∧ Bs w' V n c p.1

theorem payL_len {err : Int} {b : List UInt8} {a s : Int} : (payL err b a s).1.length ≤ 96 := by
  unfold payL
  split
  · rename_i h
    obtain ⟨_, _, p, ho, _, _, hp, _⟩ := seal_open h.2.1
    rw [ho]
    exact hp
  · simp

/-- The block that a reading is. -/
def blkL (err : Int) (b : List UInt8) (a : Int) (e : Ent) : List UInt8 × Bool :=
  if (payL err b a e.stamp).2 = true ∧ (payL err b a e.stamp).1.length = 8 ∧ (crc (payL err b a e.stamp).1 : Int) = e.sum then ((payL err b a e.stamp).1, true) else ([], false)

/-- A block's entry, or why not. -/
def emkE (s : Int) (l : List UInt8) : Ent × Int := if ¬ (0 ≤ s ∧ s ≤ 4294967295) then (⟨0, 0, false⟩, 1) else if l.length ≠ 8 then (⟨0, 0, false⟩, 2) else (⟨s, crc l, false⟩, 0)

set_option maxHeartbeats 1000000 in
theorem emake_any {A : Option Addr} {n c : Nat} {l : List UInt8} {w : World} (s : Int) (hl : Bs w A n c l) (hn : n ≤ 65536) :
    Calls Try.prog 35 #[.int .i64 s, .slice A n c] w fun e w' => e = .returned (.tuple #[(emkE s l).1.v, .int .i64 (emkE s l).2]) ∧ Below w.heap.size w w' := by
  have hlen := hl.len
  have hb0 := alloc_below w (.cells #[.int .i64 0, .int .i64 0, .bool false] 61)
  unfold emkE
  by_cases h1 : s < 0
  · rw [if_pos (by omega)]
    unfold Ent.v
    dsimp only
    clear hlen
    go_enter Try.func35, Try.ntmps35
    go_wp2_with fail
    exact bodyPost_ret (v := .tuple #[.agg #[.int .i64 0, .int .i64 0, .bool false], .int .i64 1]) (by simp [results, Try.results35, go_sem]) rfl ⟨rfl, hb0⟩
  · by_cases h2 : 4294967295 < s
    · rw [if_pos (by omega)]
      unfold Ent.v
      dsimp only
      clear hlen
      go_enter Try.func35, Try.ntmps35
      go_wp2_with fail
      exact bodyPost_ret (v := .tuple #[.agg #[.int .i64 0, .int .i64 0, .bool false], .int .i64 1]) (by simp [results, Try.results35, go_sem]) rfl ⟨rfl, hb0⟩
    · rw [if_neg (by omega)]
      by_cases h8 : n = 8
      · rw [if_neg (by omega)]
        subst h8
        have hs := sum_of (hl.on byteR_fine hb0) (by omega)
        obtain ⟨Q, hQ⟩ : ∃ Q, Q = crc l := ⟨_, rfl⟩
        rw [← hQ] at hs ⊢
        have HS := hide hs
        clear hs hQ hlen
        unfold Ent.v
        dsimp only
        go_enter Try.func35, Try.ntmps35
        go_wp2_with fail
        refine HS.out.mono ?_
        rintro e w1 ⟨rfl, rfl⟩
        go_wp2_with fail
        exact bodyPost_ret (v := .tuple #[.agg #[.int .i64 s, .int .i64 Q, .bool false], .int .i64 0]) (by simp [results, Try.results35, go_sem]) rfl ⟨rfl, alloc_below _ _⟩
      · rw [if_pos (by omega)]
        have e8 : ((n : Int) != 8) = true := by simp; omega
        clear h8 hlen
        unfold Ent.v
        dsimp only
        go_enter Try.func35, Try.ntmps35
        go_wp2_with fail
        exact bodyPost_ret (v := .tuple #[.agg #[.int .i64 0, .int .i64 0, .bool false], .int .i64 2]) (by simp [results, Try.results35, go_sem]) rfl ⟨rfl, hb0⟩

end Go.Proofs.Ytikjhcfalofgaaa
