/-
  What casemateref01.rune1 tells of four bytes, in plain numbers.
  Contract: casemateref01.rune1 (under way).
  Contract: casemateref01.rune1, three bytes.
  Contract: casemateref01.rune1, four bytes; no head; whatever string.
  Contracts: casemateref01.Label, Runes, Cut, LabelBytes, ReadLabel.
-/
import Derived.Test.YtjlppkbmapmbiaaDoorLabP
import Derived.Test.YtjlppkbmapmbiaaDoorLab
import Derived.Lib.TrimUEq
import Derived.Test.YtjlppkbmapmbiaaDoorLabC
namespace Go.Proofs.YtjlppkbmapmbiaaDoor
open Go.RowKit Go.Lib
set_option linter.unusedVariables false

def Cont (b : Nat) : Prop := 128 ≤ b ∧ b < 192
instance (b : Nat) : Decidable (Cont b) := by unfold Cont; infer_instance
def fitR (size least r : Nat) : Nat × Nat := if r < least ∨ 1114111 < r ∨ (55296 ≤ r ∧ r < 57344) then (0, 0) else (size, r)
def refN (n b0 b1 b2 b3 : Nat) : Nat × Nat :=
  if b0 < 128 then (1, b0)
  else if 192 ≤ b0 ∧ b0 < 224 then (if 1 < n ∧ Cont b1 then fitR 2 128 (64 * (b0 - 192) + (b1 - 128)) else (0, 0))
  else if 224 ≤ b0 ∧ b0 < 240 then (if 2 < n ∧ Cont b1 ∧ Cont b2 then fitR 3 2048 (64 * (64 * (b0 - 224) + (b1 - 128)) + (b2 - 128)) else (0, 0))
  else if 240 ≤ b0 ∧ b0 < 248 then (if 3 < n ∧ Cont b1 ∧ Cont b2 ∧ Cont b3 then fitR 4 65536 (64 * (64 * (64 * (b0 - 240) + (b1 - 128)) + (b2 - 128)) + (b3 - 128)) else (0, 0))
  else (0, 0)
instance (x : Nat × Nat) : Decidable (Bad x) := by unfold Bad; infer_instance
def told (x : Nat × Nat) : Nat × Nat := if Bad x then (0, 0) else (x.2, x.1)
theorem told_bad : told (65533, 1) = (0, 0) := by decide
theorem told_two {r k : Nat} (h : 1 < k) : told (r, k) = (k, r) := by
  unfold told
  rw [if_neg]
  intro h2
  have : k = 1 := h2.2
  omega
theorem cont_is {b : Nat} : (b / 64 = 2) = Cont b := by
  unfold Cont
  exact propext ⟨fun h => ⟨by omega, by omega⟩, fun h => by omega⟩

set_option maxHeartbeats 1000000 in
theorem refN_told (n b0 b1 b2 b3 : Nat) (h0 : b0 < 256) : refN n b0 b1 b2 b3 = told (decodeN n b0 b1 b2 b3) := by
  have e2 : (b0 / 32 = 6) = (192 ≤ b0 ∧ b0 < 224) := propext ⟨fun h => ⟨by omega, by omega⟩, fun h => by omega⟩
  have e3 : (b0 / 16 = 14) = (224 ≤ b0 ∧ b0 < 240) := propext ⟨fun h => ⟨by omega, by omega⟩, fun h => by omega⟩
  have e4 : (b0 / 8 = 30) = (240 ≤ b0 ∧ b0 < 248) := propext ⟨fun h => ⟨by omega, by omega⟩, fun h => by omega⟩
  unfold refN decodeN
  simp only [cont_is, e2, e3, e4]
  by_cases c1 : b0 < 128
  · rw [if_pos c1, if_pos c1]
    unfold told
    rw [if_neg (fun h => by have : b0 = 65533 := h.1; omega)]
  rw [if_neg c1, if_neg c1]
  by_cases c2 : 192 ≤ b0 ∧ b0 < 224
  · rw [if_pos c2]
    by_cases g : 1 < n ∧ Cont b1
    · rw [if_pos g, if_pos ⟨c2, g⟩]
      obtain ⟨g0, g1, g2⟩ := g
      have hr : b0 % 32 * 64 + b1 % 64 = 64 * (b0 - 192) + (b1 - 128) := by omega
      rw [hr]
      unfold fitR
      split
      · rw [if_neg (by omega), told_bad]
      · rw [if_pos (by omega), told_two (by omega)]
    · rw [if_neg g, if_neg (fun h => g h.2), if_neg (fun h => by have := h.1; omega), if_neg (fun h => by have := h.1; omega), told_bad]
  rw [if_neg c2, if_neg (show ¬ ((192 ≤ b0 ∧ b0 < 224) ∧ 1 < n ∧ Cont b1) from fun h => c2 h.1)]
  by_cases c3 : 224 ≤ b0 ∧ b0 < 240
  · rw [if_pos c3]
    by_cases g : 2 < n ∧ Cont b1 ∧ Cont b2
    · obtain ⟨g0, ⟨g1, g2⟩, g3, g4⟩ := g
      rw [if_pos ⟨g0, ⟨g1, g2⟩, g3, g4⟩, if_pos ⟨c3, ⟨by omega, g1, g2⟩, ⟨g0, g3, g4⟩⟩]
      have hr : b0 % 16 * 4096 + b1 % 64 * 64 + b2 % 64 = 64 * (64 * (b0 - 224) + (b1 - 128)) + (b2 - 128) := by omega
      rw [hr]
      unfold fitR
      split
      · rw [if_neg (by omega), told_bad]
      · rw [if_pos (by omega), told_two (by omega)]
    · rw [if_neg g, if_neg (fun h => g ⟨h.2.2.1, h.2.1.2, h.2.2.2⟩), if_neg (fun h => by have := h.1; omega), told_bad]
  rw [if_neg c3, if_neg (show ¬ ((224 ≤ b0 ∧ b0 < 240) ∧ (1 < n ∧ Cont b1) ∧ 2 < n ∧ Cont b2) from fun h => c3 h.1)]
  by_cases c4 : 240 ≤ b0 ∧ b0 < 248
  · rw [if_pos c4]
    by_cases g : 3 < n ∧ Cont b1 ∧ Cont b2 ∧ Cont b3
    · obtain ⟨g0, ⟨g1, g2⟩, ⟨g3, g4⟩, g5, g6⟩ := g
      rw [if_pos ⟨g0, ⟨g1, g2⟩, ⟨g3, g4⟩, g5, g6⟩, if_pos ⟨c4, ⟨by omega, g1, g2⟩, ⟨by omega, g3, g4⟩, ⟨g0, g5, g6⟩⟩]
      have hr : b0 % 8 * 262144 + b1 % 64 * 4096 + b2 % 64 * 64 + b3 % 64 = 64 * (64 * (64 * (b0 - 240) + (b1 - 128)) + (b2 - 128)) + (b3 - 128) := by omega
      rw [hr]
      unfold fitR
      split
      · rw [if_neg (by omega), told_bad]
      · rw [if_pos (by omega), told_two (by omega)]
    · rw [if_neg g, if_neg (fun h => g ⟨h.2.2.2.1, h.2.1.2, h.2.2.1.2, h.2.2.2.2⟩), told_bad]
  rw [if_neg c4, if_neg (show ¬ ((240 ≤ b0 ∧ b0 < 248) ∧ (1 < n ∧ Cont b1) ∧ (2 < n ∧ Cont b2) ∧ 3 < n ∧ Cont b3) from fun h => c4 h.1), told_bad]

end Go.Proofs.YtjlppkbmapmbiaaDoor

namespace Go.Proofs.YtjlppkbmapmbiaaDoor
open Go.RowKit Go.Lib
set_option linter.unusedVariables false
set_option maxRecDepth 100000

def ref1 (l : List UInt8) : Nat × Nat := refN l.length (l.getD 0 0).toNat (l.getD 1 0).toNat (l.getD 2 0).toNat (l.getD 3 0).toNat
theorem ref1_told (l : List UInt8) : ref1 l = told (decodeL l) := by
  unfold ref1
  rw [refN_told _ _ _ _ _ (UInt8.toNat_lt _), decodeL_N]

/-- No beginning of a rune. -/
def NoHead (b0 : Nat) : Prop := (128 ≤ b0 ∧ b0 < 192) ∨ 248 ≤ b0

/-- The byte at a place. -/
def bt (l : List UInt8) (k : Nat) : Nat := (l.getD k 0).toNat
def rN (l : List UInt8) (off : Nat) : Nat → Nat
  | 0 => bt l 0 - off
  | k + 1 => 64 * rN l off k + (bt l (k + 1) - 128)
theorem bt_lt (l : List UInt8) (k : Nat) : bt l k < 256 := UInt8.toNat_lt _
theorem bt_at (s : ByteArray) (k : Nat) (h : k < s.size) : ((s[k]'h).toNat : Int) = (bt (sL s) k : Int) := by
  unfold bt sL
  have h1 : k < s.data.toList.length := by rw [Array.length_toList]; exact h
  rw [List.getD_eq_getElem?_getD, List.getElem?_eq_getElem h1, Option.getD_some]
  rfl

theorem cont_next {l : List UInt8} {k bk : Nat} (hc : ∀ j, 1 ≤ j → j < k → Cont (bt l j)) (hb : bk = bt l k) (hC : 128 ≤ bk ∧ bk < 192) : ∀ j, 1 ≤ j → j < k + 1 → Cont (bt l j) := by
  intro j h1 h2
  rcases Nat.lt_or_ge j k with h | h
  · exact hc j h1 h
  · obtain rfl : j = k := by omega
    rw [← hb]
    exact hC

end Go.Proofs.YtjlppkbmapmbiaaDoor

namespace Go.Proofs.YtjlppkbmapmbiaaDoor
open Go.RowKit Go.Lib
set_option linter.unusedVariables false
set_option maxRecDepth 100000

end Go.Proofs.YtjlppkbmapmbiaaDoor

namespace Go.Proofs.YtjlppkbmapmbiaaDoor
open Go.RowKit Go.Lib
set_option linter.unusedVariables false
set_option maxRecDepth 100000

end Go.Proofs.YtjlppkbmapmbiaaDoor

namespace Go.Proofs.YtjlppkbmapmbiaaDoor
open Go.RowKit Go.Lib
set_option linter.unusedVariables false
set_option maxRecDepth 100000

/-- What casemateref01.ReadLabel tells. -/
def RRead (b : List UInt8) (t : List UInt8) (k : Int) : Prop := (∃ l, readLab b = some l ∧ t = l ∧ k = 1 + (l.length : Int)) ∨ (readLab b = none ∧ t = [] ∧ k = 0)
def RReadPost (w : World) (b : List UInt8) (e : Ending) (w' : World) : Prop := Below w.heap.size w w' ∧ ∃ t k, e = .returned (.tuple #[.string (mkS t), .int .i64 k]) ∧ RRead b t k

end Go.Proofs.YtjlppkbmapmbiaaDoor
