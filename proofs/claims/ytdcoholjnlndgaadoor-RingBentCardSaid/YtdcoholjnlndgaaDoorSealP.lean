/-
  Plain: a sector's bytes, and what bytes are as a sector.
-/
import Derived.Test.YtdcoholjnlndgaaDoorBurst
import Derived.Test.YtdcoholjnlndgaaDoorStruct
namespace Go.Proofs.YtdcoholjnlndgaaDoor
open Go.RowKit
set_option linter.unusedVariables false


/-- What a sector's sum is of; its bytes. -/
def bodyL (a s : Nat) (l : List UInt8) : List UInt8 := partL l ++ le 2 a ++ le 4 s
def sealL (a s : Nat) (l : List UInt8) : List UInt8 := bodyL a s l ++ le 4 (crc (bodyL a s l))
theorem body_len (a s : Nat) (l : List UInt8) : (bodyL a s l).length = l.length + 7 := by
  simp [bodyL, partL, le_len]
theorem seal_len (a s : Nat) (l : List UInt8) : (sealL a s l).length = l.length + 11 := by
  rw [sealL, List.length_append, body_len, le_len]

def noSec : Sec := ⟨0, 0, []⟩
/-- What bytes are as a sector, and why not. -/
def openS (l : List UInt8) : Sec × Int :=
  if l.length < 11 ∨ 107 < l.length then (noSec, 4)
  else if num (l.drop (l.length - 4)) ≠ crc (l.take (l.length - 4)) then (noSec, 5)
  else if (l.headD 0).toNat ≠ l.length - 11 then (noSec, 4)
  else (⟨num ((l.drop (l.length - 10)).take 2), num ((l.drop (l.length - 8)).take 4), (l.drop 1).take (l.length - 11)⟩, 0)

theorem tail_sum (a s : Nat) (l : List UInt8) : num ((sealL a s l).drop (l.length + 7)) = crc ((sealL a s l).take (l.length + 7)) := by
  have h := body_len a s l
  rw [sealL, ← h, List.drop_left, List.take_left, num_le]
  exact Nat.mod_eq_of_lt (crc_lt _)

theorem open_seal {a s : Nat} {l : List UInt8} (hl : l.length ≤ 96) (ha : a ≤ 65535) (hs : s ≤ 4294967295) : openS (sealL a s l) = (⟨a, s, l⟩, 0) := by
  have hlen := seal_len a s l
  have h1 : l.length + 11 - 4 = l.length + 7 := by omega
  have h0 : (sealL a s l).headD 0 = UInt8.ofNat l.length := rfl
  have h3 : (UInt8.ofNat l.length).toNat = l.length := by rw [UInt8.toNat_ofNat']; omega
  have d1 : (sealL a s l).drop 1 = l ++ (le 2 a ++ (le 4 s ++ le 4 (crc (bodyL a s l)))) := by simp [sealL, bodyL, partL]
  have d2 : (sealL a s l).drop (l.length + 1) = le 2 a ++ (le 4 s ++ le 4 (crc (bodyL a s l))) := by
    rw [Nat.add_comm, ← List.drop_drop, d1, List.drop_left]
  have d3 : (sealL a s l).drop (l.length + 3) = le 4 s ++ le 4 (crc (bodyL a s l)) := by
    rw [show l.length + 3 = (l.length + 1) + (le 2 a).length by rw [le_len], ← List.drop_drop, d2, List.drop_left]
  unfold openS
  rw [hlen, if_neg (by omega), h1, if_neg (by rw [tail_sum]; simp), h0, h3, if_neg (by omega)]
  rw [show l.length + 11 - 10 = l.length + 1 by omega, show l.length + 11 - 8 = l.length + 3 by omega, show l.length + 11 - 11 = l.length by omega, d1, d2, d3, List.take_left]
  have e1 : (le 2 a ++ (le 4 s ++ le 4 (crc (bodyL a s l)))).take 2 = le 2 a := by
    rw [List.take_left' (le_len 2 a)]
  have e2 : (le 4 s ++ le 4 (crc (bodyL a s l))).take 4 = le 4 s := by
    rw [List.take_left' (le_len 4 s)]
  rw [e1, e2, num_le, num_le, Nat.mod_eq_of_lt (by omega), Nat.mod_eq_of_lt (by omega)]

theorem open_no {l : List UInt8} (h : (openS l).2 ≠ 0) : (openS l).1 = noSec := by
  unfold openS at *
  split
  · rfl
  · split
    · rfl
    · split
      · rfl
      · simp_all
theorem open_err (l : List UInt8) : (openS l).2 = 0 ∨ (openS l).2 = 4 ∨ (openS l).2 = 5 := by
  unfold openS
  split
  · simp
  · split
    · simp
    · split <;> simp

/-- What is opened, and its bytes. -/
theorem seal_open {l : List UInt8} (h : (openS l).2 = 0) : ∃ a s p, openS l = (⟨(a : Nat), (s : Nat), p⟩, 0) ∧ a ≤ 65535 ∧ s ≤ 4294967295 ∧ p.length ≤ 96 ∧ p.length + 11 = l.length ∧ l = sealL a s p := by
  by_cases h1 : l.length < 11 ∨ 107 < l.length
  · unfold openS at h; rw [if_pos h1] at h; cases h
  by_cases h2 : num (l.drop (l.length - 4)) ≠ crc (l.take (l.length - 4))
  · unfold openS at h; rw [if_neg h1, if_pos h2] at h; cases h
  by_cases h3 : (l.headD 0).toNat ≠ l.length - 11
  · unfold openS at h; rw [if_neg h1, if_neg h2, if_pos h3] at h; cases h
  have h4 : openS l = (⟨num ((l.drop (l.length - 10)).take 2), num ((l.drop (l.length - 8)).take 4), (l.drop 1).take (l.length - 11)⟩, 0) := by
    unfold openS; rw [if_neg h1, if_neg h2, if_neg h3]
  have q2 : ((l.drop (l.length - 10)).take 2).length = 2 := by simp; omega
  have q4 : ((l.drop (l.length - 8)).take 4).length = 4 := by simp; omega
  have r2 := num_lt ((l.drop (l.length - 10)).take 2)
  have r4 := num_lt ((l.drop (l.length - 8)).take 4)
  rw [q2] at r2
  rw [q4] at r4
  have hp : ((l.drop 1).take (l.length - 11)).length = l.length - 11 := by simp; omega
  have h2' := Decidable.not_not.1 h2
  have h3' := Decidable.not_not.1 h3
  refine ⟨_, _, _, h4, by omega, by omega, by omega, by omega, ?_⟩
  have e2 : le 2 (num ((l.drop (l.length - 10)).take 2)) = (l.drop (l.length - 10)).take 2 := by
    have := le_num ((l.drop (l.length - 10)).take 2)
    rwa [q2] at this
  have e4 : le 4 (num ((l.drop (l.length - 8)).take 4)) = (l.drop (l.length - 8)).take 4 := by
    have := le_num ((l.drop (l.length - 8)).take 4)
    rwa [q4] at this
  have hb : bodyL (num ((l.drop (l.length - 10)).take 2)) (num ((l.drop (l.length - 8)).take 4)) ((l.drop 1).take (l.length - 11)) = l.take (l.length - 4) := by
    rw [bodyL, e2, e4, partL, hp]
    have hhead : UInt8.ofNat (l.length - 11) :: (l.drop 1) = l := by
      cases l with
      | nil => simp at h1
      | cons b t =>
        have : b = UInt8.ofNat ((b :: t).length - 11) := by
          rw [← h3']
          apply UInt8.toNat_inj.1
          simp
        rw [← this]
        rfl
    have c1 : UInt8.ofNat (l.length - 11) :: (l.drop 1).take (l.length - 11) = l.take (l.length - 10) := by
      have h5 := congrArg (List.take (l.length - 11 + 1)) hhead
      rw [List.take_succ_cons] at h5
      rw [show l.length - 10 = (l.length - 11) + 1 by omega]
      exact h5
    rw [c1]
    have c2 : l.take (l.length - 10) ++ (l.drop (l.length - 10)).take 2 = l.take (l.length - 8) := by
      rw [show l.length - 8 = (l.length - 10) + 2 by omega, List.take_add]
    have c4 : l.take (l.length - 8) ++ (l.drop (l.length - 8)).take 4 = l.take (l.length - 4) := by
      rw [show l.length - 4 = (l.length - 8) + 4 by omega, List.take_add]
    rw [c2, c4]
  rw [sealL, hb, ← h2']
  have qt : (l.drop (l.length - 4)).length = 4 := by simp; omega
  have := le_num (l.drop (l.length - 4))
  rw [qt] at this
  rw [this, List.take_append_drop]

/-- A sector with bits side by side turned: its sum is none. -/
theorem open_bent {a s at_ x : Nat} {l : List UInt8} (hl : l.length ≤ 96) (hx : x < 4294967296) (ho : x % 2 = 1) (ha : at_ < 8 * (sealL a s l).length) : openS (bent (sealL a s l) at_ x) = (noSec, 5) := by
  have hlen := seal_len a s l
  have h := sum_bent (n := l.length + 7) (by omega) (by omega) hx ho ha (tail_sum a s l)
  unfold openS
  rw [bent_len, hlen, if_neg (by omega), if_pos (by rw [show l.length + 11 - 4 = l.length + 7 by omega]; exact h)]
/-- Unlike sectors, unlike bytes. -/
theorem seal_inj {a s a' s' : Nat} {l l' : List UInt8} (hl : l.length ≤ 96) (ha : a ≤ 65535) (hs : s ≤ 4294967295) (hl' : l'.length ≤ 96) (ha' : a' ≤ 65535) (hs' : s' ≤ 4294967295) (h : sealL a s l = sealL a' s' l') : a = a' ∧ s = s' ∧ l = l' := by
  have h1 := open_seal hl ha hs
  rw [h, open_seal hl' ha' hs'] at h1
  injection h1 with h1 _
  injection h1 with h1 h2 h3
  exact ⟨by omega, by omega, h3.symm⟩

end Go.Proofs.YtdcoholjnlndgaaDoor
