/-
  Contracts: casematekeep.Twin, bytes.Clone, casematekeep.Bytes, TwinRows, Rows.
-/
import Derived.Test.YtjlppkbmapmbiaaDoorProg
import Derived.Test.YtjlppkbmapmbiaaDoorWords
import Derived.WalkSpells
import Derived.WalkLawsBesides
import Derived.Deep.QuietTactic
import Derived.BigQuiet
namespace Go.Proofs.YtjlppkbmapmbiaaDoor
open Go.RowKit

theorem u8_info : (Tryd.prog.info? 5).map (fun i => (i.zero, i.size, i.bytes)) = some (some (.int .u8 0), 1, 1) := by kernel_rfl
theorem sl_none {α : Type} {R : Rp α} {s : Nat} {w : World} {S : Nat → Prop} {n c : Nat} {L : List α} (h : Sl R s w S none n c L) : n = 0 ∧ L = [] := by
  have h0 : n = 0 := by
    rcases Nat.eq_zero_or_pos n with h0 | h0
    · exact h0
    · obtain ⟨_, h, _⟩ := h.at0 h0
      cases h
  subst h0
  exact ⟨rfl, List.eq_nil_of_length_eq_zero h.len⟩

theorem u8_ne_true {a b : UInt8} (h : a ≠ b) : ((a.toNat : Int) != (b.toNat : Int)) = true := by
  have : a.toNat ≠ b.toNat := fun e => h (UInt8.toNat_inj.1 e)
  simp; omega
theorem u8_ne_false {a b : UInt8} (h : a = b) : ((a.toNat : Int) != (b.toNat : Int)) = false := by subst h; simp

theorem take_eq_step {α : Type} {xs ys : List α} {k : Nat} (hx : k < xs.length) (hy : k < ys.length) (h : xs.take k = ys.take k) (e : xs[k] = ys[k]) : xs.take (k + 1) = ys.take (k + 1) := by
  rw [List.take_succ_eq_append_getElem hx, List.take_succ_eq_append_getElem hy, h, e]

end Go.Proofs.YtjlppkbmapmbiaaDoor
