/-
  Contracts: casemateref01.Put, Get, Part.
-/
import Derived.Test.YtjlppkbmapmbiaaDoorPackG
namespace Go.Proofs.YtjlppkbmapmbiaaDoor
open Go.RowKit
set_option linter.unusedVariables false
set_option maxRecDepth 100000

theorem le_snoc (k n : Nat) : le (k + 1) n = le k n ++ [UInt8.ofNat (n / 256 ^ k)] := by
  induction k generalizing n with
  | zero => simp [le]
  | succ k ih =>
    rw [le, ih, le, List.cons_append]
    congr 2
    rw [Nat.div_div_eq_div_mul, Nat.pow_succ, Nat.mul_comm]

theorem num_drop_step {l : List UInt8} {k : Nat} {x : UInt8} (h : l[k]? = some x) (m : Nat) (hm : k < m) : num ((l.take m).drop k) = x.toNat + 256 * num ((l.take m).drop (k + 1)) := by
  obtain ⟨h1, e1⟩ := List.getElem?_eq_some_iff.1 h
  rw [List.drop_eq_getElem_cons (by rw [List.length_take]; omega), List.getElem_take, e1, num]

end Go.Proofs.YtjlppkbmapmbiaaDoor
