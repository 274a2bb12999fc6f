/-
  Contracts: seal.Open.
-/
import Derived.Test.YtikjhcfalofgaaaSeal
import Derived.Test.YtikjhcfalofgaaaPackU
namespace Go.Proofs.Ytikjhcfalofgaaa
open Go.RowKit
set_option linter.unusedVariables false
set_option maxRecDepth 100000

def OpenPost (w : World) (l : List UInt8) (e : Ending) (w' : World) : Prop :=
  ∃ A n c, e = .returned (.tuple #[.agg #[.int .i64 (openS l).1.addr, .int .i64 (openS l).1.stamp, .slice A n c], .int .i64 (openS l).2]) ∧ Bs w' A n c (openS l).1.load ∧ Below w.heap.size w w'

/-- A literal of two ints just made. -/
theorem lit_ints2 {w : World} {a b : Int} (e : TypeId) (ha : InI a) (hb : InI b) : Is (w.alloc (.cells #[.int .i64 a, .int .i64 b] e)) (some ⟨w.heap.size, 0, none⟩) 2 2 [a, b] :=
  (Ow.made (R := intR) (s := 1) (lo := 0) (e := e) (n := 2) (L := [a, b]) w #[.int .i64 a, .int .i64 b] (by simp only [maxLen]; omega) rfl rfl (by simp [Value.oneCell']) (fun i x hx => by
    have hi := (List.getElem?_eq_some_iff.1 hx).1
    simp at hi
    obtain rfl | rfl : i = 0 ∨ i = 1 := by omega
    · simp at hx
      subst hx
      exact ⟨rfl, ha⟩
    · simp at hx
      subst hx
      exact ⟨rfl, hb⟩) intR_fine).read intR_fine

end Go.Proofs.Ytikjhcfalofgaaa
