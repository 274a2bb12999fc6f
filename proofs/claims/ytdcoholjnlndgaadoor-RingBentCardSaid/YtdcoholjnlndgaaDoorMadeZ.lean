/-
  Plain: a slice of bytes just made, all noughts.
-/
import Derived.Test.YtdcoholjnlndgaaDoorWords
namespace Go.Proofs.YtdcoholjnlndgaaDoor
open Go.RowKit
set_option linter.unusedVariables false

theorem u8_zero : (.int .u8 0 : Value) = .int .u8 ((0 : UInt8).toNat : Int) := rfl
theorem made_zero (w : World) (e : TypeId) (n : Nat) (hn : n ≤ 65536) :
    Ow byteR 1 (w.alloc (.cells (madeCells #[.int .u8 0] n) e)) w.heap.size w.heap.size e (.slice (some ⟨w.heap.size, 0, none⟩) n n) n (List.replicate n 0) :=
  Ow.made w _ (by simp only [maxLen]; omega) (by rw [size_madeCells, Nat.mul_one]) (by simp) (by
    rw [toList_madeCells_one]
    intro u hu
    rw [(List.mem_replicate.1 hu).2]
    rfl) (fun i x hx => by
    have hi := (List.getElem?_eq_some_iff.1 hx).1
    rw [List.length_replicate] at hi
    rw [List.getElem?_replicate, if_pos hi] at hx
    injection hx with hx
    subst hx
    rw [toList_madeCells_one, List.drop_replicate, List.take_replicate, show min 1 (n - i * 1) = 1 from by omega]
    rfl) byteR_fine

end Go.Proofs.YtdcoholjnlndgaaDoor
