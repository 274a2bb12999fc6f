/-
  Contracts: casematekeep.TwinTable, Table, Bools, Rows; casematelaw13.Heavy.
-/
import Derived.Test.YtdcoholjnlndgaaDoorTabC
import Derived.Test.YtdcoholjnlndgaaDoorRowsK
namespace Go.Proofs.YtdcoholjnlndgaaDoor
open Go.RowKit
set_option linter.unusedVariables false
set_option maxRecDepth 100000

theorem at_bool {w : World} {S : Nat → Prop} {A : Option Addr} {n c : Nat} {l : List Bool} (h : Sl boolR 1 w S A n c l) {k : Nat} (hk : k < n) : ∃ ad x, A = some ad ∧ S ad.block ∧ l[k]? = some x ∧ w.cell? (ad.add k) = some (.bool x) := by
  obtain ⟨ad, x, cs, rfl, hS, hx, hr, hat⟩ := h.at_ hk
  have hr : cs = [.bool x] := hr
  subst hr
  refine ⟨ad, x, rfl, hS, hx, ?_⟩
  have h0 := hat 0 _ rfl
  rwa [Nat.mul_one, add_zero'] at h0


theorem blk_set (w : World) (p : Addr) (v : Value) (b : Nat) (h : b ≠ p.block) : (w.setCell p v).heap[b]? = w.heap[b]? := Below.heap_setCell _ _ _ _ h
theorem grownBy_set (w : World) (p : Addr) (v : Value) : w.grownBy (w.setCell p v) (some p.block) := ⟨rfl, rfl, rfl, by simp [World.setCell], fun k hk hne => blk_set w p v k (fun e => hne (by rw [e]))⟩
theorem ent_info : (Tryd.prog.info? 80).map (fun i => (i.zero, i.size, i.bytes)) = some (some (.agg #[.int .i64 0, .int .i64 0, .bool false]), 3, 24) := by kernel_rfl

end Go.Proofs.YtdcoholjnlndgaaDoor
