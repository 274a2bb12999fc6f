/-
  Contracts: seal.Make; the reference's Right, Seal.
-/
import Derived.Test.YtjlppkbmapmbiaaDoorRefP
import Derived.Test.YtjlppkbmapmbiaaDoorSum
import Derived.Test.YtjlppkbmapmbiaaDoorSealP
import Derived.Deep.RegionHeld3
namespace Go.Proofs.YtjlppkbmapmbiaaDoor
open Go.RowKit
set_option linter.unusedVariables false
set_option maxRecDepth 100000

theorem fits2 {a : Nat} (h : a ≤ 65535) : FitsP (a : Int) 2 := ⟨.inr (.inl rfl), by omega, by simp; omega⟩
theorem fits4 {a : Nat} (h : a ≤ 4294967295) : FitsP (a : Int) 4 := ⟨.inr (.inr rfl), by omega, by simp; omega⟩

/-- The cells of a thing that was boxed, in a later world. -/
theorem box_cell {w w' : World} {cs : Array Value} {e : TypeId} (hb : Below (w.alloc (.cells cs e)).heap.size (w.alloc (.cells cs e)) w') (k : Nat) (u : Value) (h : cs[k]? = some u) : w'.cell? ⟨w.heap.size, k, none⟩ = some u := by
  have h0 : (w.alloc (.cells cs e)).cell? ⟨w.heap.size, k, none⟩ = some u := by
    rw [World.cell?_alloc_at cs e _ _ rfl]
    exact h
  exact (hb.cell (by simp)).trans h0

theorem box_free {w w' : World} {cs : Array Value} {e : TypeId} (hb : Below (w.alloc (.cells cs e)).heap.size (w.alloc (.cells cs e)) w') (k : Nat) : w'.frozen? ⟨w.heap.size, k, none⟩ = false :=
  (hb.frozen (by simp)).trans (World.frozen?_alloc_at _ _ _ _ rfl)

/-- A right sector. -/
def SecOk (x : Sec) : Prop := (0 ≤ x.addr ∧ x.addr ≤ 65535) ∧ 0 ≤ x.stamp ∧ x.stamp ≤ 4294967295
instance (x : Sec) : Decidable (SecOk x) := by unfold SecOk; infer_instance

end Go.Proofs.YtjlppkbmapmbiaaDoor
