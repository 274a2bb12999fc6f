/-
  Contracts: zone.begin and its closure; slices.IndexFunc and ContainsFunc over rows.
-/
import Derived.Test.YtamgpbkakmffiaaDoorTabC
import Derived.Test.YtamgpbkakmffiaaDoorZoneP
namespace Go.Proofs.YtamgpbkakmffiaaDoor
open Go.RowKit
set_option linter.unusedVariables false
set_option maxRecDepth 100000

/-- A block, or nothing. -/
def BlkOk (l : List UInt8) : Prop := l.length = 0 ∨ l.length = 8
instance (l : List UInt8) : Decidable (BlkOk l) := by unfold BlkOk; infer_instance

/-- A zone that is looked at: its block's cells. -/
def Look (w : World) (N : Nat) (d : Nat) (V V' : Value) : Prop := N < w.heap.size ∧ w.cell? ⟨N, 0, none⟩ = some (.int .i64 d) ∧ w.cell? ⟨N, 1, none⟩ = some V ∧ w.cell? ⟨N, 2, none⟩ = some V'
theorem Look.on {w w' : World} {N d : Nat} {V V' : Value} (h : Look w N d V V') (hb : Below w.heap.size w w') : Look w' N d V V' :=
  ⟨Nat.lt_of_lt_of_le h.1 hb.size, (hb.cell h.1).trans h.2.1, (hb.cell h.1).trans h.2.2.1, (hb.cell h.1).trans h.2.2.2⟩

/-- What zone.begin tells. -/
def BeginPost (w : World) (g : Geo) (L : List Ent) (H : List (List UInt8)) (V V' : Value) (e : Ending) (w' : World) : Prop :=
  Below w.heap.size w w' ∧
  ((¬ (GeoOk g ∧ TabOk g.data L) ∧ e = .returned (.tuple #[.pointer none, .int .i64 1])) ∨
   ((GeoOk g ∧ TabOk g.data L) ∧ ¬ HadOk g.data H ∧ e = .returned (.tuple #[.pointer none, .int .i64 2])) ∨
   ((GeoOk g ∧ TabOk g.data L) ∧ HadOk g.data H ∧ ∃ N, w.heap.size ≤ N ∧ e = .returned (.tuple #[.pointer (some ⟨N, 0, none⟩), .int .i64 0]) ∧ Look w' N g.data.toNat V V'))

end Go.Proofs.YtamgpbkakmffiaaDoor
