/-
  Contracts: slices.IndexFunc and ContainsFunc over entries; table.Check.
-/
import Derived.Test.YtjlppkbmapmbiaaDoorGeom
namespace Go.Proofs.YtjlppkbmapmbiaaDoor
open Go.RowKit
set_option linter.unusedVariables false
set_option maxRecDepth 100000

/-- An entry's three cells. -/
theorem at_ent {w : World} {S : Nat → Prop} {A : Option Addr} {n c : Nat} {L : List Ent} (h : Sl entR 3 w S A n c L) {k : Nat} (hk : k < n) : ∃ ad e, A = some ad ∧ S ad.block ∧ L[k]? = some e ∧ InI e.stamp ∧ InI e.sum ∧
    w.cell? (ad.add (k * 3)) = some (.int .i64 e.stamp) ∧ w.cell? ⟨(ad.add (k * 3)).block, (ad.add (k * 3)).off + 1, none⟩ = some (.int .i64 e.sum) ∧ w.cell? ⟨(ad.add (k * 3)).block, (ad.add (k * 3)).off + 2, none⟩ = some (.bool e.lost) := by
  obtain ⟨ad, e, cs, rfl, hS, he, ⟨rfl, h1, h2⟩, hat⟩ := h.at_ hk
  refine ⟨ad, e, rfl, hS, he, h1, h2, ?_, hat 1 _ rfl, hat 2 _ rfl⟩
  have := hat 0 _ rfl
  rwa [add_zero'] at this

end Go.Proofs.YtjlppkbmapmbiaaDoor
