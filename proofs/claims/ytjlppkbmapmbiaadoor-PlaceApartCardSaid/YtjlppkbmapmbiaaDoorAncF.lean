/-
  Contract: anchor.First.
-/
import Derived.Test.YtjlppkbmapmbiaaDoorAncW
namespace Go.Proofs.YtjlppkbmapmbiaaDoor
open Go.RowKit Go.Lib
set_option linter.unusedVariables false
set_option maxRecDepth 100000

/-- What anchor.First tells. -/
def AFirst (g : Geo) (name : ByteArray) (a : Anc) (err : Int) : Prop := (¬ GeoOk g ∧ err = 1 ∧ a = noAnc) ∨ (GeoOk g ∧ labE (sL name) ≠ 0 ∧ err = labE (sL name) ∧ a = noAnc) ∨ (GeoOk g ∧ labE (sL name) = 0 ∧ err = 0 ∧ a = newAnc g.zones.toNat g.data.toNat name)
def AFirstPost (w : World) (g : Geo) (name : ByteArray) (e : Ending) (w' : World) : Prop := Below w.heap.size w w' ∧ ∃ a v err, e = .returned (.tuple #[v, .int .i64 err]) ∧ AncRet w a v w' ∧ AFirst g name a err

end Go.Proofs.YtjlppkbmapmbiaaDoor
