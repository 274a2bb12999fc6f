/-
  DERIVED. GIVEN WITH THE SEED: THE CARDS: each row of YtjlppkbmapmbiaaDoorRows.lean that lists a variable, with what it lists TIED to the program's text (the seventh form; the later family's looks); each row that meets fmt, with fmt's text TOLD by the authors' own Lean function (tested against real Go, not proved from fmt's source: count such statements apart). THE CARD IS WHAT COUNTS. Prove the row's statement (the work); the ties are given (YtjlppkbmapmbiaaDoorTie.lean); close each card by the builder's one call (the guide's Derived/Test/ToyasCard.lean, 'card_holds'). Laid BY PROGRAM, IN A SANDBOX (cutbox-door.mjs). By AI agents, Wed Nov 11 2026. No macro, syntax, notation, axiom, sorry.
-/
import Derived.Test.YtjlppkbmapmbiaaDoorRows
import GoSem.ClaimSeven
namespace Go.Proofs.YtjlppkbmapmbiaaDoor
namespace Rows

/-- THE TIED CARD OF 'casematelaw11.PlaceApart'. -/
def placeApartCard : Claim7 := { stood := { row := placeApartRow, standIns := [], harness := (true, "fecefd827f20056cc7091c9b0f186e8548e5b0e1ffbbb488ca94d9af728d099f"), looks := false }, kinds := [], alts := [], laidByText := true, laidKinds := [.data, .pinned], laidTests := true, laidLooks := .later }
def PlaceApartCardSaid : Prop := Claim7.holds Tryd.pinned (.plain (OpenSpec.ofChange placeApartSpec)) placeApartCard

/-- THE SECOND FORM's CARD OF 'casematelaw11.PlaceApart'. -/
def placeApartUptoCard : Claim7 := { stood := { row := placeApartUptoRow, standIns := [], harness := (true, "fecefd827f20056cc7091c9b0f186e8548e5b0e1ffbbb488ca94d9af728d099f"), looks := false }, kinds := [], alts := [], laidByText := true, laidKinds := [.data, .pinned], laidTests := true, laidLooks := .later }
def PlaceApartUptoCardSaid : Prop := Claim7.holds Tryd.pinned (.plain (OpenSpec.upto placeApartSpec)) placeApartUptoCard
end Rows
end Go.Proofs.YtjlppkbmapmbiaaDoor
