/-
  DERIVED. GIVEN WITH THE SEED: THE CARDS: each row of YtamgpbkakmffiaaDoorRows.lean that lists a variable, with what it lists TIED to the program's text (the seventh form; the later family's looks); each row that meets fmt, with fmt's text TOLD by the authors' own Lean function (tested against real Go, not proved from fmt's source: count such statements apart). THE CARD IS WHAT COUNTS. Prove the row's statement (the work); the ties are given (YtamgpbkakmffiaaDoorTie.lean); close each card by the builder's one call (the guide's Derived/Test/ToyasCard.lean, 'card_holds'). Laid BY PROGRAM, IN A SANDBOX (cutbox-door.mjs). By AI agents, Wed Nov 11 2026. No macro, syntax, notation, axiom, sorry.
-/
import Derived.Test.YtamgpbkakmffiaaDoorRows
import GoSem.ClaimSeven
namespace Go.Proofs.YtamgpbkakmffiaaDoor
namespace Rows

/-- THE TIED CARD OF 'casematelaw11.PlaceExact'. -/
def placeExactCard : Claim7 := { stood := { row := placeExactRow, standIns := [], harness := (true, "4759b811844028cda7682dd315e0f2f9ac595ec275c2139be74370731859aa02"), looks := true }, kinds := [], alts := [], laidByText := true, laidKinds := [.data, .pinned], laidTests := true, laidLooks := .later }
def PlaceExactCardSaid : Prop := Claim7.holds Tryd.pinned (.plain (OpenSpec.ofChange placeExactSpec)) placeExactCard

/-- THE TIED CARD OF 'casematelaw11.PlaceApart'. -/
def placeApartCard : Claim7 := { stood := { row := placeApartRow, standIns := [], harness := (true, "4759b811844028cda7682dd315e0f2f9ac595ec275c2139be74370731859aa02"), looks := true }, kinds := [], alts := [], laidByText := true, laidKinds := [.data, .pinned], laidTests := true, laidLooks := .later }
def PlaceApartCardSaid : Prop := Claim7.holds Tryd.pinned (.plain (OpenSpec.ofChange placeApartSpec)) placeApartCard

/-- THE TIED CARD OF 'casematelaw11.PlaceStays'. -/
def placeStaysCard : Claim7 := { stood := { row := placeStaysRow, standIns := [], harness := (true, "4759b811844028cda7682dd315e0f2f9ac595ec275c2139be74370731859aa02"), looks := true }, kinds := [], alts := [], laidByText := true, laidKinds := [.data, .pinned], laidTests := true, laidLooks := .later }
def PlaceStaysCardSaid : Prop := Claim7.holds Tryd.pinned (.plain (OpenSpec.ofChange placeStaysSpec)) placeStaysCard

/-- THE TIED CARD OF 'casematelaw08.AnchorExact'. -/
def anchorExactCard : Claim7 := { stood := { row := anchorExactRow, standIns := [], harness := (true, "4759b811844028cda7682dd315e0f2f9ac595ec275c2139be74370731859aa02"), looks := true }, kinds := [], alts := [], laidByText := true, laidKinds := [.data, .pinned], laidTests := true, laidLooks := .later }
def AnchorExactCardSaid : Prop := Claim7.holds Tryd.pinned (.plain (OpenSpec.ofChange anchorExactSpec)) anchorExactCard

/-- THE TIED CARD OF 'casematelaw08.AnchorBack'. -/
def anchorBackCard : Claim7 := { stood := { row := anchorBackRow, standIns := [], harness := (true, "4759b811844028cda7682dd315e0f2f9ac595ec275c2139be74370731859aa02"), looks := true }, kinds := [], alts := [], laidByText := true, laidKinds := [.data, .pinned], laidTests := true, laidLooks := .later }
def AnchorBackCardSaid : Prop := Claim7.holds Tryd.pinned (.plain (OpenSpec.ofChange anchorBackSpec)) anchorBackCard

/-- THE TIED CARD OF 'casematelaw08.AnchorFirst'. -/
def anchorFirstCard : Claim7 := { stood := { row := anchorFirstRow, standIns := [], harness := (true, "4759b811844028cda7682dd315e0f2f9ac595ec275c2139be74370731859aa02"), looks := true }, kinds := [], alts := [], laidByText := true, laidKinds := [.data, .pinned], laidTests := true, laidLooks := .later }
def AnchorFirstCardSaid : Prop := Claim7.holds Tryd.pinned (.plain (OpenSpec.ofChange anchorFirstSpec)) anchorFirstCard

/-- THE TIED CARD OF 'casematelaw08.AnchorBent'. -/
def anchorBentCard : Claim7 := { stood := { row := anchorBentRow, standIns := [], harness := (true, "4759b811844028cda7682dd315e0f2f9ac595ec275c2139be74370731859aa02"), looks := true }, kinds := [], alts := [], laidByText := true, laidKinds := [.data, .pinned], laidTests := true, laidLooks := .later }
def AnchorBentCardSaid : Prop := Claim7.holds Tryd.pinned (.plain (OpenSpec.ofChange anchorBentSpec)) anchorBentCard

/-- THE TIED CARD OF 'casematelaw08.AnchorSizes'. -/
def anchorSizesCard : Claim7 := { stood := { row := anchorSizesRow, standIns := [], harness := (true, "4759b811844028cda7682dd315e0f2f9ac595ec275c2139be74370731859aa02"), looks := true }, kinds := [], alts := [], laidByText := true, laidKinds := [.data, .pinned], laidTests := true, laidLooks := .later }
def AnchorSizesCardSaid : Prop := Claim7.holds Tryd.pinned (.plain (OpenSpec.ofChange anchorSizesSpec)) anchorSizesCard

/-- THE TIED CARD OF 'casematelaw08.AnchorOthers'. -/
def anchorOthersCard : Claim7 := { stood := { row := anchorOthersRow, standIns := [], harness := (true, "4759b811844028cda7682dd315e0f2f9ac595ec275c2139be74370731859aa02"), looks := true }, kinds := [], alts := [], laidByText := true, laidKinds := [.data, .pinned], laidTests := true, laidLooks := .later }
def AnchorOthersCardSaid : Prop := Claim7.holds Tryd.pinned (.plain (OpenSpec.ofChange anchorOthersSpec)) anchorOthersCard

/-- THE TIED CARD OF 'casematelaw09.NewestExact'. -/
def newestExactCard : Claim7 := { stood := { row := newestExactRow, standIns := [], harness := (true, "4759b811844028cda7682dd315e0f2f9ac595ec275c2139be74370731859aa02"), looks := true }, kinds := [], alts := [], laidByText := true, laidKinds := [.data, .pinned], laidTests := true, laidLooks := .later }
def NewestExactCardSaid : Prop := Claim7.holds Tryd.pinned (.plain (OpenSpec.ofChange newestExactSpec)) newestExactCard

/-- THE TIED CARD OF 'casematelaw09.NewestLeft'. -/
def newestLeftCard : Claim7 := { stood := { row := newestLeftRow, standIns := [], harness := (true, "4759b811844028cda7682dd315e0f2f9ac595ec275c2139be74370731859aa02"), looks := true }, kinds := [], alts := [], laidByText := true, laidKinds := [.data, .pinned], laidTests := true, laidLooks := .later }
def NewestLeftCardSaid : Prop := Claim7.holds Tryd.pinned (.plain (OpenSpec.ofChange newestLeftSpec)) newestLeftCard

/-- THE TIED CARD OF 'casematelaw09.NewestGens'. -/
def newestGensCard : Claim7 := { stood := { row := newestGensRow, standIns := [], harness := (true, "4759b811844028cda7682dd315e0f2f9ac595ec275c2139be74370731859aa02"), looks := true }, kinds := [], alts := [], laidByText := true, laidKinds := [.data, .pinned], laidTests := true, laidLooks := .later }
def NewestGensCardSaid : Prop := Claim7.holds Tryd.pinned (.plain (OpenSpec.ofChange newestGensSpec)) newestGensCard

/-- THE TIED CARD OF 'casematelaw09.NewestMoved'. -/
def newestMovedCard : Claim7 := { stood := { row := newestMovedRow, standIns := [], harness := (true, "4759b811844028cda7682dd315e0f2f9ac595ec275c2139be74370731859aa02"), looks := true }, kinds := [], alts := [], laidByText := true, laidKinds := [.data, .pinned], laidTests := true, laidLooks := .later }
def NewestMovedCardSaid : Prop := Claim7.holds Tryd.pinned (.plain (OpenSpec.ofChange newestMovedSpec)) newestMovedCard

/-- THE SECOND FORM's CARD OF 'casematelaw11.PlaceExact'. -/
def placeExactUptoCard : Claim7 := { stood := { row := placeExactUptoRow, standIns := [], harness := (true, "4759b811844028cda7682dd315e0f2f9ac595ec275c2139be74370731859aa02"), looks := true }, kinds := [], alts := [], laidByText := true, laidKinds := [.data, .pinned], laidTests := true, laidLooks := .later }
def PlaceExactUptoCardSaid : Prop := Claim7.holds Tryd.pinned (.plain (OpenSpec.upto placeExactSpec)) placeExactUptoCard

/-- THE SECOND FORM's CARD OF 'casematelaw11.PlaceApart'. -/
def placeApartUptoCard : Claim7 := { stood := { row := placeApartUptoRow, standIns := [], harness := (true, "4759b811844028cda7682dd315e0f2f9ac595ec275c2139be74370731859aa02"), looks := true }, kinds := [], alts := [], laidByText := true, laidKinds := [.data, .pinned], laidTests := true, laidLooks := .later }
def PlaceApartUptoCardSaid : Prop := Claim7.holds Tryd.pinned (.plain (OpenSpec.upto placeApartSpec)) placeApartUptoCard

/-- THE SECOND FORM's CARD OF 'casematelaw11.PlaceStays'. -/
def placeStaysUptoCard : Claim7 := { stood := { row := placeStaysUptoRow, standIns := [], harness := (true, "4759b811844028cda7682dd315e0f2f9ac595ec275c2139be74370731859aa02"), looks := true }, kinds := [], alts := [], laidByText := true, laidKinds := [.data, .pinned], laidTests := true, laidLooks := .later }
def PlaceStaysUptoCardSaid : Prop := Claim7.holds Tryd.pinned (.plain (OpenSpec.upto placeStaysSpec)) placeStaysUptoCard

/-- THE SECOND FORM's CARD OF 'casematelaw08.AnchorExact'. -/
def anchorExactUptoCard : Claim7 := { stood := { row := anchorExactUptoRow, standIns := [], harness := (true, "4759b811844028cda7682dd315e0f2f9ac595ec275c2139be74370731859aa02"), looks := true }, kinds := [], alts := [], laidByText := true, laidKinds := [.data, .pinned], laidTests := true, laidLooks := .later }
def AnchorExactUptoCardSaid : Prop := Claim7.holds Tryd.pinned (.plain (OpenSpec.upto anchorExactSpec)) anchorExactUptoCard

/-- THE SECOND FORM's CARD OF 'casematelaw08.AnchorBack'. -/
def anchorBackUptoCard : Claim7 := { stood := { row := anchorBackUptoRow, standIns := [], harness := (true, "4759b811844028cda7682dd315e0f2f9ac595ec275c2139be74370731859aa02"), looks := true }, kinds := [], alts := [], laidByText := true, laidKinds := [.data, .pinned], laidTests := true, laidLooks := .later }
def AnchorBackUptoCardSaid : Prop := Claim7.holds Tryd.pinned (.plain (OpenSpec.upto anchorBackSpec)) anchorBackUptoCard

/-- THE SECOND FORM's CARD OF 'casematelaw08.AnchorFirst'. -/
def anchorFirstUptoCard : Claim7 := { stood := { row := anchorFirstUptoRow, standIns := [], harness := (true, "4759b811844028cda7682dd315e0f2f9ac595ec275c2139be74370731859aa02"), looks := true }, kinds := [], alts := [], laidByText := true, laidKinds := [.data, .pinned], laidTests := true, laidLooks := .later }
def AnchorFirstUptoCardSaid : Prop := Claim7.holds Tryd.pinned (.plain (OpenSpec.upto anchorFirstSpec)) anchorFirstUptoCard

/-- THE SECOND FORM's CARD OF 'casematelaw08.AnchorBent'. -/
def anchorBentUptoCard : Claim7 := { stood := { row := anchorBentUptoRow, standIns := [], harness := (true, "4759b811844028cda7682dd315e0f2f9ac595ec275c2139be74370731859aa02"), looks := true }, kinds := [], alts := [], laidByText := true, laidKinds := [.data, .pinned], laidTests := true, laidLooks := .later }
def AnchorBentUptoCardSaid : Prop := Claim7.holds Tryd.pinned (.plain (OpenSpec.upto anchorBentSpec)) anchorBentUptoCard

/-- THE SECOND FORM's CARD OF 'casematelaw08.AnchorSizes'. -/
def anchorSizesUptoCard : Claim7 := { stood := { row := anchorSizesUptoRow, standIns := [], harness := (true, "4759b811844028cda7682dd315e0f2f9ac595ec275c2139be74370731859aa02"), looks := true }, kinds := [], alts := [], laidByText := true, laidKinds := [.data, .pinned], laidTests := true, laidLooks := .later }
def AnchorSizesUptoCardSaid : Prop := Claim7.holds Tryd.pinned (.plain (OpenSpec.upto anchorSizesSpec)) anchorSizesUptoCard

/-- THE SECOND FORM's CARD OF 'casematelaw08.AnchorOthers'. -/
def anchorOthersUptoCard : Claim7 := { stood := { row := anchorOthersUptoRow, standIns := [], harness := (true, "4759b811844028cda7682dd315e0f2f9ac595ec275c2139be74370731859aa02"), looks := true }, kinds := [], alts := [], laidByText := true, laidKinds := [.data, .pinned], laidTests := true, laidLooks := .later }
def AnchorOthersUptoCardSaid : Prop := Claim7.holds Tryd.pinned (.plain (OpenSpec.upto anchorOthersSpec)) anchorOthersUptoCard

/-- THE SECOND FORM's CARD OF 'casematelaw09.NewestExact'. -/
def newestExactUptoCard : Claim7 := { stood := { row := newestExactUptoRow, standIns := [], harness := (true, "4759b811844028cda7682dd315e0f2f9ac595ec275c2139be74370731859aa02"), looks := true }, kinds := [], alts := [], laidByText := true, laidKinds := [.data, .pinned], laidTests := true, laidLooks := .later }
def NewestExactUptoCardSaid : Prop := Claim7.holds Tryd.pinned (.plain (OpenSpec.upto newestExactSpec)) newestExactUptoCard

/-- THE SECOND FORM's CARD OF 'casematelaw09.NewestLeft'. -/
def newestLeftUptoCard : Claim7 := { stood := { row := newestLeftUptoRow, standIns := [], harness := (true, "4759b811844028cda7682dd315e0f2f9ac595ec275c2139be74370731859aa02"), looks := true }, kinds := [], alts := [], laidByText := true, laidKinds := [.data, .pinned], laidTests := true, laidLooks := .later }
def NewestLeftUptoCardSaid : Prop := Claim7.holds Tryd.pinned (.plain (OpenSpec.upto newestLeftSpec)) newestLeftUptoCard

/-- THE SECOND FORM's CARD OF 'casematelaw09.NewestGens'. -/
def newestGensUptoCard : Claim7 := { stood := { row := newestGensUptoRow, standIns := [], harness := (true, "4759b811844028cda7682dd315e0f2f9ac595ec275c2139be74370731859aa02"), looks := true }, kinds := [], alts := [], laidByText := true, laidKinds := [.data, .pinned], laidTests := true, laidLooks := .later }
def NewestGensUptoCardSaid : Prop := Claim7.holds Tryd.pinned (.plain (OpenSpec.upto newestGensSpec)) newestGensUptoCard

/-- THE SECOND FORM's CARD OF 'casematelaw09.NewestMoved'. -/
def newestMovedUptoCard : Claim7 := { stood := { row := newestMovedUptoRow, standIns := [], harness := (true, "4759b811844028cda7682dd315e0f2f9ac595ec275c2139be74370731859aa02"), looks := true }, kinds := [], alts := [], laidByText := true, laidKinds := [.data, .pinned], laidTests := true, laidLooks := .later }
def NewestMovedUptoCardSaid : Prop := Claim7.holds Tryd.pinned (.plain (OpenSpec.upto newestMovedSpec)) newestMovedUptoCard
end Rows
end Go.Proofs.YtamgpbkakmffiaaDoor
