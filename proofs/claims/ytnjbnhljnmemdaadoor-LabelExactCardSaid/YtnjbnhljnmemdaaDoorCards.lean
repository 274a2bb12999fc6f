/-
  DERIVED. GIVEN WITH THE SEED: THE CARDS: each row of YtnjbnhljnmemdaaDoorRows.lean that lists a variable, with what it lists TIED to the program's text (the seventh form; the later family's looks); each row that meets fmt, with fmt's text TOLD by the authors' own Lean function (tested against real Go, not proved from fmt's source: count such statements apart). THE CARD IS WHAT COUNTS. Prove the row's statement (the work); the ties are given (YtnjbnhljnmemdaaDoorTie.lean); close each card by the builder's one call (the guide's Derived/Test/ToyasCard.lean, 'card_holds'). Laid BY PROGRAM, IN A SANDBOX (cutbox-door.mjs). By AI agents, Wed Nov 11 2026. No macro, syntax, notation, axiom, sorry.
-/
import Derived.Test.YtnjbnhljnmemdaaDoorRows
import GoSem.ClaimSeven
namespace Go.Proofs.YtnjbnhljnmemdaaDoor
namespace Rows

/-- THE TIED CARD OF 'casematelaw01.LabelExact'. -/
def labelExactCard : Claim7 := { stood := { row := labelExactRow, standIns := [], harness := (true, "34ce7131a907a1e7c479417f23e6a0aaebe82deab7913346bd3874a005f77b3f"), looks := false }, kinds := [], alts := [], laidByText := true, laidKinds := [.data, .pinned], laidTests := true, laidLooks := .later }
def LabelExactCardSaid : Prop := Claim7.holds Tryd.pinned (.plain (OpenSpec.ofChange labelExactSpec)) labelExactCard

/-- THE TIED CARD OF 'casematelaw01.LabelBack'. -/
def labelBackCard : Claim7 := { stood := { row := labelBackRow, standIns := [], harness := (true, "34ce7131a907a1e7c479417f23e6a0aaebe82deab7913346bd3874a005f77b3f"), looks := false }, kinds := [], alts := [], laidByText := true, laidKinds := [.data, .pinned], laidTests := true, laidLooks := .later }
def LabelBackCardSaid : Prop := Claim7.holds Tryd.pinned (.plain (OpenSpec.ofChange labelBackSpec)) labelBackCard

/-- THE TIED CARD OF 'casematelaw01.LabelCuts'. -/
def labelCutsCard : Claim7 := { stood := { row := labelCutsRow, standIns := [], harness := (true, "34ce7131a907a1e7c479417f23e6a0aaebe82deab7913346bd3874a005f77b3f"), looks := false }, kinds := [], alts := [], laidByText := true, laidKinds := [.data, .pinned], laidTests := true, laidLooks := .later }
def LabelCutsCardSaid : Prop := Claim7.holds Tryd.pinned (.plain (OpenSpec.ofChange labelCutsSpec)) labelCutsCard

/-- THE TIED CARD OF 'casematelaw01.LabelRunes'. -/
def labelRunesCard : Claim7 := { stood := { row := labelRunesRow, standIns := [], harness := (true, "34ce7131a907a1e7c479417f23e6a0aaebe82deab7913346bd3874a005f77b3f"), looks := false }, kinds := [], alts := [], laidByText := true, laidKinds := [.data, .pinned], laidTests := true, laidLooks := .later }
def LabelRunesCardSaid : Prop := Claim7.holds Tryd.pinned (.plain (OpenSpec.ofChange labelRunesSpec)) labelRunesCard

/-- THE TIED CARD OF 'casematelaw01.LabelJoins'. -/
def labelJoinsCard : Claim7 := { stood := { row := labelJoinsRow, standIns := [], harness := (true, "34ce7131a907a1e7c479417f23e6a0aaebe82deab7913346bd3874a005f77b3f"), looks := false }, kinds := [], alts := [], laidByText := true, laidKinds := [.data, .pinned], laidTests := true, laidLooks := .later }
def LabelJoinsCardSaid : Prop := Claim7.holds Tryd.pinned (.plain (OpenSpec.ofChange labelJoinsSpec)) labelJoinsCard

/-- THE TIED CARD OF 'casematelaw01.LabelBytes'. -/
def labelBytesCard : Claim7 := { stood := { row := labelBytesRow, standIns := [], harness := (true, "34ce7131a907a1e7c479417f23e6a0aaebe82deab7913346bd3874a005f77b3f"), looks := false }, kinds := [], alts := [], laidByText := true, laidKinds := [.data, .pinned], laidTests := true, laidLooks := .later }
def LabelBytesCardSaid : Prop := Claim7.holds Tryd.pinned (.plain (OpenSpec.ofChange labelBytesSpec)) labelBytesCard

/-- THE SECOND FORM's CARD OF 'casematelaw01.LabelExact'. -/
def labelExactUptoCard : Claim7 := { stood := { row := labelExactUptoRow, standIns := [], harness := (true, "34ce7131a907a1e7c479417f23e6a0aaebe82deab7913346bd3874a005f77b3f"), looks := false }, kinds := [], alts := [], laidByText := true, laidKinds := [.data, .pinned], laidTests := true, laidLooks := .later }
def LabelExactUptoCardSaid : Prop := Claim7.holds Tryd.pinned (.plain (OpenSpec.upto labelExactSpec)) labelExactUptoCard

/-- THE SECOND FORM's CARD OF 'casematelaw01.LabelBack'. -/
def labelBackUptoCard : Claim7 := { stood := { row := labelBackUptoRow, standIns := [], harness := (true, "34ce7131a907a1e7c479417f23e6a0aaebe82deab7913346bd3874a005f77b3f"), looks := false }, kinds := [], alts := [], laidByText := true, laidKinds := [.data, .pinned], laidTests := true, laidLooks := .later }
def LabelBackUptoCardSaid : Prop := Claim7.holds Tryd.pinned (.plain (OpenSpec.upto labelBackSpec)) labelBackUptoCard

/-- THE SECOND FORM's CARD OF 'casematelaw01.LabelCuts'. -/
def labelCutsUptoCard : Claim7 := { stood := { row := labelCutsUptoRow, standIns := [], harness := (true, "34ce7131a907a1e7c479417f23e6a0aaebe82deab7913346bd3874a005f77b3f"), looks := false }, kinds := [], alts := [], laidByText := true, laidKinds := [.data, .pinned], laidTests := true, laidLooks := .later }
def LabelCutsUptoCardSaid : Prop := Claim7.holds Tryd.pinned (.plain (OpenSpec.upto labelCutsSpec)) labelCutsUptoCard

/-- THE SECOND FORM's CARD OF 'casematelaw01.LabelRunes'. -/
def labelRunesUptoCard : Claim7 := { stood := { row := labelRunesUptoRow, standIns := [], harness := (true, "34ce7131a907a1e7c479417f23e6a0aaebe82deab7913346bd3874a005f77b3f"), looks := false }, kinds := [], alts := [], laidByText := true, laidKinds := [.data, .pinned], laidTests := true, laidLooks := .later }
def LabelRunesUptoCardSaid : Prop := Claim7.holds Tryd.pinned (.plain (OpenSpec.upto labelRunesSpec)) labelRunesUptoCard

/-- THE SECOND FORM's CARD OF 'casematelaw01.LabelJoins'. -/
def labelJoinsUptoCard : Claim7 := { stood := { row := labelJoinsUptoRow, standIns := [], harness := (true, "34ce7131a907a1e7c479417f23e6a0aaebe82deab7913346bd3874a005f77b3f"), looks := false }, kinds := [], alts := [], laidByText := true, laidKinds := [.data, .pinned], laidTests := true, laidLooks := .later }
def LabelJoinsUptoCardSaid : Prop := Claim7.holds Tryd.pinned (.plain (OpenSpec.upto labelJoinsSpec)) labelJoinsUptoCard

/-- THE SECOND FORM's CARD OF 'casematelaw01.LabelBytes'. -/
def labelBytesUptoCard : Claim7 := { stood := { row := labelBytesUptoRow, standIns := [], harness := (true, "34ce7131a907a1e7c479417f23e6a0aaebe82deab7913346bd3874a005f77b3f"), looks := false }, kinds := [], alts := [], laidByText := true, laidKinds := [.data, .pinned], laidTests := true, laidLooks := .later }
def LabelBytesUptoCardSaid : Prop := Claim7.holds Tryd.pinned (.plain (OpenSpec.upto labelBytesSpec)) labelBytesUptoCard
end Rows
end Go.Proofs.YtnjbnhljnmemdaaDoor
