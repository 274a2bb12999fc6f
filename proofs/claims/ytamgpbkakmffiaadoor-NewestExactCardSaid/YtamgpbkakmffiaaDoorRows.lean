/-
  NARROWER THAN 'FOR EVERY INPUT', by the rows' own cells (each row's printed sentence says how): PlaceExact: laid · PlaceApart: laid · PlaceStays: laid · AnchorExact: laid · AnchorBack: laid · AnchorFirst: laid · AnchorBent: laid · AnchorSizes: laid · AnchorOthers: laid · NewestExact: laid · NewestLeft: laid · NewestGens: laid · NewestMoved: laid.
  DERIVED. THE GIVEN ROWS OF THIS SEAT. 13 by the template 'for every input the law returns true; each argument reads behind the call as it read before'; 0 by the template 'total and deterministic' (their statements: YtamgpbkakmffiaaDoorTotals.lean).
  GIVEN WITH THE SEED: the statements are not yours to turn. If you find one false, say at which input.
  Laid BY PROGRAM, IN A SANDBOX (cutbox-rows.mjs): the forced cells as the released guide's own fill.sh prints them over the translation 2b00de0bec4bee60… (all of the seat's roots in one cut). By AI agents, Wed Nov 11 2026. No macro, syntax, notation, axiom, sorry.
-/
import Derived.Test.YtamgpbkakmffiaaDoorChecked
import GoSem.PinnedTables
import GoSem.Claim
import GoSem.ClaimJoined
import GoSem.ClaimMapViews
import Derived.JoinedTies
import Derived.KernelRfl
namespace Go.Proofs.YtamgpbkakmffiaaDoor
/- THE CELL 'sum', in the pinned program and in every row, IS THE sha256 OF THE DUMP (.gsa) THAT YtamgpbkakmffiaaDoorProg.lean LOADS. Nothing in Lean hashes anything: it is a label: what it is worth is what the hold of that sum in a sandbox is worth. -/
noncomputable def Tryd.pinned : Pinned := { name := "ytamgpbkakmffiaadoor", sum := "2b00de0bec4bee60b09def2f5674728875455e8128e6dd29b42ba40fb3fa3c0f", checked := Tryd.checked }
namespace Rows
def none {H : Type} : Left H := { results := [], args := [] }

/- WHAT THE LISTED PACKAGE-LEVEL VARIABLES READ AS WHEN THE CALL BEGINS. Each datum BY PROGRAM (the guide's laid-datum.mjs) off the statement by which the dump's own 'gosem.cut.vars' lays the variable. In a bare row this is a premise. The card (YtamgpbkakmffiaaDoorCards.lean) ties it to the program's text. -/
def laid_unicode_utf8_acceptRanges {H : Type} : DataW H := .agg [.agg [.lit (.int .u8 128), .lit (.int .u8 191)], .agg [.lit (.int .u8 160), .lit (.int .u8 191)], .agg [.lit (.int .u8 128), .lit (.int .u8 159)], .agg [.lit (.int .u8 144), .lit (.int .u8 191)], .agg [.lit (.int .u8 128), .lit (.int .u8 143)], .agg [.lit (.int .u8 0), .lit (.int .u8 0)], .agg [.lit (.int .u8 0), .lit (.int .u8 0)], .agg [.lit (.int .u8 0), .lit (.int .u8 0)], .agg [.lit (.int .u8 0), .lit (.int .u8 0)], .agg [.lit (.int .u8 0), .lit (.int .u8 0)], .agg [.lit (.int .u8 0), .lit (.int .u8 0)], .agg [.lit (.int .u8 0), .lit (.int .u8 0)], .agg [.lit (.int .u8 0), .lit (.int .u8 0)], .agg [.lit (.int .u8 0), .lit (.int .u8 0)], .agg [.lit (.int .u8 0), .lit (.int .u8 0)], .agg [.lit (.int .u8 0), .lit (.int .u8 0)]]
/-- One of Go's own tables, pinned by name: the form's constant. -/
def laid_unicode_utf8_first : DataW Unit := Go.Pinned.utf8First

/-- 'casematelaw11.PlaceExact': WHATEVER THE INPUT: true; the input reads as it did. -/
def placeExactSpec : ChangeSpec := { name := "placeExact", fn := fun _ => fun
  | [d1, d2, d3, d4] => { results := [.lit (.bool true)], args := [d1, d2, d3, d4] }
  | _ => none }
def placeExactRow : OpenClaim := { program := "ytamgpbkakmffiaadoor", sum := "2b00de0bec4bee60b09def2f5674728875455e8128e6dd29b42ba40fb3fa3c0f", func := "casemate/casematelaw11.PlaceExact", spec := "placeExact", unfollowed := true, recurses := true, named := ["unicode/utf8.first", "unicode/utf8.acceptRanges"], apart := false, laid := [("unicode/utf8.acceptRanges", laid_unicode_utf8_acceptRanges), ("unicode/utf8.first", laid_unicode_utf8_first)] }
def PlaceExactSaid : Prop := placeExactRow.holds Tryd.pinned (OpenSpec.ofChange placeExactSpec)

/-- ITS FALSE NEIGHBOUR: 'it returns false'. Refute it at one input. -/
def placeExactWrong : ChangeSpec := { name := "placeExact", fn := fun _ => fun
  | [d1, d2, d3, d4] => { results := [.lit (.bool false)], args := [d1, d2, d3, d4] }
  | _ => none }
def PlaceExactWrongFalsely : Prop := placeExactRow.holds Tryd.pinned (OpenSpec.ofChange placeExactWrong)

/-- 'casematelaw11.PlaceApart': WHATEVER THE INPUT: true; the input reads as it did. -/
def placeApartSpec : ChangeSpec := { name := "placeApart", fn := fun _ => fun
  | [d1, d2, d3, d4] => { results := [.lit (.bool true)], args := [d1, d2, d3, d4] }
  | _ => none }
def placeApartRow : OpenClaim := { program := "ytamgpbkakmffiaadoor", sum := "2b00de0bec4bee60b09def2f5674728875455e8128e6dd29b42ba40fb3fa3c0f", func := "casemate/casematelaw11.PlaceApart", spec := "placeApart", unfollowed := true, recurses := true, named := ["unicode/utf8.first", "unicode/utf8.acceptRanges"], apart := false, laid := [("unicode/utf8.acceptRanges", laid_unicode_utf8_acceptRanges), ("unicode/utf8.first", laid_unicode_utf8_first)] }
def PlaceApartSaid : Prop := placeApartRow.holds Tryd.pinned (OpenSpec.ofChange placeApartSpec)

/-- ITS FALSE NEIGHBOUR: 'it returns false'. Refute it at one input. -/
def placeApartWrong : ChangeSpec := { name := "placeApart", fn := fun _ => fun
  | [d1, d2, d3, d4] => { results := [.lit (.bool false)], args := [d1, d2, d3, d4] }
  | _ => none }
def PlaceApartWrongFalsely : Prop := placeApartRow.holds Tryd.pinned (OpenSpec.ofChange placeApartWrong)

/-- 'casematelaw11.PlaceStays': WHATEVER THE INPUT: true; the input reads as it did. -/
def placeStaysSpec : ChangeSpec := { name := "placeStays", fn := fun _ => fun
  | [d1, d2, d3, d4, d5, d6] => { results := [.lit (.bool true)], args := [d1, d2, d3, d4, d5, d6] }
  | _ => none }
def placeStaysRow : OpenClaim := { program := "ytamgpbkakmffiaadoor", sum := "2b00de0bec4bee60b09def2f5674728875455e8128e6dd29b42ba40fb3fa3c0f", func := "casemate/casematelaw11.PlaceStays", spec := "placeStays", unfollowed := true, recurses := true, named := ["unicode/utf8.first", "unicode/utf8.acceptRanges"], apart := false, laid := [("unicode/utf8.acceptRanges", laid_unicode_utf8_acceptRanges), ("unicode/utf8.first", laid_unicode_utf8_first)] }
def PlaceStaysSaid : Prop := placeStaysRow.holds Tryd.pinned (OpenSpec.ofChange placeStaysSpec)

/-- ITS FALSE NEIGHBOUR: 'it returns false'. Refute it at one input. -/
def placeStaysWrong : ChangeSpec := { name := "placeStays", fn := fun _ => fun
  | [d1, d2, d3, d4, d5, d6] => { results := [.lit (.bool false)], args := [d1, d2, d3, d4, d5, d6] }
  | _ => none }
def PlaceStaysWrongFalsely : Prop := placeStaysRow.holds Tryd.pinned (OpenSpec.ofChange placeStaysWrong)

/-- 'casematelaw08.AnchorExact': WHATEVER THE INPUT: true; the input reads as it did. -/
def anchorExactSpec : ChangeSpec := { name := "anchorExact", fn := fun _ => fun
  | [d1, d2, d3, d4] => { results := [.lit (.bool true)], args := [d1, d2, d3, d4] }
  | _ => none }
def anchorExactRow : OpenClaim := { program := "ytamgpbkakmffiaadoor", sum := "2b00de0bec4bee60b09def2f5674728875455e8128e6dd29b42ba40fb3fa3c0f", func := "casemate/casematelaw08.AnchorExact", spec := "anchorExact", unfollowed := true, recurses := true, named := ["unicode/utf8.first", "unicode/utf8.acceptRanges"], apart := false, laid := [("unicode/utf8.acceptRanges", laid_unicode_utf8_acceptRanges), ("unicode/utf8.first", laid_unicode_utf8_first)] }
def AnchorExactSaid : Prop := anchorExactRow.holds Tryd.pinned (OpenSpec.ofChange anchorExactSpec)

/-- ITS FALSE NEIGHBOUR: 'it returns false'. Refute it at one input. -/
def anchorExactWrong : ChangeSpec := { name := "anchorExact", fn := fun _ => fun
  | [d1, d2, d3, d4] => { results := [.lit (.bool false)], args := [d1, d2, d3, d4] }
  | _ => none }
def AnchorExactWrongFalsely : Prop := anchorExactRow.holds Tryd.pinned (OpenSpec.ofChange anchorExactWrong)

/-- 'casematelaw08.AnchorBack': WHATEVER THE INPUT: true; the input reads as it did. -/
def anchorBackSpec : ChangeSpec := { name := "anchorBack", fn := fun _ => fun
  | [d1, d2, d3, d4] => { results := [.lit (.bool true)], args := [d1, d2, d3, d4] }
  | _ => none }
def anchorBackRow : OpenClaim := { program := "ytamgpbkakmffiaadoor", sum := "2b00de0bec4bee60b09def2f5674728875455e8128e6dd29b42ba40fb3fa3c0f", func := "casemate/casematelaw08.AnchorBack", spec := "anchorBack", unfollowed := true, recurses := true, named := ["unicode/utf8.first", "unicode/utf8.acceptRanges"], apart := false, laid := [("unicode/utf8.acceptRanges", laid_unicode_utf8_acceptRanges), ("unicode/utf8.first", laid_unicode_utf8_first)] }
def AnchorBackSaid : Prop := anchorBackRow.holds Tryd.pinned (OpenSpec.ofChange anchorBackSpec)

/-- ITS FALSE NEIGHBOUR: 'it returns false'. Refute it at one input. -/
def anchorBackWrong : ChangeSpec := { name := "anchorBack", fn := fun _ => fun
  | [d1, d2, d3, d4] => { results := [.lit (.bool false)], args := [d1, d2, d3, d4] }
  | _ => none }
def AnchorBackWrongFalsely : Prop := anchorBackRow.holds Tryd.pinned (OpenSpec.ofChange anchorBackWrong)

/-- 'casematelaw08.AnchorFirst': WHATEVER THE INPUT: true; the input reads as it did. -/
def anchorFirstSpec : ChangeSpec := { name := "anchorFirst", fn := fun _ => fun
  | [d1, d2, d3, d4, d5, d6] => { results := [.lit (.bool true)], args := [d1, d2, d3, d4, d5, d6] }
  | _ => none }
def anchorFirstRow : OpenClaim := { program := "ytamgpbkakmffiaadoor", sum := "2b00de0bec4bee60b09def2f5674728875455e8128e6dd29b42ba40fb3fa3c0f", func := "casemate/casematelaw08.AnchorFirst", spec := "anchorFirst", unfollowed := true, recurses := true, named := ["unicode/utf8.first", "unicode/utf8.acceptRanges"], apart := false, laid := [("unicode/utf8.acceptRanges", laid_unicode_utf8_acceptRanges), ("unicode/utf8.first", laid_unicode_utf8_first)] }
def AnchorFirstSaid : Prop := anchorFirstRow.holds Tryd.pinned (OpenSpec.ofChange anchorFirstSpec)

/-- ITS FALSE NEIGHBOUR: 'it returns false'. Refute it at one input. -/
def anchorFirstWrong : ChangeSpec := { name := "anchorFirst", fn := fun _ => fun
  | [d1, d2, d3, d4, d5, d6] => { results := [.lit (.bool false)], args := [d1, d2, d3, d4, d5, d6] }
  | _ => none }
def AnchorFirstWrongFalsely : Prop := anchorFirstRow.holds Tryd.pinned (OpenSpec.ofChange anchorFirstWrong)

/-- 'casematelaw08.AnchorBent': WHATEVER THE INPUT: true; the input reads as it did. -/
def anchorBentSpec : ChangeSpec := { name := "anchorBent", fn := fun _ => fun
  | [d1, d2, d3, d4] => { results := [.lit (.bool true)], args := [d1, d2, d3, d4] }
  | _ => none }
def anchorBentRow : OpenClaim := { program := "ytamgpbkakmffiaadoor", sum := "2b00de0bec4bee60b09def2f5674728875455e8128e6dd29b42ba40fb3fa3c0f", func := "casemate/casematelaw08.AnchorBent", spec := "anchorBent", unfollowed := true, recurses := true, named := ["unicode/utf8.first", "unicode/utf8.acceptRanges"], apart := false, laid := [("unicode/utf8.acceptRanges", laid_unicode_utf8_acceptRanges), ("unicode/utf8.first", laid_unicode_utf8_first)] }
def AnchorBentSaid : Prop := anchorBentRow.holds Tryd.pinned (OpenSpec.ofChange anchorBentSpec)

/-- ITS FALSE NEIGHBOUR: 'it returns false'. Refute it at one input. -/
def anchorBentWrong : ChangeSpec := { name := "anchorBent", fn := fun _ => fun
  | [d1, d2, d3, d4] => { results := [.lit (.bool false)], args := [d1, d2, d3, d4] }
  | _ => none }
def AnchorBentWrongFalsely : Prop := anchorBentRow.holds Tryd.pinned (OpenSpec.ofChange anchorBentWrong)

/-- 'casematelaw08.AnchorSizes': WHATEVER THE INPUT: true; the input reads as it did. -/
def anchorSizesSpec : ChangeSpec := { name := "anchorSizes", fn := fun _ => fun
  | [d1, d2] => { results := [.lit (.bool true)], args := [d1, d2] }
  | _ => none }
def anchorSizesRow : OpenClaim := { program := "ytamgpbkakmffiaadoor", sum := "2b00de0bec4bee60b09def2f5674728875455e8128e6dd29b42ba40fb3fa3c0f", func := "casemate/casematelaw08.AnchorSizes", spec := "anchorSizes", unfollowed := true, recurses := true, named := ["unicode/utf8.first", "unicode/utf8.acceptRanges"], apart := false, laid := [("unicode/utf8.acceptRanges", laid_unicode_utf8_acceptRanges), ("unicode/utf8.first", laid_unicode_utf8_first)] }
def AnchorSizesSaid : Prop := anchorSizesRow.holds Tryd.pinned (OpenSpec.ofChange anchorSizesSpec)

/-- ITS FALSE NEIGHBOUR: 'it returns false'. Refute it at one input. -/
def anchorSizesWrong : ChangeSpec := { name := "anchorSizes", fn := fun _ => fun
  | [d1, d2] => { results := [.lit (.bool false)], args := [d1, d2] }
  | _ => none }
def AnchorSizesWrongFalsely : Prop := anchorSizesRow.holds Tryd.pinned (OpenSpec.ofChange anchorSizesWrong)

/-- 'casematelaw08.AnchorOthers': WHATEVER THE INPUT: true; the input reads as it did. -/
def anchorOthersSpec : ChangeSpec := { name := "anchorOthers", fn := fun _ => fun
  | [d1, d2, d3] => { results := [.lit (.bool true)], args := [d1, d2, d3] }
  | _ => none }
def anchorOthersRow : OpenClaim := { program := "ytamgpbkakmffiaadoor", sum := "2b00de0bec4bee60b09def2f5674728875455e8128e6dd29b42ba40fb3fa3c0f", func := "casemate/casematelaw08.AnchorOthers", spec := "anchorOthers", unfollowed := true, recurses := true, named := ["unicode/utf8.first", "unicode/utf8.acceptRanges"], apart := false, laid := [("unicode/utf8.acceptRanges", laid_unicode_utf8_acceptRanges), ("unicode/utf8.first", laid_unicode_utf8_first)] }
def AnchorOthersSaid : Prop := anchorOthersRow.holds Tryd.pinned (OpenSpec.ofChange anchorOthersSpec)

/-- ITS FALSE NEIGHBOUR: 'it returns false'. Refute it at one input. -/
def anchorOthersWrong : ChangeSpec := { name := "anchorOthers", fn := fun _ => fun
  | [d1, d2, d3] => { results := [.lit (.bool false)], args := [d1, d2, d3] }
  | _ => none }
def AnchorOthersWrongFalsely : Prop := anchorOthersRow.holds Tryd.pinned (OpenSpec.ofChange anchorOthersWrong)

/-- 'casematelaw09.NewestExact': WHATEVER THE INPUT: true; the input reads as it did. -/
def newestExactSpec : ChangeSpec := { name := "newestExact", fn := fun _ => fun
  | [d1, d2, d3, d4, d5, d6] => { results := [.lit (.bool true)], args := [d1, d2, d3, d4, d5, d6] }
  | _ => none }
def newestExactRow : OpenClaim := { program := "ytamgpbkakmffiaadoor", sum := "2b00de0bec4bee60b09def2f5674728875455e8128e6dd29b42ba40fb3fa3c0f", func := "casemate/casematelaw09.NewestExact", spec := "newestExact", unfollowed := true, recurses := true, named := ["unicode/utf8.first", "unicode/utf8.acceptRanges"], apart := false, laid := [("unicode/utf8.acceptRanges", laid_unicode_utf8_acceptRanges), ("unicode/utf8.first", laid_unicode_utf8_first)] }
def NewestExactSaid : Prop := newestExactRow.holds Tryd.pinned (OpenSpec.ofChange newestExactSpec)

/-- ITS FALSE NEIGHBOUR: 'it returns false'. Refute it at one input. -/
def newestExactWrong : ChangeSpec := { name := "newestExact", fn := fun _ => fun
  | [d1, d2, d3, d4, d5, d6] => { results := [.lit (.bool false)], args := [d1, d2, d3, d4, d5, d6] }
  | _ => none }
def NewestExactWrongFalsely : Prop := newestExactRow.holds Tryd.pinned (OpenSpec.ofChange newestExactWrong)

/-- 'casematelaw09.NewestLeft': WHATEVER THE INPUT: true; the input reads as it did. -/
def newestLeftSpec : ChangeSpec := { name := "newestLeft", fn := fun _ => fun
  | [d1, d2, d3, d4] => { results := [.lit (.bool true)], args := [d1, d2, d3, d4] }
  | _ => none }
def newestLeftRow : OpenClaim := { program := "ytamgpbkakmffiaadoor", sum := "2b00de0bec4bee60b09def2f5674728875455e8128e6dd29b42ba40fb3fa3c0f", func := "casemate/casematelaw09.NewestLeft", spec := "newestLeft", unfollowed := true, recurses := true, named := ["unicode/utf8.first", "unicode/utf8.acceptRanges"], apart := false, laid := [("unicode/utf8.acceptRanges", laid_unicode_utf8_acceptRanges), ("unicode/utf8.first", laid_unicode_utf8_first)] }
def NewestLeftSaid : Prop := newestLeftRow.holds Tryd.pinned (OpenSpec.ofChange newestLeftSpec)

/-- ITS FALSE NEIGHBOUR: 'it returns false'. Refute it at one input. -/
def newestLeftWrong : ChangeSpec := { name := "newestLeft", fn := fun _ => fun
  | [d1, d2, d3, d4] => { results := [.lit (.bool false)], args := [d1, d2, d3, d4] }
  | _ => none }
def NewestLeftWrongFalsely : Prop := newestLeftRow.holds Tryd.pinned (OpenSpec.ofChange newestLeftWrong)

/-- 'casematelaw09.NewestGens': WHATEVER THE INPUT: true; the input reads as it did. -/
def newestGensSpec : ChangeSpec := { name := "newestGens", fn := fun _ => fun
  | [d1, d2, d3, d4] => { results := [.lit (.bool true)], args := [d1, d2, d3, d4] }
  | _ => none }
def newestGensRow : OpenClaim := { program := "ytamgpbkakmffiaadoor", sum := "2b00de0bec4bee60b09def2f5674728875455e8128e6dd29b42ba40fb3fa3c0f", func := "casemate/casematelaw09.NewestGens", spec := "newestGens", unfollowed := true, recurses := true, named := ["unicode/utf8.first", "unicode/utf8.acceptRanges"], apart := false, laid := [("unicode/utf8.acceptRanges", laid_unicode_utf8_acceptRanges), ("unicode/utf8.first", laid_unicode_utf8_first)] }
def NewestGensSaid : Prop := newestGensRow.holds Tryd.pinned (OpenSpec.ofChange newestGensSpec)

/-- ITS FALSE NEIGHBOUR: 'it returns false'. Refute it at one input. -/
def newestGensWrong : ChangeSpec := { name := "newestGens", fn := fun _ => fun
  | [d1, d2, d3, d4] => { results := [.lit (.bool false)], args := [d1, d2, d3, d4] }
  | _ => none }
def NewestGensWrongFalsely : Prop := newestGensRow.holds Tryd.pinned (OpenSpec.ofChange newestGensWrong)

/-- 'casematelaw09.NewestMoved': WHATEVER THE INPUT: true; the input reads as it did. -/
def newestMovedSpec : ChangeSpec := { name := "newestMoved", fn := fun _ => fun
  | [d1, d2, d3, d4] => { results := [.lit (.bool true)], args := [d1, d2, d3, d4] }
  | _ => none }
def newestMovedRow : OpenClaim := { program := "ytamgpbkakmffiaadoor", sum := "2b00de0bec4bee60b09def2f5674728875455e8128e6dd29b42ba40fb3fa3c0f", func := "casemate/casematelaw09.NewestMoved", spec := "newestMoved", unfollowed := true, recurses := true, named := ["unicode/utf8.first", "unicode/utf8.acceptRanges"], apart := false, laid := [("unicode/utf8.acceptRanges", laid_unicode_utf8_acceptRanges), ("unicode/utf8.first", laid_unicode_utf8_first)] }
def NewestMovedSaid : Prop := newestMovedRow.holds Tryd.pinned (OpenSpec.ofChange newestMovedSpec)

/-- ITS FALSE NEIGHBOUR: 'it returns false'. Refute it at one input. -/
def newestMovedWrong : ChangeSpec := { name := "newestMoved", fn := fun _ => fun
  | [d1, d2, d3, d4] => { results := [.lit (.bool false)], args := [d1, d2, d3, d4] }
  | _ => none }
def NewestMovedWrongFalsely : Prop := newestMovedRow.holds Tryd.pinned (OpenSpec.ofChange newestMovedWrong)

/- THE SECOND FORM. 'bulk': how many values and letters a reading holds, each counted each time it is reached (what is shared counts as often as it is met; a slice's spare places count too). A statement '..UptoSaid' is the law's where the arguments, and the package variables that the reading takes, are together of bulk at most 1048576: NARROWER than '..Said'. Prove '..Said' where nothing that the law and all that it calls make is longer than what came in: it says more and counts as full. Else prove '..UptoSaid'. A law counts once. -/
mutual
def uptoBulk {H : Type} : DataW H → Nat
  | .lit (.string bytes) => bytes.length + 1
  | .lit _ => 1
  | .nil => 1
  | .ptr d => uptoBulk d + 1
  | .slice elems spare => uptoBulkAll elems + uptoBulkAll spare + 1
  | .agg parts => uptoBulkAll parts + 1
  | .iface _ d => uptoBulk d + 1
  | .map entries => uptoBulkEntries entries + 1
  | .held _ => 1
def uptoBulkAll {H : Type} : List (DataW H) → Nat
  | [] => 0
  | d :: r => uptoBulk d + uptoBulkAll r
def uptoBulkEntries {H : Type} : List (Lit × DataW H) → Nat
  | [] => 0
  | x :: r => uptoBulkEntry x + uptoBulkEntries r
def uptoBulkEntry {H : Type} : Lit × DataW H → Nat
  | (.string bytes, d) => bytes.length + uptoBulk d + 1
  | (_, d) => uptoBulk d + 1
 end
def uptoSmall : (H : Type) → List (DataW H) → Bool := fun _ ds => decide (uptoBulkAll ds ≤ 1048576)
def OpenSpec.upto (s : _root_.Go.ChangeSpec) : _root_.Go.OpenSpec := { _root_.Go.OpenSpec.ofChange s with cond := some uptoSmall }

/-- 'casematelaw11.PlaceExact', WHERE WHAT IT READS IS OF BULK AT MOST 1048576: true; the input reads as it did. -/
def placeExactUptoRow : OpenClaim := { program := "ytamgpbkakmffiaadoor", sum := "2b00de0bec4bee60b09def2f5674728875455e8128e6dd29b42ba40fb3fa3c0f", func := "casemate/casematelaw11.PlaceExact", spec := "placeExact", unfollowed := true, recurses := true, named := ["unicode/utf8.first", "unicode/utf8.acceptRanges"], apart := false, laid := [("unicode/utf8.acceptRanges", laid_unicode_utf8_acceptRanges), ("unicode/utf8.first", laid_unicode_utf8_first)], narrowed := true }
def PlaceExactUptoSaid : Prop := placeExactUptoRow.holds Tryd.pinned (OpenSpec.upto placeExactSpec)

/-- 'casematelaw11.PlaceApart', WHERE WHAT IT READS IS OF BULK AT MOST 1048576: true; the input reads as it did. -/
def placeApartUptoRow : OpenClaim := { program := "ytamgpbkakmffiaadoor", sum := "2b00de0bec4bee60b09def2f5674728875455e8128e6dd29b42ba40fb3fa3c0f", func := "casemate/casematelaw11.PlaceApart", spec := "placeApart", unfollowed := true, recurses := true, named := ["unicode/utf8.first", "unicode/utf8.acceptRanges"], apart := false, laid := [("unicode/utf8.acceptRanges", laid_unicode_utf8_acceptRanges), ("unicode/utf8.first", laid_unicode_utf8_first)], narrowed := true }
def PlaceApartUptoSaid : Prop := placeApartUptoRow.holds Tryd.pinned (OpenSpec.upto placeApartSpec)

/-- 'casematelaw11.PlaceStays', WHERE WHAT IT READS IS OF BULK AT MOST 1048576: true; the input reads as it did. -/
def placeStaysUptoRow : OpenClaim := { program := "ytamgpbkakmffiaadoor", sum := "2b00de0bec4bee60b09def2f5674728875455e8128e6dd29b42ba40fb3fa3c0f", func := "casemate/casematelaw11.PlaceStays", spec := "placeStays", unfollowed := true, recurses := true, named := ["unicode/utf8.first", "unicode/utf8.acceptRanges"], apart := false, laid := [("unicode/utf8.acceptRanges", laid_unicode_utf8_acceptRanges), ("unicode/utf8.first", laid_unicode_utf8_first)], narrowed := true }
def PlaceStaysUptoSaid : Prop := placeStaysUptoRow.holds Tryd.pinned (OpenSpec.upto placeStaysSpec)

/-- 'casematelaw08.AnchorExact', WHERE WHAT IT READS IS OF BULK AT MOST 1048576: true; the input reads as it did. -/
def anchorExactUptoRow : OpenClaim := { program := "ytamgpbkakmffiaadoor", sum := "2b00de0bec4bee60b09def2f5674728875455e8128e6dd29b42ba40fb3fa3c0f", func := "casemate/casematelaw08.AnchorExact", spec := "anchorExact", unfollowed := true, recurses := true, named := ["unicode/utf8.first", "unicode/utf8.acceptRanges"], apart := false, laid := [("unicode/utf8.acceptRanges", laid_unicode_utf8_acceptRanges), ("unicode/utf8.first", laid_unicode_utf8_first)], narrowed := true }
def AnchorExactUptoSaid : Prop := anchorExactUptoRow.holds Tryd.pinned (OpenSpec.upto anchorExactSpec)

/-- 'casematelaw08.AnchorBack', WHERE WHAT IT READS IS OF BULK AT MOST 1048576: true; the input reads as it did. -/
def anchorBackUptoRow : OpenClaim := { program := "ytamgpbkakmffiaadoor", sum := "2b00de0bec4bee60b09def2f5674728875455e8128e6dd29b42ba40fb3fa3c0f", func := "casemate/casematelaw08.AnchorBack", spec := "anchorBack", unfollowed := true, recurses := true, named := ["unicode/utf8.first", "unicode/utf8.acceptRanges"], apart := false, laid := [("unicode/utf8.acceptRanges", laid_unicode_utf8_acceptRanges), ("unicode/utf8.first", laid_unicode_utf8_first)], narrowed := true }
def AnchorBackUptoSaid : Prop := anchorBackUptoRow.holds Tryd.pinned (OpenSpec.upto anchorBackSpec)

/-- 'casematelaw08.AnchorFirst', WHERE WHAT IT READS IS OF BULK AT MOST 1048576: true; the input reads as it did. -/
def anchorFirstUptoRow : OpenClaim := { program := "ytamgpbkakmffiaadoor", sum := "2b00de0bec4bee60b09def2f5674728875455e8128e6dd29b42ba40fb3fa3c0f", func := "casemate/casematelaw08.AnchorFirst", spec := "anchorFirst", unfollowed := true, recurses := true, named := ["unicode/utf8.first", "unicode/utf8.acceptRanges"], apart := false, laid := [("unicode/utf8.acceptRanges", laid_unicode_utf8_acceptRanges), ("unicode/utf8.first", laid_unicode_utf8_first)], narrowed := true }
def AnchorFirstUptoSaid : Prop := anchorFirstUptoRow.holds Tryd.pinned (OpenSpec.upto anchorFirstSpec)

/-- 'casematelaw08.AnchorBent', WHERE WHAT IT READS IS OF BULK AT MOST 1048576: true; the input reads as it did. -/
def anchorBentUptoRow : OpenClaim := { program := "ytamgpbkakmffiaadoor", sum := "2b00de0bec4bee60b09def2f5674728875455e8128e6dd29b42ba40fb3fa3c0f", func := "casemate/casematelaw08.AnchorBent", spec := "anchorBent", unfollowed := true, recurses := true, named := ["unicode/utf8.first", "unicode/utf8.acceptRanges"], apart := false, laid := [("unicode/utf8.acceptRanges", laid_unicode_utf8_acceptRanges), ("unicode/utf8.first", laid_unicode_utf8_first)], narrowed := true }
def AnchorBentUptoSaid : Prop := anchorBentUptoRow.holds Tryd.pinned (OpenSpec.upto anchorBentSpec)

/-- 'casematelaw08.AnchorSizes', WHERE WHAT IT READS IS OF BULK AT MOST 1048576: true; the input reads as it did. -/
def anchorSizesUptoRow : OpenClaim := { program := "ytamgpbkakmffiaadoor", sum := "2b00de0bec4bee60b09def2f5674728875455e8128e6dd29b42ba40fb3fa3c0f", func := "casemate/casematelaw08.AnchorSizes", spec := "anchorSizes", unfollowed := true, recurses := true, named := ["unicode/utf8.first", "unicode/utf8.acceptRanges"], apart := false, laid := [("unicode/utf8.acceptRanges", laid_unicode_utf8_acceptRanges), ("unicode/utf8.first", laid_unicode_utf8_first)], narrowed := true }
def AnchorSizesUptoSaid : Prop := anchorSizesUptoRow.holds Tryd.pinned (OpenSpec.upto anchorSizesSpec)

/-- 'casematelaw08.AnchorOthers', WHERE WHAT IT READS IS OF BULK AT MOST 1048576: true; the input reads as it did. -/
def anchorOthersUptoRow : OpenClaim := { program := "ytamgpbkakmffiaadoor", sum := "2b00de0bec4bee60b09def2f5674728875455e8128e6dd29b42ba40fb3fa3c0f", func := "casemate/casematelaw08.AnchorOthers", spec := "anchorOthers", unfollowed := true, recurses := true, named := ["unicode/utf8.first", "unicode/utf8.acceptRanges"], apart := false, laid := [("unicode/utf8.acceptRanges", laid_unicode_utf8_acceptRanges), ("unicode/utf8.first", laid_unicode_utf8_first)], narrowed := true }
def AnchorOthersUptoSaid : Prop := anchorOthersUptoRow.holds Tryd.pinned (OpenSpec.upto anchorOthersSpec)

/-- 'casematelaw09.NewestExact', WHERE WHAT IT READS IS OF BULK AT MOST 1048576: true; the input reads as it did. -/
def newestExactUptoRow : OpenClaim := { program := "ytamgpbkakmffiaadoor", sum := "2b00de0bec4bee60b09def2f5674728875455e8128e6dd29b42ba40fb3fa3c0f", func := "casemate/casematelaw09.NewestExact", spec := "newestExact", unfollowed := true, recurses := true, named := ["unicode/utf8.first", "unicode/utf8.acceptRanges"], apart := false, laid := [("unicode/utf8.acceptRanges", laid_unicode_utf8_acceptRanges), ("unicode/utf8.first", laid_unicode_utf8_first)], narrowed := true }
def NewestExactUptoSaid : Prop := newestExactUptoRow.holds Tryd.pinned (OpenSpec.upto newestExactSpec)

/-- 'casematelaw09.NewestLeft', WHERE WHAT IT READS IS OF BULK AT MOST 1048576: true; the input reads as it did. -/
def newestLeftUptoRow : OpenClaim := { program := "ytamgpbkakmffiaadoor", sum := "2b00de0bec4bee60b09def2f5674728875455e8128e6dd29b42ba40fb3fa3c0f", func := "casemate/casematelaw09.NewestLeft", spec := "newestLeft", unfollowed := true, recurses := true, named := ["unicode/utf8.first", "unicode/utf8.acceptRanges"], apart := false, laid := [("unicode/utf8.acceptRanges", laid_unicode_utf8_acceptRanges), ("unicode/utf8.first", laid_unicode_utf8_first)], narrowed := true }
def NewestLeftUptoSaid : Prop := newestLeftUptoRow.holds Tryd.pinned (OpenSpec.upto newestLeftSpec)

/-- 'casematelaw09.NewestGens', WHERE WHAT IT READS IS OF BULK AT MOST 1048576: true; the input reads as it did. -/
def newestGensUptoRow : OpenClaim := { program := "ytamgpbkakmffiaadoor", sum := "2b00de0bec4bee60b09def2f5674728875455e8128e6dd29b42ba40fb3fa3c0f", func := "casemate/casematelaw09.NewestGens", spec := "newestGens", unfollowed := true, recurses := true, named := ["unicode/utf8.first", "unicode/utf8.acceptRanges"], apart := false, laid := [("unicode/utf8.acceptRanges", laid_unicode_utf8_acceptRanges), ("unicode/utf8.first", laid_unicode_utf8_first)], narrowed := true }
def NewestGensUptoSaid : Prop := newestGensUptoRow.holds Tryd.pinned (OpenSpec.upto newestGensSpec)

/-- 'casematelaw09.NewestMoved', WHERE WHAT IT READS IS OF BULK AT MOST 1048576: true; the input reads as it did. -/
def newestMovedUptoRow : OpenClaim := { program := "ytamgpbkakmffiaadoor", sum := "2b00de0bec4bee60b09def2f5674728875455e8128e6dd29b42ba40fb3fa3c0f", func := "casemate/casematelaw09.NewestMoved", spec := "newestMoved", unfollowed := true, recurses := true, named := ["unicode/utf8.first", "unicode/utf8.acceptRanges"], apart := false, laid := [("unicode/utf8.acceptRanges", laid_unicode_utf8_acceptRanges), ("unicode/utf8.first", laid_unicode_utf8_first)], narrowed := true }
def NewestMovedUptoSaid : Prop := newestMovedUptoRow.holds Tryd.pinned (OpenSpec.upto newestMovedSpec)

end Rows
end Go.Proofs.YtamgpbkakmffiaaDoor
