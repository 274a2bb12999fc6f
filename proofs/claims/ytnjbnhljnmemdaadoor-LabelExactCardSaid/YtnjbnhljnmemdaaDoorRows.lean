/-
  NARROWER THAN 'FOR EVERY INPUT', by the rows' own cells (each row's printed sentence says how): LabelExact: laid · LabelBack: laid · LabelCuts: laid · LabelRunes: laid · LabelJoins: laid · LabelBytes: laid.
  DERIVED. THE GIVEN ROWS OF THIS SEAT. 6 by the template 'for every input the law returns true; each argument reads behind the call as it read before'; 0 by the template 'total and deterministic' (their statements: YtnjbnhljnmemdaaDoorTotals.lean).
  GIVEN WITH THE SEED: the statements are not yours to turn. If you find one false, say at which input.
  Laid BY PROGRAM, IN A SANDBOX (cutbox-rows.mjs): the forced cells as the released guide's own fill.sh prints them over the translation 7bb12956fdc2da85… (all of the seat's roots in one cut). By AI agents, Wed Nov 11 2026. No macro, syntax, notation, axiom, sorry.
-/
import Derived.Test.YtnjbnhljnmemdaaDoorChecked
import GoSem.PinnedTables
import GoSem.Claim
import GoSem.ClaimJoined
import GoSem.ClaimMapViews
import Derived.JoinedTies
import Derived.KernelRfl
namespace Go.Proofs.YtnjbnhljnmemdaaDoor
/- THE CELL 'sum', in the pinned program and in every row, IS THE sha256 OF THE DUMP (.gsa) THAT YtnjbnhljnmemdaaDoorProg.lean LOADS. Nothing in Lean hashes anything: it is a label: what it is worth is what the hold of that sum in a sandbox is worth. -/
noncomputable def Tryd.pinned : Pinned := { name := "ytnjbnhljnmemdaadoor", sum := "7bb12956fdc2da85876f6e9b5acdaadf51990ea59e10fbe9f47fa1e46ac3a6a2", checked := Tryd.checked }
namespace Rows
def none {H : Type} : Left H := { results := [], args := [] }

/- WHAT THE LISTED PACKAGE-LEVEL VARIABLES READ AS WHEN THE CALL BEGINS. Each datum BY PROGRAM (the guide's laid-datum.mjs) off the statement by which the dump's own 'gosem.cut.vars' lays the variable. In a bare row this is a premise. The card (YtnjbnhljnmemdaaDoorCards.lean) ties it to the program's text. -/
def laid_unicode_utf8_acceptRanges {H : Type} : DataW H := .agg [.agg [.lit (.int .u8 128), .lit (.int .u8 191)], .agg [.lit (.int .u8 160), .lit (.int .u8 191)], .agg [.lit (.int .u8 128), .lit (.int .u8 159)], .agg [.lit (.int .u8 144), .lit (.int .u8 191)], .agg [.lit (.int .u8 128), .lit (.int .u8 143)], .agg [.lit (.int .u8 0), .lit (.int .u8 0)], .agg [.lit (.int .u8 0), .lit (.int .u8 0)], .agg [.lit (.int .u8 0), .lit (.int .u8 0)], .agg [.lit (.int .u8 0), .lit (.int .u8 0)], .agg [.lit (.int .u8 0), .lit (.int .u8 0)], .agg [.lit (.int .u8 0), .lit (.int .u8 0)], .agg [.lit (.int .u8 0), .lit (.int .u8 0)], .agg [.lit (.int .u8 0), .lit (.int .u8 0)], .agg [.lit (.int .u8 0), .lit (.int .u8 0)], .agg [.lit (.int .u8 0), .lit (.int .u8 0)], .agg [.lit (.int .u8 0), .lit (.int .u8 0)]]
/-- One of Go's own tables, pinned by name: the form's constant. -/
def laid_unicode_utf8_first : DataW Unit := Go.Pinned.utf8First

/-- 'casematelaw01.LabelExact': WHATEVER THE INPUT: true; the input reads as it did. -/
def labelExactSpec : ChangeSpec := { name := "labelExact", fn := fun _ => fun
  | [d1, d2, d3] => { results := [.lit (.bool true)], args := [d1, d2, d3] }
  | _ => none }
def labelExactRow : OpenClaim := { program := "ytnjbnhljnmemdaadoor", sum := "7bb12956fdc2da85876f6e9b5acdaadf51990ea59e10fbe9f47fa1e46ac3a6a2", func := "casemate/casematelaw01.LabelExact", spec := "labelExact", named := ["unicode/utf8.first", "unicode/utf8.acceptRanges"], apart := false, laid := [("unicode/utf8.acceptRanges", laid_unicode_utf8_acceptRanges), ("unicode/utf8.first", laid_unicode_utf8_first)] }
def LabelExactSaid : Prop := labelExactRow.holds Tryd.pinned (OpenSpec.ofChange labelExactSpec)

/-- ITS FALSE NEIGHBOUR: 'it returns false'. Refute it at one input. -/
def labelExactWrong : ChangeSpec := { name := "labelExact", fn := fun _ => fun
  | [d1, d2, d3] => { results := [.lit (.bool false)], args := [d1, d2, d3] }
  | _ => none }
def LabelExactWrongFalsely : Prop := labelExactRow.holds Tryd.pinned (OpenSpec.ofChange labelExactWrong)

/-- 'casematelaw01.LabelBack': WHATEVER THE INPUT: true; the input reads as it did. -/
def labelBackSpec : ChangeSpec := { name := "labelBack", fn := fun _ => fun
  | [d1, d2, d3] => { results := [.lit (.bool true)], args := [d1, d2, d3] }
  | _ => none }
def labelBackRow : OpenClaim := { program := "ytnjbnhljnmemdaadoor", sum := "7bb12956fdc2da85876f6e9b5acdaadf51990ea59e10fbe9f47fa1e46ac3a6a2", func := "casemate/casematelaw01.LabelBack", spec := "labelBack", named := ["unicode/utf8.first", "unicode/utf8.acceptRanges"], apart := false, laid := [("unicode/utf8.acceptRanges", laid_unicode_utf8_acceptRanges), ("unicode/utf8.first", laid_unicode_utf8_first)] }
def LabelBackSaid : Prop := labelBackRow.holds Tryd.pinned (OpenSpec.ofChange labelBackSpec)

/-- ITS FALSE NEIGHBOUR: 'it returns false'. Refute it at one input. -/
def labelBackWrong : ChangeSpec := { name := "labelBack", fn := fun _ => fun
  | [d1, d2, d3] => { results := [.lit (.bool false)], args := [d1, d2, d3] }
  | _ => none }
def LabelBackWrongFalsely : Prop := labelBackRow.holds Tryd.pinned (OpenSpec.ofChange labelBackWrong)

/-- 'casematelaw01.LabelCuts': WHATEVER THE INPUT: true; the input reads as it did. -/
def labelCutsSpec : ChangeSpec := { name := "labelCuts", fn := fun _ => fun
  | [d1, d2, d3] => { results := [.lit (.bool true)], args := [d1, d2, d3] }
  | _ => none }
def labelCutsRow : OpenClaim := { program := "ytnjbnhljnmemdaadoor", sum := "7bb12956fdc2da85876f6e9b5acdaadf51990ea59e10fbe9f47fa1e46ac3a6a2", func := "casemate/casematelaw01.LabelCuts", spec := "labelCuts", named := ["unicode/utf8.first", "unicode/utf8.acceptRanges"], apart := false, laid := [("unicode/utf8.acceptRanges", laid_unicode_utf8_acceptRanges), ("unicode/utf8.first", laid_unicode_utf8_first)] }
def LabelCutsSaid : Prop := labelCutsRow.holds Tryd.pinned (OpenSpec.ofChange labelCutsSpec)

/-- ITS FALSE NEIGHBOUR: 'it returns false'. Refute it at one input. -/
def labelCutsWrong : ChangeSpec := { name := "labelCuts", fn := fun _ => fun
  | [d1, d2, d3] => { results := [.lit (.bool false)], args := [d1, d2, d3] }
  | _ => none }
def LabelCutsWrongFalsely : Prop := labelCutsRow.holds Tryd.pinned (OpenSpec.ofChange labelCutsWrong)

/-- 'casematelaw01.LabelRunes': WHATEVER THE INPUT: true; the input reads as it did. -/
def labelRunesSpec : ChangeSpec := { name := "labelRunes", fn := fun _ => fun
  | [d] => { results := [.lit (.bool true)], args := [d] }
  | _ => none }
def labelRunesRow : OpenClaim := { program := "ytnjbnhljnmemdaadoor", sum := "7bb12956fdc2da85876f6e9b5acdaadf51990ea59e10fbe9f47fa1e46ac3a6a2", func := "casemate/casematelaw01.LabelRunes", spec := "labelRunes", named := ["unicode/utf8.first", "unicode/utf8.acceptRanges"], apart := false, laid := [("unicode/utf8.acceptRanges", laid_unicode_utf8_acceptRanges), ("unicode/utf8.first", laid_unicode_utf8_first)] }
def LabelRunesSaid : Prop := labelRunesRow.holds Tryd.pinned (OpenSpec.ofChange labelRunesSpec)

/-- ITS FALSE NEIGHBOUR: 'it returns false'. Refute it at one input. -/
def labelRunesWrong : ChangeSpec := { name := "labelRunes", fn := fun _ => fun
  | [d] => { results := [.lit (.bool false)], args := [d] }
  | _ => none }
def LabelRunesWrongFalsely : Prop := labelRunesRow.holds Tryd.pinned (OpenSpec.ofChange labelRunesWrong)

/-- 'casematelaw01.LabelJoins': WHATEVER THE INPUT: true; the input reads as it did. -/
def labelJoinsSpec : ChangeSpec := { name := "labelJoins", fn := fun _ => fun
  | [d1, d2] => { results := [.lit (.bool true)], args := [d1, d2] }
  | _ => none }
def labelJoinsRow : OpenClaim := { program := "ytnjbnhljnmemdaadoor", sum := "7bb12956fdc2da85876f6e9b5acdaadf51990ea59e10fbe9f47fa1e46ac3a6a2", func := "casemate/casematelaw01.LabelJoins", spec := "labelJoins", named := ["unicode/utf8.first", "unicode/utf8.acceptRanges"], apart := false, laid := [("unicode/utf8.acceptRanges", laid_unicode_utf8_acceptRanges), ("unicode/utf8.first", laid_unicode_utf8_first)] }
def LabelJoinsSaid : Prop := labelJoinsRow.holds Tryd.pinned (OpenSpec.ofChange labelJoinsSpec)

/-- ITS FALSE NEIGHBOUR: 'it returns false'. Refute it at one input. -/
def labelJoinsWrong : ChangeSpec := { name := "labelJoins", fn := fun _ => fun
  | [d1, d2] => { results := [.lit (.bool false)], args := [d1, d2] }
  | _ => none }
def LabelJoinsWrongFalsely : Prop := labelJoinsRow.holds Tryd.pinned (OpenSpec.ofChange labelJoinsWrong)

/-- 'casematelaw01.LabelBytes': WHATEVER THE INPUT: true; the input reads as it did. -/
def labelBytesSpec : ChangeSpec := { name := "labelBytes", fn := fun _ => fun
  | [d] => { results := [.lit (.bool true)], args := [d] }
  | _ => none }
def labelBytesRow : OpenClaim := { program := "ytnjbnhljnmemdaadoor", sum := "7bb12956fdc2da85876f6e9b5acdaadf51990ea59e10fbe9f47fa1e46ac3a6a2", func := "casemate/casematelaw01.LabelBytes", spec := "labelBytes", named := ["unicode/utf8.first", "unicode/utf8.acceptRanges"], apart := false, laid := [("unicode/utf8.acceptRanges", laid_unicode_utf8_acceptRanges), ("unicode/utf8.first", laid_unicode_utf8_first)] }
def LabelBytesSaid : Prop := labelBytesRow.holds Tryd.pinned (OpenSpec.ofChange labelBytesSpec)

/-- ITS FALSE NEIGHBOUR: 'it returns false'. Refute it at one input. -/
def labelBytesWrong : ChangeSpec := { name := "labelBytes", fn := fun _ => fun
  | [d] => { results := [.lit (.bool false)], args := [d] }
  | _ => none }
def LabelBytesWrongFalsely : Prop := labelBytesRow.holds Tryd.pinned (OpenSpec.ofChange labelBytesWrong)

/- THE SECOND FORM. 'bulk': how many values and letters a reading holds, each counted each time it is reached (what is shared counts as often as it is met; a slice's spare places count too). A statement '..UptoSaid' is the law's where the arguments, and the package variables that the reading takes, are together of bulk at most 1048576: NARROWER than '..Said'. Prove '..Said' where nothing that the law and all that it calls make is longer than what came in: it says more and counts as full. Else prove '..UptoSaid'. A law counts once. -/
mutual
def uptoBulk {H : Type} : DataW H → Nat
  | .lit (.string bytes) => bytes.length + 1
  | .lit _ => 1
  | .nil => 1
  | .ptr d => uptoBulk d + 1
  | .slice elems spare => uptoBulkAll elems + uptoBulkAll spare + 1
  | .agg parts => uptoBulkAll parts + 1
  | .iface _ d => uptoBulk d + 1
  | .map entries => uptoBulkEntries entries + 1
  | .held _ => 1
def uptoBulkAll {H : Type} : List (DataW H) → Nat
  | [] => 0
  | d :: r => uptoBulk d + uptoBulkAll r
def uptoBulkEntries {H : Type} : List (Lit × DataW H) → Nat
  | [] => 0
  | x :: r => uptoBulkEntry x + uptoBulkEntries r
def uptoBulkEntry {H : Type} : Lit × DataW H → Nat
  | (.string bytes, d) => bytes.length + uptoBulk d + 1
  | (_, d) => uptoBulk d + 1
 end
def uptoSmall : (H : Type) → List (DataW H) → Bool := fun _ ds => decide (uptoBulkAll ds ≤ 1048576)
def OpenSpec.upto (s : _root_.Go.ChangeSpec) : _root_.Go.OpenSpec := { _root_.Go.OpenSpec.ofChange s with cond := some uptoSmall }

/-- 'casematelaw01.LabelExact', WHERE WHAT IT READS IS OF BULK AT MOST 1048576: true; the input reads as it did. -/
def labelExactUptoRow : OpenClaim := { program := "ytnjbnhljnmemdaadoor", sum := "7bb12956fdc2da85876f6e9b5acdaadf51990ea59e10fbe9f47fa1e46ac3a6a2", func := "casemate/casematelaw01.LabelExact", spec := "labelExact", named := ["unicode/utf8.first", "unicode/utf8.acceptRanges"], apart := false, laid := [("unicode/utf8.acceptRanges", laid_unicode_utf8_acceptRanges), ("unicode/utf8.first", laid_unicode_utf8_first)], narrowed := true }
def LabelExactUptoSaid : Prop := labelExactUptoRow.holds Tryd.pinned (OpenSpec.upto labelExactSpec)

/-- 'casematelaw01.LabelBack', WHERE WHAT IT READS IS OF BULK AT MOST 1048576: true; the input reads as it did. -/
def labelBackUptoRow : OpenClaim := { program := "ytnjbnhljnmemdaadoor", sum := "7bb12956fdc2da85876f6e9b5acdaadf51990ea59e10fbe9f47fa1e46ac3a6a2", func := "casemate/casematelaw01.LabelBack", spec := "labelBack", named := ["unicode/utf8.first", "unicode/utf8.acceptRanges"], apart := false, laid := [("unicode/utf8.acceptRanges", laid_unicode_utf8_acceptRanges), ("unicode/utf8.first", laid_unicode_utf8_first)], narrowed := true }
def LabelBackUptoSaid : Prop := labelBackUptoRow.holds Tryd.pinned (OpenSpec.upto labelBackSpec)

/-- 'casematelaw01.LabelCuts', WHERE WHAT IT READS IS OF BULK AT MOST 1048576: true; the input reads as it did. -/
def labelCutsUptoRow : OpenClaim := { program := "ytnjbnhljnmemdaadoor", sum := "7bb12956fdc2da85876f6e9b5acdaadf51990ea59e10fbe9f47fa1e46ac3a6a2", func := "casemate/casematelaw01.LabelCuts", spec := "labelCuts", named := ["unicode/utf8.first", "unicode/utf8.acceptRanges"], apart := false, laid := [("unicode/utf8.acceptRanges", laid_unicode_utf8_acceptRanges), ("unicode/utf8.first", laid_unicode_utf8_first)], narrowed := true }
def LabelCutsUptoSaid : Prop := labelCutsUptoRow.holds Tryd.pinned (OpenSpec.upto labelCutsSpec)

/-- 'casematelaw01.LabelRunes', WHERE WHAT IT READS IS OF BULK AT MOST 1048576: true; the input reads as it did. -/
def labelRunesUptoRow : OpenClaim := { program := "ytnjbnhljnmemdaadoor", sum := "7bb12956fdc2da85876f6e9b5acdaadf51990ea59e10fbe9f47fa1e46ac3a6a2", func := "casemate/casematelaw01.LabelRunes", spec := "labelRunes", named := ["unicode/utf8.first", "unicode/utf8.acceptRanges"], apart := false, laid := [("unicode/utf8.acceptRanges", laid_unicode_utf8_acceptRanges), ("unicode/utf8.first", laid_unicode_utf8_first)], narrowed := true }
def LabelRunesUptoSaid : Prop := labelRunesUptoRow.holds Tryd.pinned (OpenSpec.upto labelRunesSpec)

/-- 'casematelaw01.LabelJoins', WHERE WHAT IT READS IS OF BULK AT MOST 1048576: true; the input reads as it did. -/
def labelJoinsUptoRow : OpenClaim := { program := "ytnjbnhljnmemdaadoor", sum := "7bb12956fdc2da85876f6e9b5acdaadf51990ea59e10fbe9f47fa1e46ac3a6a2", func := "casemate/casematelaw01.LabelJoins", spec := "labelJoins", named := ["unicode/utf8.first", "unicode/utf8.acceptRanges"], apart := false, laid := [("unicode/utf8.acceptRanges", laid_unicode_utf8_acceptRanges), ("unicode/utf8.first", laid_unicode_utf8_first)], narrowed := true }
def LabelJoinsUptoSaid : Prop := labelJoinsUptoRow.holds Tryd.pinned (OpenSpec.upto labelJoinsSpec)

/-- 'casematelaw01.LabelBytes', WHERE WHAT IT READS IS OF BULK AT MOST 1048576: true; the input reads as it did. -/
def labelBytesUptoRow : OpenClaim := { program := "ytnjbnhljnmemdaadoor", sum := "7bb12956fdc2da85876f6e9b5acdaadf51990ea59e10fbe9f47fa1e46ac3a6a2", func := "casemate/casematelaw01.LabelBytes", spec := "labelBytes", named := ["unicode/utf8.first", "unicode/utf8.acceptRanges"], apart := false, laid := [("unicode/utf8.acceptRanges", laid_unicode_utf8_acceptRanges), ("unicode/utf8.first", laid_unicode_utf8_first)], narrowed := true }
def LabelBytesUptoSaid : Prop := labelBytesUptoRow.holds Tryd.pinned (OpenSpec.upto labelBytesSpec)

end Rows
end Go.Proofs.YtnjbnhljnmemdaaDoor
