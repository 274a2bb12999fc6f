/-
  No cell of these rows narrows 'for every input' (looked for: loops, veiled, ifaces, maps, wideKeys, modest, calm, conditions, laid).
  DERIVED. THE GIVEN ROWS OF THIS SEAT. 22 by the template 'for every input the law returns true; each argument reads behind the call as it read before'; 0 by the template 'total and deterministic' (their statements: YtnieiobpbioeiaaTotals.lean).
  GIVEN WITH THE SEED: the statements are not yours to turn. If you find one false, say at which input.
  Laid BY PROGRAM, IN A SANDBOX (cutbox-rows.mjs): the forced cells as the released guide's own fill.sh prints them over the translation 3d31b7b2f9c810cf… (all of the seat's roots in one cut). By AI agents, Wed Nov 11 2026. No macro, syntax, notation, axiom, sorry.
-/
import Derived.Test.YtnieiobpbioeiaaChecked
import GoSem.Claim
import GoSem.ClaimJoined
import GoSem.ClaimMapViews
import Derived.JoinedTies
import Derived.KernelRfl
namespace Go.Proofs.Ytnieiobpbioeiaa
/- THE CELL 'sum', in the pinned program and in every row, IS THE sha256 OF THE DUMP (.gsa) THAT YtnieiobpbioeiaaProg.lean LOADS. Nothing in Lean hashes anything: it is a label: what it is worth is what the hold of that sum in a sandbox is worth. -/
noncomputable def Try.pinned : Pinned := { name := "ytnieiobpbioeiaa", sum := "3d31b7b2f9c810cf9b092232b326718bb121b7c38c63323d05f3d396c577df98", checked := Try.checked }
namespace Rows
def none {H : Type} : Left H := { results := [], args := [] }

/-- 'casematelaw13.ZoneExact': WHATEVER THE INPUT: true; the input reads as it did. -/
def zoneExactSpec : ChangeSpec := { name := "zoneExact", fn := fun _ => fun
  | [d1, d2, d3, d4] => { results := [.lit (.bool true)], args := [d1, d2, d3, d4] }
  | _ => none }
def zoneExactRow : OpenClaim := { program := "ytnieiobpbioeiaa", sum := "3d31b7b2f9c810cf9b092232b326718bb121b7c38c63323d05f3d396c577df98", func := "casemate/casematelaw13.ZoneExact", spec := "zoneExact", unfollowed := true, recurses := true, apart := false }
def ZoneExactSaid : Prop := zoneExactRow.holds Try.pinned (OpenSpec.ofChange zoneExactSpec)

/-- ITS FALSE NEIGHBOUR: 'it returns false'. Refute it at one input. -/
def zoneExactWrong : ChangeSpec := { name := "zoneExact", fn := fun _ => fun
  | [d1, d2, d3, d4] => { results := [.lit (.bool false)], args := [d1, d2, d3, d4] }
  | _ => none }
def ZoneExactWrongFalsely : Prop := zoneExactRow.holds Try.pinned (OpenSpec.ofChange zoneExactWrong)

/-- 'casematelaw13.ZoneOne': WHATEVER THE INPUT: true; the input reads as it did. -/
def zoneOneSpec : ChangeSpec := { name := "zoneOne", fn := fun _ => fun
  | [d1, d2, d3, d4, d5, d6] => { results := [.lit (.bool true)], args := [d1, d2, d3, d4, d5, d6] }
  | _ => none }
def zoneOneRow : OpenClaim := { program := "ytnieiobpbioeiaa", sum := "3d31b7b2f9c810cf9b092232b326718bb121b7c38c63323d05f3d396c577df98", func := "casemate/casematelaw13.ZoneOne", spec := "zoneOne", unfollowed := true, recurses := true, apart := false }
def ZoneOneSaid : Prop := zoneOneRow.holds Try.pinned (OpenSpec.ofChange zoneOneSpec)

/-- ITS FALSE NEIGHBOUR: 'it returns false'. Refute it at one input. -/
def zoneOneWrong : ChangeSpec := { name := "zoneOne", fn := fun _ => fun
  | [d1, d2, d3, d4, d5, d6] => { results := [.lit (.bool false)], args := [d1, d2, d3, d4, d5, d6] }
  | _ => none }
def ZoneOneWrongFalsely : Prop := zoneOneRow.holds Try.pinned (OpenSpec.ofChange zoneOneWrong)

/-- 'casematelaw13.ZoneTwo': WHATEVER THE INPUT: true; the input reads as it did. -/
def zoneTwoSpec : ChangeSpec := { name := "zoneTwo", fn := fun _ => fun
  | [d1, d2, d3, d4, d5, d6] => { results := [.lit (.bool true)], args := [d1, d2, d3, d4, d5, d6] }
  | _ => none }
def zoneTwoRow : OpenClaim := { program := "ytnieiobpbioeiaa", sum := "3d31b7b2f9c810cf9b092232b326718bb121b7c38c63323d05f3d396c577df98", func := "casemate/casematelaw13.ZoneTwo", spec := "zoneTwo", unfollowed := true, recurses := true, apart := false }
def ZoneTwoSaid : Prop := zoneTwoRow.holds Try.pinned (OpenSpec.ofChange zoneTwoSpec)

/-- ITS FALSE NEIGHBOUR: 'it returns false'. Refute it at one input. -/
def zoneTwoWrong : ChangeSpec := { name := "zoneTwo", fn := fun _ => fun
  | [d1, d2, d3, d4, d5, d6] => { results := [.lit (.bool false)], args := [d1, d2, d3, d4, d5, d6] }
  | _ => none }
def ZoneTwoWrongFalsely : Prop := zoneTwoRow.holds Try.pinned (OpenSpec.ofChange zoneTwoWrong)

/-- 'casematelaw13.ZoneAsks': WHATEVER THE INPUT: true; the input reads as it did. -/
def zoneAsksSpec : ChangeSpec := { name := "zoneAsks", fn := fun _ => fun
  | [d1, d2, d3, d4] => { results := [.lit (.bool true)], args := [d1, d2, d3, d4] }
  | _ => none }
def zoneAsksRow : OpenClaim := { program := "ytnieiobpbioeiaa", sum := "3d31b7b2f9c810cf9b092232b326718bb121b7c38c63323d05f3d396c577df98", func := "casemate/casematelaw13.ZoneAsks", spec := "zoneAsks", unfollowed := true, recurses := true, apart := false }
def ZoneAsksSaid : Prop := zoneAsksRow.holds Try.pinned (OpenSpec.ofChange zoneAsksSpec)

/-- ITS FALSE NEIGHBOUR: 'it returns false'. Refute it at one input. -/
def zoneAsksWrong : ChangeSpec := { name := "zoneAsks", fn := fun _ => fun
  | [d1, d2, d3, d4] => { results := [.lit (.bool false)], args := [d1, d2, d3, d4] }
  | _ => none }
def ZoneAsksWrongFalsely : Prop := zoneAsksRow.holds Try.pinned (OpenSpec.ofChange zoneAsksWrong)

/-- 'casematelaw13.ZoneLost': WHATEVER THE INPUT: true; the input reads as it did. -/
def zoneLostSpec : ChangeSpec := { name := "zoneLost", fn := fun _ => fun
  | [d1, d2, d3, d4, d5] => { results := [.lit (.bool true)], args := [d1, d2, d3, d4, d5] }
  | _ => none }
def zoneLostRow : OpenClaim := { program := "ytnieiobpbioeiaa", sum := "3d31b7b2f9c810cf9b092232b326718bb121b7c38c63323d05f3d396c577df98", func := "casemate/casematelaw13.ZoneLost", spec := "zoneLost", unfollowed := true, recurses := true, apart := false }
def ZoneLostSaid : Prop := zoneLostRow.holds Try.pinned (OpenSpec.ofChange zoneLostSpec)

/-- ITS FALSE NEIGHBOUR: 'it returns false'. Refute it at one input. -/
def zoneLostWrong : ChangeSpec := { name := "zoneLost", fn := fun _ => fun
  | [d1, d2, d3, d4, d5] => { results := [.lit (.bool false)], args := [d1, d2, d3, d4, d5] }
  | _ => none }
def ZoneLostWrongFalsely : Prop := zoneLostRow.holds Try.pinned (OpenSpec.ofChange zoneLostWrong)

/-- 'casematelaw13.ZoneSums': WHATEVER THE INPUT: true; the input reads as it did. -/
def zoneSumsSpec : ChangeSpec := { name := "zoneSums", fn := fun _ => fun
  | [d1, d2, d3] => { results := [.lit (.bool true)], args := [d1, d2, d3] }
  | _ => none }
def zoneSumsRow : OpenClaim := { program := "ytnieiobpbioeiaa", sum := "3d31b7b2f9c810cf9b092232b326718bb121b7c38c63323d05f3d396c577df98", func := "casemate/casematelaw13.ZoneSums", spec := "zoneSums", unfollowed := true, recurses := true, apart := false }
def ZoneSumsSaid : Prop := zoneSumsRow.holds Try.pinned (OpenSpec.ofChange zoneSumsSpec)

/-- ITS FALSE NEIGHBOUR: 'it returns false'. Refute it at one input. -/
def zoneSumsWrong : ChangeSpec := { name := "zoneSums", fn := fun _ => fun
  | [d1, d2, d3] => { results := [.lit (.bool false)], args := [d1, d2, d3] }
  | _ => none }
def ZoneSumsWrongFalsely : Prop := zoneSumsRow.holds Try.pinned (OpenSpec.ofChange zoneSumsWrong)

/-- 'casematelaw05.SealExact': WHATEVER THE INPUT: true; the input reads as it did. -/
def sealExactSpec : ChangeSpec := { name := "sealExact", fn := fun _ => fun
  | [d1, d2, d3, d4] => { results := [.lit (.bool true)], args := [d1, d2, d3, d4] }
  | _ => none }
def sealExactRow : OpenClaim := { program := "ytnieiobpbioeiaa", sum := "3d31b7b2f9c810cf9b092232b326718bb121b7c38c63323d05f3d396c577df98", func := "casemate/casematelaw05.SealExact", spec := "sealExact", apart := false }
def SealExactSaid : Prop := sealExactRow.holds Try.pinned (OpenSpec.ofChange sealExactSpec)

/-- ITS FALSE NEIGHBOUR: 'it returns false'. Refute it at one input. -/
def sealExactWrong : ChangeSpec := { name := "sealExact", fn := fun _ => fun
  | [d1, d2, d3, d4] => { results := [.lit (.bool false)], args := [d1, d2, d3, d4] }
  | _ => none }
def SealExactWrongFalsely : Prop := sealExactRow.holds Try.pinned (OpenSpec.ofChange sealExactWrong)

/-- 'casematelaw05.SealBack': WHATEVER THE INPUT: true; the input reads as it did. -/
def sealBackSpec : ChangeSpec := { name := "sealBack", fn := fun _ => fun
  | [d1, d2, d3] => { results := [.lit (.bool true)], args := [d1, d2, d3] }
  | _ => none }
def sealBackRow : OpenClaim := { program := "ytnieiobpbioeiaa", sum := "3d31b7b2f9c810cf9b092232b326718bb121b7c38c63323d05f3d396c577df98", func := "casemate/casematelaw05.SealBack", spec := "sealBack", apart := false }
def SealBackSaid : Prop := sealBackRow.holds Try.pinned (OpenSpec.ofChange sealBackSpec)

/-- ITS FALSE NEIGHBOUR: 'it returns false'. Refute it at one input. -/
def sealBackWrong : ChangeSpec := { name := "sealBack", fn := fun _ => fun
  | [d1, d2, d3] => { results := [.lit (.bool false)], args := [d1, d2, d3] }
  | _ => none }
def SealBackWrongFalsely : Prop := sealBackRow.holds Try.pinned (OpenSpec.ofChange sealBackWrong)

/-- 'casematelaw05.SealFlipped': WHATEVER THE INPUT: true; the input reads as it did. -/
def sealFlippedSpec : ChangeSpec := { name := "sealFlipped", fn := fun _ => fun
  | [d1, d2, d3] => { results := [.lit (.bool true)], args := [d1, d2, d3] }
  | _ => none }
def sealFlippedRow : OpenClaim := { program := "ytnieiobpbioeiaa", sum := "3d31b7b2f9c810cf9b092232b326718bb121b7c38c63323d05f3d396c577df98", func := "casemate/casematelaw05.SealFlipped", spec := "sealFlipped", apart := false }
def SealFlippedSaid : Prop := sealFlippedRow.holds Try.pinned (OpenSpec.ofChange sealFlippedSpec)

/-- ITS FALSE NEIGHBOUR: 'it returns false'. Refute it at one input. -/
def sealFlippedWrong : ChangeSpec := { name := "sealFlipped", fn := fun _ => fun
  | [d1, d2, d3] => { results := [.lit (.bool false)], args := [d1, d2, d3] }
  | _ => none }
def SealFlippedWrongFalsely : Prop := sealFlippedRow.holds Try.pinned (OpenSpec.ofChange sealFlippedWrong)

/-- 'casematelaw05.SealCuts': WHATEVER THE INPUT: true; the input reads as it did. -/
def sealCutsSpec : ChangeSpec := { name := "sealCuts", fn := fun _ => fun
  | [d1, d2] => { results := [.lit (.bool true)], args := [d1, d2] }
  | _ => none }
def sealCutsRow : OpenClaim := { program := "ytnieiobpbioeiaa", sum := "3d31b7b2f9c810cf9b092232b326718bb121b7c38c63323d05f3d396c577df98", func := "casemate/casematelaw05.SealCuts", spec := "sealCuts", apart := false }
def SealCutsSaid : Prop := sealCutsRow.holds Try.pinned (OpenSpec.ofChange sealCutsSpec)

/-- ITS FALSE NEIGHBOUR: 'it returns false'. Refute it at one input. -/
def sealCutsWrong : ChangeSpec := { name := "sealCuts", fn := fun _ => fun
  | [d1, d2] => { results := [.lit (.bool false)], args := [d1, d2] }
  | _ => none }
def SealCutsWrongFalsely : Prop := sealCutsRow.holds Try.pinned (OpenSpec.ofChange sealCutsWrong)

/-- 'casematelaw05.SealFields': WHATEVER THE INPUT: true; the input reads as it did. -/
def sealFieldsSpec : ChangeSpec := { name := "sealFields", fn := fun _ => fun
  | [d1, d2, d3] => { results := [.lit (.bool true)], args := [d1, d2, d3] }
  | _ => none }
def sealFieldsRow : OpenClaim := { program := "ytnieiobpbioeiaa", sum := "3d31b7b2f9c810cf9b092232b326718bb121b7c38c63323d05f3d396c577df98", func := "casemate/casematelaw05.SealFields", spec := "sealFields", apart := false }
def SealFieldsSaid : Prop := sealFieldsRow.holds Try.pinned (OpenSpec.ofChange sealFieldsSpec)

/-- ITS FALSE NEIGHBOUR: 'it returns false'. Refute it at one input. -/
def sealFieldsWrong : ChangeSpec := { name := "sealFields", fn := fun _ => fun
  | [d1, d2, d3] => { results := [.lit (.bool false)], args := [d1, d2, d3] }
  | _ => none }
def SealFieldsWrongFalsely : Prop := sealFieldsRow.holds Try.pinned (OpenSpec.ofChange sealFieldsWrong)

/-- 'casematelaw05.SealEdges': WHATEVER THE INPUT: true; the input reads as it did. -/
def sealEdgesSpec : ChangeSpec := { name := "sealEdges", fn := fun _ => fun
  | [d1, d2] => { results := [.lit (.bool true)], args := [d1, d2] }
  | _ => none }
def sealEdgesRow : OpenClaim := { program := "ytnieiobpbioeiaa", sum := "3d31b7b2f9c810cf9b092232b326718bb121b7c38c63323d05f3d396c577df98", func := "casemate/casematelaw05.SealEdges", spec := "sealEdges", apart := false }
def SealEdgesSaid : Prop := sealEdgesRow.holds Try.pinned (OpenSpec.ofChange sealEdgesSpec)

/-- ITS FALSE NEIGHBOUR: 'it returns false'. Refute it at one input. -/
def sealEdgesWrong : ChangeSpec := { name := "sealEdges", fn := fun _ => fun
  | [d1, d2] => { results := [.lit (.bool false)], args := [d1, d2] }
  | _ => none }
def SealEdgesWrongFalsely : Prop := sealEdgesRow.holds Try.pinned (OpenSpec.ofChange sealEdgesWrong)

/-- 'casematelaw05.SealTurns': WHATEVER THE INPUT: true; the input reads as it did. -/
def sealTurnsSpec : ChangeSpec := { name := "sealTurns", fn := fun _ => fun
  | [d1, d2, d3] => { results := [.lit (.bool true)], args := [d1, d2, d3] }
  | _ => none }
def sealTurnsRow : OpenClaim := { program := "ytnieiobpbioeiaa", sum := "3d31b7b2f9c810cf9b092232b326718bb121b7c38c63323d05f3d396c577df98", func := "casemate/casematelaw05.SealTurns", spec := "sealTurns", apart := false }
def SealTurnsSaid : Prop := sealTurnsRow.holds Try.pinned (OpenSpec.ofChange sealTurnsSpec)

/-- ITS FALSE NEIGHBOUR: 'it returns false'. Refute it at one input. -/
def sealTurnsWrong : ChangeSpec := { name := "sealTurns", fn := fun _ => fun
  | [d1, d2, d3] => { results := [.lit (.bool false)], args := [d1, d2, d3] }
  | _ => none }
def SealTurnsWrongFalsely : Prop := sealTurnsRow.holds Try.pinned (OpenSpec.ofChange sealTurnsWrong)

/-- 'casematelaw12.EntryMakes': WHATEVER THE INPUT: true; the input reads as it did. -/
def entryMakesSpec : ChangeSpec := { name := "entryMakes", fn := fun _ => fun
  | [d1, d2, d3, d4, d5] => { results := [.lit (.bool true)], args := [d1, d2, d3, d4, d5] }
  | _ => none }
def entryMakesRow : OpenClaim := { program := "ytnieiobpbioeiaa", sum := "3d31b7b2f9c810cf9b092232b326718bb121b7c38c63323d05f3d396c577df98", func := "casemate/casematelaw12.EntryMakes", spec := "entryMakes", apart := false }
def EntryMakesSaid : Prop := entryMakesRow.holds Try.pinned (OpenSpec.ofChange entryMakesSpec)

/-- ITS FALSE NEIGHBOUR: 'it returns false'. Refute it at one input. -/
def entryMakesWrong : ChangeSpec := { name := "entryMakes", fn := fun _ => fun
  | [d1, d2, d3, d4, d5] => { results := [.lit (.bool false)], args := [d1, d2, d3, d4, d5] }
  | _ => none }
def EntryMakesWrongFalsely : Prop := entryMakesRow.holds Try.pinned (OpenSpec.ofChange entryMakesWrong)

/-- 'casematelaw12.EntryOnly': WHATEVER THE INPUT: true; the input reads as it did. -/
def entryOnlySpec : ChangeSpec := { name := "entryOnly", fn := fun _ => fun
  | [d1, d2, d3, d4] => { results := [.lit (.bool true)], args := [d1, d2, d3, d4] }
  | _ => none }
def entryOnlyRow : OpenClaim := { program := "ytnieiobpbioeiaa", sum := "3d31b7b2f9c810cf9b092232b326718bb121b7c38c63323d05f3d396c577df98", func := "casemate/casematelaw12.EntryOnly", spec := "entryOnly", apart := false }
def EntryOnlySaid : Prop := entryOnlyRow.holds Try.pinned (OpenSpec.ofChange entryOnlySpec)

/-- ITS FALSE NEIGHBOUR: 'it returns false'. Refute it at one input. -/
def entryOnlyWrong : ChangeSpec := { name := "entryOnly", fn := fun _ => fun
  | [d1, d2, d3, d4] => { results := [.lit (.bool false)], args := [d1, d2, d3, d4] }
  | _ => none }
def EntryOnlyWrongFalsely : Prop := entryOnlyRow.holds Try.pinned (OpenSpec.ofChange entryOnlyWrong)

/-- 'casematelaw12.EntryTells': WHATEVER THE INPUT: true; the input reads as it did. -/
def entryTellsSpec : ChangeSpec := { name := "entryTells", fn := fun _ => fun
  | [d1, d2, d3, d4, d5, d6] => { results := [.lit (.bool true)], args := [d1, d2, d3, d4, d5, d6] }
  | _ => none }
def entryTellsRow : OpenClaim := { program := "ytnieiobpbioeiaa", sum := "3d31b7b2f9c810cf9b092232b326718bb121b7c38c63323d05f3d396c577df98", func := "casemate/casematelaw12.EntryTells", spec := "entryTells", apart := false }
def EntryTellsSaid : Prop := entryTellsRow.holds Try.pinned (OpenSpec.ofChange entryTellsSpec)

/-- ITS FALSE NEIGHBOUR: 'it returns false'. Refute it at one input. -/
def entryTellsWrong : ChangeSpec := { name := "entryTells", fn := fun _ => fun
  | [d1, d2, d3, d4, d5, d6] => { results := [.lit (.bool false)], args := [d1, d2, d3, d4, d5, d6] }
  | _ => none }
def EntryTellsWrongFalsely : Prop := entryTellsRow.holds Try.pinned (OpenSpec.ofChange entryTellsWrong)

/-- 'casematelaw10.TableBack': WHATEVER THE INPUT: true; the input reads as it did. -/
def tableBackSpec : ChangeSpec := { name := "tableBack", fn := fun _ => fun
  | [d1, d2, d3, d4] => { results := [.lit (.bool true)], args := [d1, d2, d3, d4] }
  | _ => none }
def tableBackRow : OpenClaim := { program := "ytnieiobpbioeiaa", sum := "3d31b7b2f9c810cf9b092232b326718bb121b7c38c63323d05f3d396c577df98", func := "casemate/casematelaw10.TableBack", spec := "tableBack", unfollowed := true, recurses := true, apart := false }
def TableBackSaid : Prop := tableBackRow.holds Try.pinned (OpenSpec.ofChange tableBackSpec)

/-- ITS FALSE NEIGHBOUR: 'it returns false'. Refute it at one input. -/
def tableBackWrong : ChangeSpec := { name := "tableBack", fn := fun _ => fun
  | [d1, d2, d3, d4] => { results := [.lit (.bool false)], args := [d1, d2, d3, d4] }
  | _ => none }
def TableBackWrongFalsely : Prop := tableBackRow.holds Try.pinned (OpenSpec.ofChange tableBackWrong)

/-- 'casematelaw10.TableBent': WHATEVER THE INPUT: true; the input reads as it did. -/
def tableBentSpec : ChangeSpec := { name := "tableBent", fn := fun _ => fun
  | [d1, d2, d3] => { results := [.lit (.bool true)], args := [d1, d2, d3] }
  | _ => none }
def tableBentRow : OpenClaim := { program := "ytnieiobpbioeiaa", sum := "3d31b7b2f9c810cf9b092232b326718bb121b7c38c63323d05f3d396c577df98", func := "casemate/casematelaw10.TableBent", spec := "tableBent", unfollowed := true, recurses := true, apart := false }
def TableBentSaid : Prop := tableBentRow.holds Try.pinned (OpenSpec.ofChange tableBentSpec)

/-- ITS FALSE NEIGHBOUR: 'it returns false'. Refute it at one input. -/
def tableBentWrong : ChangeSpec := { name := "tableBent", fn := fun _ => fun
  | [d1, d2, d3] => { results := [.lit (.bool false)], args := [d1, d2, d3] }
  | _ => none }
def TableBentWrongFalsely : Prop := tableBentRow.holds Try.pinned (OpenSpec.ofChange tableBentWrong)

/-- 'casematelaw10.TableExact': WHATEVER THE INPUT: true; the input reads as it did. -/
def tableExactSpec : ChangeSpec := { name := "tableExact", fn := fun _ => fun
  | [d1, d2, d3] => { results := [.lit (.bool true)], args := [d1, d2, d3] }
  | _ => none }
def tableExactRow : OpenClaim := { program := "ytnieiobpbioeiaa", sum := "3d31b7b2f9c810cf9b092232b326718bb121b7c38c63323d05f3d396c577df98", func := "casemate/casematelaw10.TableExact", spec := "tableExact", unfollowed := true, recurses := true, apart := false }
def TableExactSaid : Prop := tableExactRow.holds Try.pinned (OpenSpec.ofChange tableExactSpec)

/-- ITS FALSE NEIGHBOUR: 'it returns false'. Refute it at one input. -/
def tableExactWrong : ChangeSpec := { name := "tableExact", fn := fun _ => fun
  | [d1, d2, d3] => { results := [.lit (.bool false)], args := [d1, d2, d3] }
  | _ => none }
def TableExactWrongFalsely : Prop := tableExactRow.holds Try.pinned (OpenSpec.ofChange tableExactWrong)

/-- 'casematelaw10.TableNews': WHATEVER THE INPUT: true; the input reads as it did. -/
def tableNewsSpec : ChangeSpec := { name := "tableNews", fn := fun _ => fun
  | [d1, d2, d3] => { results := [.lit (.bool true)], args := [d1, d2, d3] }
  | _ => none }
def tableNewsRow : OpenClaim := { program := "ytnieiobpbioeiaa", sum := "3d31b7b2f9c810cf9b092232b326718bb121b7c38c63323d05f3d396c577df98", func := "casemate/casematelaw10.TableNews", spec := "tableNews", unfollowed := true, recurses := true, apart := false }
def TableNewsSaid : Prop := tableNewsRow.holds Try.pinned (OpenSpec.ofChange tableNewsSpec)

/-- ITS FALSE NEIGHBOUR: 'it returns false'. Refute it at one input. -/
def tableNewsWrong : ChangeSpec := { name := "tableNews", fn := fun _ => fun
  | [d1, d2, d3] => { results := [.lit (.bool false)], args := [d1, d2, d3] }
  | _ => none }
def TableNewsWrongFalsely : Prop := tableNewsRow.holds Try.pinned (OpenSpec.ofChange tableNewsWrong)

/-- 'casematelaw12.EntryExact': WHATEVER THE INPUT: true; the input reads as it did. -/
def entryExactSpec : ChangeSpec := { name := "entryExact", fn := fun _ => fun
  | [d1, d2, d3, d4, d5, d6] => { results := [.lit (.bool true)], args := [d1, d2, d3, d4, d5, d6] }
  | _ => none }
def entryExactRow : OpenClaim := { program := "ytnieiobpbioeiaa", sum := "3d31b7b2f9c810cf9b092232b326718bb121b7c38c63323d05f3d396c577df98", func := "casemate/casematelaw12.EntryExact", spec := "entryExact", unfollowed := true, recurses := true, apart := false }
def EntryExactSaid : Prop := entryExactRow.holds Try.pinned (OpenSpec.ofChange entryExactSpec)

/-- ITS FALSE NEIGHBOUR: 'it returns false'. Refute it at one input. -/
def entryExactWrong : ChangeSpec := { name := "entryExact", fn := fun _ => fun
  | [d1, d2, d3, d4, d5, d6] => { results := [.lit (.bool false)], args := [d1, d2, d3, d4, d5, d6] }
  | _ => none }
def EntryExactWrongFalsely : Prop := entryExactRow.holds Try.pinned (OpenSpec.ofChange entryExactWrong)

/-- 'casematelaw12.EntryTables': WHATEVER THE INPUT: true; the input reads as it did. -/
def entryTablesSpec : ChangeSpec := { name := "entryTables", fn := fun _ => fun
  | [d1, d2, d3, d4, d5, d6, d7] => { results := [.lit (.bool true)], args := [d1, d2, d3, d4, d5, d6, d7] }
  | _ => none }
def entryTablesRow : OpenClaim := { program := "ytnieiobpbioeiaa", sum := "3d31b7b2f9c810cf9b092232b326718bb121b7c38c63323d05f3d396c577df98", func := "casemate/casematelaw12.EntryTables", spec := "entryTables", unfollowed := true, recurses := true, apart := false }
def EntryTablesSaid : Prop := entryTablesRow.holds Try.pinned (OpenSpec.ofChange entryTablesSpec)

/-- ITS FALSE NEIGHBOUR: 'it returns false'. Refute it at one input. -/
def entryTablesWrong : ChangeSpec := { name := "entryTables", fn := fun _ => fun
  | [d1, d2, d3, d4, d5, d6, d7] => { results := [.lit (.bool false)], args := [d1, d2, d3, d4, d5, d6, d7] }
  | _ => none }
def EntryTablesWrongFalsely : Prop := entryTablesRow.holds Try.pinned (OpenSpec.ofChange entryTablesWrong)

/- THE SECOND FORM. 'bulk': how many values and letters a reading holds, each counted each time it is reached (what is shared counts as often as it is met; a slice's spare places count too). A statement '..UptoSaid' is the law's where the arguments, and the package variables that the reading takes, are together of bulk at most 1048576: NARROWER than '..Said'. Prove '..Said' where nothing that the law and all that it calls make is longer than what came in: it says more and counts as full. Else prove '..UptoSaid'. A law counts once. -/
mutual
def uptoBulk {H : Type} : DataW H → Nat
  | .lit (.string bytes) => bytes.length + 1
  | .lit _ => 1
  | .nil => 1
  | .ptr d => uptoBulk d + 1
  | .slice elems spare => uptoBulkAll elems + uptoBulkAll spare + 1
  | .agg parts => uptoBulkAll parts + 1
  | .iface _ d => uptoBulk d + 1
  | .map entries => uptoBulkEntries entries + 1
  | .held _ => 1
def uptoBulkAll {H : Type} : List (DataW H) → Nat
  | [] => 0
  | d :: r => uptoBulk d + uptoBulkAll r
def uptoBulkEntries {H : Type} : List (Lit × DataW H) → Nat
  | [] => 0
  | x :: r => uptoBulkEntry x + uptoBulkEntries r
def uptoBulkEntry {H : Type} : Lit × DataW H → Nat
  | (.string bytes, d) => bytes.length + uptoBulk d + 1
  | (_, d) => uptoBulk d + 1
 end
def uptoSmall : (H : Type) → List (DataW H) → Bool := fun _ ds => decide (uptoBulkAll ds ≤ 1048576)
def OpenSpec.upto (s : _root_.Go.ChangeSpec) : _root_.Go.OpenSpec := { _root_.Go.OpenSpec.ofChange s with cond := some uptoSmall }

/-- 'casematelaw13.ZoneExact', WHERE WHAT IT READS IS OF BULK AT MOST 1048576: true; the input reads as it did. -/
def zoneExactUptoRow : OpenClaim := { program := "ytnieiobpbioeiaa", sum := "3d31b7b2f9c810cf9b092232b326718bb121b7c38c63323d05f3d396c577df98", func := "casemate/casematelaw13.ZoneExact", spec := "zoneExact", unfollowed := true, recurses := true, apart := false, narrowed := true }
def ZoneExactUptoSaid : Prop := zoneExactUptoRow.holds Try.pinned (OpenSpec.upto zoneExactSpec)

/-- 'casematelaw13.ZoneOne', WHERE WHAT IT READS IS OF BULK AT MOST 1048576: true; the input reads as it did. -/
def zoneOneUptoRow : OpenClaim := { program := "ytnieiobpbioeiaa", sum := "3d31b7b2f9c810cf9b092232b326718bb121b7c38c63323d05f3d396c577df98", func := "casemate/casematelaw13.ZoneOne", spec := "zoneOne", unfollowed := true, recurses := true, apart := false, narrowed := true }
def ZoneOneUptoSaid : Prop := zoneOneUptoRow.holds Try.pinned (OpenSpec.upto zoneOneSpec)

/-- 'casematelaw13.ZoneTwo', WHERE WHAT IT READS IS OF BULK AT MOST 1048576: true; the input reads as it did. -/
def zoneTwoUptoRow : OpenClaim := { program := "ytnieiobpbioeiaa", sum := "3d31b7b2f9c810cf9b092232b326718bb121b7c38c63323d05f3d396c577df98", func := "casemate/casematelaw13.ZoneTwo", spec := "zoneTwo", unfollowed := true, recurses := true, apart := false, narrowed := true }
def ZoneTwoUptoSaid : Prop := zoneTwoUptoRow.holds Try.pinned (OpenSpec.upto zoneTwoSpec)

/-- 'casematelaw13.ZoneAsks', WHERE WHAT IT READS IS OF BULK AT MOST 1048576: true; the input reads as it did. -/
def zoneAsksUptoRow : OpenClaim := { program := "ytnieiobpbioeiaa", sum := "3d31b7b2f9c810cf9b092232b326718bb121b7c38c63323d05f3d396c577df98", func := "casemate/casematelaw13.ZoneAsks", spec := "zoneAsks", unfollowed := true, recurses := true, apart := false, narrowed := true }
def ZoneAsksUptoSaid : Prop := zoneAsksUptoRow.holds Try.pinned (OpenSpec.upto zoneAsksSpec)

/-- 'casematelaw13.ZoneLost', WHERE WHAT IT READS IS OF BULK AT MOST 1048576: true; the input reads as it did. -/
def zoneLostUptoRow : OpenClaim := { program := "ytnieiobpbioeiaa", sum := "3d31b7b2f9c810cf9b092232b326718bb121b7c38c63323d05f3d396c577df98", func := "casemate/casematelaw13.ZoneLost", spec := "zoneLost", unfollowed := true, recurses := true, apart := false, narrowed := true }
def ZoneLostUptoSaid : Prop := zoneLostUptoRow.holds Try.pinned (OpenSpec.upto zoneLostSpec)

/-- 'casematelaw13.ZoneSums', WHERE WHAT IT READS IS OF BULK AT MOST 1048576: true; the input reads as it did. -/
def zoneSumsUptoRow : OpenClaim := { program := "ytnieiobpbioeiaa", sum := "3d31b7b2f9c810cf9b092232b326718bb121b7c38c63323d05f3d396c577df98", func := "casemate/casematelaw13.ZoneSums", spec := "zoneSums", unfollowed := true, recurses := true, apart := false, narrowed := true }
def ZoneSumsUptoSaid : Prop := zoneSumsUptoRow.holds Try.pinned (OpenSpec.upto zoneSumsSpec)

/-- 'casematelaw05.SealExact', WHERE WHAT IT READS IS OF BULK AT MOST 1048576: true; the input reads as it did. -/
def sealExactUptoRow : OpenClaim := { program := "ytnieiobpbioeiaa", sum := "3d31b7b2f9c810cf9b092232b326718bb121b7c38c63323d05f3d396c577df98", func := "casemate/casematelaw05.SealExact", spec := "sealExact", apart := false, narrowed := true }
def SealExactUptoSaid : Prop := sealExactUptoRow.holds Try.pinned (OpenSpec.upto sealExactSpec)

/-- 'casematelaw05.SealBack', WHERE WHAT IT READS IS OF BULK AT MOST 1048576: true; the input reads as it did. -/
def sealBackUptoRow : OpenClaim := { program := "ytnieiobpbioeiaa", sum := "3d31b7b2f9c810cf9b092232b326718bb121b7c38c63323d05f3d396c577df98", func := "casemate/casematelaw05.SealBack", spec := "sealBack", apart := false, narrowed := true }
def SealBackUptoSaid : Prop := sealBackUptoRow.holds Try.pinned (OpenSpec.upto sealBackSpec)

/-- 'casematelaw05.SealFlipped', WHERE WHAT IT READS IS OF BULK AT MOST 1048576: true; the input reads as it did. -/
def sealFlippedUptoRow : OpenClaim := { program := "ytnieiobpbioeiaa", sum := "3d31b7b2f9c810cf9b092232b326718bb121b7c38c63323d05f3d396c577df98", func := "casemate/casematelaw05.SealFlipped", spec := "sealFlipped", apart := false, narrowed := true }
def SealFlippedUptoSaid : Prop := sealFlippedUptoRow.holds Try.pinned (OpenSpec.upto sealFlippedSpec)

/-- 'casematelaw05.SealCuts', WHERE WHAT IT READS IS OF BULK AT MOST 1048576: true; the input reads as it did. -/
def sealCutsUptoRow : OpenClaim := { program := "ytnieiobpbioeiaa", sum := "3d31b7b2f9c810cf9b092232b326718bb121b7c38c63323d05f3d396c577df98", func := "casemate/casematelaw05.SealCuts", spec := "sealCuts", apart := false, narrowed := true }
def SealCutsUptoSaid : Prop := sealCutsUptoRow.holds Try.pinned (OpenSpec.upto sealCutsSpec)

/-- 'casematelaw05.SealFields', WHERE WHAT IT READS IS OF BULK AT MOST 1048576: true; the input reads as it did. -/
def sealFieldsUptoRow : OpenClaim := { program := "ytnieiobpbioeiaa", sum := "3d31b7b2f9c810cf9b092232b326718bb121b7c38c63323d05f3d396c577df98", func := "casemate/casematelaw05.SealFields", spec := "sealFields", apart := false, narrowed := true }
def SealFieldsUptoSaid : Prop := sealFieldsUptoRow.holds Try.pinned (OpenSpec.upto sealFieldsSpec)

/-- 'casematelaw05.SealEdges', WHERE WHAT IT READS IS OF BULK AT MOST 1048576: true; the input reads as it did. -/
def sealEdgesUptoRow : OpenClaim := { program := "ytnieiobpbioeiaa", sum := "3d31b7b2f9c810cf9b092232b326718bb121b7c38c63323d05f3d396c577df98", func := "casemate/casematelaw05.SealEdges", spec := "sealEdges", apart := false, narrowed := true }
def SealEdgesUptoSaid : Prop := sealEdgesUptoRow.holds Try.pinned (OpenSpec.upto sealEdgesSpec)

/-- 'casematelaw05.SealTurns', WHERE WHAT IT READS IS OF BULK AT MOST 1048576: true; the input reads as it did. -/
def sealTurnsUptoRow : OpenClaim := { program := "ytnieiobpbioeiaa", sum := "3d31b7b2f9c810cf9b092232b326718bb121b7c38c63323d05f3d396c577df98", func := "casemate/casematelaw05.SealTurns", spec := "sealTurns", apart := false, narrowed := true }
def SealTurnsUptoSaid : Prop := sealTurnsUptoRow.holds Try.pinned (OpenSpec.upto sealTurnsSpec)

/-- 'casematelaw12.EntryMakes', WHERE WHAT IT READS IS OF BULK AT MOST 1048576: true; the input reads as it did. -/
def entryMakesUptoRow : OpenClaim := { program := "ytnieiobpbioeiaa", sum := "3d31b7b2f9c810cf9b092232b326718bb121b7c38c63323d05f3d396c577df98", func := "casemate/casematelaw12.EntryMakes", spec := "entryMakes", apart := false, narrowed := true }
def EntryMakesUptoSaid : Prop := entryMakesUptoRow.holds Try.pinned (OpenSpec.upto entryMakesSpec)

/-- 'casematelaw12.EntryOnly', WHERE WHAT IT READS IS OF BULK AT MOST 1048576: true; the input reads as it did. -/
def entryOnlyUptoRow : OpenClaim := { program := "ytnieiobpbioeiaa", sum := "3d31b7b2f9c810cf9b092232b326718bb121b7c38c63323d05f3d396c577df98", func := "casemate/casematelaw12.EntryOnly", spec := "entryOnly", apart := false, narrowed := true }
def EntryOnlyUptoSaid : Prop := entryOnlyUptoRow.holds Try.pinned (OpenSpec.upto entryOnlySpec)

/-- 'casematelaw12.EntryTells', WHERE WHAT IT READS IS OF BULK AT MOST 1048576: true; the input reads as it did. -/
def entryTellsUptoRow : OpenClaim := { program := "ytnieiobpbioeiaa", sum := "3d31b7b2f9c810cf9b092232b326718bb121b7c38c63323d05f3d396c577df98", func := "casemate/casematelaw12.EntryTells", spec := "entryTells", apart := false, narrowed := true }
def EntryTellsUptoSaid : Prop := entryTellsUptoRow.holds Try.pinned (OpenSpec.upto entryTellsSpec)

/-- 'casematelaw10.TableBack', WHERE WHAT IT READS IS OF BULK AT MOST 1048576: true; the input reads as it did. -/
def tableBackUptoRow : OpenClaim := { program := "ytnieiobpbioeiaa", sum := "3d31b7b2f9c810cf9b092232b326718bb121b7c38c63323d05f3d396c577df98", func := "casemate/casematelaw10.TableBack", spec := "tableBack", unfollowed := true, recurses := true, apart := false, narrowed := true }
def TableBackUptoSaid : Prop := tableBackUptoRow.holds Try.pinned (OpenSpec.upto tableBackSpec)

/-- 'casematelaw10.TableBent', WHERE WHAT IT READS IS OF BULK AT MOST 1048576: true; the input reads as it did. -/
def tableBentUptoRow : OpenClaim := { program := "ytnieiobpbioeiaa", sum := "3d31b7b2f9c810cf9b092232b326718bb121b7c38c63323d05f3d396c577df98", func := "casemate/casematelaw10.TableBent", spec := "tableBent", unfollowed := true, recurses := true, apart := false, narrowed := true }
def TableBentUptoSaid : Prop := tableBentUptoRow.holds Try.pinned (OpenSpec.upto tableBentSpec)

/-- 'casematelaw10.TableExact', WHERE WHAT IT READS IS OF BULK AT MOST 1048576: true; the input reads as it did. -/
def tableExactUptoRow : OpenClaim := { program := "ytnieiobpbioeiaa", sum := "3d31b7b2f9c810cf9b092232b326718bb121b7c38c63323d05f3d396c577df98", func := "casemate/casematelaw10.TableExact", spec := "tableExact", unfollowed := true, recurses := true, apart := false, narrowed := true }
def TableExactUptoSaid : Prop := tableExactUptoRow.holds Try.pinned (OpenSpec.upto tableExactSpec)

/-- 'casematelaw10.TableNews', WHERE WHAT IT READS IS OF BULK AT MOST 1048576: true; the input reads as it did. -/
def tableNewsUptoRow : OpenClaim := { program := "ytnieiobpbioeiaa", sum := "3d31b7b2f9c810cf9b092232b326718bb121b7c38c63323d05f3d396c577df98", func := "casemate/casematelaw10.TableNews", spec := "tableNews", unfollowed := true, recurses := true, apart := false, narrowed := true }
def TableNewsUptoSaid : Prop := tableNewsUptoRow.holds Try.pinned (OpenSpec.upto tableNewsSpec)

/-- 'casematelaw12.EntryExact', WHERE WHAT IT READS IS OF BULK AT MOST 1048576: true; the input reads as it did. -/
def entryExactUptoRow : OpenClaim := { program := "ytnieiobpbioeiaa", sum := "3d31b7b2f9c810cf9b092232b326718bb121b7c38c63323d05f3d396c577df98", func := "casemate/casematelaw12.EntryExact", spec := "entryExact", unfollowed := true, recurses := true, apart := false, narrowed := true }
def EntryExactUptoSaid : Prop := entryExactUptoRow.holds Try.pinned (OpenSpec.upto entryExactSpec)

/-- 'casematelaw12.EntryTables', WHERE WHAT IT READS IS OF BULK AT MOST 1048576: true; the input reads as it did. -/
def entryTablesUptoRow : OpenClaim := { program := "ytnieiobpbioeiaa", sum := "3d31b7b2f9c810cf9b092232b326718bb121b7c38c63323d05f3d396c577df98", func := "casemate/casematelaw12.EntryTables", spec := "entryTables", unfollowed := true, recurses := true, apart := false, narrowed := true }
def EntryTablesUptoSaid : Prop := entryTablesUptoRow.holds Try.pinned (OpenSpec.upto entryTablesSpec)

end Rows
end Go.Proofs.Ytnieiobpbioeiaa
