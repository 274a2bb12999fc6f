/-
  'casematelaw12.EntryExact' returns true for every input, and each argument reads behind the call as it read before.
  Conditions: none.
-/
import Derived.Test.YtnieiobpbioeiaaRows
import Derived.Test.YtnieiobpbioeiaaOpen
import Derived.Test.YtnieiobpbioeiaaMade
import Derived.Test.YtnieiobpbioeiaaLawE5
import Derived.WalkKit
import Derived.ProofKit
import Derived.OpenShut
import Derived.ShutString
import Derived.ChangeOld
import Derived.Below
import Derived.Test.YtnieiobpbioeiaaStruct
namespace Go.Proofs.Ytnieiobpbioeiaa.entryExact
open Go.ChangeShapes Go.WideShapes Go.ChangeAt Go.RowKit
open Go.ChangeMaps (open_string shut_string)
set_option linter.unusedVariables false

theorem own : ownKnob Try.prog.godebug = none := by kernel_rfl
theorem laidOut : laidOutB Try.prog = true := by kernel_rfl

set_option maxRecDepth 100000 in
theorem lifted (os : Os) (started : os.Started) (H : Type) (enc : TypeId × Value → H) :
    ReturnsInHanded {} Try.checked os 23 .any (Rows.entryExactSpec.pre6 enc Try.prog Try.f23 Rows.entryExactRow.domain false) (Rows.entryExactSpec.post enc Try.prog Try.f23 false true false false) := by
  refine returnsInHanded_of_change (C := Try.checked) own started (by kernel_rfl) Try.func23
    (ChangeSpec.witness6 (enc := enc) (C := Try.checked) false ⟨#[], #[.agg #[.int .i64 0, .int .i64 0, .int .i64 0, .int .i64 0, .int .i64 0], .agg #[.int .i64 0, .slice none 0 0], .int .i64 0, .agg #[.int .i64 0, .int .i64 0, .bool false], .int .i64 0, .slice none 0 0], []⟩ 8 (by kernel_rfl) (by kernel_rfl) (by kernel_rfl) (by kernel_rfl)) ?_
  intro W base args ds gs before hval0 hW hcnd _
  have hval : ∀ (j : Nat) t v, Try.f23.params[j]? = some t → args[j]? = some v → Value.okWide Try.prog W .any base t v := hval0
  have hW' := hW
  obtain ⟨p, q, hA0, hV, rfl, hfz, hnd⟩ := hW
  have hA : DataW.TrodAll enc Try.prog W 0 (fun _ => true) true Try.f23.params.toList args.toList ds p := hA0
  rw [Try.params23] at hA hval
  obtain ⟨v0, vs0, d0, ds0, p0, q0, hargs, rfl, rfl, h0, r0⟩ := trodAll_cons hA
  obtain ⟨v1, vs1, d1, ds1, p1, q1, rfl, rfl, rfl, h1, r1⟩ := trodAll_cons r0
  obtain ⟨v2, vs2, d2, ds2, p2, q2, rfl, rfl, rfl, h2, r2⟩ := trodAll_cons r1
  obtain ⟨v3, vs3, d3, ds3, p3, q3, rfl, rfl, rfl, h3, r3⟩ := trodAll_cons r2
  obtain ⟨v4, vs4, d4, ds4, p4, q4, rfl, rfl, rfl, h4, r4⟩ := trodAll_cons r3
  obtain ⟨v5, vs5, d5, ds5, p5, q5, rfl, rfl, rfl, h5, r5⟩ := trodAll_cons r4
  obtain ⟨rfl, rfl, rfl⟩ := trodAll_nil r5
  obtain rfl : args = #[v0, v1, v2, v3, v4, v5] := by cases args; simp_all
  obtain ⟨rfl, rfl⟩ := trodVars_none hV
  have k0 := h0
  have lt0 : ∀ x ∈ p0, x.block < W.heap.size := by obtain ⟨m, hm⟩ := k0; exact DataW.trod_lt m _ _ _ hm
  obtain ⟨x0, w0⟩ := open_struct_arg Try.underlying23 (opens_geo Try.underlying23 (by kernel_rfl) (fun k hk => by rcases k with _ | _ | _ | _ | _ | k <;> first | omega | kernel_rfl) (by kernel_rfl) (opens_int Try.underlying3)) (hval 0 23 v0 rfl rfl) h0
  have k1 := h1
  have lt1 : ∀ x ∈ p1, x.block < W.heap.size := by obtain ⟨m, hm⟩ := k1; exact DataW.trod_lt m _ _ _ hm
  obtain ⟨x1, w1⟩ := open_struct_arg Try.underlying85 (opens_got Try.underlying85 (by kernel_rfl) (by kernel_rfl) (by kernel_rfl) (by kernel_rfl) (by kernel_rfl) (opens_int Try.underlying32) (opens_slice (s := 1) (by omega) Try.underlying31 (by kernel_rfl) (opens_u8 Try.underlying5))) (hval 1 85 v1 rfl rfl) h1
  have k2 := h2
  have lt2 : ∀ x ∈ p2, x.block < W.heap.size := by obtain ⟨m, hm⟩ := k2; exact DataW.trod_lt m _ _ _ hm
  obtain ⟨x2, rfl, _, _, wx2⟩ := open_int Try.underlying3 (hval 2 3 v2 rfl rfl) h2
  have k3 := h3
  have lt3 : ∀ x ∈ p3, x.block < W.heap.size := by obtain ⟨m, hm⟩ := k3; exact DataW.trod_lt m _ _ _ hm
  obtain ⟨x3, w3⟩ := open_struct_arg Try.underlying54 (opens_ent Try.underlying54 (by kernel_rfl) (by kernel_rfl) (by kernel_rfl) (by kernel_rfl) (by kernel_rfl) (by kernel_rfl) (opens_int Try.underlying3) (opens_bool Try.underlying4)) (hval 3 54 v3 rfl rfl) h3
  have k4 := h4
  have lt4 : ∀ x ∈ p4, x.block < W.heap.size := by obtain ⟨m, hm⟩ := k4; exact DataW.trod_lt m _ _ _ hm
  obtain ⟨x4, rfl, _, _, wx4⟩ := open_int Try.underlying3 (hval 4 3 v4 rfl rfl) h4
  have k5 := h5
  have lt5 : ∀ x ∈ p5, x.block < W.heap.size := by obtain ⟨m, hm⟩ := k5; exact DataW.trod_lt m _ _ _ hm
  obtain ⟨a5, len5, cap5, rfl⟩ := okWide_slice Try.underlying31 (hval 5 31 v5 rfl rfl)
  obtain ⟨z5, w5⟩ := open_slice_arg (opens_slice (s := 1) (by omega) Try.underlying31 (by kernel_rfl) (opens_u8 Try.underlying5)) h5
  clear hA0 hval0
  refine (law_entryExact w0 w1 x2 (inI_of_wf wx2) w3 x4 (inI_of_wf wx4) w5).mono fun e W' ⟨he, bel⟩ => ?_
  subst he
  exact ⟨_, rfl, _, _, _, [], _, [], hW', trodAll_mk1 (shut_bool Try.underlying4 _), (trodAll_cons_mk (Below.trod laidOut (by kernel_rfl) (of_decide_eq_true (by kernel_rfl)) k0 bel lt0) (trodAll_cons_mk (Below.trod laidOut (by kernel_rfl) (of_decide_eq_true (by kernel_rfl)) k1 bel lt1) (trodAll_cons_mk (Below.trod laidOut (by kernel_rfl) (of_decide_eq_true (by kernel_rfl)) k2 bel lt2) (trodAll_cons_mk (Below.trod laidOut (by kernel_rfl) (of_decide_eq_true (by kernel_rfl)) k3 bel lt3) (trodAll_cons_mk (Below.trod laidOut (by kernel_rfl) (of_decide_eq_true (by kernel_rfl)) k4 bel lt4) (trodAll_cons_mk (Below.trod laidOut (by kernel_rfl) (of_decide_eq_true (by kernel_rfl)) k5 bel lt5) trodAll_mk0)))))), rfl, bel.frame _, fun h => by cases h⟩

theorem closed : joinedFacts Try.pinned.checked.prog 23 Try.f23 Rows.entryExactSpec Rows.entryExactRow = true := by
  obtain ⟨R, behind⟩ := behind_cut (P := Try.pinned.checked.prog) "e30b17d61f784b21fa30755c5ab66446bbf18f640f90c43829f3e7fa019258b2" "at casemate/casematelaw13.ZoneExact casemate/casematelaw13.ZoneOne casemate/casematelaw13.ZoneTwo casemate/casematelaw13.ZoneAsks casemate/casematelaw13.ZoneLost casemate/casematelaw13.ZoneSums casemate/casematelaw05.SealExact casemate/casematelaw05.SealBack casemate/casematelaw05.SealFlipped casemate/casematelaw05.SealCuts casemate/casematelaw05.SealFields casemate/casematelaw05.SealEdges casemate/casematelaw05.SealTurns casemate/casematelaw12.EntryMakes casemate/casematelaw12.EntryOnly casemate/casematelaw12.EntryTells casemate/casematelaw10.TableBack casemate/casematelaw10.TableBent casemate/casematelaw10.TableExact casemate/casematelaw10.TableNews casemate/casematelaw12.EntryExact casemate/casematelaw12.EntryTables" (by kernel_rfl) (by decide +kernel) (by decide +kernel)
  unfold joinedFacts
  rw [make_cut behind, lift_cut behind, enter_cut behind (by kernel_rfl) (by kernel_rfl) (by kernel_rfl)]
  kernel_rfl

theorem over : Rows.entryExactRow.holds Try.pinned (OpenSpec.ofChange Rows.entryExactSpec) :=
  OpenClaim.holds_of_wide 23 Try.f23 rfl rfl rfl rfl rfl rfl rfl ⟨rfl, rfl, rfl, rfl, rfl⟩ rfl rfl rfl rfl rfl (by kernel_rfl) Try.func23 closed
    (of_decide_eq_true (by kernel_rfl)) (by unfold Func.isWrapper; first | (rw [if_pos (by decide +kernel)]; kernel_rfl) | (rw [if_neg (by decide +kernel)]; exact ⟨rfl, rfl⟩))
    (fun os started H enc _ => lifted os started H enc)

theorem proved : Rows.EntryExactSaid := over
#print axioms proved
end Go.Proofs.Ytnieiobpbioeiaa.entryExact
