/-
  Plain: an anchor with a spare passed, a block moved.
  Contracts: geom.tables, slots, told, Slot.
  Contracts: place.index, check, Addr, left, Spares.
  Contract: place.Addr of what there is.
-/
import Derived.Test.YtjlppkbmapmbiaaDoorAncP
import Derived.Test.YtjlppkbmapmbiaaDoorAncH
import Derived.Test.YtjlppkbmapmbiaaDoorAncL1
namespace Go.Proofs.YtjlppkbmapmbiaaDoor
open Go.RowKit Go.Lib
set_option linter.unusedVariables false

theorem plOk_iff (next : Int) (l : List Int) : PlOk next l ↔ (∀ (i : Nat) p, l[i]? = some p → 0 ≤ p ∧ p ≤ next - 1) ∧ ∀ (i m : Nat) p, m < i → l[i]? = some p → l[m]? = some p → False := by
  constructor
  · intro h
    refine ⟨fun i p hp => (h i p hp).1, fun i m p hm hi hmp => (h i p hi).2 ?_⟩
    have : (l.take i)[m]? = some p := by rw [List.getElem?_take, if_pos hm]; exact hmp
    exact List.mem_of_getElem? this
  · rintro ⟨h1, h2⟩ i p hp
    refine ⟨h1 i p hp, fun hm => ?_⟩
    obtain ⟨m, hml, e⟩ := List.mem_iff_getElem.1 hm
    have h3 : (l.take i)[m]? = some p := by rw [List.getElem?_eq_getElem hml, e]
    rw [List.getElem?_take] at h3
    split at h3
    · exact h2 i m p (by assumption) hp h3
    · cases h3
theorem PlOk.up {n n' : Int} {l : List Int} (h : PlOk n l) (hn : n ≤ n') : PlOk n' l := fun i p hp => by
  have := h i p hp
  exact ⟨⟨this.1.1, by omega⟩, this.2⟩
theorem PlOk.move {n : Int} {l : List Int} (h : PlOk n l) (h0 : 0 ≤ n) (j : Nat) : PlOk (n + 1) (l.set j n) := by
  rw [plOk_iff] at h ⊢
  obtain ⟨h1, h2⟩ := h
  have key : ∀ (i : Nat) p, (l.set j n)[i]? = some p → (i = j ∧ p = n) ∨ (i ≠ j ∧ l[i]? = some p) := fun i p hi => by
    by_cases e : i = j
    · subst e
      have hl := (List.getElem?_eq_some_iff.1 hi).1
      rw [List.length_set] at hl
      rw [List.getElem?_set_self hl] at hi
      injection hi with hi
      exact .inl ⟨rfl, hi.symm⟩
    · rw [List.getElem?_set_ne (by omega)] at hi
      exact .inr ⟨e, hi⟩
  refine ⟨fun i p hi => ?_, fun i m p hm hi hmp => ?_⟩
  · rcases key i p hi with ⟨_, rfl⟩ | ⟨_, h⟩
    · omega
    · have := h1 i p h; omega
  · rcases key i p hi with ⟨e1, e2⟩ | ⟨e1, h⟩
    · rcases key m p hmp with ⟨e3, e4⟩ | ⟨e3, h'⟩
      · omega
      · have := h1 m p h'; omega
    · rcases key m p hmp with ⟨e3, e4⟩ | ⟨e3, h'⟩
      · have := h1 i p h; omega
      · exact h2 i m p hm h h'

/-- A spare passed in the zone k. -/
def skipA (a : Anc) (k : Nat) (h : Hom) : Anc := { a with homes := a.homes.set k { h with next := h.next + 1 } }
/-- The block at i of the zone k moved to the next spare. -/
def moveA (a : Anc) (k : Nat) (h : Hom) (i : Nat) : Anc := { a with homes := a.homes.set k { places := h.places.set i h.next, next := h.next + 1, root := h.root } }
theorem set_mem {L : List Hom} {k : Nat} {y x : Hom} (hx : x ∈ L.set k y) : x ∈ L ∨ x = y := List.mem_or_eq_of_mem_set hx
theorem skip_ok {g : Geo} {a : Anc} {k : Nat} {h : Hom} (ho : AncOk g a) (hk : a.homes[k]? = some h) (hn : h.next < g.data + 1 + g.spares) : AncOk g (skipA a k h) := by
  obtain ⟨h1, h2, h3, h4⟩ := ho
  refine ⟨h1, h2, by show ((a.homes.set k _).length : Int) = _; rw [List.length_set]; exact h3, fun x hx => ?_⟩
  rcases set_mem hx with hx | rfl
  · exact h4 x hx
  · obtain ⟨e0, ⟨e1, e2⟩, e3, e4⟩ := h4 h (List.mem_of_getElem? hk)
    refine ⟨e0, ⟨?_, ?_⟩, e3, e4.up ?_⟩
    all_goals (dsimp only; omega)
theorem move_ok {g : Geo} {a : Anc} {k : Nat} {h : Hom} (hG : GeoOk g) (ho : AncOk g a) (hk : a.homes[k]? = some h) (hn : h.next < g.data + 1 + g.spares) (i : Nat) : AncOk g (moveA a k h i) := by
  obtain ⟨h1, h2, h3, h4⟩ := ho
  have hd := hG.2.1
  refine ⟨h1, h2, by show ((a.homes.set k _).length : Int) = _; rw [List.length_set]; exact h3, fun x hx => ?_⟩
  rcases set_mem hx with hx | rfl
  · exact h4 x hx
  · obtain ⟨e0, ⟨e1, e2⟩, e3, e4⟩ := h4 h (List.mem_of_getElem? hk)
    refine ⟨by show ((h.places.set i _).length : Int) = _; rw [List.length_set]; exact e0, ⟨?_, ?_⟩, e3, e4.move (by omega) i⟩
    all_goals (dsimp only; omega)
/-- A block of a zone, or the parity; which of its places. -/
def WhatOk (g : Geo) (what : Int) : Prop := -1 ≤ what ∧ what ≤ g.data - 1
instance (g : Geo) (what : Int) : Decidable (WhatOk g what) := by unfold WhatOk; infer_instance
def atI (g : Geo) (what : Int) : Int := if what = -1 then g.data else what
theorem atI_lt {g : Geo} {what : Int} (hG : GeoOk g) (h : WhatOk g what) : 0 ≤ atI g what ∧ atI g what ≤ g.data := by
  have hd := hG.2.1
  unfold WhatOk at h
  unfold atI
  split <;> omega
theorem atI_inj {g : Geo} {u v : Int} (hG : GeoOk g) (hu : WhatOk g u) (hv : WhatOk g v) (h : atI g u = atI g v) : u = v := by
  unfold WhatOk at *
  unfold atI at h
  split at h <;> split at h <;> omega

end Go.Proofs.YtjlppkbmapmbiaaDoor

namespace Go.Proofs.YtjlppkbmapmbiaaDoor
open Go.RowKit Go.Lib
set_option linter.unusedVariables false
set_option maxRecDepth 100000

def tablesN (g : Geo) : Int := g.anchors + 2 * g.slots
def slotsN (g : Geo) : Int := tablesN g + 2 * g.zones
def slotN (g : Geo) (z s : Int) : Int := slotsN g + z * (g.data + 1 + g.spares) + s

theorem gtables_any (g : Geo) (hG : GeoOk g) (w : World) : Calls Tryd.prog 24 #[g.v] w fun e w' => e = .returned (.int .i64 (tablesN g)) ∧ Below w.heap.size w w' := by
  obtain ⟨⟨z1, z4⟩, ⟨d1, d4⟩, ⟨s0, s2⟩, ⟨sl1, sl2⟩, an1, an3⟩ := hG
  obtain ⟨z, d, s, l, a⟩ := g
  unfold Geo.v tablesN
  dsimp only at *
  have e1 : IntKind.i64.wrap (2 * l) = 2 * l := IntWalk.i64_in _ (by omega)
  have e2 : IntKind.i64.wrap (a + 2 * l) = a + 2 * l := IntWalk.i64_in _ (by omega)
  go_enter Tryd.func24, Tryd.ntmps24
  go_wp2_with fail
  go_ret
  exact ⟨rfl, alloc_below _ _⟩

theorem gslotsn_any (g : Geo) (hG : GeoOk g) (w : World) : Calls Tryd.prog 17 #[g.v] w fun e w' => e = .returned (.int .i64 (slotsN g)) ∧ Below w.heap.size w w' := by
  have HT := hide fun w => gtables_any g hG w
  obtain ⟨⟨z1, z4⟩, ⟨d1, d4⟩, ⟨s0, s2⟩, ⟨sl1, sl2⟩, an1, an3⟩ := hG
  obtain ⟨z, d, s, l, a⟩ := g
  unfold slotsN
  obtain ⟨T, hT⟩ : ∃ T, T = tablesN ⟨z, d, s, l, a⟩ := ⟨_, rfl⟩
  have hTb : 0 ≤ T ∧ T ≤ 100 := by rw [hT]; unfold tablesN; dsimp only at *; omega
  rw [← hT] at HT ⊢
  clear hT
  unfold Geo.v at *
  dsimp only at *
  have e1 : IntKind.i64.wrap (2 * z) = 2 * z := IntWalk.i64_in _ (by omega)
  have e2 : IntKind.i64.wrap (T + 2 * z) = T + 2 * z := IntWalk.i64_in _ (by omega)
  obtain ⟨W0, hW0⟩ : ∃ W0, W0 = w.alloc (.cells #[.int .i64 z, .int .i64 d, .int .i64 s, .int .i64 l, .int .i64 a] 24) := ⟨_, rfl⟩
  have hb0 : Below w.heap.size w W0 := by rw [hW0]; exact alloc_below w _
  have BX : Hid (∀ w', Below W0.heap.size W0 w' → (w'.cell? ⟨w.heap.size, 0, none⟩ = some (.int .i64 z) ∧ w'.cell? ⟨w.heap.size, 1, none⟩ = some (.int .i64 d) ∧ w'.cell? ⟨w.heap.size, 2, none⟩ = some (.int .i64 s) ∧ w'.cell? ⟨w.heap.size, 3, none⟩ = some (.int .i64 l) ∧ w'.cell? ⟨w.heap.size, 4, none⟩ = some (.int .i64 a))) := hide fun w' hb => by
    subst hW0
    exact ⟨box_cell hb 0 _ rfl, box_cell hb 1 _ rfl, box_cell hb 2 _ rfl, box_cell hb 3 _ rfl, box_cell hb 4 _ rfl⟩
  obtain ⟨p0, p1, p2, p3, p4⟩ := BX.out _ (Below.refl _ _)
  have hcur := Below.refl W0.heap.size W0
  rw [hW0] at p0 p1 p2 p3 p4
  go_enter Tryd.func17, Tryd.ntmps17
  go_wp2_with fail
  rw [← hW0]
  clear p0 p1 p2 p3 p4 hW0
  go_region_held3 (fun w' => (w'.cell? ⟨w.heap.size, 0, none⟩ = some (.int .i64 z) ∧ w'.cell? ⟨w.heap.size, 1, none⟩ = some (.int .i64 d) ∧ w'.cell? ⟨w.heap.size, 2, none⟩ = some (.int .i64 s) ∧ w'.cell? ⟨w.heap.size, 3, none⟩ = some (.int .i64 l) ∧ w'.cell? ⟨w.heap.size, 4, none⟩ = some (.int .i64 a))) (first | exact BX.out _ hcur | exact BX.out _ hcur.drew) ((refine (HT.out _).mono ?_; rintro e wA ⟨rfl, hz⟩; have hcur := th (by first | exact hcur | exact hcur.drew) hz))
  all_goals (go_wp2_with fail; go_ret; exact ⟨rfl, th hb0 (by first | exact hcur | exact hcur.drew)⟩)

theorem told_yes (g : Geo) (hG : GeoOk g) (n : Int) (hn : InI n) (w : World) : Calls Tryd.prog 16 #[g.v, .int .i64 n, .bool true] w fun e w' => e = .returned (.tuple #[.int .i64 n, .int .i64 0]) ∧ Below w.heap.size w w' := by
  have hc := fun w => gcheck_any g w
  rw [show geoErr g = 0 from if_pos hG] at hc
  have HC := hide hc
  obtain ⟨n1, n2⟩ := hn
  clear hc hG
  obtain ⟨z, d, s, l, a⟩ := g
  unfold Geo.v at *
  dsimp only at *
  obtain ⟨W0, hW0⟩ : ∃ W0, W0 = w.alloc (.cells #[.int .i64 z, .int .i64 d, .int .i64 s, .int .i64 l, .int .i64 a] 24) := ⟨_, rfl⟩
  have hb0 : Below w.heap.size w W0 := by rw [hW0]; exact alloc_below w _
  have BX : Hid (∀ w', Below W0.heap.size W0 w' → (w'.cell? ⟨w.heap.size, 0, none⟩ = some (.int .i64 z) ∧ w'.cell? ⟨w.heap.size, 1, none⟩ = some (.int .i64 d) ∧ w'.cell? ⟨w.heap.size, 2, none⟩ = some (.int .i64 s) ∧ w'.cell? ⟨w.heap.size, 3, none⟩ = some (.int .i64 l) ∧ w'.cell? ⟨w.heap.size, 4, none⟩ = some (.int .i64 a))) := hide fun w' hb => by
    subst hW0
    exact ⟨box_cell hb 0 _ rfl, box_cell hb 1 _ rfl, box_cell hb 2 _ rfl, box_cell hb 3 _ rfl, box_cell hb 4 _ rfl⟩
  obtain ⟨p0, p1, p2, p3, p4⟩ := BX.out _ (Below.refl _ _)
  rw [hW0] at p0 p1 p2 p3 p4
  go_enter Tryd.func16, Tryd.ntmps16
  go_wp2_with fail
  rw [← hW0]
  refine (HC.out _).mono ?_
  rintro e w1 ⟨rfl, hb1⟩
  go_wp2_with fail
  go_ret2
  exact ⟨rfl, th hb0 hb1⟩

set_option maxHeartbeats 1000000 in
theorem gslot_yes (g : Geo) (hG : GeoOk g) (k i : Int) (hk : 0 ≤ k ∧ k ≤ g.zones - 1) (hi : 0 ≤ i ∧ i ≤ g.data + g.spares) (w : World) : Calls Tryd.prog 10 #[g.v, .int .i64 k, .int .i64 i] w fun e w' => e = .returned (.tuple #[.int .i64 (slotN g k i), .int .i64 0]) ∧ Below w.heap.size w w' := by
  have HS := hide fun w => gslotsn_any g hG w
  have HN := hide fun w => gslots_any g.zones g.data g.spares g.slots g.anchors ⟨by have := hG.2.1; omega, by have := hG.2.1; omega⟩ ⟨by have := hG.2.2.1; omega, by have := hG.2.2.1; omega⟩ w
  have HT := hide fun n hn w => told_yes g hG n hn w
  obtain ⟨⟨z1, z4⟩, ⟨d1, d4⟩, ⟨s0, s2⟩, ⟨sl1, sl2⟩, an1, an3⟩ := hG
  obtain ⟨z, d, s, l, a⟩ := g
  obtain ⟨k0, k1⟩ := hk
  obtain ⟨i0, i1⟩ := hi
  unfold slotN
  dsimp only at *
  obtain ⟨T, hT⟩ : ∃ T, T = slotsN ⟨z, d, s, l, a⟩ := ⟨_, rfl⟩
  have hTb : 0 ≤ T ∧ T ≤ 200 := by rw [hT]; unfold slotsN tablesN; dsimp only at *; omega
  obtain ⟨D, hD⟩ : ∃ D, D = d + 1 + s := ⟨_, rfl⟩
  have hDb : 2 ≤ D ∧ D ≤ 7 := by omega
  obtain ⟨M, hM⟩ : ∃ M, M = k * D := ⟨_, rfl⟩
  have hMb : 0 ≤ M ∧ M ≤ 28 := by
    rcases (show k = 0 ∨ k = 1 ∨ k = 2 ∨ k = 3 by omega) with h | h | h | h <;> rw [hM, h] <;> omega
  have c1 := fun w => gin_any k 0 (z - 1) w
  have c2 := fun w => gin_any i 0 (D - 1) w
  rw [show decide (0 ≤ k ∧ k ≤ z - 1) = true from decide_eq_true ⟨k0, by omega⟩] at c1
  rw [show decide (0 ≤ i ∧ i ≤ D - 1) = true from decide_eq_true ⟨i0, by omega⟩] at c2
  have C1 := hide c1
  have C2 := hide c2
  rw [← hT] at HS ⊢
  rw [← hD] at HN ⊢
  rw [← hM]
  clear hT c1 c2
  unfold Geo.v at *
  dsimp only at *
  have e1 : IntKind.i64.wrap (k * D) = M := by rw [← hM]; exact IntWalk.i64_in _ (by omega)
  have e2 : IntKind.i64.wrap (T + M) = T + M := IntWalk.i64_in _ (by omega)
  have e3 : IntKind.i64.wrap (T + M + i) = T + M + i := IntWalk.i64_in _ (by omega)
  have e4 : IntKind.i64.wrap (z - 1) = z - 1 := IntWalk.i64_in _ (by omega)
  have e5 : IntKind.i64.wrap (D - 1) = D - 1 := IntWalk.i64_in _ (by omega)
  have HTT := hide (HT.out (T + M + i) ⟨by unfold InI at *; omega, by unfold InI at *; omega⟩)
  clear HT hM hD
  obtain ⟨W0, hW0⟩ : ∃ W0, W0 = w.alloc (.cells #[.int .i64 z, .int .i64 d, .int .i64 s, .int .i64 l, .int .i64 a] 24) := ⟨_, rfl⟩
  have hb0 : Below w.heap.size w W0 := by rw [hW0]; exact alloc_below w _
  have BX : Hid (∀ w', Below W0.heap.size W0 w' → (w'.cell? ⟨w.heap.size, 0, none⟩ = some (.int .i64 z) ∧ w'.cell? ⟨w.heap.size, 1, none⟩ = some (.int .i64 d) ∧ w'.cell? ⟨w.heap.size, 2, none⟩ = some (.int .i64 s) ∧ w'.cell? ⟨w.heap.size, 3, none⟩ = some (.int .i64 l) ∧ w'.cell? ⟨w.heap.size, 4, none⟩ = some (.int .i64 a))) := hide fun w' hb => by
    subst hW0
    exact ⟨box_cell hb 0 _ rfl, box_cell hb 1 _ rfl, box_cell hb 2 _ rfl, box_cell hb 3 _ rfl, box_cell hb 4 _ rfl⟩
  obtain ⟨p0, p1, p2, p3, p4⟩ := BX.out _ (Below.refl _ _)
  have hcur := Below.refl W0.heap.size W0
  rw [hW0] at p0 p1 p2 p3 p4
  go_enter Tryd.func10, Tryd.ntmps10
  go_wp2_with fail
  rw [← hW0]
  clear p0 p1 p2 p3 p4 hW0
  go_region_held3 (fun w' => (w'.cell? ⟨w.heap.size, 0, none⟩ = some (.int .i64 z) ∧ w'.cell? ⟨w.heap.size, 1, none⟩ = some (.int .i64 d) ∧ w'.cell? ⟨w.heap.size, 2, none⟩ = some (.int .i64 s) ∧ w'.cell? ⟨w.heap.size, 3, none⟩ = some (.int .i64 l) ∧ w'.cell? ⟨w.heap.size, 4, none⟩ = some (.int .i64 a))) (first | exact BX.out _ hcur | exact BX.out _ hcur.drew) (first
    | (go_at_call 17; ((with_reducible refine (HS.out _).mono ?_)); rintro e wA ⟨rfl, hz⟩; have hcur := th (by first | exact hcur | exact hcur.drew) hz)
    | (go_at_call 18; ((with_reducible refine (HN.out _).mono ?_)); rintro e wA ⟨rfl, hz⟩; have hcur := th (by first | exact hcur | exact hcur.drew) hz)
    | (go_at_call 19; (first | (with_reducible refine (C1.out _).mono ?_) | (with_reducible refine (C2.out _).mono ?_)); rintro e wB ⟨rfl, rfl⟩)
    | (go_at_call 16; ((with_reducible refine (HTT.out _).mono ?_)); rintro e wA ⟨rfl, hz⟩; have hcur := th (by first | exact hcur | exact hcur.drew) hz))
  all_goals (go_wp2_with fail; go_ret2; exact ⟨rfl, th hb0 (by first | exact hcur | exact hcur.drew)⟩)

end Go.Proofs.YtjlppkbmapmbiaaDoor

namespace Go.Proofs.YtjlppkbmapmbiaaDoor
open Go.RowKit Go.Lib
set_option linter.unusedVariables false
set_option maxRecDepth 100000

/-- A block of a zone, or the parity, as the code asks. -/
def IsP (g : Geo) (what : Int) : Prop := what = -1 ∨ (0 ≤ what ∧ what < g.data)
instance (g : Geo) (what : Int) : Decidable (IsP g what) := by unfold IsP; infer_instance
def PlaceOk (g : Geo) (a : Anc) (zone what : Int) : Prop := GeoOk g ∧ AncOk g a ∧ (0 ≤ zone ∧ zone < g.zones) ∧ IsP g what
instance (g : Geo) (a : Anc) (zone what : Int) : Decidable (PlaceOk g a zone what) := by unfold PlaceOk; infer_instance
def plErr (g : Geo) (a : Anc) (zone what : Int) : Int := if PlaceOk g a zone what then 0 else 1
theorem isP_what {g : Geo} (hG : GeoOk g) (what : Int) : IsP g what ↔ WhatOk g what := by
  have := hG.2.1
  unfold IsP WhatOk
  omega
theorem isP_par (g : Geo) : IsP g (-1) := .inl rfl

theorem pindex_any (g : Geo) (what : Int) (w : World) : Calls Tryd.prog 15 #[g.v, .int .i64 what] w fun e w' => e = .returned (.tuple #[.int .i64 (atI g what), .bool (decide (IsP g what))]) ∧ Below w.heap.size w w' := by
  obtain ⟨z, d, s, l, a⟩ := g
  unfold Geo.v atI
  dsimp only
  obtain ⟨R, hR⟩ : ∃ R, R = decide (IsP ⟨z, d, s, l, a⟩ what) := ⟨_, rfl⟩
  rw [← hR]
  have HR := hide hR
  clear hR
  by_cases h0 : what = -1
  · subst h0
    obtain rfl : R = true := by rw [HR.out]; exact decide_eq_true (isP_par _)
    rw [if_pos rfl]
    go_enter Tryd.func15, Tryd.ntmps15
    go_wp2_with fail
    go_ret2
    exact ⟨rfl, alloc_below _ _⟩
  · rw [if_neg h0]
    have HW : Hid ((w.alloc (.cells #[.int .i64 z, .int .i64 d, .int .i64 s, .int .i64 l, .int .i64 a] 24)).cell? ⟨w.heap.size, 0, none⟩ = some (.int .i64 z) ∧ (w.alloc (.cells #[.int .i64 z, .int .i64 d, .int .i64 s, .int .i64 l, .int .i64 a] 24)).cell? ⟨w.heap.size, 1, none⟩ = some (.int .i64 d)) := hide ⟨box_cell (Below.refl _ _) 0 _ rfl, box_cell (Below.refl _ _) 1 _ rfl⟩
    have t0 : (what == -1) = false := by simpa using h0
    have HN := hide h0
    clear h0
    by_cases h1 : 0 ≤ what
    · by_cases h2 : what < d
      · obtain rfl : R = true := by rw [HR.out]; exact decide_eq_true (.inr ⟨h1, h2⟩)
        have b1 : decide (0 ≤ what) = true := decide_eq_true h1
        have b2 : decide (what < d) = true := decide_eq_true h2
        clear HR h1 h2
        go_enter Tryd.func15, Tryd.ntmps15
        go_wp2_with fail
        go_region_held3 (fun w' => (w'.cell? ⟨w.heap.size, 0, none⟩ = some (.int .i64 z) ∧ w'.cell? ⟨w.heap.size, 1, none⟩ = some (.int .i64 d))) (exact HW.out) (fail)
        all_goals (go_wp2_with fail; go_ret2; exact ⟨rfl, by first | exact alloc_below _ _ | exact (alloc_below _ _).drew⟩)
      · have h2' : d ≤ what := by omega
        obtain rfl : R = false := by rw [HR.out]; exact decide_eq_false fun e => by rcases e with e | e; exact HN.out e; exact h2 e.2
        have b1 : decide (0 ≤ what) = true := decide_eq_true h1
        have b2 : decide (what < d) = false := decide_eq_false h2
        clear HR h1 h2 h2'
        go_enter Tryd.func15, Tryd.ntmps15
        go_wp2_with fail
        go_region_held3 (fun w' => (w'.cell? ⟨w.heap.size, 0, none⟩ = some (.int .i64 z) ∧ w'.cell? ⟨w.heap.size, 1, none⟩ = some (.int .i64 d))) (exact HW.out) (fail)
        all_goals (go_wp2_with fail; go_ret2; exact ⟨rfl, by first | exact alloc_below _ _ | exact (alloc_below _ _).drew⟩)
    · have h1' : what < 0 := by omega
      obtain rfl : R = false := by rw [HR.out]; exact decide_eq_false fun e => by rcases e with e | e; exact HN.out e; exact h1 e.1
      have b1 : decide (0 ≤ what) = false := decide_eq_false h1
      clear HR h1 h1'
      go_enter Tryd.func15, Tryd.ntmps15
      go_wp2_with fail
      go_quiet (fail)
      go_wp2_with fail
      go_ret2
      exact ⟨rfl, th (alloc_below _ _) (drewN_below _ _)⟩

set_option maxHeartbeats 1000000 in
theorem pcheck_any (g : Geo) (a : Anc) (A : Option Addr) (n c : Nat) (zone what : Int) (w : World) (hT : Tabs w) (ha : Sl homR 3 w (Old w) A n c a.homes) (hin : a.In) (hl : Light a) :
    Calls Tryd.prog 12 #[g.v, a.v (.slice A n c), .int .i64 zone, .int .i64 what] w fun e w' => e = .returned (.int .i64 (plErr g a zone what)) ∧ Below w.heap.size w w' := by
  have HCK := hide fun w hT h => acheck_any g a A n c w hT h hin hl
  have HIX := hide fun w => pindex_any g what w
  obtain ⟨E, hE⟩ : ∃ E, E = ancErr g a := ⟨_, rfl⟩
  obtain ⟨B, hB⟩ : ∃ B, B = decide (IsP g what) := ⟨_, rfl⟩
  obtain ⟨I, hI⟩ : ∃ I, I = atI g what := ⟨_, rfl⟩
  obtain ⟨R, hR⟩ : ∃ R, R = plErr g a zone what := ⟨_, rfl⟩
  rw [← hE] at HCK
  rw [← hB, ← hI] at HIX
  rw [← hR]
  have yes : E = 0 → 0 ≤ zone → zone < g.zones → B = true → R = 0 := fun e0 e1 e2 e3 => by
    rw [hR]
    refine if_pos ?_
    rw [hE] at e0
    unfold ancErr at e0
    have h := Decidable.byContradiction fun h => by rw [if_neg h] at e0; cases e0
    rw [hB] at e3
    exact ⟨h.1, h.2, ⟨e1, e2⟩, of_decide_eq_true e3⟩
  have no : ¬ (E = 0 ∧ (0 ≤ zone ∧ zone < g.zones) ∧ B = true) → R = 1 := fun h => by
    rw [hR]
    refine if_neg fun h2 => h ⟨?_, h2.2.2.1, ?_⟩
    · rw [hE]; exact if_pos ⟨h2.1, h2.2.1⟩
    · rw [hB]; exact decide_eq_true h2.2.2.2
  have hE2 : E = 0 ∨ E = 1 := by rw [hE]; unfold ancErr; split; exact .inl rfl; exact .inr rfl
  have YES := hide yes
  have NO := hide no
  clear yes no hE hB hI hR
  obtain ⟨W0, hW0⟩ : ∃ W0, W0 = (w.alloc (.cells #[.int .i64 g.zones, .int .i64 g.data, .int .i64 g.spares, .int .i64 g.slots, .int .i64 g.anchors] 24)).alloc (.cells #[.int .i64 a.gen, .int .i64 a.epoch, .int .i64 a.pos, .int .i64 a.seq, .int .i64 a.last, .string a.label, .slice A n c] 28) := ⟨_, rfl⟩
  have hb0 : Below w.heap.size w W0 := by rw [hW0]; exact (alloc_below w _).alloc (by simp) _
  have ha0 := ha.on homR_fine hb0
  have hgb : GeoAt W0 w.heap.size g := by rw [hW0]; exact (GeoAt.new w g 24).on (alloc_below _ _)
  have hsv : Sev W0 (w.heap.size + 1) (.int .i64 a.gen) (.int .i64 a.epoch) (.int .i64 a.pos) (.int .i64 a.seq) (.int .i64 a.last) (.string a.label) (.slice A n c) := by rw [hW0]; exact Sev.new (by simp) (Below.refl _ _)
  have hN1 : w.heap.size + 1 < W0.heap.size := by rw [hW0]; simp
  have HSV := hide hsv
  have HGB := hide hgb
  have hpq := hgb.2
  rw [hW0] at hpq hsv
  obtain ⟨p0, p1, p2, p3, p4⟩ := hpq
  obtain ⟨q0, q1, q2, q3, q4, q5, q6⟩ := hsv
  clear hgb
  unfold Geo.v Anc.v at *
  rcases hE2 with rfl | rfl
  · by_cases h1 : 0 ≤ zone
    · have h1' : ¬ zone < 0 := by omega
      by_cases h2 : zone < g.zones
      · have h2' : ¬ g.zones ≤ zone := by omega
        cases B with
        | true =>
          obtain rfl := YES.out rfl h1 h2 rfl
          clear h1 h2
          go_enter Tryd.func12, Tryd.ntmps12
          go_wp2_with fail
          rw [← hW0]
          refine (HCK.out _ (hT.below hb0) ha0).mono ?_
          rintro e w1 ⟨rfl, hb1⟩
          obtain ⟨_, p0, p1, p2, p3, p4⟩ := HGB.out.on hb1
          go_wp2_with fail
          refine (HIX.out _).mono ?_
          rintro e w2 ⟨rfl, hb2⟩
          obtain ⟨_, p0, p1, p2, p3, p4⟩ := HGB.out.on (th hb1 hb2)
          go_wp2_with fail
          go_ret
          exact ⟨rfl, th hb0 (th hb1 hb2)⟩
        | false =>
          obtain rfl := NO.out fun e => by cases e.2.2
          clear h1 h2
          go_enter Tryd.func12, Tryd.ntmps12
          go_wp2_with fail
          rw [← hW0]
          refine (HCK.out _ (hT.below hb0) ha0).mono ?_
          rintro e w1 ⟨rfl, hb1⟩
          obtain ⟨_, p0, p1, p2, p3, p4⟩ := HGB.out.on hb1
          go_wp2_with fail
          refine (HIX.out _).mono ?_
          rintro e w2 ⟨rfl, hb2⟩
          obtain ⟨_, p0, p1, p2, p3, p4⟩ := HGB.out.on (th hb1 hb2)
          go_wp2_with fail
          go_ret
          exact ⟨rfl, th hb0 (th hb1 hb2)⟩
      · obtain rfl := NO.out fun e => h2 e.2.1.2
        have h2' : g.zones ≤ zone := by omega
        clear h1 h2
        go_enter Tryd.func12, Tryd.ntmps12
        go_wp2_with fail
        rw [← hW0]
        refine (HCK.out _ (hT.below hb0) ha0).mono ?_
        rintro e w1 ⟨rfl, hb1⟩
        obtain ⟨_, p0, p1, p2, p3, p4⟩ := HGB.out.on hb1
        go_wp2_with fail
        refine (HIX.out _).mono ?_
        rintro e w2 ⟨rfl, hb2⟩
        obtain ⟨_, p0, p1, p2, p3, p4⟩ := HGB.out.on (th hb1 hb2)
        go_wp2_with fail
        go_ret
        exact ⟨rfl, th hb0 (th hb1 hb2)⟩
    · obtain rfl := NO.out fun e => h1 e.2.1.1
      have h1' : zone < 0 := by omega
      clear h1
      go_enter Tryd.func12, Tryd.ntmps12
      go_wp2_with fail
      rw [← hW0]
      refine (HCK.out _ (hT.below hb0) ha0).mono ?_
      rintro e w1 ⟨rfl, hb1⟩
      obtain ⟨_, p0, p1, p2, p3, p4⟩ := HGB.out.on hb1
      go_wp2_with fail
      refine (HIX.out _).mono ?_
      rintro e w2 ⟨rfl, hb2⟩
      go_wp2_with fail
      go_ret
      exact ⟨rfl, th hb0 (th hb1 hb2)⟩
  · obtain rfl := NO.out fun e => by cases e.1
    go_enter Tryd.func12, Tryd.ntmps12
    go_wp2_with fail
    rw [← hW0]
    refine (HCK.out _ (hT.below hb0) ha0).mono ?_
    rintro e w1 ⟨rfl, hb1⟩
    obtain ⟨_, p0, p1, p2, p3, p4⟩ := HGB.out.on hb1
    go_wp2_with fail
    refine (HIX.out _).mono ?_
    rintro e w2 ⟨rfl, hb2⟩
    go_wp2_with fail
    go_ret
    exact ⟨rfl, th hb0 (th hb1 hb2)⟩

set_option maxHeartbeats 1000000 in
theorem pleft_yes (g : Geo) (hG : GeoOk g) (a : Anc) (A : Option Addr) (n c z : Nat) (h : Hom) (hz : a.homes[z]? = some h) (w : World) (ha : Sl homR 3 w (Old w) A n c a.homes) (hn : 0 ≤ h.next ∧ h.next ≤ g.data + 1 + g.spares) :
    Calls Tryd.prog 13 #[g.v, a.v (.slice A n c), .int .i64 (z : Int)] w fun e w' => e = .returned (.int .i64 (g.data + 1 + g.spares - h.next)) ∧ Below w.heap.size w w' := by
  have HN := hide fun w => gslots_any g.zones g.data g.spares g.slots g.anchors ⟨by have := hG.2.1; omega, by have := hG.2.1; omega⟩ ⟨by have := hG.2.2.1; omega, by have := hG.2.2.1; omega⟩ w
  obtain ⟨D, hD⟩ : ∃ D, D = g.data + 1 + g.spares := ⟨_, rfl⟩
  rw [← hD] at HN hn ⊢
  have hD2 : 0 ≤ D ∧ D ≤ 100 := by have := hG.2.1; have := hG.2.2.1; omega
  have hzn : z < n := by rw [← ha.len]; exact (List.getElem?_eq_some_iff.1 hz).1
  obtain ⟨n0, n1⟩ := hn
  have e1 : IntKind.i64.wrap (D - h.next) = D - h.next := IntWalk.i64_in _ (by omega)
  clear hD
  obtain ⟨W0, hW0⟩ : ∃ W0, W0 = (w.alloc (.cells #[.int .i64 g.zones, .int .i64 g.data, .int .i64 g.spares, .int .i64 g.slots, .int .i64 g.anchors] 24)).alloc (.cells #[.int .i64 a.gen, .int .i64 a.epoch, .int .i64 a.pos, .int .i64 a.seq, .int .i64 a.last, .string a.label, .slice A n c] 28) := ⟨_, rfl⟩
  have hb0 : Below w.heap.size w W0 := by rw [hW0]; exact (alloc_below w _).alloc (by simp) _
  have ha0 := ha.on homR_fine hb0
  have hgb : GeoAt W0 w.heap.size g := by rw [hW0]; exact (GeoAt.new w g 24).on (alloc_below _ _)
  have hsv : Sev W0 (w.heap.size + 1) (.int .i64 a.gen) (.int .i64 a.epoch) (.int .i64 a.pos) (.int .i64 a.seq) (.int .i64 a.last) (.string a.label) (.slice A n c) := by rw [hW0]; exact Sev.new (by simp) (Below.refl _ _)
  have hN1 : w.heap.size + 1 < W0.heap.size := by rw [hW0]; simp
  have HSV := hide hsv
  have HGB := hide hgb
  have hpq := hgb.2
  rw [hW0] at hpq hsv
  obtain ⟨p0, p1, p2, p3, p4⟩ := hpq
  obtain ⟨q0, q1, q2, q3, q4, q5, q6⟩ := hsv
  clear hgb
  unfold Geo.v Anc.v at *
  obtain ⟨ad, x, A', m', c', rfl, hadl, hx, _, _, _, d0, d1, d2⟩ := at_hom ha0 hzn
  obtain rfl : x = h := by rw [hx] at hz; injection hz
  have ablk : (ad.add (z * 3)).block = ad.block := by unfold Addr.add; split <;> rfl
  have HS : Hid (∀ W, Below W0.heap.size W0 W → (W.cell? ⟨w.heap.size, 0, none⟩ = some (.int .i64 g.zones) ∧ W.cell? ⟨w.heap.size, 1, none⟩ = some (.int .i64 g.data) ∧ W.cell? ⟨w.heap.size, 2, none⟩ = some (.int .i64 g.spares) ∧ W.cell? ⟨w.heap.size, 3, none⟩ = some (.int .i64 g.slots) ∧ W.cell? ⟨w.heap.size, 4, none⟩ = some (.int .i64 g.anchors)) ∧ W.cell? ⟨w.heap.size + 1, 6, none⟩ = some (.slice (some ad) n c) ∧ W.cell? ⟨(ad.add (z * 3)).block, (ad.add (z * 3)).off + 1, none⟩ = some (.int .i64 x.next)) := hide fun W hW =>
    ⟨(HGB.out.on hW).2, (HSV.out.onB hN1 hW).2.2.2.2.2.2, (hW.cell (p := ⟨(ad.add (z * 3)).block, (ad.add (z * 3)).off + 1, none⟩) (by show (ad.add (z * 3)).block < _; rw [ablk]; exact hadl)).trans d1⟩
  have hcur := Below.refl W0.heap.size W0
  have I0 : (0 : Int) ≤ (z : Int) := by omega
  have I1 : (z : Int) < (n : Int) := by omega
  clear d0 d1 d2 hx ablk
  go_enter Tryd.func13, Tryd.ntmps13
  go_wp2_with fail
  rw [← hW0]
  clear p0 p1 p2 p3 p4 q0 q1 q2 q3 q4 q5 q6 hW0
  go_region_held3 (fun W => (W.cell? ⟨w.heap.size, 0, none⟩ = some (.int .i64 g.zones) ∧ W.cell? ⟨w.heap.size, 1, none⟩ = some (.int .i64 g.data) ∧ W.cell? ⟨w.heap.size, 2, none⟩ = some (.int .i64 g.spares) ∧ W.cell? ⟨w.heap.size, 3, none⟩ = some (.int .i64 g.slots) ∧ W.cell? ⟨w.heap.size, 4, none⟩ = some (.int .i64 g.anchors)) ∧ W.cell? ⟨w.heap.size + 1, 6, none⟩ = some (.slice (some ad) n c) ∧ W.cell? ⟨(ad.add (z * 3)).block, (ad.add (z * 3)).off + 1, none⟩ = some (.int .i64 x.next)) (first | exact HS.out _ hcur | exact HS.out _ hcur.drew) ((refine (HN.out _).mono ?_; rintro e wA ⟨rfl, hzz⟩; have hcur := th (by first | exact hcur | exact hcur.drew) hzz))
  all_goals (go_wp2_with fail; go_ret; exact ⟨rfl, th hb0 (by first | exact hcur | exact hcur.drew)⟩)

set_option maxHeartbeats 1000000 in
theorem paddr_no (g : Geo) (a : Anc) (A : Option Addr) (n c : Nat) (zone what : Int) (w : World) (hT : Tabs w) (ha : Sl homR 3 w (Old w) A n c a.homes) (hin : a.In) (hl : Light a) (hno : ¬ PlaceOk g a zone what) :
    Calls Tryd.prog 9 #[g.v, a.v (.slice A n c), .int .i64 zone, .int .i64 what] w fun e w' => e = .returned (.tuple #[.int .i64 0, .int .i64 1]) ∧ Below w.heap.size w w' := by
  have HCK := hide fun w hT h => pcheck_any g a A n c zone what w hT h hin hl
  rw [show plErr g a zone what = 1 from if_neg hno] at HCK
  obtain ⟨W0, hW0⟩ : ∃ W0, W0 = (w.alloc (.cells #[.int .i64 g.zones, .int .i64 g.data, .int .i64 g.spares, .int .i64 g.slots, .int .i64 g.anchors] 24)).alloc (.cells #[.int .i64 a.gen, .int .i64 a.epoch, .int .i64 a.pos, .int .i64 a.seq, .int .i64 a.last, .string a.label, .slice A n c] 28) := ⟨_, rfl⟩
  have hb0 : Below w.heap.size w W0 := by rw [hW0]; exact (alloc_below w _).alloc (by simp) _
  have ha0 := ha.on homR_fine hb0
  have hgb : GeoAt W0 w.heap.size g := by rw [hW0]; exact (GeoAt.new w g 24).on (alloc_below _ _)
  have hsv : Sev W0 (w.heap.size + 1) (.int .i64 a.gen) (.int .i64 a.epoch) (.int .i64 a.pos) (.int .i64 a.seq) (.int .i64 a.last) (.string a.label) (.slice A n c) := by rw [hW0]; exact Sev.new (by simp) (Below.refl _ _)
  have hN1 : w.heap.size + 1 < W0.heap.size := by rw [hW0]; simp
  have HSV := hide hsv
  have HGB := hide hgb
  have hpq := hgb.2
  rw [hW0] at hpq hsv
  obtain ⟨p0, p1, p2, p3, p4⟩ := hpq
  obtain ⟨q0, q1, q2, q3, q4, q5, q6⟩ := hsv
  clear hgb
  unfold Geo.v Anc.v at *
  go_enter Tryd.func9, Tryd.ntmps9
  go_wp2_with fail
  rw [← hW0]
  refine (HCK.out _ (hT.below hb0) ha0).mono ?_
  rintro e w1 ⟨rfl, hb1⟩
  go_wp2_with fail
  go_ret2
  exact ⟨rfl, th hb0 hb1⟩

set_option maxHeartbeats 1000000 in
theorem pspares_no (g : Geo) (a : Anc) (A : Option Addr) (n c : Nat) (zone : Int) (w : World) (hT : Tabs w) (ha : Sl homR 3 w (Old w) A n c a.homes) (hin : a.In) (hl : Light a) (hno : ¬ PlaceOk g a zone (-1)) :
    Calls Tryd.prog 8 #[g.v, a.v (.slice A n c), .int .i64 zone] w fun e w' => e = .returned (.tuple #[.int .i64 0, .int .i64 1]) ∧ Below w.heap.size w w' := by
  have HCK := hide fun w hT h => pcheck_any g a A n c zone (-1) w hT h hin hl
  rw [show plErr g a zone (-1) = 1 from if_neg hno] at HCK
  obtain ⟨W0, hW0⟩ : ∃ W0, W0 = (w.alloc (.cells #[.int .i64 g.zones, .int .i64 g.data, .int .i64 g.spares, .int .i64 g.slots, .int .i64 g.anchors] 24)).alloc (.cells #[.int .i64 a.gen, .int .i64 a.epoch, .int .i64 a.pos, .int .i64 a.seq, .int .i64 a.last, .string a.label, .slice A n c] 28) := ⟨_, rfl⟩
  have hb0 : Below w.heap.size w W0 := by rw [hW0]; exact (alloc_below w _).alloc (by simp) _
  have ha0 := ha.on homR_fine hb0
  have hgb : GeoAt W0 w.heap.size g := by rw [hW0]; exact (GeoAt.new w g 24).on (alloc_below _ _)
  have hsv : Sev W0 (w.heap.size + 1) (.int .i64 a.gen) (.int .i64 a.epoch) (.int .i64 a.pos) (.int .i64 a.seq) (.int .i64 a.last) (.string a.label) (.slice A n c) := by rw [hW0]; exact Sev.new (by simp) (Below.refl _ _)
  have hN1 : w.heap.size + 1 < W0.heap.size := by rw [hW0]; simp
  have HSV := hide hsv
  have HGB := hide hgb
  have hpq := hgb.2
  rw [hW0] at hpq hsv
  obtain ⟨p0, p1, p2, p3, p4⟩ := hpq
  obtain ⟨q0, q1, q2, q3, q4, q5, q6⟩ := hsv
  clear hgb
  unfold Geo.v Anc.v at *
  go_enter Tryd.func8, Tryd.ntmps8
  go_wp2_with fail
  rw [← hW0]
  refine (HCK.out _ (hT.below hb0) ha0).mono ?_
  rintro e w1 ⟨rfl, hb1⟩
  go_wp2_with fail
  go_ret2
  exact ⟨rfl, th hb0 hb1⟩

set_option maxHeartbeats 1000000 in
theorem pspares_yes (g : Geo) (a : Anc) (A : Option Addr) (n c z : Nat) (w : World) (hT : Tabs w) (ha : Sl homR 3 w (Old w) A n c a.homes) (hin : a.In) (hl : Light a) (hok : PlaceOk g a (z : Int) (-1)) (h : Hom) (hz : a.homes[z]? = some h) :
    Calls Tryd.prog 8 #[g.v, a.v (.slice A n c), .int .i64 (z : Int)] w fun e w' => e = .returned (.tuple #[.int .i64 (g.data + 1 + g.spares - h.next), .int .i64 0]) ∧ Below w.heap.size w w' := by
  have HCK := hide fun w hT h => pcheck_any g a A n c (z : Int) (-1) w hT h hin hl
  rw [show plErr g a (z : Int) (-1) = 0 from if_pos hok] at HCK
  have hnx := (hok.2.1.2.2.2 h (List.mem_of_getElem? hz)).2.1
  have hd := hok.1.2.1
  have HLF := hide fun w ha => pleft_yes g hok.1 a A n c z h hz w ha ⟨by omega, hnx.2⟩
  clear hnx hd hok
  obtain ⟨W0, hW0⟩ : ∃ W0, W0 = (w.alloc (.cells #[.int .i64 g.zones, .int .i64 g.data, .int .i64 g.spares, .int .i64 g.slots, .int .i64 g.anchors] 24)).alloc (.cells #[.int .i64 a.gen, .int .i64 a.epoch, .int .i64 a.pos, .int .i64 a.seq, .int .i64 a.last, .string a.label, .slice A n c] 28) := ⟨_, rfl⟩
  have hb0 : Below w.heap.size w W0 := by rw [hW0]; exact (alloc_below w _).alloc (by simp) _
  have ha0 := ha.on homR_fine hb0
  have hgb : GeoAt W0 w.heap.size g := by rw [hW0]; exact (GeoAt.new w g 24).on (alloc_below _ _)
  have hsv : Sev W0 (w.heap.size + 1) (.int .i64 a.gen) (.int .i64 a.epoch) (.int .i64 a.pos) (.int .i64 a.seq) (.int .i64 a.last) (.string a.label) (.slice A n c) := by rw [hW0]; exact Sev.new (by simp) (Below.refl _ _)
  have hN1 : w.heap.size + 1 < W0.heap.size := by rw [hW0]; simp
  have HSV := hide hsv
  have HGB := hide hgb
  have hpq := hgb.2
  rw [hW0] at hpq hsv
  obtain ⟨p0, p1, p2, p3, p4⟩ := hpq
  obtain ⟨q0, q1, q2, q3, q4, q5, q6⟩ := hsv
  clear hgb
  unfold Geo.v Anc.v at *
  go_enter Tryd.func8, Tryd.ntmps8
  go_wp2_with fail
  rw [← hW0]
  refine (HCK.out _ (hT.below hb0) ha0).mono ?_
  rintro e w1 ⟨rfl, hb1⟩
  obtain ⟨_, p0, p1, p2, p3, p4⟩ := HGB.out.on hb1
  obtain ⟨q0, q1, q2, q3, q4, q5, q6⟩ := HSV.out.onB hN1 hb1
  go_wp2_with fail
  refine (HLF.out _ (ha0.on homR_fine hb1)).mono ?_
  rintro e w2 ⟨rfl, hb2⟩
  go_wp2_with fail
  go_ret2
  exact ⟨rfl, th hb0 (th hb1 hb2)⟩

end Go.Proofs.YtjlppkbmapmbiaaDoor

namespace Go.Proofs.YtjlppkbmapmbiaaDoor
open Go.RowKit Go.Lib
set_option linter.unusedVariables false
set_option maxRecDepth 100000

set_option maxHeartbeats 8000000 in
theorem paddr_yes (g : Geo) (a : Anc) (A : Option Addr) (n c z i : Nat) (what : Int) (w : World) (hT : Tabs w) (ha : Sl homR 3 w (Old w) A n c a.homes) (hin : a.In) (hl : Light a) (hok : PlaceOk g a (z : Int) what) (h : Hom) (hz : a.homes[z]? = some h) (hi : atI g what = (i : Int)) (p : Int) (hp : h.places[i]? = some p) :
    Calls Tryd.prog 9 #[g.v, a.v (.slice A n c), .int .i64 (z : Int), .int .i64 what] w fun e w' => e = .returned (.tuple #[.int .i64 (slotN g z p), .int .i64 0]) ∧ Below w.heap.size w w' := by
  have HCK := hide fun w hT h => pcheck_any g a A n c (z : Int) what w hT h hin hl
  have HIX := hide fun w => pindex_any g what w
  rw [show plErr g a (z : Int) what = 0 from if_pos hok] at HCK
  rw [decide_eq_true hok.2.2.2, hi] at HIX
  have hhom := hok.2.1.2.2.2 h (List.mem_of_getElem? hz)
  have hpl := (hhom.2.2.2 i p hp).1
  have hnx := hhom.2.1
  have HSL := hide fun w => gslot_yes g hok.1 (z : Int) p ⟨by omega, by have := hok.2.2.1; omega⟩ ⟨hpl.1, by omega⟩ w
  have hzn : z < n := by rw [← ha.len]; exact (List.getElem?_eq_some_iff.1 hz).1
  clear hok hi hhom hpl hnx hl
  obtain ⟨W0, hW0⟩ : ∃ W0, W0 = (w.alloc (.cells #[.int .i64 g.zones, .int .i64 g.data, .int .i64 g.spares, .int .i64 g.slots, .int .i64 g.anchors] 24)).alloc (.cells #[.int .i64 a.gen, .int .i64 a.epoch, .int .i64 a.pos, .int .i64 a.seq, .int .i64 a.last, .string a.label, .slice A n c] 28) := ⟨_, rfl⟩
  have hb0 : Below w.heap.size w W0 := by rw [hW0]; exact (alloc_below w _).alloc (by simp) _
  have ha0 := ha.on homR_fine hb0
  have hgb : GeoAt W0 w.heap.size g := by rw [hW0]; exact (GeoAt.new w g 24).on (alloc_below _ _)
  have hsv : Sev W0 (w.heap.size + 1) (.int .i64 a.gen) (.int .i64 a.epoch) (.int .i64 a.pos) (.int .i64 a.seq) (.int .i64 a.last) (.string a.label) (.slice A n c) := by rw [hW0]; exact Sev.new (by simp) (Below.refl _ _)
  have hN1 : w.heap.size + 1 < W0.heap.size := by rw [hW0]; simp
  have HSV := hide hsv
  have HGB := hide hgb
  have hpq := hgb.2
  rw [hW0] at hpq hsv
  obtain ⟨p0, p1, p2, p3, p4⟩ := hpq
  obtain ⟨q0, q1, q2, q3, q4, q5, q6⟩ := hsv
  clear hgb
  unfold Geo.v Anc.v at *
  obtain ⟨ad, x, A', m', c', rfl, hadl, hx, _, _, hs, d0, d1, d2⟩ := at_hom ha0 hzn
  obtain rfl : x = h := by rw [hx] at hz; injection hz
  have him : i < m' := by rw [← hs.len]; exact (List.getElem?_eq_some_iff.1 hp).1
  obtain ⟨pd, y, rfl, hpdl, hy, _, hpc⟩ := at_int hs him
  obtain rfl : y = p := by rw [hy] at hp; injection hp
  have ablk : (ad.add (z * 3)).block = ad.block := by unfold Addr.add; split <;> rfl
  have HS : Hid (∀ W, Below W0.heap.size W0 W → (W.cell? ⟨w.heap.size, 0, none⟩ = some (.int .i64 g.zones) ∧ W.cell? ⟨w.heap.size, 1, none⟩ = some (.int .i64 g.data) ∧ W.cell? ⟨w.heap.size, 2, none⟩ = some (.int .i64 g.spares) ∧ W.cell? ⟨w.heap.size, 3, none⟩ = some (.int .i64 g.slots) ∧ W.cell? ⟨w.heap.size, 4, none⟩ = some (.int .i64 g.anchors)) ∧ W.cell? ⟨w.heap.size + 1, 6, none⟩ = some (.slice (some ad) n c) ∧ W.cell? (ad.add (z * 3)) = some (.slice (some pd) m' c') ∧ W.cell? (pd.add i) = some (.int .i64 y)) := hide fun W hW =>
    ⟨(HGB.out.on hW).2, (HSV.out.onB hN1 hW).2.2.2.2.2.2, below_cell hW hadl d0, below_cell hW hpdl hpc⟩
  have I0 : (0 : Int) ≤ (z : Int) := by omega
  have I1 : (z : Int) < (n : Int) := by omega
  have I2 : (0 : Int) ≤ (i : Int) := by omega
  have I3 : (i : Int) < (m' : Int) := by omega
  clear d0 d1 d2 hx hy hpc ablk
  go_enter Tryd.func9, Tryd.ntmps9
  go_wp2_with fail
  rw [← hW0]
  clear hW0 p0 p1 p2 p3 p4 q0 q1 q2 q3 q4 q5 q6
  refine (HCK.out _ (hT.below hb0) ha0).mono ?_
  rintro e w1 ⟨rfl, hb1⟩
  obtain ⟨⟨p0, p1, p2, p3, p4⟩, q6, d0, y0⟩ := HS.out _ hb1
  go_wp2_with fail
  refine (HIX.out _).mono ?_
  rintro e w2 ⟨rfl, hb2⟩
  have hcur := th hb1 hb2
  go_wp2_with fail
  go_region_held3 (fun W => (W.cell? ⟨w.heap.size, 0, none⟩ = some (.int .i64 g.zones) ∧ W.cell? ⟨w.heap.size, 1, none⟩ = some (.int .i64 g.data) ∧ W.cell? ⟨w.heap.size, 2, none⟩ = some (.int .i64 g.spares) ∧ W.cell? ⟨w.heap.size, 3, none⟩ = some (.int .i64 g.slots) ∧ W.cell? ⟨w.heap.size, 4, none⟩ = some (.int .i64 g.anchors)) ∧ W.cell? ⟨w.heap.size + 1, 6, none⟩ = some (.slice (some ad) n c) ∧ W.cell? (ad.add (z * 3)) = some (.slice (some pd) m' c') ∧ W.cell? (pd.add i) = some (.int .i64 y)) (first | exact HS.out _ hcur | exact HS.out _ hcur.drew) ((go_at_call 10; (with_reducible refine (HSL.out _).mono ?_); rintro e wA ⟨rfl, hzz⟩; have hcur := th (by first | exact hcur | exact hcur.drew) hzz))
  all_goals (go_wp2_with fail; go_ret2; exact ⟨rfl, th hb0 (by first | exact hcur | exact hcur.drew)⟩)

end Go.Proofs.YtjlppkbmapmbiaaDoor
