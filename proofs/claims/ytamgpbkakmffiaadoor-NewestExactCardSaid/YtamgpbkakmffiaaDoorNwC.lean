/-
  Contracts: geom.Anchor; newest.Cell.
  Contract: newest.Says.
  Contract: newest.Pick of as many readings as there are anchors.
  casematelaw09.wakes; what a sealed anchor says; a list of two readings.
  Contracts: newest.Pick of a geometry that is none, of another count of readings.
  The walk of casematelaw09.NewestGens.
  Contracts: casematelaw09.Heavy; casematekeep.Gots (of alike lists).
  Contracts: casemateref08.Says, AnchorCell.
  Contract: casemateref08.Newest.
-/
import Derived.Test.YtamgpbkakmffiaaDoorPl1
import Derived.Test.YtamgpbkakmffiaaDoorAncL4
import Derived.Test.YtamgpbkakmffiaaDoorSeal
import Derived.Test.YtamgpbkakmffiaaDoorSealO
import Derived.Test.YtamgpbkakmffiaaDoorAncL1
import Derived.Test.YtamgpbkakmffiaaDoorAncG
import Derived.Deep.RegionHeld3
import Derived.Deep.CutRange
import Derived.Deep.DeepCutAuto
import Derived.BigQuiet
import Derived.Deep.QuietTactic
import Derived.Test.YtamgpbkakmffiaaDoorAncV
import Derived.Test.YtamgpbkakmffiaaDoorEntR
namespace Go.Proofs.YtamgpbkakmffiaaDoor
open Go.RowKit Go.Lib
set_option linter.unusedVariables false
set_option maxRecDepth 100000

theorem told_no (g : Geo) (hG : GeoOk g) (n : Int) (w : World) : Calls Tryd.prog 66 #[g.v, .int .i64 n, .bool false] w fun e w' => e = .returned (.tuple #[.int .i64 0, .int .i64 1]) ∧ Below w.heap.size w w' := by
  have hc := fun w => gcheck_any g w
  rw [show geoErr g = 0 from if_pos hG] at hc
  have HC := hide hc
  clear hc hG
  obtain ⟨z, d, s, l, a⟩ := g
  unfold Geo.v at *
  dsimp only at *
  obtain ⟨W0, hW0⟩ : ∃ W0, W0 = w.alloc (.cells #[.int .i64 z, .int .i64 d, .int .i64 s, .int .i64 l, .int .i64 a] 23) := ⟨_, rfl⟩
  have hb0 : Below w.heap.size w W0 := by rw [hW0]; exact alloc_below w _
  have BX : Hid (∀ w', Below W0.heap.size W0 w' → w'.cell? ⟨w.heap.size, 0, none⟩ = some (.int .i64 z) ∧ w'.cell? ⟨w.heap.size, 1, none⟩ = some (.int .i64 d) ∧ w'.cell? ⟨w.heap.size, 2, none⟩ = some (.int .i64 s) ∧ w'.cell? ⟨w.heap.size, 3, none⟩ = some (.int .i64 l) ∧ w'.cell? ⟨w.heap.size, 4, none⟩ = some (.int .i64 a)) := hide fun w' hb => by
    subst hW0
    exact ⟨box_cell hb 0 _ rfl, box_cell hb 1 _ rfl, box_cell hb 2 _ rfl, box_cell hb 3 _ rfl, box_cell hb 4 _ rfl⟩
  obtain ⟨p0, p1, p2, p3, p4⟩ := BX.out _ (Below.refl _ _)
  rw [hW0] at p0 p1 p2 p3 p4
  go_enter Tryd.func66, Tryd.ntmps66
  go_wp2_with fail
  rw [← hW0]
  refine (HC.out _).mono ?_
  rintro e w1 ⟨rfl, hb1⟩
  go_wp2_with fail
  go_ret2
  exact ⟨rfl, th hb0 hb1⟩

/-- What geom.Anchor tells, of a right geometry. -/
def ganErr (g : Geo) (i : Int) : Int := if 0 ≤ i ∧ i ≤ g.anchors - 1 then 0 else 1
def ganAt (g : Geo) (i : Int) : Int := if 0 ≤ i ∧ i ≤ g.anchors - 1 then i else 0
theorem ganchor_any (g : Geo) (hG : GeoOk g) (i : Int) (hi : InI i) (w : World) : Calls Tryd.prog 89 #[g.v, .int .i64 i] w fun e w' => e = .returned (.tuple #[.int .i64 (ganAt g i), .int .i64 (ganErr g i)]) ∧ Below w.heap.size w w' := by
  have HT : Hid (∀ w, Calls Tryd.prog 66 #[g.v, .int .i64 i, .bool (decide (0 ≤ i ∧ i ≤ g.anchors - 1))] w fun e w' => e = .returned (.tuple #[.int .i64 (ganAt g i), .int .i64 (ganErr g i)]) ∧ Below w.heap.size w w') := hide fun w => by
    unfold ganAt ganErr
    by_cases h : 0 ≤ i ∧ i ≤ g.anchors - 1
    · rw [decide_eq_true h, if_pos h, if_pos h]; exact told_yes g hG i hi w
    · rw [decide_eq_false h, if_neg h, if_neg h]; exact told_no g hG i w
  have HIN := hide fun w => gin_any i 0 (g.anchors - 1) w
  obtain ⟨B, hB⟩ : ∃ B, B = decide (0 ≤ i ∧ i ≤ g.anchors - 1) := ⟨_, rfl⟩
  obtain ⟨X, hX⟩ : ∃ X, X = ganAt g i := ⟨_, rfl⟩
  obtain ⟨E, hE⟩ : ∃ E, E = ganErr g i := ⟨_, rfl⟩
  rw [← hB] at HT HIN
  rw [← hX, ← hE] at HT ⊢
  clear hB hX hE
  obtain ⟨⟨z1, z4⟩, ⟨d1, d4⟩, ⟨s0, s2⟩, ⟨sl1, sl2⟩, an1, an3⟩ := hG
  obtain ⟨z, d, s, l, a⟩ := g
  unfold Geo.v at *
  dsimp only at *
  have e1 : IntKind.i64.wrap (a - 1) = a - 1 := IntWalk.i64_in _ (by omega)
  obtain ⟨W0, hW0⟩ : ∃ W0, W0 = w.alloc (.cells #[.int .i64 z, .int .i64 d, .int .i64 s, .int .i64 l, .int .i64 a] 23) := ⟨_, rfl⟩
  have hb0 : Below w.heap.size w W0 := by rw [hW0]; exact alloc_below w _
  have BX : Hid (∀ w', Below W0.heap.size W0 w' → w'.cell? ⟨w.heap.size, 0, none⟩ = some (.int .i64 z) ∧ w'.cell? ⟨w.heap.size, 1, none⟩ = some (.int .i64 d) ∧ w'.cell? ⟨w.heap.size, 2, none⟩ = some (.int .i64 s) ∧ w'.cell? ⟨w.heap.size, 3, none⟩ = some (.int .i64 l) ∧ w'.cell? ⟨w.heap.size, 4, none⟩ = some (.int .i64 a)) := hide fun w' hb => by
    subst hW0
    exact ⟨box_cell hb 0 _ rfl, box_cell hb 1 _ rfl, box_cell hb 2 _ rfl, box_cell hb 3 _ rfl, box_cell hb 4 _ rfl⟩
  obtain ⟨p0, p1, p2, p3, p4⟩ := BX.out _ (Below.refl _ _)
  have hcur := Below.refl W0.heap.size W0
  rw [hW0] at p0 p1 p2 p3 p4
  go_enter Tryd.func89, Tryd.ntmps89
  go_wp2_with fail
  rw [← hW0]
  clear p0 p1 p2 p3 p4 hW0
  go_region_held3 (fun w' => w'.cell? ⟨w.heap.size, 0, none⟩ = some (.int .i64 z) ∧ w'.cell? ⟨w.heap.size, 1, none⟩ = some (.int .i64 d) ∧ w'.cell? ⟨w.heap.size, 2, none⟩ = some (.int .i64 s) ∧ w'.cell? ⟨w.heap.size, 3, none⟩ = some (.int .i64 l) ∧ w'.cell? ⟨w.heap.size, 4, none⟩ = some (.int .i64 a)) (first | exact BX.out _ hcur | exact BX.out _ hcur.drew) (first
    | (go_at_call 69; (with_reducible refine (HIN.out _).mono ?_); rintro e wB ⟨rfl, rfl⟩)
    | (go_at_call 66; (with_reducible refine (HT.out _).mono ?_); rintro e wA ⟨rfl, hz⟩; have hcur := th (by first | with_reducible exact hcur | with_reducible exact hcur.drew) hz))
  all_goals (go_wp2_with fail; go_ret2; exact ⟨rfl, th hb0 (by first | exact hcur | exact hcur.drew)⟩)

/-- An anchor's cell that there is. -/
def CellOk (g : Geo) (a : Anc) (i : Int) : Prop := GeoOk g ∧ AncOk g a ∧ 0 ≤ i ∧ i ≤ g.anchors - 1
instance (g : Geo) (a : Anc) (i : Int) : Decidable (CellOk g a i) := by unfold CellOk; infer_instance

set_option maxHeartbeats 2000000 in
theorem ncell_no (g : Geo) (a : Anc) (A : Option Addr) (n c : Nat) (i : Int) (hi : InI i) (w : World) (hT : Tabs w) (ha : Sl homR 3 w (Old w) A n c a.homes) (hin : a.In) (hl : Light a) (hno : ¬ CellOk g a i) :
    Calls Tryd.prog 48 #[g.v, a.v (.slice A n c), .int .i64 i] w fun e w' => e = .returned (.tuple #[.slice none 0 0, .int .i64 1]) ∧ Below w.heap.size w w' := by
  have HN := hide fun hno w hT h => abytes_no (g := g) (a := a) hno (A := A) (n := n) (c := c) (w := w) hT h hin hl
  have HY := hide fun hG ho w hT h => abytes_yes (g := g) (a := a) hG ho (A := A) (n := n) (c := c) (w := w) hT h hin hl
  have HGA := hide fun hG w => ganchor_any g hG i hi w
  obtain ⟨W0, hW0⟩ : ∃ W0, W0 = (w.alloc (.cells #[.int .i64 g.zones, .int .i64 g.data, .int .i64 g.spares, .int .i64 g.slots, .int .i64 g.anchors] 23)).alloc (.cells #[.int .i64 a.gen, .int .i64 a.epoch, .int .i64 a.pos, .int .i64 a.seq, .int .i64 a.last, .string a.label, .slice A n c] 26) := ⟨_, rfl⟩
  have hb0 : Below w.heap.size w W0 := by rw [hW0]; exact (alloc_below w _).alloc (by simp) _
  have ha0 := ha.on homR_fine hb0
  have hgb : GeoAt W0 w.heap.size g := by rw [hW0]; exact (GeoAt.new w g 23).on (alloc_below _ _)
  have hsv : Sev W0 (w.heap.size + 1) (.int .i64 a.gen) (.int .i64 a.epoch) (.int .i64 a.pos) (.int .i64 a.seq) (.int .i64 a.last) (.string a.label) (.slice A n c) := by rw [hW0]; exact Sev.new (by simp) (Below.refl _ _)
  have hN1 : w.heap.size + 1 < W0.heap.size := by rw [hW0]; simp
  have HSV := hide hsv
  have HGB := hide hgb
  have hpq := hgb.2
  rw [hW0] at hpq hsv
  obtain ⟨p0, p1, p2, p3, p4⟩ := hpq
  obtain ⟨q0, q1, q2, q3, q4, q5, q6⟩ := hsv
  clear hgb
  unfold Geo.v Anc.v at *
  by_cases ho : GeoOk g ∧ AncOk g a
  · have hi2 : ¬ (0 ≤ i ∧ i ≤ g.anchors - 1) := fun h => hno ⟨ho.1, ho.2, h.1, h.2⟩
    have HY1 := hide (HY.out ho.1 ho.2)
    have HG1 := hide (HGA.out ho.1)
    rw [show ganErr g i = 1 from if_neg hi2, show ganAt g i = 0 from if_neg hi2] at HG1
    obtain ⟨LA, hLA⟩ : ∃ LA, LA = (ancL a).length := ⟨_, rfl⟩
    rw [← hLA] at HY1
    clear ho hi2 hno hLA
    go_enter Tryd.func48, Tryd.ntmps48
    go_wp2_with fail
    rw [← hW0]
    clear hW0 p0 p1 p2 p3 p4 q0 q1 q2 q3 q4 q5 q6
    refine (HY1.out _ (hT.below hb0) ha0).mono ?_
    rintro e w1 ⟨hb1, V1, c1, rfl, ho1⟩
    obtain ⟨_, p0, p1, p2, p3, p4⟩ := HGB.out.on hb1
    go_wp2_with fail
    refine (HG1.out _).mono ?_
    rintro e w2 ⟨rfl, hb2⟩
    go_wp2_with fail
    go_ret2
    exact ⟨rfl, th hb0 (th hb1 hb2)⟩
  · have HN1 := hide (HN.out ho)
    clear ho hno
    go_enter Tryd.func48, Tryd.ntmps48
    go_wp2_with fail
    rw [← hW0]
    clear hW0 p0 p1 p2 p3 p4 q0 q1 q2 q3 q4 q5 q6
    refine (HN1.out _ (hT.below hb0) ha0).mono ?_
    rintro e w1 ⟨hb1, V1, c1, rfl⟩
    go_wp2_with fail
    go_ret2
    exact ⟨rfl, th hb0 hb1⟩

set_option maxHeartbeats 2000000 in
theorem ncell_yes (g : Geo) (a : Anc) (A : Option Addr) (n c : Nat) (i : Nat) (w : World) (hT : Tabs w) (ha : Sl homR 3 w (Old w) A n c a.homes) (hin : a.In) (hl : Light a) (hok : CellOk g a (i : Int)) :
    Calls Tryd.prog 48 #[g.v, a.v (.slice A n c), .int .i64 (i : Int)] w fun e w' => ∃ V cv, e = .returned (.tuple #[.slice V ((ancL a).length + 11) cv, .int .i64 0]) ∧ Ow byteR 1 w' w.heap.size w.heap.size 5 (.slice V ((ancL a).length + 11) cv) ((ancL a).length + 11) (sealL i a.gen.toNat (ancL a)) ∧ Below w.heap.size w w' := by
  obtain ⟨hG, hO, i0, i1⟩ := hok
  have han := hG.2.2.2.2
  have hrm := anc_room hG hO
  have HY := hide fun w hT h => abytes_yes (g := g) (a := a) hG hO (A := A) (n := n) (c := c) (w := w) hT h hin hl
  have HG1 := hide fun w => ganchor_any g hG (i : Int) ⟨by omega, by omega⟩ w
  rw [show ganErr g (i : Int) = 0 from if_pos ⟨i0, i1⟩, show ganAt g (i : Int) = (i : Int) from if_pos ⟨i0, i1⟩] at HG1
  obtain ⟨G, hGn⟩ : ∃ G : Nat, a.gen = (G : Int) := ⟨a.gen.toNat, by have := hO.1.1.1; omega⟩
  have hGb : G ≤ 4294967295 := by have := hO.1.1.2; omega
  rw [hGn]
  obtain ⟨LL, hLL⟩ : ∃ LL, LL = ancL a := ⟨_, rfl⟩
  rw [← hLL] at HY hrm ⊢
  obtain ⟨LA, hLA⟩ : ∃ LA, LA = LL.length := ⟨_, rfl⟩
  rw [← hLA] at HY hrm ⊢
  have HMK := hide fun (V : Option Addr) (d : Nat) w h => make_ok (A := V) (n := LA) (c := d) (l := LL) (w := w) h i G (by omega) hGb (by omega)
  have hib : i ≤ 65535 := by omega
  clear hG hO i0 i1 han hrm hLL hLA hl hin
  obtain ⟨W0, hW0⟩ : ∃ W0, W0 = (w.alloc (.cells #[.int .i64 g.zones, .int .i64 g.data, .int .i64 g.spares, .int .i64 g.slots, .int .i64 g.anchors] 23)).alloc (.cells #[.int .i64 a.gen, .int .i64 a.epoch, .int .i64 a.pos, .int .i64 a.seq, .int .i64 a.last, .string a.label, .slice A n c] 26) := ⟨_, rfl⟩
  have hb0 : Below w.heap.size w W0 := by rw [hW0]; exact (alloc_below w _).alloc (by simp) _
  have ha0 := ha.on homR_fine hb0
  have hgb : GeoAt W0 w.heap.size g := by rw [hW0]; exact (GeoAt.new w g 23).on (alloc_below _ _)
  have hsv : Sev W0 (w.heap.size + 1) (.int .i64 a.gen) (.int .i64 a.epoch) (.int .i64 a.pos) (.int .i64 a.seq) (.int .i64 a.last) (.string a.label) (.slice A n c) := by rw [hW0]; exact Sev.new (by simp) (Below.refl _ _)
  have hN1 : w.heap.size + 1 < W0.heap.size := by rw [hW0]; simp
  have HSV := hide hsv
  have HGB := hide hgb
  have hpq := hgb.2
  rw [hW0] at hpq hsv
  obtain ⟨p0, p1, p2, p3, p4⟩ := hpq
  obtain ⟨q0, q1, q2, q3, q4, q5, q6⟩ := hsv
  clear hgb
  unfold Geo.v Anc.v at *
  rw [hGn] at *
  go_enter Tryd.func48, Tryd.ntmps48
  go_wp2_with fail
  rw [← hW0]
  clear hW0 p0 p1 p2 p3 p4 q0 q1 q2 q3 q4 q5 q6
  refine (HY.out _ (hT.below hb0) ha0).mono ?_
  rintro e w1 ⟨hb1, V1, c1, rfl, ho1⟩
  obtain ⟨_, p0, p1, p2, p3, p4⟩ := HGB.out.on hb1
  go_wp2_with fail
  refine (HG1.out _).mono ?_
  rintro e w2 ⟨rfl, hb2⟩
  have hb02 := th hb1 hb2
  obtain ⟨q0, _⟩ := HSV.out.onB hN1 hb02
  go_wp2_with fail
  refine (HMK.out _ _ _ ((ho1.read byteR_fine).on byteR_fine hb2)).mono ?_
  rintro e w3 ⟨V3, c3, rfl, ho3, hb3⟩
  go_wp2_with fail
  go_ret2
  exact ⟨V3, c3, rfl, ho3.less byteR_fine (th hb0 hb02).size (th hb0 hb02).size, th hb0 (th hb02 hb3)⟩

end Go.Proofs.YtamgpbkakmffiaaDoor

namespace Go.Proofs.YtamgpbkakmffiaaDoor
open Go.RowKit Go.Lib
set_option linter.unusedVariables false
set_option maxRecDepth 100000

/-- The anchor that a reading says, if any. -/
def saysN (g : Geo) (err : Int) (l : List UInt8) (addr : Int) : Option Anc :=
  if GeoOk g ∧ (0 ≤ addr ∧ addr ≤ 65535) ∧ err = 0 ∧ (openS l).2 = 0 ∧ (openS l).1.addr = addr then
    match ancOf g.zones.toNat g.data.toNat (openS l).1.load with
    | some a => if AncOk g a ∧ a.gen = (openS l).1.stamp then some a else none
    | none => none
  else none
def SaysIs (S : Option Anc) (a : Anc) (r : Bool) : Prop := (r = true ∧ S = some a) ∨ (r = false ∧ a = noAnc ∧ S = none)
theorem says_no : SaysIs none noAnc false := .inr ⟨rfl, rfl, rfl⟩
theorem says_yes (a : Anc) : SaysIs (some a) a true := .inl ⟨rfl, rfl⟩
def SaysPost (w : World) (S : Option Anc) (e : Ending) (w' : World) : Prop := Below w.heap.size w w' ∧ ∃ (a : Anc) (V : Option Addr) (n c : Nat) (r : Bool), e = .returned (.tuple #[a.v (.slice V n c), .bool r]) ∧ Sl homR 3 w' (New w.heap.size w') V n c a.homes ∧ SaysIs S a r
theorem open_len (l : List UInt8) : (openS l).1.load.length ≤ l.length := by
  unfold openS
  repeat' split
  all_goals (first | (show ([] : List UInt8).length ≤ _; exact Nat.zero_le _) | (show ((l.drop 1).take _).length ≤ _; rw [List.length_take, List.length_drop]; omega))

set_option maxHeartbeats 8000000 in
theorem nsays_any (g : Geo) (err : Int) (A : Option Addr) (n c : Nat) (l : List UInt8) (addr : Int) (w : World) (hT : Tabs w) (hl : Bs w A n c l) (hn : n ≤ 60000) :
    Calls Tryd.prog 46 #[g.v, .agg #[.int .i64 err, .slice A n c], .int .i64 addr] w (SaysPost w (saysN g err l addr)) := by
  have HCK := hide fun w => gcheck_any g w
  have HOP := hide fun w h => open_any (A := A) (n := n) (c := c) (l := l) (w := w) h (by omega)
  have hol : (openS l).1.load.length ≤ 60000 := by have := open_len l; have := hl.len; omega
  have HRD := hide fun V m d w hT h hm => aread_any g V m d (openS l).1.load w hT h hm
  unfold OpenPost at HOP
  unfold AReadPost at HRD
  obtain ⟨S, hS⟩ : ∃ S, S = saysN g err l addr := ⟨_, rfl⟩
  rw [← hS]
  have HS : Hid (S = saysN g err l addr) := hide hS
  have HNO : Hid (¬ (GeoOk g ∧ (0 ≤ addr ∧ addr ≤ 65535) ∧ err = 0 ∧ (openS l).2 = 0 ∧ (openS l).1.addr = addr) → S = none) := hide fun h => by rw [HS.out]; exact if_neg h
  have HYES : Hid ((GeoOk g ∧ (0 ≤ addr ∧ addr ≤ 65535) ∧ err = 0 ∧ (openS l).2 = 0 ∧ (openS l).1.addr = addr) → S = match ancOf g.zones.toNat g.data.toNat (openS l).1.load with | some a => if AncOk g a ∧ a.gen = (openS l).1.stamp then some a else none | none => none) := hide fun h => by rw [HS.out]; exact if_pos h
  clear hS
  obtain ⟨OS, hOS⟩ : ∃ OS, OS = openS l := ⟨_, rfl⟩
  rw [← hOS] at HOP HRD HNO HYES hol
  have HOL := hide hol
  clear hol hOS HS
  unfold SaysPost
  obtain ⟨W0, hW0⟩ : ∃ W0, W0 = ((w.alloc (.cells #[.int .i64 g.zones, .int .i64 g.data, .int .i64 g.spares, .int .i64 g.slots, .int .i64 g.anchors] 23)).alloc (.cells #[.int .i64 err, .slice A n c] 78)).alloc (.cells #[.int .i64 0, .int .i64 0, .int .i64 0, .int .i64 0, .int .i64 0, .string ⟨#[]⟩, .slice none 0 0] 26) := ⟨_, rfl⟩
  have hs0 : W0.heap.size = w.heap.size + 3 := by rw [hW0]; simp
  have hb0 : Below w.heap.size w W0 := by rw [hW0]; exact ((alloc_below w _).alloc (by simp) _).alloc (by simp; omega) _
  have hl0 := hl.on byteR_fine hb0
  have hgb : GeoAt W0 w.heap.size g := by rw [hW0]; exact (GeoAt.new w g 23).on ((alloc_below _ _).alloc (by simp) _)
  have hxb : ∀ W, Below W0.heap.size W0 W → W.cell? ⟨w.heap.size + 1, 0, none⟩ = some (.int .i64 err) ∧ W.cell? ⟨w.heap.size + 1, 1, none⟩ = some (.slice A n c) := fun W hW => by
    have h2 := th (alloc_below _ _) (show Below (((w.alloc (.cells #[.int .i64 g.zones, .int .i64 g.data, .int .i64 g.spares, .int .i64 g.slots, .int .i64 g.anchors] 23)).alloc (.cells #[.int .i64 err, .slice A n c] 78)).alloc (.cells #[.int .i64 0, .int .i64 0, .int .i64 0, .int .i64 0, .int .i64 0, .string ⟨#[]⟩, .slice none 0 0] 26)).heap.size _ W by rw [← hW0]; exact hW)
    exact ⟨bx_at2 (by simp) h2 0 _ rfl, bx_at2 (by simp) h2 1 _ rfl⟩
  have hzv : Sev W0 (w.heap.size + 1 + 1) (.int .i64 0) (.int .i64 0) (.int .i64 0) (.int .i64 0) (.int .i64 0) (.string ⟨#[]⟩) (.slice none 0 0) := by rw [hW0]; exact Sev.new (by simp) (Below.refl _ _)
  have hfZ : ∀ W, Below W0.heap.size W0 W → ∀ k, W.frozen? ⟨w.heap.size + 1 + 1, k, none⟩ = false := fun W hW k => (hW.frozen (by show w.heap.size + 1 + 1 < _; omega)).trans (by rw [hW0]; exact bx_free2 (by simp) (Below.refl _ _) k)
  have HXB := hide hxb
  have HFZ := hide hfZ
  have HZV := hide hzv
  have HGB := hide hgb
  have hpq := hgb.2
  have hxq := hxb W0 (Below.refl _ _)
  rw [hW0] at hpq hxq
  obtain ⟨p0, p1, p2, p3, p4⟩ := hpq
  obtain ⟨x0, x1⟩ := hxq
  clear hgb hzv hfZ hxb
  unfold Geo.v at *
  by_cases hG : GeoOk g
  · rw [show geoErr g = 0 from if_pos hG] at HCK
    by_cases h0 : 0 ≤ addr
    · by_cases h1 : addr ≤ 65535
      · by_cases h2 : err = 0
        · subst h2
          have t1 : ¬ addr < 0 := by omega
          have t2 : ¬ 65535 < addr := by omega
          obtain ⟨⟨oa, os, ol⟩, oe⟩ := OS
          dsimp only at *
          by_cases h3 : oe = 0
          · subst h3
            by_cases h4 : oa = addr
            · subst h4
              have HM := hide (HYES.out ⟨hG, ⟨h0, h1⟩, rfl, rfl, rfl⟩)
              have HGO := hide hG
              clear hG h0 h1 HNO HYES
              go_enter Tryd.func46, Tryd.ntmps46
              go_wp2_with fail
              rw [← hW0]
              clear hW0 p0 p1 p2 p3 p4 x0 x1
              refine (HCK.out _).mono ?_
              rintro e w1 ⟨rfl, hb1⟩
              obtain ⟨x0, x1⟩ := HXB.out _ hb1
              go_wp2_with fail
              refine (HOP.out _ (hl0.on byteR_fine hb1)).mono ?_
              rintro e w2 ⟨VO, no, co, rfl, hs2, hb2⟩
              have hE3 := alloc_below w2 (.cells #[.int .i64 oa, .int .i64 os, .slice VO no co] 122)
              obtain ⟨W3, hW3⟩ : ∃ W3, W3 = w2.alloc (.cells #[.int .i64 oa, .int .i64 os, .slice VO no co] 122) := ⟨_, rfl⟩
              have hb23 : Below w2.heap.size w2 W3 := by rw [hW3]; exact alloc_below _ _
              have hSB : Hid (∀ W, Below W3.heap.size W3 W → W.cell? ⟨w2.heap.size, 0, none⟩ = some (.int .i64 oa) ∧ W.cell? ⟨w2.heap.size, 1, none⟩ = some (.int .i64 os) ∧ W.cell? ⟨w2.heap.size, 2, none⟩ = some (.slice VO no co)) := hide fun W hW => by
                subst hW3
                exact ⟨box_cell hW 0 _ rfl, box_cell hW 1 _ rfl, box_cell hW 2 _ rfl⟩
              have hb03 := th hb1 (th hb2 hb23)
              have hno : no ≤ 60000 := by have := hs2.len; have := HOL.out; omega
              clear x0 x1 hE3
              go_upto_region 4 with fail
              rw [← hW3]
              clear hW3
              obtain ⟨s0, s1, s2⟩ := hSB.out _ (Below.refl _ _)
              obtain ⟨_, p0, p1, p2, p3, p4⟩ := HGB.out.on hb03
              go_wp2_with fail
              refine (HRD.out _ _ _ _ (hT.below (th hb0 hb03)) (hs2.on byteR_fine hb23) hno).mono ?_
              rintro e w4 ⟨hb4, r, v, er, rfl, ⟨VR, nr, cr, rfl, hsr⟩, hq⟩
              unfold Anc.v
              dsimp only
              obtain ⟨W5, hW5⟩ : ∃ W5, W5 = w4.alloc (.cells #[.int .i64 r.gen, .int .i64 r.epoch, .int .i64 r.pos, .int .i64 r.seq, .int .i64 r.last, .string r.label, .slice VR nr cr] 26) := ⟨_, rfl⟩
              have hE5 : Below w4.heap.size w4 W5 := by rw [hW5]; exact alloc_below _ _
              have hN5 : w4.heap.size < W5.heap.size := by rw [hW5]; simp
              have hv5 : Sev W5 w4.heap.size (.int .i64 r.gen) (.int .i64 r.epoch) (.int .i64 r.pos) (.int .i64 r.seq) (.int .i64 r.last) (.string r.label) (.slice VR nr cr) := by rw [hW5]; exact Sev.new rfl (Below.refl _ _)
              have HV5 := hide hv5
              have hr5 := (hsr.old_ homR_fine).on homR_fine hE5
              have hb35 := th hb4 hE5
              have hb05 := th hb03 hb35
              clear hv5 p0 p1 p2 p3 p4 s0 s1 s2
              rcases hq with ⟨h, _⟩ | ⟨_, hq1, hq2, rfl⟩ | ⟨_, hq1, rfl, rfl⟩
              · exact absurd HGO.out h
              · by_cases hgs : r.gen = os
                · have hSr : S = some r := by rw [HM.out, hq1]; exact if_pos ⟨hq2, hgs⟩
                  subst hSr
                  have HGS := hide hgs
                  clear hq1 hq2 hgs HM
                  go_upto_region 7 with fail
                  rw [← hW5]
                  clear hW5
                  obtain ⟨s0, s1, s2⟩ := hSB.out _ hb35
                  rw [← HGS.out] at s1
                  obtain ⟨t0, t1, t2, t3, t4, t5, t6⟩ := HV5.out
                  have hzz := HZV.out.onB (show w.heap.size + 1 + 1 < W0.heap.size by omega) hb05
                  have f0 := HFZ.out _ hb05 0
                  have f1 := HFZ.out _ hb05 1
                  have f2 := HFZ.out _ hb05 2
                  have f3 := HFZ.out _ hb05 3
                  have f4 := HFZ.out _ hb05 4
                  have f5 := HFZ.out _ hb05 5
                  have f6 := HFZ.out _ hb05 6
                  have hzu := put7_sev hzz (.int .i64 r.gen) (.int .i64 r.epoch) (.int .i64 r.pos) (.int .i64 r.seq) (.int .i64 r.last) (.string r.label) (.slice VR nr cr)
                  unfold put7 at hzu
                  have HZU := hide hzu
                  have hsz4 := (th hb1 (th hb2 hb23)).size
                  have hrd : Sl homR 3 (put7 W5 (w.heap.size + 1 + 1) (.int .i64 r.gen) (.int .i64 r.epoch) (.int .i64 r.pos) (.int .i64 r.seq) (.int .i64 r.last) (.string r.label) (.slice VR nr cr)) (New w.heap.size (put7 W5 (w.heap.size + 1 + 1) (.int .i64 r.gen) (.int .i64 r.epoch) (.int .i64 r.pos) (.int .i64 r.seq) (.int .i64 r.last) (.string r.label) (.slice VR nr cr))) VR nr cr r.homes := by
                    have h1 := put7_new homR_fine (hsr.move (w' := W5) (S' := New W3.heap.size W5) homR_fine (fun b hb => hE5.block b hb.2) (fun b hb => ⟨hb.1, Nat.lt_of_lt_of_le hb.2 hE5.size⟩)) (show w.heap.size + 1 + 1 < W3.heap.size by omega) (.int .i64 r.gen) (.int .i64 r.epoch) (.int .i64 r.pos) (.int .i64 r.seq) (.int .i64 r.last) (.string r.label) (.slice VR nr cr)
                    exact h1.new_less homR_fine (show w.heap.size ≤ W3.heap.size by omega)
                  have HRDD := hide hrd
                  obtain ⟨y0, y1, y2, y3, y4, y5, y6⟩ := hzz
                  clear hzu hrd
                  go_wp2_with fail
                  obtain ⟨u0, u1, u2, u3, u4, u5, u6⟩ := HZU.out
                  exact bodyPost_ret (v := .tuple #[.agg #[.int .i64 r.gen, .int .i64 r.epoch, .int .i64 r.pos, .int .i64 r.seq, .int .i64 r.last, .string r.label, .slice VR nr cr], .bool true]) (by simp [results, Tryd.results46, go_sem, u0, u1, u2, u3, u4, u5, u6]) rfl ⟨put7_below (th hb0 hb05) (by omega) _ _ _ _ _ _ _, r, VR, nr, cr, true, rfl, HRDD.out, says_yes r⟩
                · have hSr : S = none := by rw [HM.out, hq1]; exact if_neg fun h => hgs h.2
                  subst hSr
                  have tg : (r.gen != os) = true := by simpa using hgs
                  clear hq1 hq2 hgs HM
                  go_upto_region 7 with fail
                  rw [← hW5]
                  clear hW5
                  obtain ⟨s0, s1, s2⟩ := hSB.out _ hb35
                  obtain ⟨t0, t1, t2, t3, t4, t5, t6⟩ := HV5.out
                  have hzz := HZV.out.onB (show w.heap.size + 1 + 1 < W0.heap.size by omega) hb05
                  have f0 := HFZ.out _ hb05 0
                  have f1 := HFZ.out _ hb05 1
                  have f2 := HFZ.out _ hb05 2
                  have f3 := HFZ.out _ hb05 3
                  have f4 := HFZ.out _ hb05 4
                  have f5 := HFZ.out _ hb05 5
                  have f6 := HFZ.out _ hb05 6
                  have hzu := put7_sev hzz (.int .i64 0) (.int .i64 0) (.int .i64 0) (.int .i64 0) (.int .i64 0) (.string ⟨#[]⟩) (.slice none 0 0)
                  unfold put7 at hzu
                  have HZU := hide hzu
                  obtain ⟨y0, y1, y2, y3, y4, y5, y6⟩ := hzz
                  clear hzu
                  go_wp2_with fail
                  obtain ⟨u0, u1, u2, u3, u4, u5, u6⟩ := HZU.out
                  exact bodyPost_ret (v := .tuple #[.agg #[.int .i64 0, .int .i64 0, .int .i64 0, .int .i64 0, .int .i64 0, .string ⟨#[]⟩, .slice none 0 0], .bool false]) (by simp [results, Tryd.results46, go_sem, u0, u1, u2, u3, u4, u5, u6]) rfl ⟨put7_below (th hb0 hb05) (by omega) _ _ _ _ _ _ _, noAnc, none, 0, 0, false, rfl, Sl.nil_ _, says_no⟩
              · have hSr : S = none := by
                  rw [HM.out]
                  split
                  · exact if_neg fun h => hq1 _ (by assumption) h.1
                  · rfl
                subst hSr
                clear hq1 HM
                go_upto_region 7 with fail
                rw [← hW5]
                clear hW5
                have hzz := HZV.out.onB (show w.heap.size + 1 + 1 < W0.heap.size by omega) hb05
                have f0 := HFZ.out _ hb05 0
                have f1 := HFZ.out _ hb05 1
                have f2 := HFZ.out _ hb05 2
                have f3 := HFZ.out _ hb05 3
                have f4 := HFZ.out _ hb05 4
                have f5 := HFZ.out _ hb05 5
                have f6 := HFZ.out _ hb05 6
                have hzu := put7_sev hzz (.int .i64 0) (.int .i64 0) (.int .i64 0) (.int .i64 0) (.int .i64 0) (.string ⟨#[]⟩) (.slice none 0 0)
                unfold put7 at hzu
                have HZU := hide hzu
                obtain ⟨y0, y1, y2, y3, y4, y5, y6⟩ := hzz
                clear hzu
                go_wp2_with fail
                obtain ⟨u0, u1, u2, u3, u4, u5, u6⟩ := HZU.out
                exact bodyPost_ret (v := .tuple #[.agg #[.int .i64 0, .int .i64 0, .int .i64 0, .int .i64 0, .int .i64 0, .string ⟨#[]⟩, .slice none 0 0], .bool false]) (by simp [results, Tryd.results46, go_sem, u0, u1, u2, u3, u4, u5, u6]) rfl ⟨put7_below (th hb0 hb05) (by omega) _ _ _ _ _ _ _, noAnc, none, 0, 0, false, rfl, Sl.nil_ _, says_no⟩
            · obtain rfl := HNO.out fun h => h4 h.2.2.2.2
              have t4 : (oa != addr) = true := by simpa using h4
              clear h4 HNO HYES
              go_enter Tryd.func46, Tryd.ntmps46
              go_wp2_with fail
              rw [← hW0]
              clear hW0 p0 p1 p2 p3 p4 x0 x1
              refine (HCK.out _).mono ?_
              rintro e w1 ⟨rfl, hb1⟩
              obtain ⟨x0, x1⟩ := HXB.out _ hb1
              go_wp2_with fail
              refine (HOP.out _ (hl0.on byteR_fine hb1)).mono ?_
              rintro e w2 ⟨VO, no, co, rfl, hs2, hb2⟩
              have hb23 := alloc_below w2 (.cells #[.int .i64 oa, .int .i64 os, .slice VO no co] 122)
              have hb03 := th hb1 (th hb2 hb23)
              have hzz := HZV.out.onB (show w.heap.size + 1 + 1 < W0.heap.size by omega) hb03
              have f0 := HFZ.out _ hb03 0
              have f1 := HFZ.out _ hb03 1
              have f2 := HFZ.out _ hb03 2
              have f3 := HFZ.out _ hb03 3
              have f4 := HFZ.out _ hb03 4
              have f5 := HFZ.out _ hb03 5
              have f6 := HFZ.out _ hb03 6
              have hzu := put7_sev hzz (.int .i64 0) (.int .i64 0) (.int .i64 0) (.int .i64 0) (.int .i64 0) (.string ⟨#[]⟩) (.slice none 0 0)
              unfold put7 at hzu
              have HZU := hide hzu
              obtain ⟨y0, y1, y2, y3, y4, y5, y6⟩ := hzz
              clear hzu
              go_wp2_with fail
              obtain ⟨u0, u1, u2, u3, u4, u5, u6⟩ := HZU.out
              exact bodyPost_ret (v := .tuple #[.agg #[.int .i64 0, .int .i64 0, .int .i64 0, .int .i64 0, .int .i64 0, .string ⟨#[]⟩, .slice none 0 0], .bool false]) (by simp [results, Tryd.results46, go_sem, u0, u1, u2, u3, u4, u5, u6]) rfl ⟨put7_below (th hb0 hb03) (by omega) _ _ _ _ _ _ _, noAnc, none, 0, 0, false, rfl, Sl.nil_ _, says_no⟩
          · obtain rfl := HNO.out fun h => h3 h.2.2.2.1
            have t3 : (oe != 0) = true := by simpa using h3
            clear h3 HNO HYES
            go_enter Tryd.func46, Tryd.ntmps46
            go_wp2_with fail
            rw [← hW0]
            clear hW0 p0 p1 p2 p3 p4 x0 x1
            refine (HCK.out _).mono ?_
            rintro e w1 ⟨rfl, hb1⟩
            obtain ⟨x0, x1⟩ := HXB.out _ hb1
            go_wp2_with fail
            refine (HOP.out _ (hl0.on byteR_fine hb1)).mono ?_
            rintro e w2 ⟨VO, no, co, rfl, hs2, hb2⟩
            have hb23 := alloc_below w2 (.cells #[.int .i64 oa, .int .i64 os, .slice VO no co] 122)
            have hb03 := th hb1 (th hb2 hb23)
            have hzz := HZV.out.onB (show w.heap.size + 1 + 1 < W0.heap.size by omega) hb03
            have f0 := HFZ.out _ hb03 0
            have f1 := HFZ.out _ hb03 1
            have f2 := HFZ.out _ hb03 2
            have f3 := HFZ.out _ hb03 3
            have f4 := HFZ.out _ hb03 4
            have f5 := HFZ.out _ hb03 5
            have f6 := HFZ.out _ hb03 6
            have hzu := put7_sev hzz (.int .i64 0) (.int .i64 0) (.int .i64 0) (.int .i64 0) (.int .i64 0) (.string ⟨#[]⟩) (.slice none 0 0)
            unfold put7 at hzu
            have HZU := hide hzu
            obtain ⟨y0, y1, y2, y3, y4, y5, y6⟩ := hzz
            clear hzu
            go_wp2_with fail
            obtain ⟨u0, u1, u2, u3, u4, u5, u6⟩ := HZU.out
            exact bodyPost_ret (v := .tuple #[.agg #[.int .i64 0, .int .i64 0, .int .i64 0, .int .i64 0, .int .i64 0, .string ⟨#[]⟩, .slice none 0 0], .bool false]) (by simp [results, Tryd.results46, go_sem, u0, u1, u2, u3, u4, u5, u6]) rfl ⟨put7_below (th hb0 hb03) (by omega) _ _ _ _ _ _ _, noAnc, none, 0, 0, false, rfl, Sl.nil_ _, says_no⟩
        · obtain rfl := HNO.out fun h => h2 h.2.2.1
          have t1 : ¬ addr < 0 := by omega
          have t2 : ¬ 65535 < addr := by omega
          have t3 : (err != 0) = true := by simpa using h2
          clear h2 HNO HYES
          go_enter Tryd.func46, Tryd.ntmps46
          go_wp2_with fail
          rw [← hW0]
          clear hW0 p0 p1 p2 p3 p4 x0 x1
          refine (HCK.out _).mono ?_
          rintro e w1 ⟨rfl, hb1⟩
          obtain ⟨x0, x1⟩ := HXB.out _ hb1
          have hzz := HZV.out.onB (show w.heap.size + 1 + 1 < W0.heap.size by omega) hb1
          have f0 := HFZ.out _ hb1 0
          have f1 := HFZ.out _ hb1 1
          have f2 := HFZ.out _ hb1 2
          have f3 := HFZ.out _ hb1 3
          have f4 := HFZ.out _ hb1 4
          have f5 := HFZ.out _ hb1 5
          have f6 := HFZ.out _ hb1 6
          have hzu := put7_sev hzz (.int .i64 0) (.int .i64 0) (.int .i64 0) (.int .i64 0) (.int .i64 0) (.string ⟨#[]⟩) (.slice none 0 0)
          unfold put7 at hzu
          have HZU := hide hzu
          obtain ⟨y0, y1, y2, y3, y4, y5, y6⟩ := hzz
          clear hzu
          go_wp2_with fail
          obtain ⟨u0, u1, u2, u3, u4, u5, u6⟩ := HZU.out
          exact bodyPost_ret (v := .tuple #[.agg #[.int .i64 0, .int .i64 0, .int .i64 0, .int .i64 0, .int .i64 0, .string ⟨#[]⟩, .slice none 0 0], .bool false]) (by simp [results, Tryd.results46, go_sem, u0, u1, u2, u3, u4, u5, u6]) rfl ⟨put7_below (th hb0 hb1) (by omega) _ _ _ _ _ _ _, noAnc, none, 0, 0, false, rfl, Sl.nil_ _, says_no⟩
      · obtain rfl := HNO.out fun h => h1 h.2.1.2
        have t1 : ¬ addr < 0 := by omega
        have t2 : 65535 < addr := by omega
        clear HNO HYES
        go_enter Tryd.func46, Tryd.ntmps46
        go_wp2_with fail
        rw [← hW0]
        clear hW0 p0 p1 p2 p3 p4 x0 x1
        refine (HCK.out _).mono ?_
        rintro e w1 ⟨rfl, hb1⟩
        have hzz := HZV.out.onB (show w.heap.size + 1 + 1 < W0.heap.size by omega) hb1
        have f0 := HFZ.out _ hb1 0
        have f1 := HFZ.out _ hb1 1
        have f2 := HFZ.out _ hb1 2
        have f3 := HFZ.out _ hb1 3
        have f4 := HFZ.out _ hb1 4
        have f5 := HFZ.out _ hb1 5
        have f6 := HFZ.out _ hb1 6
        have hzu := put7_sev hzz (.int .i64 0) (.int .i64 0) (.int .i64 0) (.int .i64 0) (.int .i64 0) (.string ⟨#[]⟩) (.slice none 0 0)
        unfold put7 at hzu
        have HZU := hide hzu
        obtain ⟨y0, y1, y2, y3, y4, y5, y6⟩ := hzz
        clear hzu
        go_wp2_with fail
        obtain ⟨u0, u1, u2, u3, u4, u5, u6⟩ := HZU.out
        exact bodyPost_ret (v := .tuple #[.agg #[.int .i64 0, .int .i64 0, .int .i64 0, .int .i64 0, .int .i64 0, .string ⟨#[]⟩, .slice none 0 0], .bool false]) (by simp [results, Tryd.results46, go_sem, u0, u1, u2, u3, u4, u5, u6]) rfl ⟨put7_below (th hb0 hb1) (by omega) _ _ _ _ _ _ _, noAnc, none, 0, 0, false, rfl, Sl.nil_ _, says_no⟩
    · obtain rfl := HNO.out fun h => h0 h.2.1.1
      have t1 : addr < 0 := by omega
      clear HNO HYES
      go_enter Tryd.func46, Tryd.ntmps46
      go_wp2_with fail
      rw [← hW0]
      clear hW0 p0 p1 p2 p3 p4 x0 x1
      refine (HCK.out _).mono ?_
      rintro e w1 ⟨rfl, hb1⟩
      have hzz := HZV.out.onB (show w.heap.size + 1 + 1 < W0.heap.size by omega) hb1
      have f0 := HFZ.out _ hb1 0
      have f1 := HFZ.out _ hb1 1
      have f2 := HFZ.out _ hb1 2
      have f3 := HFZ.out _ hb1 3
      have f4 := HFZ.out _ hb1 4
      have f5 := HFZ.out _ hb1 5
      have f6 := HFZ.out _ hb1 6
      have hzu := put7_sev hzz (.int .i64 0) (.int .i64 0) (.int .i64 0) (.int .i64 0) (.int .i64 0) (.string ⟨#[]⟩) (.slice none 0 0)
      unfold put7 at hzu
      have HZU := hide hzu
      obtain ⟨y0, y1, y2, y3, y4, y5, y6⟩ := hzz
      clear hzu
      go_wp2_with fail
      obtain ⟨u0, u1, u2, u3, u4, u5, u6⟩ := HZU.out
      exact bodyPost_ret (v := .tuple #[.agg #[.int .i64 0, .int .i64 0, .int .i64 0, .int .i64 0, .int .i64 0, .string ⟨#[]⟩, .slice none 0 0], .bool false]) (by simp [results, Tryd.results46, go_sem, u0, u1, u2, u3, u4, u5, u6]) rfl ⟨put7_below (th hb0 hb1) (by omega) _ _ _ _ _ _ _, noAnc, none, 0, 0, false, rfl, Sl.nil_ _, says_no⟩
  · obtain rfl := HNO.out fun h => hG h.1
    rw [show geoErr g = 1 from if_neg hG] at HCK
    clear HNO HYES
    go_enter Tryd.func46, Tryd.ntmps46
    go_wp2_with fail
    rw [← hW0]
    clear hW0 p0 p1 p2 p3 p4 x0 x1
    refine (HCK.out _).mono ?_
    rintro e w1 ⟨rfl, hb1⟩
    have hzz := HZV.out.onB (show w.heap.size + 1 + 1 < W0.heap.size by omega) hb1
    have f0 := HFZ.out _ hb1 0
    have f1 := HFZ.out _ hb1 1
    have f2 := HFZ.out _ hb1 2
    have f3 := HFZ.out _ hb1 3
    have f4 := HFZ.out _ hb1 4
    have f5 := HFZ.out _ hb1 5
    have f6 := HFZ.out _ hb1 6
    have hzu := put7_sev hzz (.int .i64 0) (.int .i64 0) (.int .i64 0) (.int .i64 0) (.int .i64 0) (.string ⟨#[]⟩) (.slice none 0 0)
    unfold put7 at hzu
    have HZU := hide hzu
    obtain ⟨y0, y1, y2, y3, y4, y5, y6⟩ := hzz
    clear hzu
    go_wp2_with fail
    obtain ⟨u0, u1, u2, u3, u4, u5, u6⟩ := HZU.out
    exact bodyPost_ret (v := .tuple #[.agg #[.int .i64 0, .int .i64 0, .int .i64 0, .int .i64 0, .int .i64 0, .string ⟨#[]⟩, .slice none 0 0], .bool false]) (by simp [results, Tryd.results46, go_sem, u0, u1, u2, u3, u4, u5, u6]) rfl ⟨put7_below (th hb0 hb1) (by omega) _ _ _ _ _ _ _, noAnc, none, 0, 0, false, rfl, Sl.nil_ _, says_no⟩

end Go.Proofs.YtamgpbkakmffiaaDoor

namespace Go.Proofs.YtamgpbkakmffiaaDoor
open Go.RowKit Go.Lib
set_option linter.unusedVariables false
set_option maxRecDepth 100000

/-- The anchor that is picked of the first k readings; where it stands; is there one. -/
def pickN (g : Geo) (L : List Gt) : Nat → Anc × Nat × Bool
  | 0 => (noAnc, 0, false)
  | k + 1 => match (L[k]?).bind fun x => saysN g x.err x.bytes (k : Int) with
    | none => pickN g L k
    | some b => if (pickN g L k).2.2 = false ∨ (pickN g L k).1.gen < b.gen then (b, k, true) else pickN g L k
def pickE (g : Geo) (L : List Gt) (k : Nat) : Int := if (pickN g L k).2.2 = true then 0 else 11
theorem at_gt {w : World} {S : Nat → Prop} {A : Option Addr} {n c : Nat} {L : List Gt} (h : Sl gotR 2 w S A n c L) {k : Nat} (hk : k < n) : ∃ ad x A' n' c', A = some ad ∧ S ad.block ∧ L[k]? = some x ∧ InI x.err ∧ Sl byteR 1 w S A' n' c' x.bytes ∧
    w.cell? (ad.add (k * 2)) = some (.int .i64 x.err) ∧ w.cell? ⟨(ad.add (k * 2)).block, (ad.add (k * 2)).off + 1, none⟩ = some (.slice A' n' c') := by
  obtain ⟨ad, e, cs, rfl, hS, he, ⟨A', n', c', rfl, h1, hs⟩, hat⟩ := h.at_ hk
  refine ⟨ad, e, A', n', c', rfl, hS, he, h1, hs, ?_, hat 1 _ rfl⟩
  have := hat 0 _ rfl
  rwa [add_zero'] at this

set_option maxHeartbeats 8000000 in
theorem npick_yes (g : Geo) (hG : GeoOk g) (A : Option Addr) (n c : Nat) (L : List Gt) (w : World) (hT : Tabs w) (hl : Sl gotR 2 w (Old w) A n c L) (hn : (n : Int) = g.anchors) (hb : ∀ x ∈ L, x.bytes.length ≤ 60000) :
    Calls Tryd.prog 47 #[g.v, .slice A n c] w fun e w' => Below w.heap.size w w' ∧ ∃ V m d, e = .returned (.tuple #[(pickN g L n).1.v (.slice V m d), .int .i64 ((pickN g L n).2.1 : Int), .int .i64 (pickE g L n)]) ∧ Sl homR 3 w' (Old w') V m d (pickN g L n).1.homes := by
  have han := hG.2.2.2.2
  have HCK := hide fun w => gcheck_any g w
  rw [show geoErr g = 0 from if_pos hG] at HCK
  have HGA := hide fun (k : Nat) (hk : (k : Int) ≤ g.anchors - 1) w => (show Calls Tryd.prog 89 #[g.v, .int .i64 (k : Int)] w fun e w' => e = .returned (.tuple #[.int .i64 (k : Int), .int .i64 0]) ∧ Below w.heap.size w w' by
    have h := ganchor_any g hG (k : Int) ⟨by omega, by omega⟩ w
    rwa [show ganErr g (k : Int) = 0 from if_pos ⟨by omega, hk⟩, show ganAt g (k : Int) = (k : Int) from if_pos ⟨by omega, hk⟩] at h)
  have HSY := hide fun err V m d b addr w hT h hm => nsays_any g err V m d b addr w hT h hm
  unfold SaysPost at HSY
  have tn : ((n : Int) != g.anchors) = false := by simpa using hn
  have HNA := hide hn
  have HB := hide hb
  have hn3 : n ≤ 3 := by omega
  clear hn hb han hG
  obtain ⟨W0, hW0⟩ : ∃ W0, W0 = (w.alloc (.cells #[.int .i64 g.zones, .int .i64 g.data, .int .i64 g.spares, .int .i64 g.slots, .int .i64 g.anchors] 23)).alloc (.cells #[.int .i64 0, .int .i64 0, .int .i64 0, .int .i64 0, .int .i64 0, .string ⟨#[]⟩, .slice none 0 0] 26) := ⟨_, rfl⟩
  have hs0 : W0.heap.size = w.heap.size + 2 := by rw [hW0]; simp
  have hb0 : Below w.heap.size w W0 := by rw [hW0]; exact (alloc_below w _).alloc (by simp) _
  have hgb : GeoAt W0 w.heap.size g := by rw [hW0]; exact (GeoAt.new w g 23).on (alloc_below _ _)
  have hzv : Sev W0 (w.heap.size + 1) (.int .i64 0) (.int .i64 0) (.int .i64 0) (.int .i64 0) (.int .i64 0) (.string ⟨#[]⟩) (.slice none 0 0) := by rw [hW0]; exact Sev.new (by simp) (Below.refl _ _)
  have hfz : ∀ k, W0.frozen? ⟨w.heap.size + 1, k, none⟩ = false := fun k => by rw [hW0]; exact bx_free2 (by simp) (Below.refl _ _) k
  have HGB := hide hgb
  have HZV := hide hzv
  have HFZ := hide hfz
  have hpq := hgb.2
  rw [hW0] at hpq
  obtain ⟨p0, p1, p2, p3, p4⟩ := hpq
  unfold Geo.v Anc.v at *
  clear hgb hzv hfz
  go_enter Tryd.func47, Tryd.ntmps47
  go_wp2_with fail
  rw [← hW0]
  clear hW0 p0 p1 p2 p3 p4
  refine (HCK.out _).mono ?_
  rintro e w1 ⟨rfl, hb1⟩
  obtain ⟨_, p0, p1, p2, p3, p4⟩ := HGB.out.on hb1
  go_wp2_with fail
  go_loopw [5, 6, 27] (fun at_ er i wr => ∃ (k : Nat) (V : Option Addr) (m d : Nat), k ≤ n ∧ i = .int .i64 k ∧ at_ = .int .i64 ((pickN g L k).2.1 : Int) ∧ er = .int .i64 (pickE g L k) ∧ Hid (Sev wr (w.heap.size + 1) (.int .i64 (pickN g L k).1.gen) (.int .i64 (pickN g L k).1.epoch) (.int .i64 (pickN g L k).1.pos) (.int .i64 (pickN g L k).1.seq) (.int .i64 (pickN g L k).1.last) (.string (pickN g L k).1.label) (.slice V m d)) ∧ Hid (Sl homR 3 wr (New W0.heap.size wr) V m d (pickN g L k).1.homes) ∧ Hid (∀ j, wr.frozen? ⟨w.heap.size + 1, j, none⟩ = false) ∧ Below (w.heap.size + 1) W0 wr ∧ W0.heap.size ≤ wr.heap.size) (fun _ _ i _ => n - (RowKit.intOf i).toNat)
  case atStart => exact ⟨0, none, 0, 0, Nat.zero_le _, rfl, rfl, rfl, hide (HZV.out.onB (by omega) hb1), hide (Sl.nil_ _), hide (fun j => (hb1.frozen (by show w.heap.size + 1 < _; omega)).trans (HFZ.out j)), hb1.mono (by omega), hb1.size⟩
  case round =>
    obtain ⟨k, V, m, d, hk, rfl, rfl, rfl, hsv, hrd, hfr, hbw, hsz⟩ := hrel
    obtain ⟨⟨a0, t0, f0⟩, hP⟩ : ∃ P, P = pickN g L k := ⟨_, rfl⟩
    rw [← hP] at hsv hrd ⊢
    dsimp only at hsv hrd ⊢
    have HPK := hide hP
    obtain ⟨E, hE⟩ : ∃ E : Int, E = pickE g L k := ⟨_, rfl⟩
    rw [← hE]
    have HEK := hide hE
    have HE : Hid (E = (if f0 = true then 0 else 11)) := hide (by rw [hE]; unfold pickE; rw [← hP])
    clear hP hE
    have hbww : Below w.heap.size w wr := hb0.trans (hbw.mono (by omega))
    have hgr : GeoAt wr w.heap.size g := by
      obtain ⟨_, c0, c1, c2, c3, c4⟩ := HGB.out
      exact ⟨by omega, (hbw.cell (by show w.heap.size < _; omega)).trans c0, (hbw.cell (by show w.heap.size < _; omega)).trans c1, (hbw.cell (by show w.heap.size < _; omega)).trans c2, (hbw.cell (by show w.heap.size < _; omega)).trans c3, (hbw.cell (by show w.heap.size < _; omega)).trans c4⟩
    have HGR := hide hgr
    clear hgr p0 p1 p2 p3 p4
    by_cases hlt : k < n
    · obtain ⟨ad, x, A', n', c', rfl, hadl, hx, _, hsx, d0, d1⟩ := at_gt (hl.on gotR_fine hbww) hlt
      have hxb := HB.out x (List.mem_of_getElem? hx)
      have hn' : n' ≤ 60000 := by rw [← hsx.len]; exact hxb
      have HX := hide hx
      have hka : (k : Int) ≤ g.anchors - 1 := by have := HNA.out; omega
      have HGK := hide (fun w => HGA.out k hka w)
      have K0 : (0 : Int) ≤ (k : Int) := by omega
      have K1 : (k : Int) < (n : Int) := by omega
      obtain ⟨W1, hW1⟩ : ∃ W1, W1 = wr.alloc (.cells #[.int .i64 x.err, .slice A' n' c'] 78) := ⟨_, rfl⟩
      have hE1 : Below wr.heap.size wr W1 := by rw [hW1]; exact alloc_below _ _
      have hxs : ∀ W, Below W1.heap.size W1 W → W.cell? ⟨wr.heap.size, 0, none⟩ = some (.int .i64 x.err) ∧ W.cell? ⟨wr.heap.size, 1, none⟩ = some (.slice A' n' c') := fun W hW => by
        subst hW1
        exact ⟨box_cell hW 0 _ rfl, box_cell hW 1 _ rfl⟩
      have HXS := hide hxs
      have d1' : wr.cell? ⟨(ad.add (k * 2)).block, (ad.add (k * 2)).off + 1, none⟩ = some (.slice A' n' c') := d1
      clear hx hxs hka hxb d1
      go_upto_region 9 with fail
      rw [← hW1]
      clear hW1 d0 d1'
      obtain ⟨_, p0, p1, p2, p3, p4⟩ := HGR.out.on hE1
      go_wp2_with fail
      refine (HGK.out _).mono ?_
      rintro e w2 ⟨rfl, hb2⟩
      have hb12 := th hE1 hb2
      clear p0 p1 p2 p3 p4
      obtain ⟨_, p0, p1, p2, p3, p4⟩ := HGR.out.on hb12
      obtain ⟨x0, x1⟩ := HXS.out _ hb2
      go_wp2_with fail
      refine (HSY.out _ _ _ _ _ _ _ (hT.below (th hbww hb12)) (hsx.on byteR_fine hb12) hn').mono ?_
      rintro e w3 ⟨hb3, b, Vb, mb, db, r, rfl, hsb, his⟩
      obtain ⟨W4, hW4⟩ : ∃ W4, W4 = w3.alloc (.cells #[.int .i64 b.gen, .int .i64 b.epoch, .int .i64 b.pos, .int .i64 b.seq, .int .i64 b.last, .string b.label, .slice Vb mb db] 26) := ⟨_, rfl⟩
      have hE4 : Below w3.heap.size w3 W4 := by rw [hW4]; exact alloc_below _ _
      have hbr4 := th hb12 (th hb3 hE4)
      have hvb : Sev W4 w3.heap.size (.int .i64 b.gen) (.int .i64 b.epoch) (.int .i64 b.pos) (.int .i64 b.seq) (.int .i64 b.last) (.string b.label) (.slice Vb mb db) := by rw [hW4]; exact Sev.new rfl (Below.refl _ _)
      have HVB := hide hvb
      have hsz2 := hb12.size
      have hsb4 : Sl homR 3 W4 (New W0.heap.size W4) Vb mb db b.homes := hsb.move homR_fine (fun q hq => hE4.block q hq.2) (fun q hq => ⟨Nat.le_trans hsz (Nat.le_trans hsz2 hq.1), Nat.lt_of_lt_of_le hq.2 hE4.size⟩)
      have hstep : pickN g L (k + 1) = match (L[k]?).bind fun x => saysN g x.err x.bytes (k : Int) with
        | none => pickN g L k
        | some b => if (pickN g L k).2.2 = false ∨ (pickN g L k).1.gen < b.gen then (b, k, true) else pickN g L k := rfl
      rw [HX.out, ← HPK.out] at hstep
      have hstep2 : ∀ o, saysN g x.err x.bytes (k : Int) = o → pickN g L (k + 1) = match o with
        | none => (a0, t0, f0)
        | some b => if f0 = false ∨ a0.gen < b.gen then (b, k, true) else (a0, t0, f0) := fun o ho => by rw [hstep]; show (match (saysN g x.err x.bytes (k : Int)) with | none => (a0, t0, f0) | some b => if f0 = false ∨ a0.gen < b.gen then (b, k, true) else (a0, t0, f0)) = _; rw [ho]
      have HST := hide hstep2
      clear hstep hstep2 hvb hsb p0 p1 p2 p3 p4 x0 x1
      go_upto_region 11 with fail
      rw [← hW4]
      clear hW4
      rcases his with ⟨rfl, hs1⟩ | ⟨rfl, _, hs1⟩
      · cases f0 with
        | false =>
          have HP1 := hide ((HST.out _ hs1).trans (if_pos (.inl rfl)))
          obtain rfl : E = 11 := HE.out.trans (if_neg (by decide))
          clear hs1
          obtain ⟨b0, b1, b2, b3, b4, b5, b6⟩ := HVB.out
          have hzz := hsv.out.on (by omega) hbr4
          have hff : ∀ j, W4.frozen? ⟨w.heap.size + 1, j, none⟩ = false := fun j => (hbr4.frozen (by show w.heap.size + 1 < _; omega)).trans (hfr.out j)
          have g0 := hff 0
          have g1 := hff 1
          have g2 := hff 2
          have g3 := hff 3
          have g4 := hff 4
          have g5 := hff 5
          have g6 := hff 6
          have HZ2 := hide (put7_sev hzz (.int .i64 b.gen) (.int .i64 b.epoch) (.int .i64 b.pos) (.int .i64 b.seq) (.int .i64 b.last) (.string b.label) (.slice Vb mb db))
          have HFF := hide hff
          have HR2 := hide (put7_new homR_fine hsb4 (show w.heap.size + 1 < W0.heap.size by omega) (.int .i64 b.gen) (.int .i64 b.epoch) (.int .i64 b.pos) (.int .i64 b.seq) (.int .i64 b.last) (.string b.label) (.slice Vb mb db))
          obtain ⟨y0, y1, y2, y3, y4, y5, y6⟩ := hzz
          clear hff
          go_wp2_with fail
          go_roundw
          case rel => exact ⟨k + 1, Vb, mb, db, by omega, by go_num, (by rw [HP1.out] <;> rfl), (by unfold pickE; rw [HP1.out]; first | rfl | exact congrArg (Value.int .i64) HE.out), by rw [HP1.out]; exact HZ2, by rw [HP1.out]; exact HR2, hide (fun j => by simp only [put_free]; exact HFF.out j), (put7_below (hbw.trans (hbr4.mono (by omega))) (Nat.le_refl _) (.int .i64 b.gen) (.int .i64 b.epoch) (.int .i64 b.pos) (.int .i64 b.seq) (.int .i64 b.last) (.string b.label) (.slice Vb mb db)), by simp only [set_size]; exact Nat.le_trans hsz hbr4.size⟩
          case measure => (first | omega | (simp [RowKit.intOf]; omega) | go_num)
        | true =>
          obtain rfl : E = 0 := HE.out.trans (if_pos rfl)
          by_cases hgt : a0.gen < b.gen
          · have HP1 := hide ((HST.out _ hs1).trans (if_pos (.inr hgt)))
            obtain ⟨b0, _⟩ := HVB.out
            obtain ⟨v0, _⟩ := hsv.out.on (by omega) hbr4
            clear hs1
            obtain ⟨b0, b1, b2, b3, b4, b5, b6⟩ := HVB.out
            have hzz := hsv.out.on (by omega) hbr4
            have hff : ∀ j, W4.frozen? ⟨w.heap.size + 1, j, none⟩ = false := fun j => (hbr4.frozen (by show w.heap.size + 1 < _; omega)).trans (hfr.out j)
            have g0 := hff 0
            have g1 := hff 1
            have g2 := hff 2
            have g3 := hff 3
            have g4 := hff 4
            have g5 := hff 5
            have g6 := hff 6
            have HZ2 := hide (put7_sev hzz (.int .i64 b.gen) (.int .i64 b.epoch) (.int .i64 b.pos) (.int .i64 b.seq) (.int .i64 b.last) (.string b.label) (.slice Vb mb db))
            have HFF := hide hff
            have HR2 := hide (put7_new homR_fine hsb4 (show w.heap.size + 1 < W0.heap.size by omega) (.int .i64 b.gen) (.int .i64 b.epoch) (.int .i64 b.pos) (.int .i64 b.seq) (.int .i64 b.last) (.string b.label) (.slice Vb mb db))
            obtain ⟨y0, y1, y2, y3, y4, y5, y6⟩ := hzz
            clear hff
            go_wp2_with fail
            go_roundw
            case rel => exact ⟨k + 1, Vb, mb, db, by omega, by go_num, (by rw [HP1.out] <;> rfl), (by unfold pickE; rw [HP1.out]; first | rfl | exact congrArg (Value.int .i64) HE.out), by rw [HP1.out]; exact HZ2, by rw [HP1.out]; exact HR2, hide (fun j => by simp only [put_free]; exact HFF.out j), (put7_below (hbw.trans (hbr4.mono (by omega))) (Nat.le_refl _) (.int .i64 b.gen) (.int .i64 b.epoch) (.int .i64 b.pos) (.int .i64 b.seq) (.int .i64 b.last) (.string b.label) (.slice Vb mb db)), by simp only [set_size]; exact Nat.le_trans hsz hbr4.size⟩
            case measure => (first | omega | (simp [RowKit.intOf]; omega) | go_num)
          · have HP1 := hide ((HST.out _ hs1).trans (if_neg fun h => by rcases h with h | h; cases h; exact hgt h))
            obtain ⟨b0, _⟩ := HVB.out
            obtain ⟨v0, _⟩ := hsv.out.on (by omega) hbr4
            clear hs1
            go_wp2_with fail
            go_roundw
            case rel => exact ⟨k + 1, V, m, d, by omega, by go_num, (by rw [HP1.out] <;> rfl), (by unfold pickE; rw [HP1.out]; first | rfl | exact congrArg (Value.int .i64) HE.out), by rw [HP1.out]; exact hide (hsv.out.on (by omega) hbr4), by rw [HP1.out]; exact hide (hrd.out.move homR_fine (fun q hq => hbr4.block q hq.2) (fun q hq => ⟨hq.1, Nat.lt_of_lt_of_le hq.2 hbr4.size⟩)), hide (fun j => (hbr4.frozen (by show w.heap.size + 1 < _; omega)).trans (hfr.out j)), hbw.trans (hbr4.mono (by omega)), Nat.le_trans hsz hbr4.size⟩
            case measure => (first | omega | (simp [RowKit.intOf]; omega) | go_num)
      · have HP1 := hide (HST.out _ hs1)
        clear hs1
        go_wp2_with fail
        go_roundw
        case rel => exact ⟨k + 1, V, m, d, by omega, by go_num, (by rw [HP1.out] <;> rfl), (by unfold pickE; rw [HP1.out]; first | rfl | exact congrArg (Value.int .i64) HE.out), by rw [HP1.out]; exact hide (hsv.out.on (by omega) hbr4), by rw [HP1.out]; exact hide (hrd.out.move homR_fine (fun q hq => hbr4.block q hq.2) (fun q hq => ⟨hq.1, Nat.lt_of_lt_of_le hq.2 hbr4.size⟩)), hide (fun j => (hbr4.frozen (by show w.heap.size + 1 < _; omega)).trans (hfr.out j)), hbw.trans (hbr4.mono (by omega)), Nat.le_trans hsz hbr4.size⟩
        case measure => (first | omega | (simp [RowKit.intOf]; omega) | go_num)
    · obtain rfl : k = n := by omega
      have hzu := put7_sev hsv.out (.int .i64 a0.gen) (.int .i64 a0.epoch) (.int .i64 a0.pos) (.int .i64 a0.seq) (.int .i64 a0.last) (.string a0.label) (.slice V m d)
      unfold put7 at hzu
      have HZU := hide hzu
      have HRF := hide ((put7_new homR_fine hrd.out (show w.heap.size + 1 < W0.heap.size by omega) (.int .i64 a0.gen) (.int .i64 a0.epoch) (.int .i64 a0.pos) (.int .i64 a0.seq) (.int .i64 a0.last) (.string a0.label) (.slice V m d)).old_ homR_fine)
      have g0 := hfr.out 0
      have g1 := hfr.out 1
      have g2 := hfr.out 2
      have g3 := hfr.out 3
      have g4 := hfr.out 4
      have g5 := hfr.out 5
      have g6 := hfr.out 6
      obtain ⟨y0, y1, y2, y3, y4, y5, y6⟩ := hsv.out
      clear hzu
      go_wp2_with fail
      obtain ⟨u0, u1, u2, u3, u4, u5, u6⟩ := HZU.out
      exact bodyPost_ret (v := .tuple #[.agg #[.int .i64 a0.gen, .int .i64 a0.epoch, .int .i64 a0.pos, .int .i64 a0.seq, .int .i64 a0.last, .string a0.label, .slice V m d], .int .i64 (t0 : Int), .int .i64 E]) (by simp [results, Tryd.results47, go_sem, u0, u1, u2, u3, u4, u5, u6]) rfl (by rw [← HPK.out, ← HEK.out]; exact ⟨put7_below hbww (by omega) _ _ _ _ _ _ _, V, m, d, rfl, HRF.out⟩)

end Go.Proofs.YtamgpbkakmffiaaDoor

namespace Go.Proofs.YtamgpbkakmffiaaDoor
open Go.RowKit Go.Lib
set_option linter.unusedVariables false
set_option maxRecDepth 100000

theorem says_cell {g : Geo} {a : Anc} (hG : GeoOk g) (ho : AncOk g a) {i : Nat} (hi : i ≤ 65535) (k : Int) : saysN g 0 (sealL i a.gen.toNat (ancL a)) k = if (i : Int) = k then some a else none := by
  have hr := (anc_room hG ho).2
  have hgn := ho.1.1
  have hge : 0 ≤ a.gen := hgn.1
  have hge2 : a.gen ≤ 4294967295 := hgn.2
  have h1 := open_seal (a := i) (s := a.gen.toNat) (l := ancL a) (by omega) hi (by omega)
  have h2 := anc_back hG ho
  unfold saysN
  rw [h1]
  dsimp only
  by_cases hk : (i : Int) = k
  · rw [if_pos ⟨hG, ⟨by omega, by omega⟩, rfl, rfl, hk⟩, if_pos hk, h2]
    exact if_pos ⟨ho, by omega⟩
  · rw [if_neg (fun h => hk h.2.2.2.2), if_neg hk]
theorem says_bad {g : Geo} {e : Int} (he : e ≠ 0) (l : List UInt8) (k : Int) : saysN g e l k = none := by
  unfold saysN
  exact if_neg (fun h => he h.2.2.1)
theorem says_shut {g : Geo} {e : Int} {l : List UInt8} (he : (openS l).2 ≠ 0) (k : Int) : saysN g e l k = none := by
  unfold saysN
  exact if_neg (fun h => he h.2.2.2.1)
theorem lit_got2 {w : World} {N : Nat} {A A' : Option Addr} {n c n' c' : Nat} {x y : Gt} (e : TypeId) (hN : w.heap.size = N) (h : Bs w A n c x.bytes) (h' : Bs w A' n' c' y.bytes) (hx : InI x.err) (hy : InI y.err) :
    Sl gotR 2 (w.alloc (.cells #[.int .i64 x.err, .slice A n c, .int .i64 y.err, .slice A' n' c'] e)) (Old (w.alloc (.cells #[.int .i64 x.err, .slice A n c, .int .i64 y.err, .slice A' n' c'] e))) (some ⟨N, 0, none⟩) 2 2 [x, y] := by
  subst hN
  refine (Ow.made (R := gotR) (s := 2) (lo := 0) (e := e) (n := 2) (L := [x, y]) w #[.int .i64 x.err, .slice A n c, .int .i64 y.err, .slice A' n' c'] (by simp only [maxLen]; omega) rfl rfl (by simp [Value.oneCell']) (fun i z hz => ?_) gotR_fine).read gotR_fine
  have hi := (List.getElem?_eq_some_iff.1 hz).1
  simp at hi
  obtain rfl | rfl : i = 0 ∨ i = 1 := by omega
  · simp at hz
    subst hz
    exact ⟨A, n, c, rfl, hx, h.move byteR_fine (fun _ _ => rfl) (fun b hb => ⟨Nat.zero_le _, hb⟩)⟩
  · simp at hz
    subst hz
    exact ⟨A', n', c', rfl, hy, h'.move byteR_fine (fun _ _ => rfl) (fun b hb => ⟨Nat.zero_le _, hb⟩)⟩
theorem some_two : someG 0 0 0 0 1 = ⟨1, 1, 0, 14, 2⟩ := by
  have h1 : um 1 3 = 1 := by unfold um; decide +kernel
  unfold someG
  rw [h1]
  simp only [um_zero]
  rfl
theorem geo_two : GeoOk ⟨1, 1, 0, 14, 2⟩ := by decide
theorem lab_none : labE (sL ⟨#[]⟩) = 0 := by
  have h : decs (sL ⟨#[]⟩) = [] := by
    have e : sL ⟨#[]⟩ = [] := rfl
    rw [e, ← decsF_eq 0 _ (by decide)]; rfl
  rw [labE_ok, h]
  exact ⟨by decide, by decide⟩
theorem cell_rest {g : Geo} {e : Int} {b : List UInt8} {k : Nat} {L : List Gt} (hk : L[k]? = some ⟨e, b⟩) (h : saysN g e b (k : Int) = none) : pickN g L (k + 1) = pickN g L k := by
  show (match (L[k]?).bind fun x => saysN g x.err x.bytes (k : Int) with | none => pickN g L k | some b => _) = _
  rw [hk]
  show (match saysN g e b (k : Int) with | none => pickN g L k | some b => _) = _
  rw [h]
theorem cell_take {g : Geo} {e : Int} {b : List UInt8} {k : Nat} {L : List Gt} {a : Anc} (hk : L[k]? = some ⟨e, b⟩) (h : saysN g e b (k : Int) = some a) (hb : (pickN g L k).2.2 = false ∨ (pickN g L k).1.gen < a.gen) : pickN g L (k + 1) = (a, k, true) := by
  show (match (L[k]?).bind fun x => saysN g x.err x.bytes (k : Int) with | none => pickN g L k | some b => _) = _
  rw [hk]
  show (match saysN g e b (k : Int) with | none => pickN g L k | some b => _) = _
  rw [h]
  exact if_pos hb
theorem cell_stay {g : Geo} {e : Int} {b : List UInt8} {k : Nat} {L : List Gt} {a : Anc} (hk : L[k]? = some ⟨e, b⟩) (h : saysN g e b (k : Int) = some a) (hb : ¬ ((pickN g L k).2.2 = false ∨ (pickN g L k).1.gen < a.gen)) : pickN g L (k + 1) = pickN g L k := by
  show (match (L[k]?).bind fun x => saysN g x.err x.bytes (k : Int) with | none => pickN g L k | some b => _) = _
  rw [hk]
  show (match saysN g e b (k : Int) with | none => pickN g L k | some b => _) = _
  rw [h]
  exact if_neg hb

theorem um_rawG {i n : Int} {k : Nat} (h : um i n = (k : Int)) (hn : 1 ≤ n) (hn' : n ≤ 4294967296) : (IntKind.u64.wrap i).tmod n = (k : Int) ∧ IntKind.u64.wrap i % n = (k : Int) := by
  have h0 : 0 ≤ IntKind.u64.wrap i := by rw [IntKind.wrap_u64]; exact Int.emod_nonneg _ (by omega)
  have h1 : (IntKind.u64.wrap i).tmod n = IntKind.u64.wrap i % n := Int.tmod_eq_emod_of_nonneg h0
  have h2 : 0 ≤ IntKind.u64.wrap i % n := Int.emod_nonneg _ (by omega)
  have h3 : IntKind.u64.wrap i % n < n := Int.emod_lt_of_pos _ (by omega)
  unfold um at h
  rw [h1, IntWalk.wrap64_in _ ⟨by omega, by omega⟩] at h
  exact ⟨by rw [h1, h], h⟩

set_option maxHeartbeats 4000000 in
theorem wakes09 (w : World) (hT : Tabs w) : Calls Tryd.prog 50 #[] w fun e w' => e = .returned (.bool true) ∧ Below w.heap.size w w' := by
  have hs0 := fun w => some_any 0 0 0 0 1 inI_0 inI_0 inI_0 inI_0 inI_1 w
  rw [some_two] at hs0
  have hok : AncOk ⟨1, 1, 0, 14, 2⟩ (newAnc 1 1 ⟨#[]⟩) := newAnc_ok geo_two rfl rfl lab_none
  have hin : (newAnc 1 1 ⟨#[]⟩).In := newAnc_in (by decide)
  have hlt : Light (newAnc 1 1 ⟨#[]⟩) := newAnc_light (by decide) (by omega) (by omega)
  have hl25 : (ancL (newAnc 1 1 ⟨#[]⟩)).length = 25 := by
    rw [ancL_len (d := 1) (fun h hm => by obtain rfl := (List.mem_replicate.1 hm).2; exact upTo_len 2)]
    rfl
  have hfi := fun w => rafirst_any (g := ⟨1, 1, 0, 14, 2⟩) (z := 1) (d := 1) rfl rfl (by omega) (by omega) ⟨#[]⟩ w
  have hce := fun (V : Option Addr) (c : Nat) (w : World) (hT : Tabs w) (h : Sl homR 3 w (Old w) V 1 c (List.replicate 1 (newHom 1))) => ncell_yes ⟨1, 1, 0, 14, 2⟩ (newAnc 1 1 ⟨#[]⟩) V 1 c 1 w hT h hin hlt ⟨geo_two, hok, by decide, by decide⟩
  obtain ⟨S, hS⟩ : ∃ S, S = sealL 1 (newAnc 1 1 ⟨#[]⟩).gen.toNat (ancL (newAnc 1 1 ⟨#[]⟩)) := ⟨_, rfl⟩
  have hSl : S.length = 36 := by rw [hS, seal_len, hl25]
  have hsy : saysN ⟨1, 1, 0, 14, 2⟩ 0 S ((1 : Nat) : Int) = some (newAnc 1 1 ⟨#[]⟩) := by rw [hS, says_cell geo_two hok (by omega)]; exact if_pos rfl
  rw [hl25] at hce
  rw [← hS] at hce
  have hP1 : pickN ⟨1, 1, 0, 14, 2⟩ [⟨6, []⟩, ⟨0, S⟩] 2 = (newAnc 1 1 ⟨#[]⟩, 1, true) := by
    refine cell_take rfl hsy (.inl ?_)
    rw [cell_rest (k := 0) rfl (says_bad (by decide) _ _)]
    rfl
  have hP2 : pickN ⟨1, 1, 0, 14, 2⟩ [⟨6, []⟩, ⟨0, []⟩] 2 = (noAnc, 0, false) := by
    rw [cell_rest (k := 1) rfl (says_shut (by decide) _), cell_rest (k := 0) rfl (says_bad (by decide) _ _)]
    rfl
  have hE1 : pickE ⟨1, 1, 0, 14, 2⟩ [⟨6, []⟩, ⟨0, S⟩] 2 = 0 := by unfold pickE; rw [hP1]; rfl
  have hE2 : pickE ⟨1, 1, 0, 14, 2⟩ [⟨6, []⟩, ⟨0, []⟩] 2 = 11 := by unfold pickE; rw [hP2]; rfl
  have hpa := fun (V : Option Addr) (w : World) (hT : Tabs w) (h : Sl gotR 2 w (Old w) V 2 2 [⟨6, []⟩, ⟨0, S⟩]) => npick_yes ⟨1, 1, 0, 14, 2⟩ geo_two V 2 2 _ w hT h rfl (fun x hx => by
    simp only [List.mem_cons, List.not_mem_nil, or_false] at hx
    rcases hx with rfl | rfl
    · show 0 ≤ 60000
      omega
    · show S.length ≤ 60000
      omega)
  have hpb := fun (V : Option Addr) (w : World) (hT : Tabs w) (h : Sl gotR 2 w (Old w) V 2 2 [⟨6, []⟩, ⟨0, []⟩]) => npick_yes ⟨1, 1, 0, 14, 2⟩ geo_two V 2 2 _ w hT h rfl (fun x hx => by
    simp only [List.mem_cons, List.not_mem_nil, or_false] at hx
    rcases hx with rfl | rfl
    all_goals
      show 0 ≤ 60000
      omega)
  simp only [hP1, hE1] at hpa
  simp only [hP2, hE2] at hpb
  unfold Geo.v Anc.v newAnc at hfi hce hpa
  unfold Geo.v Anc.v noAnc at hpb
  unfold Geo.v at hs0
  dsimp only at hfi hce hpa hpb hs0
  have HS0 := hide hs0
  have HFI := hide hfi
  have HCE := hide hce
  have HPA := hide hpa
  have HPB := hide hpb
  have hS6 : InI 6 := ⟨by omega, by omega⟩
  clear hs0 hfi hce hpa hpb hok hin hlt hl25 hP1 hP2 hE1 hE2 hS hsy
  go_enter Tryd.func50, Tryd.ntmps50
  go_wp2_with fail
  refine (HS0.out _).mono ?_
  rintro e w1 ⟨rfl, hb1⟩
  have hE2 := alloc_below w1 (.cells #[.int .i64 1, .int .i64 1, .int .i64 0, .int .i64 14, .int .i64 2] 23)
  have hgb := GeoAt.new w1 ⟨1, 1, 0, 14, 2⟩ 23
  have HGB := hide hgb
  have hb02 := th hb1 hE2
  clear hgb
  go_wp2_with fail
  refine (HFI.out _).mono ?_
  rintro e w3 ⟨hb3, V3, c3, rfl, hs3⟩
  obtain ⟨W4, hW4⟩ : ∃ W4, W4 = w3.alloc (.cells #[.int .i64 1, .int .i64 0, .int .i64 0, .int .i64 1, .int .i64 0, .string ⟨#[]⟩, .slice V3 1 c3] 26) := ⟨_, rfl⟩
  have hE4 : Below w3.heap.size w3 W4 := by rw [hW4]; exact alloc_below _ _
  have hv4 : Sev W4 w3.heap.size (.int .i64 1) (.int .i64 0) (.int .i64 0) (.int .i64 1) (.int .i64 0) (.string ⟨#[]⟩) (.slice V3 1 c3) := by rw [hW4]; exact Sev.new rfl (Below.refl _ _)
  have hb24 := th hb3 hE4
  have hb04 := th hb02 hb24
  have hs4 := (hs3.old_ homR_fine).on homR_fine hE4
  have hgq := (HGB.out.on hb24).2
  rw [hW4] at hgq hv4
  obtain ⟨p0, p1, p2, p3, p4⟩ := hgq
  obtain ⟨q0, q1, q2, q3, q4, q5, q6⟩ := hv4
  go_wp2_with fail
  rw [← hW4]
  clear hW4 p0 p1 p2 p3 p4 q0 q1 q2 q3 q4 q5 q6
  refine (HCE.out _ _ _ (hT.below hb04) hs4).mono ?_
  rintro e w5 ⟨V5, c5, rfl, ho5, hb5⟩
  have hb05 := th hb04 hb5
  obtain ⟨W6, hW6⟩ : ∃ W6, W6 = w5.alloc (.cells #[.int .i64 6, .slice none 0 0, .int .i64 0, .slice V5 36 c5] 78) := ⟨_, rfl⟩
  have hs6 : Sl gotR 2 W6 (Old W6) (some ⟨w5.heap.size, 0, none⟩) 2 2 [⟨6, []⟩, ⟨0, S⟩] := by rw [hW6]; exact lit_got2 (x := ⟨6, []⟩) (y := ⟨0, S⟩) _ rfl (Sl.nil_ _) (ho5.read byteR_fine) hS6 inI_0
  have hE6 : Below w5.heap.size w5 W6 := by rw [hW6]; exact alloc_below _ _
  have hb06 := th hb05 hE6
  obtain ⟨_, p0, p1, p2, p3, p4⟩ := HGB.out.on (th hb24 hb5)
  go_wp2_with fail
  rw [← hW6]
  clear hW6 p0 p1 p2 p3 p4
  refine (HPA.out _ _ (hT.below hb06) hs6).mono ?_
  rintro e w7 ⟨hb7, V7, m7, c7, rfl, hs7⟩
  obtain ⟨W8, hW8⟩ : ∃ W8, W8 = w7.alloc (.cells #[.int .i64 1, .int .i64 0, .int .i64 0, .int .i64 1, .int .i64 0, .string ⟨#[]⟩, .slice V7 m7 c7] 26) := ⟨_, rfl⟩
  have hE8 : Below w7.heap.size w7 W8 := by rw [hW8]; exact alloc_below _ _
  have hv8 : Sev W8 w7.heap.size (.int .i64 1) (.int .i64 0) (.int .i64 0) (.int .i64 1) (.int .i64 0) (.string ⟨#[]⟩) (.slice V7 m7 c7) := by rw [hW8]; exact Sev.new rfl (Below.refl _ _)
  have hN8 : w7.heap.size < W8.heap.size := by rw [hW8]; simp
  have HV8 := hide hv8
  have hb28 := th hb24 (th hb5 (th hE6 (th hb7 hE8)))
  have hb08 := th hb06 (th hb7 hE8)
  clear hv8
  go_upto_region 5 with fail
  rw [← hW8]
  clear hW8
  obtain ⟨W9, hW9⟩ : ∃ W9, W9 = W8.alloc (.cells #[.int .i64 6, .slice none 0 0, .int .i64 0, .slice none 0 0] 78) := ⟨_, rfl⟩
  have hs9 : Sl gotR 2 W9 (Old W9) (some ⟨W8.heap.size, 0, none⟩) 2 2 [⟨6, []⟩, ⟨0, []⟩] := by rw [hW9]; exact lit_got2 (x := ⟨6, []⟩) (y := ⟨0, []⟩) _ rfl (Sl.nil_ _) (Sl.nil_ _) hS6 inI_0
  have hE9 : Below W8.heap.size W8 W9 := by rw [hW9]; exact alloc_below _ _
  have hb09 := th hb08 hE9
  obtain ⟨_, p0, p1, p2, p3, p4⟩ := HGB.out.on hb28
  go_wp2_with fail
  rw [← hW9]
  clear hW9 p0 p1 p2 p3 p4
  refine (HPB.out _ _ (hT.below hb09) hs9).mono ?_
  rintro e w10 ⟨hb10, V10, m10, c10, rfl, hs10⟩
  obtain ⟨W11, hW11⟩ : ∃ W11, W11 = w10.alloc (.cells #[.int .i64 0, .int .i64 0, .int .i64 0, .int .i64 0, .int .i64 0, .string ⟨#[]⟩, .slice V10 m10 c10] 26) := ⟨_, rfl⟩
  have hE11 : Below w10.heap.size w10 W11 := by rw [hW11]; exact alloc_below _ _
  have hb911 := th hE9 (th hb10 hE11)
  go_upto_region 6 with fail
  rw [← hW11]
  clear hW11
  obtain ⟨q0, q1, q2, q3, q4, q5, q6⟩ := HV8.out.on hN8 hb911
  go_wp2_with fail
  go_ret
  exact ⟨rfl, th hb08 hb911⟩
theorem rcell_any {A : Option Addr} {n c : Nat} {l : List UInt8} {w : World} (hl : Bs w A n c l) (a s : Nat) (ha : a ≤ 65535) (hs : s ≤ 4294967295) (hn : n ≤ 96) :
    Calls Tryd.prog 55 #[.int .i64 a, .int .i64 s, .slice A n c] w fun e w' => ∃ V cv, e = .returned (.slice V (n + 11) cv) ∧ Ow byteR 1 w' w.heap.size w.heap.size 5 (.slice V (n + 11) cv) (n + 11) (sealL a s l) ∧ Below w.heap.size w w' := by
  have H := hide (rseal_any hl a s ha hs hn)
  go_enter Tryd.func55, Tryd.ntmps55
  go_wp2_with fail
  refine H.out.mono ?_
  rintro e w1 ⟨V, cv, rfl, ho, hb⟩
  go_wp2_with fail
  go_ret
  exact ⟨V, cv, rfl, ho, hb⟩
end Go.Proofs.YtamgpbkakmffiaaDoor

namespace Go.Proofs.YtamgpbkakmffiaaDoor
open Go.RowKit Go.Lib
set_option linter.unusedVariables false
set_option maxRecDepth 100000

def noAncW : Value := .agg #[.int .i64 0, .int .i64 0, .int .i64 0, .int .i64 0, .int .i64 0, .string ⟨#[]⟩, .slice none 0 0]
set_option maxHeartbeats 2000000 in
theorem npick_arg (g : Geo) (hG : ¬ GeoOk g) (A : Option Addr) (n c : Nat) (w : World) :
    Calls Tryd.prog 47 #[g.v, .slice A n c] w fun e w' => e = .returned (.tuple #[noAncW, .int .i64 0, .int .i64 1]) ∧ Below w.heap.size w w' := by
  have HCK := hide fun w => gcheck_any g w
  rw [show geoErr g = 1 from if_neg hG] at HCK
  obtain ⟨W0, hW0⟩ : ∃ W0, W0 = (w.alloc (.cells #[.int .i64 g.zones, .int .i64 g.data, .int .i64 g.spares, .int .i64 g.slots, .int .i64 g.anchors] 23)).alloc (.cells #[.int .i64 0, .int .i64 0, .int .i64 0, .int .i64 0, .int .i64 0, .string ⟨#[]⟩, .slice none 0 0] 26) := ⟨_, rfl⟩
  have hs0 : W0.heap.size = w.heap.size + 2 := by rw [hW0]; simp
  have hb0 : Below w.heap.size w W0 := by rw [hW0]; exact (alloc_below w _).alloc (by simp) _
  have hgb : GeoAt W0 w.heap.size g := by rw [hW0]; exact (GeoAt.new w g 23).on (alloc_below _ _)
  have hzv : Sev W0 (w.heap.size + 1) (.int .i64 0) (.int .i64 0) (.int .i64 0) (.int .i64 0) (.int .i64 0) (.string ⟨#[]⟩) (.slice none 0 0) := by rw [hW0]; exact Sev.new (by simp) (Below.refl _ _)
  have hfz : ∀ W, Below W0.heap.size W0 W → ∀ k, W.frozen? ⟨w.heap.size + 1, k, none⟩ = false := fun W hW k => (hW.frozen (by show w.heap.size + 1 < _; omega)).trans (by rw [hW0]; exact bx_free2 (by simp) (Below.refl _ _) k)
  have HGB := hide hgb
  have HZV := hide hzv
  have HFZ := hide hfz
  have hpq := hgb.2
  rw [hW0] at hpq
  obtain ⟨p0, p1, p2, p3, p4⟩ := hpq
  unfold noAncW Geo.v at *
  clear hgb hzv hfz
  go_enter Tryd.func47, Tryd.ntmps47
  go_wp2_with fail
  rw [← hW0]
  clear hW0 p0 p1 p2 p3 p4
  refine (HCK.out _).mono ?_
  rintro e w1 ⟨rfl, hb1⟩
  obtain ⟨_, p0, p1, p2, p3, p4⟩ := HGB.out.on hb1
  have hzz := HZV.out.onB (show w.heap.size + 1 < W0.heap.size by omega) hb1
  have f0 := HFZ.out _ hb1 0
  have f1 := HFZ.out _ hb1 1
  have f2 := HFZ.out _ hb1 2
  have f3 := HFZ.out _ hb1 3
  have f4 := HFZ.out _ hb1 4
  have f5 := HFZ.out _ hb1 5
  have f6 := HFZ.out _ hb1 6
  have hzu := put7_sev hzz (.int .i64 0) (.int .i64 0) (.int .i64 0) (.int .i64 0) (.int .i64 0) (.string ⟨#[]⟩) (.slice none 0 0)
  unfold put7 at hzu
  have HZU := hide hzu
  obtain ⟨y0, y1, y2, y3, y4, y5, y6⟩ := hzz
  clear hzu
  go_wp2_with fail
  obtain ⟨u0, u1, u2, u3, u4, u5, u6⟩ := HZU.out
  exact bodyPost_ret (v := .tuple #[.agg #[.int .i64 0, .int .i64 0, .int .i64 0, .int .i64 0, .int .i64 0, .string ⟨#[]⟩, .slice none 0 0], .int .i64 0, .int .i64 1]) (by simp [results, Tryd.results47, go_sem, u0, u1, u2, u3, u4, u5, u6]) rfl ⟨rfl, put7_below (th hb0 hb1) (by omega) _ _ _ _ _ _ _⟩

set_option maxHeartbeats 2000000 in
theorem npick_len (g : Geo) (hG : GeoOk g) (A : Option Addr) (n c : Nat) (w : World) (hn : (n : Int) ≠ g.anchors) :
    Calls Tryd.prog 47 #[g.v, .slice A n c] w fun e w' => e = .returned (.tuple #[noAncW, .int .i64 0, .int .i64 2]) ∧ Below w.heap.size w w' := by
  have HCK := hide fun w => gcheck_any g w
  rw [show geoErr g = 0 from if_pos hG] at HCK
  have tn : ((n : Int) != g.anchors) = true := by simpa using hn
  clear hn
  obtain ⟨W0, hW0⟩ : ∃ W0, W0 = (w.alloc (.cells #[.int .i64 g.zones, .int .i64 g.data, .int .i64 g.spares, .int .i64 g.slots, .int .i64 g.anchors] 23)).alloc (.cells #[.int .i64 0, .int .i64 0, .int .i64 0, .int .i64 0, .int .i64 0, .string ⟨#[]⟩, .slice none 0 0] 26) := ⟨_, rfl⟩
  have hs0 : W0.heap.size = w.heap.size + 2 := by rw [hW0]; simp
  have hb0 : Below w.heap.size w W0 := by rw [hW0]; exact (alloc_below w _).alloc (by simp) _
  have hgb : GeoAt W0 w.heap.size g := by rw [hW0]; exact (GeoAt.new w g 23).on (alloc_below _ _)
  have hzv : Sev W0 (w.heap.size + 1) (.int .i64 0) (.int .i64 0) (.int .i64 0) (.int .i64 0) (.int .i64 0) (.string ⟨#[]⟩) (.slice none 0 0) := by rw [hW0]; exact Sev.new (by simp) (Below.refl _ _)
  have hfz : ∀ W, Below W0.heap.size W0 W → ∀ k, W.frozen? ⟨w.heap.size + 1, k, none⟩ = false := fun W hW k => (hW.frozen (by show w.heap.size + 1 < _; omega)).trans (by rw [hW0]; exact bx_free2 (by simp) (Below.refl _ _) k)
  have HGB := hide hgb
  have HZV := hide hzv
  have HFZ := hide hfz
  have hpq := hgb.2
  rw [hW0] at hpq
  obtain ⟨p0, p1, p2, p3, p4⟩ := hpq
  unfold noAncW Geo.v at *
  clear hgb hzv hfz
  go_enter Tryd.func47, Tryd.ntmps47
  go_wp2_with fail
  rw [← hW0]
  clear hW0 p0 p1 p2 p3 p4
  refine (HCK.out _).mono ?_
  rintro e w1 ⟨rfl, hb1⟩
  obtain ⟨_, p0, p1, p2, p3, p4⟩ := HGB.out.on hb1
  have hzz := HZV.out.onB (show w.heap.size + 1 < W0.heap.size by omega) hb1
  have f0 := HFZ.out _ hb1 0
  have f1 := HFZ.out _ hb1 1
  have f2 := HFZ.out _ hb1 2
  have f3 := HFZ.out _ hb1 3
  have f4 := HFZ.out _ hb1 4
  have f5 := HFZ.out _ hb1 5
  have f6 := HFZ.out _ hb1 6
  have hzu := put7_sev hzz (.int .i64 0) (.int .i64 0) (.int .i64 0) (.int .i64 0) (.int .i64 0) (.string ⟨#[]⟩) (.slice none 0 0)
  unfold put7 at hzu
  have HZU := hide hzu
  obtain ⟨y0, y1, y2, y3, y4, y5, y6⟩ := hzz
  clear hzu
  go_wp2_with fail
  obtain ⟨u0, u1, u2, u3, u4, u5, u6⟩ := HZU.out
  exact bodyPost_ret (v := .tuple #[.agg #[.int .i64 0, .int .i64 0, .int .i64 0, .int .i64 0, .int .i64 0, .string ⟨#[]⟩, .slice none 0 0], .int .i64 0, .int .i64 2]) (by simp [results, Tryd.results47, go_sem, u0, u1, u2, u3, u4, u5, u6]) rfl ⟨rfl, put7_below (th hb0 hb1) (by omega) _ _ _ _ _ _ _⟩

end Go.Proofs.YtamgpbkakmffiaaDoor

namespace Go.Proofs.YtamgpbkakmffiaaDoor
open Go.RowKit Go.Lib
set_option linter.unusedVariables false
set_option maxRecDepth 100000

theorem got_info : (Tryd.prog.info? 78).map (fun i => (i.zero, i.size, i.bytes)) = some (some (.agg #[.int .i64 0, .slice none 0 0]), 2, 32) := by kernel_rfl
theorem pick_app {g : Geo} {L : List Gt} (x : Gt) : ∀ {k : Nat}, k ≤ L.length → pickN g (L ++ [x]) k = pickN g L k
  | 0, _ => rfl
  | k + 1, hk => by
    have ih := pick_app x (k := k) (g := g) (L := L) (by omega)
    have h1 : (L ++ [x])[k]? = L[k]? := List.getElem?_append_left (by omega)
    unfold pickN
    rw [h1, ih]
theorem at_last (L : List Gt) (x : Gt) : (L ++ [x])[L.length]? = some x := by simp

/-- What is picked of the first k readings: its Gen, its place. -/
def BestAt (g : Geo) (L : List Gt) (k : Nat) (best at_ : Int) : Prop := ∃ (a : Anc) (q : Nat) (b : Bool), pickN g L k = (a, q, b) ∧ ((b = true ∧ a.gen = best ∧ at_ = (q : Int) ∧ 0 ≤ best) ∨ (b = false ∧ best = -1 ∧ at_ = 0 ∧ k = 0))
theorem best_none (g : Geo) : BestAt g [] 0 (-1) 0 := ⟨noAnc, 0, false, rfl, .inr ⟨rfl, rfl, rfl, rfl⟩⟩
theorem best_take {g : Geo} {L : List Gt} {l : List UInt8} {best at_ : Int} {A : Anc} {k : Nat} (h : BestAt g L k best at_) (hk : L.length = k) (hs : saysN g 0 l (k : Int) = some A) (hb : best < A.gen) (h0 : 0 ≤ A.gen) : BestAt g (L ++ [⟨0, l⟩]) (k + 1) A.gen (k : Int) := by
  subst hk
  obtain ⟨a, q, b, hp, hc⟩ := h
  have hp2 : pickN g (L ++ [⟨0, l⟩]) L.length = (a, q, b) := (pick_app _ (Nat.le_refl _)).trans hp
  refine ⟨A, L.length, true, cell_take (at_last L ⟨0, l⟩) hs ?_, .inl ⟨rfl, rfl, rfl, h0⟩⟩
  rw [hp2]
  rcases hc with ⟨_, hg, _⟩ | ⟨hf, _⟩
  · exact .inr (by show a.gen < A.gen; omega)
  · exact .inl hf
theorem best_stay {g : Geo} {L : List Gt} {l : List UInt8} {best at_ : Int} {A : Anc} {k : Nat} (h : BestAt g L k best at_) (hk : L.length = k) (hs : saysN g 0 l (k : Int) = some A) (hb : ¬ best < A.gen) (h0 : 0 ≤ A.gen) : BestAt g (L ++ [⟨0, l⟩]) (k + 1) best at_ := by
  subst hk
  obtain ⟨a, q, b, hp, hc⟩ := h
  have hp2 : pickN g (L ++ [⟨0, l⟩]) L.length = (a, q, b) := (pick_app _ (Nat.le_refl _)).trans hp
  rcases hc with ⟨hb1, hg, h2⟩ | ⟨hf, hm, _⟩
  · refine ⟨a, q, b, (cell_stay (at_last L ⟨0, l⟩) hs ?_).trans hp2, .inl ⟨hb1, hg, h2⟩⟩
    rw [hp2, hb1]
    rintro (h | h)
    · cases h
    · exact hb (by have h' : a.gen < A.gen := h; omega)
  · omega
theorem lab_x : labE (sL ⟨#[120]⟩) = 0 := by
  have h : decs (sL ⟨#[120]⟩) = [(120, 1)] := by
    have e : sL ⟨#[120]⟩ = [120] := rfl
    rw [e, ← decsF_eq 1 _ (by decide)]; decide +kernel
  rw [labE_ok, h]
  exact ⟨by decide, by decide⟩
def genA (z d G : Nat) : Anc := { newAnc z d ⟨#[120]⟩ with gen := (G : Int) }
theorem genA_ok {g : Geo} {z d G : Nat} (hG : GeoOk g) (hz : g.zones = (z : Int)) (hd : g.data = (d : Int)) (hg : G < 1000) : AncOk g (genA z d G) := by
  obtain ⟨⟨_, h1⟩, h2, h3, h4⟩ := newAnc_ok (name := ⟨#[120]⟩) hG hz hd lab_x
  exact ⟨⟨⟨by show (0 : Int) ≤ (G : Int); omega, by show (G : Int) ≤ 4294967295; omega⟩, h1⟩, h2, h3, h4⟩
theorem genA_in {z d G : Nat} (hg : G < 1000) : (genA z d G).In := by
  obtain ⟨_, h⟩ := newAnc_in (z := z) (d := d) (name := ⟨#[120]⟩) (by decide)
  exact ⟨⟨by show (-9223372036854775808 : Int) ≤ (G : Int); omega, by show (G : Int) ≤ 9223372036854775807; omega⟩, h⟩
theorem genA_light {z d G : Nat} (hz : z ≤ 4) (hd : d ≤ 4) : Light (genA z d G) := newAnc_light (z := z) (d := d) (name := ⟨#[120]⟩) (by decide) (by omega) (by omega)

set_option maxHeartbeats 8000000 in
theorem law_newestGens {w : World} {A : Option Addr} {n c : Nat} {X : List Int} (hT : Tabs w) (z : Int) (hz : InI z) (d : Int) (hd : InI d) (a : Int) (ha : InI a) (hx : Is w A n c X) :
    Calls Tryd.prog 14 #[.int .i64 z, .int .i64 d, .int .i64 a, .slice A n c] w fun e w' => e = .returned (.bool true) ∧ Below w.heap.size w w' := by
  obtain ⟨e0, he0, ee0, ee1, ee2⟩ := info_parts got_info
  have hs0 := fun w => some_any z d 1 0 a hz hd inI_1 inI_0 ha w
  have hgo := someG_ok z d 1 0 a
  obtain ⟨g, hg⟩ : ∃ g, g = someG z d 1 0 a := ⟨_, rfl⟩
  rw [← hg] at hs0 hgo
  obtain ⟨Z, hZ⟩ : ∃ Z : Nat, g.zones = (Z : Int) := ⟨g.zones.toNat, by have := hgo.1; omega⟩
  obtain ⟨D, hD⟩ : ∃ D : Nat, g.data = (D : Int) := ⟨g.data.toNat, by have := hgo.2.1; omega⟩
  obtain ⟨M, hM⟩ : ∃ M : Nat, g.anchors = (M : Int) := ⟨g.anchors.toNat, by have := hgo.2.2.2.2; omega⟩
  have hZ4 : Z ≤ 4 := by have := hgo.1; omega
  have hD4 : D ≤ 4 := by have := hgo.2.1; omega
  have hM3 : 1 ≤ M ∧ M ≤ 3 := by have := hgo.2.2.2.2; omega
  obtain ⟨hM1, hM3⟩ := hM3
  have hfi := fun w => rafirst_any (g := g) hZ hD hZ4 hD4 ⟨#[120]⟩ w
  have hce : ∀ (k G : Nat), k < M → G < 1000 → ∀ (V : Option Addr) (c : Nat) (w : World), Tabs w → Sl homR 3 w (Old w) V Z c (List.replicate Z (newHom D)) →
      Calls Tryd.prog 48 #[g.v, (genA Z D G).v (.slice V Z c), .int .i64 (k : Int)] w fun e w' => Below w.heap.size w w' ∧ ∃ V m cv l, e = .returned (.tuple #[.slice V m cv, .int .i64 0]) ∧ m ≤ 1000 ∧ Sl byteR 1 w' (New w.heap.size w') V m cv l ∧ saysN g 0 l (k : Int) = some (genA Z D G) := fun k G hk hG V c w hT hs => by
    have hok := genA_ok hgo hZ hD hG
    have hr := (anc_room hgo hok).2
    refine (ncell_yes g (genA Z D G) V Z c k w hT hs (genA_in hG) (genA_light hZ4 hD4) ⟨hgo, hok, by omega, by omega⟩).mono ?_
    rintro e w' ⟨V, cv, rfl, ho, hb⟩
    exact ⟨hb, V, _, cv, _, rfl, by omega, ho.new_ byteR_fine (Nat.le_refl _) (Nat.le_refl _), by rw [says_cell hgo hok (by omega)]; exact if_pos rfl⟩
  have hpi := fun (V : Option Addr) (c : Nat) (L : List Gt) (w : World) (hT : Tabs w) (h : Sl gotR 2 w (Old w) V M c L) (hb : ∀ x ∈ L, x.bytes.length ≤ 60000) => npick_yes g hgo V M c L w hT h hM.symm hb
  have HGO := hide hgo
  have hlenX := hx.len
  have HBN := hide (best_none g)
  have HBT := hide fun (L : List Gt) (l : List UInt8) (best at_ : Int) (k G : Nat) (h : BestAt g L k best at_) (hk : L.length = k) (hs : saysN g 0 l (k : Int) = some (genA Z D G)) (hb : best < (G : Int)) => best_take h hk hs (show best < (genA Z D G).gen from hb) (show (0 : Int) ≤ (G : Int) by omega)
  have HBS := hide fun (L : List Gt) (l : List UInt8) (best at_ : Int) (k G : Nat) (h : BestAt g L k best at_) (hk : L.length = k) (hs : saysN g 0 l (k : Int) = some (genA Z D G)) (hb : ¬ best < (G : Int)) => best_stay h hk hs (show ¬ best < (genA Z D G).gen from hb) (show (0 : Int) ≤ (G : Int) by omega)
  unfold genA newAnc Anc.v at hce
  unfold Geo.v at hs0 hfi hce hpi
  unfold newAnc Anc.v at hfi
  dsimp only at hce hs0 hfi hpi
  obtain ⟨gz, gd, gs, gl, ga⟩ := g
  dsimp only at hZ hD hM hs0 hfi hce hpi
  subst hZ
  subst hD
  subst hM
  have HS0 := hide hs0
  have HFI := hide hfi
  have HCE := hide hce
  have HPI := hide hpi
  clear hs0 hfi hce hpi hg hgo hz hd ha
  by_cases hbad : n < M ∨ 10 < n
  · rcases hbad with h | h
    · have h1 : (n : Int) < (M : Int) := by omega
      go_enter Tryd.func14, Tryd.ntmps14
      go_wp2_with fail
      refine (HS0.out _).mono ?_
      rintro e w1 ⟨rfl, hb1⟩
      have hE2 := alloc_below w1 (.cells #[.int .i64 Z, .int .i64 D, .int .i64 gs, .int .i64 gl, .int .i64 M] 23)
      go_wp2_with fail
      go_ret
      exact ⟨rfl, th hb1 hE2⟩
    · have h1 : ¬ (n : Int) < (M : Int) := by omega
      have h2 : (10 : Int) < (n : Int) := by omega
      go_enter Tryd.func14, Tryd.ntmps14
      go_wp2_with fail
      refine (HS0.out _).mono ?_
      rintro e w1 ⟨rfl, hb1⟩
      have hE2 := alloc_below w1 (.cells #[.int .i64 Z, .int .i64 D, .int .i64 gs, .int .i64 gl, .int .i64 M] 23)
      go_wp2_with fail
      go_ret
      exact ⟨rfl, th hb1 hE2⟩
  have h1 : ¬ (n : Int) < (M : Int) := by omega
  have h2 : ¬ (10 : Int) < (n : Int) := by omega
  have hMn : M ≤ n := by omega
  have h1d : decide (n < M) = false := by simpa using hMn
  have h2d : decide ((10 : Int) < (n : Int)) = false := by simpa using h2
  clear hbad
  go_enter Tryd.func14, Tryd.ntmps14
  go_wp2_with fail
  refine (HS0.out _).mono ?_
  rintro e w1 ⟨rfl, hb1⟩
  obtain ⟨W2, hW2⟩ : ∃ W2, W2 = w1.alloc (.cells #[.int .i64 Z, .int .i64 D, .int .i64 gs, .int .i64 gl, .int .i64 M] 23) := ⟨_, rfl⟩
  have hE2 : Below w1.heap.size w1 W2 := by rw [hW2]; exact alloc_below _ _
  have hgb : GeoAt W2 w1.heap.size ⟨Z, D, gs, gl, M⟩ := by rw [hW2]; exact GeoAt.new w1 ⟨Z, D, gs, gl, M⟩ 23
  have HGB := hide hgb
  have hb02 := th hb1 hE2
  have hx2 := hx.on intR_fine hb02
  clear hgb
  go_wp2_with fail
  rw [← hW2]
  clear hW2
  go_loopw [10, 11, 12, 13] (fun l b t i wr => ∃ k : Nat, ∃ V cv L, ∃ best at_ : Int, k ≤ M ∧ i = .int .i64 k ∧ b = .int .i64 best ∧ t = .int .i64 at_ ∧ l = .slice V k cv ∧ Ow gotR 2 wr W2.heap.size 0 78 (.slice V k cv) k L ∧ Hid (BestAt ⟨Z, D, gs, gl, M⟩ L k best at_) ∧ Hid (∀ x ∈ L, x.bytes.length ≤ 60000) ∧ Below W2.heap.size W2 wr) (fun _ _ _ i _ => M - (RowKit.intOf i).toNat)
  case atStart => exact ⟨0, none, 0, [], -1, 0, Nat.zero_le _, rfl, rfl, rfl, rfl, Ow.nil_ _ _ _ _, HBN, hide (by simp), Below.refl _ _⟩
  case round =>
    obtain ⟨k, V, cv, L, best, at_, hk, rfl, rfl, rfl, rfl, ho, hbest, hlb, hb⟩ := hrel
    obtain ⟨_, p0, p1, p2, p3, p4⟩ := HGB.out.on hb
    by_cases hlt : k < M
    · have hlI : (k : Int) < (M : Int) := by omega
      have k0 : (0 : Int) ≤ (k : Int) := by omega
      have k1 : (k : Int) < (n : Int) := by omega
      have hbk := hb
      have hszb := hb.size
      go_wp2_with fail
      refine (HFI.out _).mono ?_
      rintro e w3 ⟨hb3, V3, c3, rfl, hs3⟩
      obtain ⟨ad, x, rfl, hadl, hxk, hxi, hxc⟩ := at_int (hx2.on intR_fine (th hb (th hb3 (alloc_below w3 (.cells #[.int .i64 1, .int .i64 0, .int .i64 0, .int .i64 1, .int .i64 0, .string ⟨#[120]⟩, .slice V3 Z c3] 26))))) (show k < n by omega)
      obtain ⟨G, hu, hG⟩ := um_is x 1000 (by omega) (by omega)
      obtain ⟨ha1, hc1⟩ := um_rawG hu (by omega) (by omega)
      have ha1' : (IntKind.u64.wrap x).tmod 1000 = (G : Int) := ha1
      have hc1' : IntKind.u64.wrap x % 1000 = (G : Int) := hc1
      have z1 : IntKind.i64.wrap (G : Int) = (G : Int) := IntWalk.i64_in _ (by omega)
      have z2 : IntKind.u64.wrap (G : Int) = (G : Int) := by rw [IntKind.wrap_u64]; omega
      have hfr : (w3.alloc (.cells #[.int .i64 1, .int .i64 0, .int .i64 0, .int .i64 1, .int .i64 0, .string ⟨#[120]⟩, .slice V3 Z c3] 26)).frozen? ⟨w3.heap.size, 0, none⟩ = false := box_free (Below.refl _ _) 0
      have hsv : Sev (w3.alloc (.cells #[.int .i64 1, .int .i64 0, .int .i64 0, .int .i64 1, .int .i64 0, .string ⟨#[120]⟩, .slice V3 Z c3] 26)) w3.heap.size (.int .i64 1) (.int .i64 0) (.int .i64 0) (.int .i64 1) (.int .i64 0) (.string ⟨#[120]⟩) (.slice V3 Z c3) := Sev.new rfl (Below.refl _ _)
      obtain ⟨W4, hW4⟩ : ∃ W4, W4 = w3.alloc (.cells #[.int .i64 (G : Int), .int .i64 0, .int .i64 0, .int .i64 1, .int .i64 0, .string ⟨#[120]⟩, .slice V3 Z c3] 26) := ⟨_, rfl⟩
      have hE4 : Below w3.heap.size w3 W4 := by rw [hW4]; exact alloc_below _ _
      have hN4 : w3.heap.size < W4.heap.size := by rw [hW4]; simp
      have hv4 : Sev W4 w3.heap.size (.int .i64 (G : Int)) (.int .i64 0) (.int .i64 0) (.int .i64 1) (.int .i64 0) (.string ⟨#[120]⟩) (.slice V3 Z c3) := by rw [hW4]; exact Sev.new rfl (Below.refl _ _)
      have hs4 := (hs3.old_ homR_fine).on homR_fine hE4
      have hb34 := th hb3 hE4
      have hb24 := th hb hb34
      have HV4 := hide hv4
      have hN3 := hb3.size
      obtain ⟨y0, _⟩ := hsv
      clear hu ha1 hc1 hv4 hxk
      go_upto_region 11 with fail
      rw [← hW4]
      clear hW4 hxc hfr y0 p0 p1 p2 p3 p4
      obtain ⟨_, p0, p1, p2, p3, p4⟩ := HGB.out.on hb24
      obtain ⟨q0, q1, q2, q3, q4, q5, q6⟩ := HV4.out
      go_wp2_with fail
      with_reducible refine (HCE.out k G hlt hG _ _ _ (hT.below (th hb02 hb24)) hs4).mono ?_
      rintro e w5 ⟨hb5, V5, m5, c5, l5, rfl, hm5, hs5, hsy⟩
      have hb25 := th hb24 hb5
      have ho5 := (ho.below gotR_fine hb34).below gotR_fine hb5
      have hltV : ∀ j, (Value.slice V k cv).ownBlock = some j → j < wr.heap.size := fun j e => (ho.lt j e).2
      have hlit : Sl gotR 2 (w5.alloc (.cells #[.int .i64 0, .slice V5 m5 c5] 78)) (But (w5.alloc (.cells #[.int .i64 0, .slice V5 m5 c5] 78)) 0 (.slice V k cv)) (some ⟨w5.heap.size, 0, none⟩) 1 1 [⟨0, l5⟩] := by
        refine Sl.one_ gotR_fine ⟨V5, m5, c5, rfl, inI_0, hs5.move byteR_fine (fun _ _ => rfl) (fun b hb => ⟨Nat.zero_le _, hb.2, fun e => ?_⟩)⟩ (fun j e => ?_) (Nat.zero_le _)
        · have h1 := hltV b e.symm
          have h2 := hb.1
          have h3 := hb34.size
          omega
        · have h1 := hltV j e
          have h3 := hb34.size
          have h4 := hb5.size
          omega
      have hE6 := alloc_below w5 (.cells #[.int .i64 0, .slice V5 m5 c5] 78)
      have hoE := ho5.below gotR_fine hE6
      have hb26 := th hb25 hE6
      have hsE : W2.heap.size ≤ (w5.alloc (.cells #[.int .i64 0, .slice V5 m5 c5] 78)).heap.size := hb26.size
      have hLk : L.length = k := ho.len
      have hl5 : l5.length = m5 := hs5.len
      have hlb2 : Hid (∀ y ∈ L ++ [(⟨0, l5⟩ : Gt)], y.bytes.length ≤ 60000) := hide fun y hy => by
        rcases List.mem_append.1 hy with h | h
        · exact hlb.out y h
        · simp at h
          subst h
          show l5.length ≤ 60000
          omega
      have h56 := (th hb5 hE6)
      have HSY := hide hsy
      have HQ0 := hide ((h56.cell (p := ⟨w3.heap.size, 0, none⟩) hN4).trans q0)
      have hN6 : w3.heap.size < (w5.alloc (.cells #[.int .i64 0, .slice V5 m5 c5] 78)).heap.size := Nat.lt_of_lt_of_le hN4 h56.size
      have hne3 : ∀ j, (Value.slice V k cv).ownBlock = some j → j ≠ w3.heap.size := fun j e => by
        have := hltV j e
        omega
      have HNE := hide hne3
      have HL5 := hide hl5
      have HLK := hide hLk
      clear hsy q0 q1 q2 q3 q4 q5 q6 p0 p1 p2 p3 p4 hne3 hltV hl5 hLk
      by_cases hgt : best < (G : Int)
      · go_wp2_with (at_builtin; refine wpList_append_ow _ rfl (.tmp 59) (.tmp 62) _ rfl gotR_fine W2.heap.size 0 78 e0 _ 32 Tryd.underlying76 he0 ee0 ee1 ee2 rfl (by omega) (.slice V k cv) k _ rfl hoE _ _ 1 1 _ rfl hlit (fun _ _ _ h => h) (by simp only [maxLen]; omega) (by omega) hsE ?_; intro V6 w6 ho6 hg6 hat6; obtain ⟨A6, c6, rfl⟩ := ho6.form; have ct6 : w6.cell? ⟨w3.heap.size, 0, none⟩ = some (.int .i64 (G : Int)) := (World.cell?_of_block (a := ⟨w3.heap.size, 0, none⟩) (hg6.block w3.heap.size hN6 (fun e => HNE.out _ e.symm rfl))).trans HQ0.out)
        have hb6 := below_grown hg6 hoE.lt hsE
        go_roundw
        case rel => exact ⟨k + 1, A6, c6, _, _, _, by omega, by go_num, rfl, rfl, rfl, ho6, hide (HBT.out L l5 best at_ k G hbest.out HLK.out HSY.out hgt), hlb2, hb26.trans hb6⟩
        case measure => (first | omega | (simp [RowKit.intOf]; omega) | (unfold RowKit.intOf; simp; omega) | go_num)
      · go_wp2_with (at_builtin; refine wpList_append_ow _ rfl (.tmp 59) (.tmp 62) _ rfl gotR_fine W2.heap.size 0 78 e0 _ 32 Tryd.underlying76 he0 ee0 ee1 ee2 rfl (by omega) (.slice V k cv) k _ rfl hoE _ _ 1 1 _ rfl hlit (fun _ _ _ h => h) (by simp only [maxLen]; omega) (by omega) hsE ?_; intro V6 w6 ho6 hg6 hat6; obtain ⟨A6, c6, rfl⟩ := ho6.form; have ct6 : w6.cell? ⟨w3.heap.size, 0, none⟩ = some (.int .i64 (G : Int)) := (World.cell?_of_block (a := ⟨w3.heap.size, 0, none⟩) (hg6.block w3.heap.size hN6 (fun e => HNE.out _ e.symm rfl))).trans HQ0.out)
        have hb6 := below_grown hg6 hoE.lt hsE
        go_roundw
        case rel => exact ⟨k + 1, A6, c6, _, _, _, by omega, by go_num, rfl, rfl, rfl, ho6, hide (HBS.out L l5 best at_ k G hbest.out HLK.out HSY.out hgt), hlb2, hb26.trans hb6⟩
        case measure => (first | omega | (simp [RowKit.intOf]; omega) | (unfold RowKit.intOf; simp; omega) | go_num)
    · obtain rfl : k = M := by omega
      obtain ⟨a9, q9, b9, hp9, hc9⟩ := hbest.out
      have hr9 := ho.read gotR_fine
      obtain ⟨rfl, rfl, rfl, _⟩ : b9 = true ∧ a9.gen = best ∧ at_ = (q9 : Int) ∧ 0 ≤ best := by
        rcases hc9 with h | ⟨_, _, _, hk0⟩
        · exact h
        · omega
      have hpe : pickE ⟨Z, D, gs, gl, k⟩ L k = 0 := by unfold pickE; rw [hp9]; rfl
      have hpk := HPI.out V cv L wr (hT.below (th hb02 hb)) hr9 hlb.out
      rw [hp9, hpe] at hpk
      unfold Anc.v at hpk
      dsimp only at hpk
      have HPK := hide hpk
      have hkk : ¬ (k : Int) < (k : Int) := by omega
      clear hpk hpe hp9
      go_wp2_with fail
      with_reducible refine HPK.out.mono ?_
      rintro e w3 ⟨hb3, V3, m3, c3, rfl, hs3⟩
      obtain ⟨W4, hW4⟩ : ∃ W4, W4 = w3.alloc (.cells #[.int .i64 a9.gen, .int .i64 a9.epoch, .int .i64 a9.pos, .int .i64 a9.seq, .int .i64 a9.last, .string a9.label, .slice V3 m3 c3] 26) := ⟨_, rfl⟩
      have hE4 : Below w3.heap.size w3 W4 := by rw [hW4]; exact alloc_below _ _
      have hv4 : Sev W4 w3.heap.size (.int .i64 a9.gen) (.int .i64 a9.epoch) (.int .i64 a9.pos) (.int .i64 a9.seq) (.int .i64 a9.last) (.string a9.label) (.slice V3 m3 c3) := by rw [hW4]; exact Sev.new rfl (Below.refl _ _)
      have hb04 := th hb02 (th hb (th hb3 hE4))
      obtain ⟨q0, _⟩ := hv4
      clear p0 p1 p2 p3 p4
      go_upto_region 18 with fail
      rw [← hW4]
      clear hW4
      go_wp2_with fail
      refine (wakes09 _ (hT.below hb04)).mono ?_
      rintro e w5 ⟨rfl, hb5⟩
      go_wp2_with fail
      go_ret
      exact ⟨rfl, th hb04 hb5⟩

end Go.Proofs.YtamgpbkakmffiaaDoor

namespace Go.Proofs.YtamgpbkakmffiaaDoor
open Go.RowKit Go.Lib
set_option linter.unusedVariables false
set_option maxRecDepth 100000

/-- More readings than are played? -/
def heavyG (L : List Gt) : Bool := decide (80 < L.length) || L.any fun x => decide (300 < x.bytes.length)
theorem heavyG_no {L : List Gt} (h : heavyG L = false) : L.length ≤ 80 ∧ ∀ x ∈ L, x.bytes.length ≤ 300 := by
  unfold heavyG at h
  rw [Bool.or_eq_false_iff] at h
  refine ⟨by have := of_decide_eq_false h.1; omega, fun x hx => ?_⟩
  have h2 := List.any_eq_false.1 h.2 x hx
  simpa using h2
theorem heavyG_long {L : List Gt} (h : 80 < L.length) : heavyG L = true := by
  unfold heavyG
  rw [decide_eq_true h, Bool.true_or]
theorem heavyG_big {L : List Gt} {k : Nat} {x : Gt} (hx : L[k]? = some x) (h : 300 < x.bytes.length) : heavyG L = true := by
  unfold heavyG
  rw [Bool.or_eq_true]
  exact .inr (List.any_eq_true.2 ⟨x, List.mem_of_getElem? hx, decide_eq_true h⟩)
theorem heavyG_ok {L : List Gt} (h : L.length ≤ 80) (h2 : ∀ j x, j < L.length → L[j]? = some x → x.bytes.length ≤ 300) : heavyG L = false := by
  unfold heavyG
  rw [Bool.or_eq_false_iff]
  refine ⟨decide_eq_false (by omega), List.any_eq_false.2 fun x hx => ?_⟩
  obtain ⟨j, hj, e⟩ := List.mem_iff_getElem.1 hx
  have := h2 j x hj (by rw [List.getElem?_eq_getElem hj, e])
  simpa using this

set_option maxHeartbeats 2000000 in
theorem heavyg_any (A : Option Addr) (n c : Nat) (L : List Gt) (w : World) (hl : Sl gotR 2 w (Old w) A n c L) :
    Calls Tryd.prog 44 #[.slice A n c] w fun e w' => e = .returned (.bool (heavyG L)) ∧ w = w' := by
  have hlen := hl.len
  by_cases h80 : 80 < n
  · rw [heavyG_long (by omega)]
    have h80' : (80 : Int) < (n : Int) := by omega
    clear hlen
    go_enter Tryd.func44, Tryd.ntmps44
    go_wp2_with fail
    go_ret
    exact ⟨rfl, rfl⟩
  · have h80' : ¬ (80 : Int) < (n : Int) := by omega
    obtain ⟨R, hR⟩ : ∃ R, R = heavyG L := ⟨_, rfl⟩
    rw [← hR]
    have HBIG := hide fun (k : Nat) (x : Gt) (hx : L[k]? = some x) (h : 300 < x.bytes.length) => hR.trans (heavyG_big hx h)
    have HOK := hide fun (h2 : ∀ j x, j < L.length → L[j]? = some x → x.bytes.length ≤ 300) => hR.trans (heavyG_ok (by omega) h2)
    have HLEN := hide hlen
    clear hR hlen
    go_enter Tryd.func44, Tryd.ntmps44
    go_wp2_with fail
    go_loopw [3] (fun i wr => ∃ k : Nat, k ≤ n ∧ i = .int .i64 k ∧ wr = w ∧ Hid (∀ j x, j < k → L[j]? = some x → x.bytes.length ≤ 300)) (fun i _ => n - (RowKit.intOf i).toNat)
    case atStart => exact ⟨0, Nat.zero_le _, rfl, rfl, hide (fun j x h => by omega)⟩
    case round =>
      obtain ⟨k, hk, rfl, rfl, hall⟩ := hrel
      by_cases hlt : k < n
      · obtain ⟨ad, x, A', n', c', rfl, _, hx, _, hs, c0, c1⟩ := at_gt hl hlt
        have hki : (k : Int) < (n : Int) := by omega
        have hk0 : (0 : Int) ≤ (k : Int) := by omega
        have hxl := hs.len
        by_cases h3 : 300 < n'
        · have h3' : (300 : Int) < (n' : Int) := by omega
          obtain rfl := HBIG.out k x hx (by omega)
          clear hx hxl c0
          go_wp2_with fail
          go_ret
          exact ⟨rfl, rfl⟩
        · have h3' : ¬ (300 : Int) < (n' : Int) := by omega
          have hall2 : Hid (∀ j y, j < k + 1 → L[j]? = some y → y.bytes.length ≤ 300) := hide fun j y hj hy => by
            by_cases e : j = k
            · subst e
              rw [hx] at hy
              injection hy with hy
              subst hy
              omega
            · exact hall.out j y (by omega) hy
          clear hx hxl c0
          go_wp2_with fail
          go_roundw
          case rel => exact ⟨k + 1, by omega, by go_num, by first | trivial | rfl, hall2⟩
          case measure => (first | omega | (simp [RowKit.intOf]; omega) | (unfold RowKit.intOf; simp; omega) | go_num)
      · obtain rfl : k = n := by omega
        obtain rfl := HOK.out (fun j x hj hx => hall.out j x (by have := HLEN.out; omega) hx)
        have hkk : ¬ (k : Int) < (k : Int) := by omega
        go_wp2_with fail
        go_ret
        exact ⟨rfl, rfl⟩

set_option maxHeartbeats 2000000 in
theorem gots_true (A B : Option Addr) (n c d : Nat) (L : List Gt) (w : World) (ha : Sl gotR 2 w (Old w) A n c L) (hb : Sl gotR 2 w (Old w) B n d L) (hn : n ≤ 65536) (hl : ∀ x ∈ L, x.bytes.length ≤ 65536) :
    Calls Tryd.prog 49 #[.slice A n c, .slice B n d] w fun e w' => e = .returned (.bool true) ∧ ∃ q, w' = w.drewN q := by
  have HL := hide hl
  clear hl
  go_enter Tryd.func49, Tryd.ntmps49
  go_wp2_with fail
  go_loopw [5] (fun i wr => ∃ k : Nat, k ≤ n ∧ i = .int .i64 k ∧ Hid (∃ q, wr = w.drewN q)) (fun i _ => n - (RowKit.intOf i).toNat)
  case atStart => exact ⟨0, Nat.zero_le _, rfl, 0, rfl⟩
  case round =>
    obtain ⟨k, hk, rfl, hq⟩ := hrel
    by_cases hlt : k < n
    · have hbw : Below w.heap.size w wr := by obtain ⟨q, rfl⟩ := hq; exact World.drewN_zero w ▸ ⟨rfl, rfl, rfl, Nat.le_refl _, fun _ _ => rfl⟩
      obtain ⟨ad, x, A1, n1, c1, rfl, _, hx, _, hs, k0, k1⟩ := at_gt (ha.on gotR_fine hbw) hlt
      obtain ⟨bd, x', B1, m1, d1, rfl, _, hx', _, hs', l0, l1⟩ := at_gt (hb.on gotR_fine hbw) hlt
      rw [hx] at hx'
      injection hx' with hx'
      subst hx'
      have hn1 : n1 ≤ 65536 := by rw [← hs.len]; exact HL.out x (List.mem_of_getElem? hx)
      have hki : (k : Int) < (n : Int) := by omega
      have hk00 : (0 : Int) ≤ (k : Int) := by omega
      have hee : (x.err != x.err) = false := by simp
      clear hx
      have hc : ∀ r, Calls Tryd.prog 40 #[.slice A1 n1 c1, .slice B1 m1 d1] (wr.drewN r) fun e w' => e = .returned (.bool true) ∧ ∃ m, w' = (wr.drewN r).drewN m := by
        intro r
        have h := bytes_any A1 B1 n1 c1 m1 d1 x.bytes x.bytes (wr.drewN r) (hs.move byteR_fine (fun _ _ => rfl) (fun _ h => h)) (hs'.move byteR_fine (fun _ _ => rfl) (fun _ h => h)) hn1
        simpa using h
      have HC := hide hc
      clear hc
      go_wp2_with fail
      go_quiet ((go_at_call 40; exact Calls.quiet_of (HC.out _)))
      go_wp2_with fail
      go_roundw
      case rel => exact ⟨k + 1, by omega, by go_num, by obtain ⟨q, rfl⟩ := hq; exact ⟨_, World.drewN_drewN _ _ _⟩⟩
      case measure => (first | omega | (simp [RowKit.intOf]; omega) | (unfold RowKit.intOf; simp; omega) | go_num)
    · obtain rfl : k = n := by omega
      have hkk : ¬ (k : Int) < (k : Int) := by omega
      go_wp2_with fail
      go_ret
      exact ⟨rfl, hq.out⟩

set_option maxHeartbeats 8000000 in
theorem katg_any (A : Option Addr) (n c : Nat) (L : List Gt) (w : World) (hl : Sl gotR 2 w (Old w) A n c L) (hn : n ≤ 6000) (hb : ∀ x ∈ L, x.bytes.length ≤ 60000) :
    Calls Tryd.prog 45 #[.slice A n c] w fun e w' => Below w.heap.size w w' ∧ ∃ V d, e = .returned (.slice V n d) ∧ Sl gotR 2 w' (Old w') V n d L := by
  obtain ⟨e0, he0, ee0, ee1, ee2⟩ := info_parts got_info
  have HB := hide hb
  have HLEN := hide hl.len
  clear hb
  go_enter Tryd.func45, Tryd.ntmps45
  go_wp2_with fail
  go_loopw [3, 4] (fun v i wr => ∃ k : Nat, ∃ V cv, k ≤ n ∧ i = .int .i64 k ∧ v = .slice V k cv ∧ Ow gotR 2 wr w.heap.size 0 78 (.slice V k cv) k (L.take k) ∧ Below w.heap.size w wr) (fun _ i _ => n - (RowKit.intOf i).toNat)
  case atStart => exact ⟨0, none, 0, Nat.zero_le _, rfl, rfl, Ow.nil_ _ _ _ _, Below.refl _ _⟩
  case round =>
    obtain ⟨k, V, cv, hk, rfl, rfl, ho, hbw⟩ := hrel
    by_cases hlt : k < n
    · obtain ⟨ad, x, A', n', c', rfl, hadl, hx, hxi, hs, d0, d1⟩ := at_gt hl hlt
      have ablk : (ad.add (k * 2)).block = ad.block := by unfold Addr.add; split <;> rfl
      have hki : (k : Int) < (n : Int) := by omega
      have hk0 : (0 : Int) ≤ (k : Int) := by omega
      have hn' : n' ≤ 60000 := by rw [← hs.len]; exact HB.out x (List.mem_of_getElem? hx)
      have HTK : Hid (L.take (k + 1) = L.take k ++ [⟨x.err, x.bytes⟩]) := hide (by
        obtain ⟨hk2, e⟩ := List.getElem?_eq_some_iff.1 hx
        rw [List.take_succ_eq_append_getElem hk2, e])
      have HS : Hid (∀ W, Below w.heap.size w W → W.cell? (ad.add (k * 2)) = some (.int .i64 x.err) ∧ W.cell? ⟨(ad.add (k * 2)).block, (ad.add (k * 2)).off + 1, none⟩ = some (.slice A' n' c')) := hide fun W hW =>
        ⟨below_cell hW hadl d0, (hW.cell (p := ⟨(ad.add (k * 2)).block, (ad.add (k * 2)).off + 1, none⟩) (by show (ad.add (k * 2)).block < _; rw [ablk]; exact hadl)).trans d1⟩
      have HTW : Hid (∀ W, Below w.heap.size w W → Calls Tryd.prog 42 #[.slice A' n' c'] W fun e w' => ∃ U u, e = .returned (.slice U n' u) ∧ Sl byteR 1 w' (New W.heap.size w') U n' u x.bytes ∧ Below W.heap.size W w') := hide fun W hW =>
        (twin_any A' n' c' x.bytes W (hs.on byteR_fine hW) (by omega)).mono fun e w' ⟨U, u, h1, h2, h3⟩ => ⟨U, u, h1, h2.new_ byteR_fine (Nat.le_refl _) (Nat.le_refl _), h3⟩
      have hltV : ∀ j, (Value.slice V k cv).ownBlock = some j → j < wr.heap.size := fun j e => (ho.lt j e).2
      have hcur := hbw
      clear hx d0 d1 ablk
      go_upto_region 5 with fail
      go_region_held3 (fun W => W.cell? (ad.add (k * 2)) = some (.int .i64 x.err) ∧ W.cell? ⟨(ad.add (k * 2)).block, (ad.add (k * 2)).off + 1, none⟩ = some (.slice A' n' c')) (first | with_reducible exact HS.out _ hcur | with_reducible exact HS.out _ hcur.drew | with_reducible exact HS.out _ (hcur.alloc hcur.size _) | with_reducible exact HS.out _ (hcur.alloc hcur.size _).drew) (first
        | (go_at_call 42; (with_reducible refine (HTW.out _ (by first | with_reducible exact hcur | with_reducible exact hcur.drew)).mono ?_); rintro e w7 ⟨V7, c7, rfl, hs7, hb7⟩; have hb7' : Below wr.heap.size wr w7 := (by first | exact hb7 | exact undrewB hb7); have hcur := hcur.trans (hb7'.mono hcur.size))
        | (have hoE := (ho.below gotR_fine hb7').below gotR_fine (alloc_below w7 (.cells #[.int .i64 x.err, .slice V7 n' c7] 78)); have hlit : Sl gotR 2 (w7.alloc (.cells #[.int .i64 x.err, .slice V7 n' c7] 78)) (But (w7.alloc (.cells #[.int .i64 x.err, .slice V7 n' c7] 78)) 0 (.slice V k cv)) (some ⟨w7.heap.size, 0, none⟩) 1 1 [⟨x.err, x.bytes⟩] := Sl.one_ gotR_fine ⟨V7, n', c7, rfl, hxi, hs7.move byteR_fine (fun _ _ => rfl) (fun b hb => ⟨Nat.zero_le _, hb.2, fun e => absurd (hltV b e.symm) (Nat.not_lt.2 hb.1)⟩)⟩ (fun j e => Nat.lt_of_lt_of_le (hltV j e) hb7'.size) (Nat.zero_le _); have hsE : w.heap.size ≤ (w7.alloc (.cells #[.int .i64 x.err, .slice V7 n' c7] 78)).heap.size := (hcur.alloc hcur.size _).size; refine step_append_ow _ (by rfl) _ _ _ (by rfl) gotR_fine w.heap.size 0 78 e0 _ 32 Tryd.underlying76 he0 ee0 ee1 ee2 rfl (by omega) (.slice V k cv) k _ (by rfl) hoE _ _ 1 1 _ (by rfl) hlit (fun _ _ _ h => h) (by simp only [maxLen]; omega) (by omega) hsE ?_; intro V9 w9 ho9 hg9 hat9; obtain ⟨A9, c9, rfl⟩ := ho9.form; have hcur := (hcur.alloc hcur.size (.cells #[.int .i64 x.err, .slice V7 n' c7] 78)).trans (below_grown hg9 hoE.lt hsE)))
      all_goals
        go_wp2_with fail
        rw [← HTK.out] at ho9
        go_roundw
        case rel => exact ⟨k + 1, A9, c9, by omega, by go_num, rfl, ho9, hcur⟩
        case measure => (first | omega | (simp [RowKit.intOf]; omega) | (unfold RowKit.intOf; simp; omega) | go_num)
    · obtain rfl : k = n := by omega
      have hkk : ¬ (k : Int) < (k : Int) := by omega
      have hfin : L.take k = L := List.take_of_length_le (by rw [HLEN.out]; exact Nat.le_refl _)
      rw [hfin] at ho
      have hr := ho.read gotR_fine
      go_wp2_with fail
      go_ret
      exact ⟨hbw, V, cv, rfl, hr⟩

end Go.Proofs.YtamgpbkakmffiaaDoor

namespace Go.Proofs.YtamgpbkakmffiaaDoor
open Go.RowKit Go.Lib
set_option linter.unusedVariables false
set_option maxRecDepth 100000

/-- What is said, and whether anything is. -/
def sA (S : Option Anc) : Anc := S.getD noAnc
def sR (S : Option Anc) : Bool := S.isSome
theorem saysis {S : Option Anc} {a : Anc} {r : Bool} (h : SaysIs S a r) : a = sA S ∧ r = sR S := by
  rcases h with ⟨rfl, rfl⟩ | ⟨rfl, rfl, rfl⟩
  · exact ⟨rfl, rfl⟩
  · exact ⟨rfl, rfl⟩
theorem nsays_sym (g : Geo) (err : Int) (A : Option Addr) (n c : Nat) (l : List UInt8) (addr : Int) (w : World) (hT : Tabs w) (hl : Bs w A n c l) (hn : n ≤ 60000) :
    Calls Tryd.prog 46 #[g.v, .agg #[.int .i64 err, .slice A n c], .int .i64 addr] w fun e w' => Below w.heap.size w w' ∧ ∃ V m d, e = .returned (.tuple #[(sA (saysN g err l addr)).v (.slice V m d), .bool (sR (saysN g err l addr))]) ∧ Sl homR 3 w' (Old w') V m d (sA (saysN g err l addr)).homes := by
  refine (nsays_any g err A n c l addr w hT hl hn).mono ?_
  rintro e w' ⟨hb, a, V, m, d, r, rfl, hsl, hi⟩
  obtain ⟨rfl, rfl⟩ := saysis hi
  exact ⟨hb, V, m, d, rfl, hsl.old_ homR_fine⟩
theorem open_addr {l : List UInt8} (h : (openS l).2 = 0) : 0 ≤ (openS l).1.addr ∧ (openS l).1.addr ≤ 65535 := by
  obtain ⟨a, s, p, e, ha, _⟩ := seal_open h
  rw [e]
  exact ⟨by show (0 : Int) ≤ (a : Int); omega, by show (a : Int) ≤ 65535; omega⟩

set_option maxHeartbeats 8000000 in
theorem rsays_any (g : Geo) (hG : GeoOk g) (err : Int) (A : Option Addr) (n c : Nat) (l : List UInt8) (addr : Int) (w : World) (hl : Bs w A n c l) (hn : n ≤ 60000) :
    Calls Tryd.prog 51 #[g.v, .agg #[.int .i64 err, .slice A n c], .int .i64 addr] w fun e w' => Below w.heap.size w w' ∧ ∃ V m d, e = .returned (.tuple #[(sA (saysN g err l addr)).v (.slice V m d), .bool (sR (saysN g err l addr))]) ∧ Sl homR 3 w' (New w.heap.size w') V m d (sA (saysN g err l addr)).homes := by
  have hol : (openS l).1.load.length ≤ 60000 := by have := open_len l; have := hl.len; omega
  obtain ⟨S, hS⟩ : ∃ S, S = saysN g err l addr := ⟨_, rfl⟩
  rw [← hS]
  have HNO := hide fun (h : ¬ (err = 0 ∧ (openS l).2 = 0 ∧ (openS l).1.addr = addr)) => show S = none from hS.trans (if_neg fun h2 => h h2.2.2)
  have HYES := hide fun (h : err = 0 ∧ (openS l).2 = 0 ∧ (openS l).1.addr = addr) => show S = match ancOf g.zones.toNat g.data.toNat (openS l).1.load with | some a => if AncOk g a ∧ a.gen = (openS l).1.stamp then some a else none | none => none from hS.trans (if_pos ⟨hG, (by have := open_addr h.2.1; rw [h.2.2] at this; exact this), h⟩)
  have HSC := hide fun w h => sector_any (A := A) (n := n) (c := c) (l := l) (w := w) err addr h (by omega)
  have HRD := hide fun V m d w h hm => ranch_new g hG V m d (openS l).1.load w h hm
  unfold SctPost sctL at HSC
  unfold RAncPostN at HRD
  obtain ⟨OS, hOS⟩ : ∃ OS, OS = openS l := ⟨_, rfl⟩
  rw [← hOS] at HSC HRD HNO HYES hol
  have HOL := hide hol
  clear hol hOS hS
  obtain ⟨W0, hW0⟩ : ∃ W0, W0 = ((w.alloc (.cells #[.int .i64 g.zones, .int .i64 g.data, .int .i64 g.spares, .int .i64 g.slots, .int .i64 g.anchors] 23)).alloc (.cells #[.int .i64 err, .slice A n c] 78)).alloc (.cells #[.int .i64 0, .int .i64 0, .int .i64 0, .int .i64 0, .int .i64 0, .string ⟨#[]⟩, .slice none 0 0] 26) := ⟨_, rfl⟩
  have hb0 : Below w.heap.size w W0 := by rw [hW0]; exact ((alloc_below w _).alloc (by simp) _).alloc (by simp; omega) _
  have hNB : w.heap.size + 1 + 1 < W0.heap.size := by rw [hW0]; simp
  have hl0 := hl.on byteR_fine hb0
  have hgb : GeoAt W0 w.heap.size g := by rw [hW0]; exact (GeoAt.new w g 23).on ((alloc_below _ _).alloc (by simp) _)
  have hxb : W0.cell? ⟨w.heap.size + 1, 0, none⟩ = some (.int .i64 err) ∧ W0.cell? ⟨w.heap.size + 1, 1, none⟩ = some (.slice A n c) := by
    rw [hW0]
    exact ⟨bx_at2 (by simp) (alloc_below _ _) 0 _ rfl, bx_at2 (by simp) (alloc_below _ _) 1 _ rfl⟩
  have hzv : Sev W0 (w.heap.size + 1 + 1) (.int .i64 0) (.int .i64 0) (.int .i64 0) (.int .i64 0) (.int .i64 0) (.string ⟨#[]⟩) (.slice none 0 0) := by rw [hW0]; exact Sev.new (by simp) (Below.refl _ _)
  have hfZ : ∀ W, Below W0.heap.size W0 W → ∀ k, W.frozen? ⟨w.heap.size + 1 + 1, k, none⟩ = false := fun W hW k => (hW.frozen (by show w.heap.size + 1 + 1 < _; omega)).trans (by rw [hW0]; exact bx_free2 (by simp) (Below.refl _ _) k)
  have HF0 := hide hfZ
  have HZ0 := hide hzv
  have HGB := hide hgb
  have hxq := hxb
  rw [hW0] at hxq
  obtain ⟨x0, x1⟩ := hxq
  clear hgb hzv hfZ hxb
  unfold Geo.v Anc.v at *
  by_cases hc : err = 0 ∧ OS.2 = 0 ∧ OS.1.addr = addr
  · rw [if_pos hc] at HSC
    have HM := hide (HYES.out hc)
    obtain ⟨⟨oa, os, ol⟩, oe⟩ := OS
    dsimp only at *
    clear hc HNO HYES
    go_enter Tryd.func51, Tryd.ntmps51
    go_wp2_with fail
    rw [← hW0]
    clear hW0 x0 x1
    with_reducible refine (HSC.out _ hl0).mono ?_
    rintro e w1 ⟨hb1, VO, no, co, rfl, hs1⟩
    obtain ⟨W2, hW2⟩ : ∃ W2, W2 = w1.alloc (.cells #[.int .i64 oa, .int .i64 os, .slice VO no co] 122) := ⟨_, rfl⟩
    have hE2 : Below w1.heap.size w1 W2 := by rw [hW2]; exact alloc_below _ _
    have hSB : Hid (∀ W, Below W2.heap.size W2 W → W.cell? ⟨w1.heap.size, 1, none⟩ = some (.int .i64 os) ∧ W.cell? ⟨w1.heap.size, 2, none⟩ = some (.slice VO no co)) := hide fun W hW => by
      subst hW2
      exact ⟨box_cell hW 1 _ rfl, box_cell hW 2 _ rfl⟩
    have hb02 := th hb1 hE2
    have hno : no ≤ 60000 := by have := hs1.len; have := HOL.out; omega
    go_upto_region 4 with fail
    rw [← hW2]
    clear hW2
    obtain ⟨s1, s2⟩ := hSB.out _ (Below.refl _ _)
    obtain ⟨_, p0, p1, p2, p3, p4⟩ := HGB.out.on hb02
    go_wp2_with fail
    with_reducible refine (HRD.out _ _ _ _ (hs1.on byteR_fine hE2) hno).mono ?_
    rintro e w3 ⟨hb3, r, VR, nr, cr, q, rfl, hsr, hq⟩
    obtain ⟨W4, hW4⟩ : ∃ W4, W4 = w3.alloc (.cells #[.int .i64 r.gen, .int .i64 r.epoch, .int .i64 r.pos, .int .i64 r.seq, .int .i64 r.last, .string r.label, .slice VR nr cr] 26) := ⟨_, rfl⟩
    have hE4 : Below w3.heap.size w3 W4 := by rw [hW4]; exact alloc_below _ _
    have hv4 : Sev W4 w3.heap.size (.int .i64 r.gen) (.int .i64 r.epoch) (.int .i64 r.pos) (.int .i64 r.seq) (.int .i64 r.last) (.string r.label) (.slice VR nr cr) := by rw [hW4]; exact Sev.new rfl (Below.refl _ _)
    have hr4 : Sl homR 3 W4 (New W2.heap.size W4) VR nr cr r.homes := hsr.new_on homR_fine hE4
    have hb24 := th hb3 hE4
    have hb04 := th hb02 hb24
    have HV4 := hide hv4
    clear hv4 p0 p1 p2 p3 p4 s1 s2
    rcases hq with ⟨rfl, hq1, hq2⟩ | ⟨rfl, hq1, rfl⟩
    · by_cases hgs : r.gen = os
      · have hSr : S = some r := by rw [HM.out, hq1]; exact if_pos ⟨hq2, hgs⟩
        subst hSr
        have hgs1 : (r.gen != os) = false := by simpa using hgs
        have HGS := hide hgs
        clear hgs hq1 hq2 HM
        go_upto_region 5 with fail
        rw [← hW4]
        clear hW4
        obtain ⟨s1, s2⟩ := hSB.out _ hb24
        obtain ⟨t0, t1, t2, t3, t4, t5, t6⟩ := HV4.out
        have hrd := hr4
        have hsz := (th hb1 hE2).size
        have hrp : Sl homR 3 (put7 W4 (w.heap.size + 1 + 1) (.int .i64 r.gen) (.int .i64 r.epoch) (.int .i64 r.pos) (.int .i64 r.seq) (.int .i64 r.last) (.string r.label) (.slice VR nr cr)) (New w.heap.size (put7 W4 (w.heap.size + 1 + 1) (.int .i64 r.gen) (.int .i64 r.epoch) (.int .i64 r.pos) (.int .i64 r.seq) (.int .i64 r.last) (.string r.label) (.slice VR nr cr))) VR nr cr r.homes := by
          have h1 : Sl homR 3 W4 (New W0.heap.size W4) VR nr cr r.homes := hrd.new_less homR_fine hsz
          exact (put7_new homR_fine h1 hNB (.int .i64 r.gen) (.int .i64 r.epoch) (.int .i64 r.pos) (.int .i64 r.seq) (.int .i64 r.last) (.string r.label) (.slice VR nr cr)).new_less homR_fine (by omega)
        have HRP := hide hrp
        obtain ⟨y0, y1, y2, y3, y4, y5, y6⟩ := HZ0.out.onB hNB hb04
        have f0 := HF0.out _ hb04 0
        have f1 := HF0.out _ hb04 1
        have f2 := HF0.out _ hb04 2
        have f3 := HF0.out _ hb04 3
        have f4 := HF0.out _ hb04 4
        have f5 := HF0.out _ hb04 5
        have f6 := HF0.out _ hb04 6
        have hzu := put7_sev (HZ0.out.onB hNB hb04) (.int .i64 r.gen) (.int .i64 r.epoch) (.int .i64 r.pos) (.int .i64 r.seq) (.int .i64 r.last) (.string r.label) (.slice VR nr cr)
        unfold put7 at hzu
        have HZU := hide hzu
        clear hzu
        go_wp2_with fail
        obtain ⟨u0, u1, u2, u3, u4, u5, u6⟩ := HZU.out
        exact bodyPost_ret (v := .tuple #[.agg #[.int .i64 r.gen, .int .i64 r.epoch, .int .i64 r.pos, .int .i64 r.seq, .int .i64 r.last, .string r.label, .slice VR nr cr], .bool true]) (by simp [results, Tryd.results51, go_sem, u0, u1, u2, u3, u4, u5, u6]) rfl ⟨put7_below (th hb0 hb04) (by omega) _ _ _ _ _ _ _, VR, nr, cr, rfl, HRP.out⟩
      · have hSn : S = none := by rw [HM.out, hq1]; exact if_neg fun h => hgs h.2
        have HSN := hide hSn
        have hgs1 : (r.gen != os) = true := by simpa using hgs
        clear hSn hq1 hq2 HM
        go_upto_region 5 with fail
        rw [← hW4]
        clear hW4
        obtain ⟨s1, s2⟩ := hSB.out _ hb24
        obtain ⟨t0, t1, t2, t3, t4, t5, t6⟩ := HV4.out
        obtain rfl := HSN.out
        obtain ⟨y0, y1, y2, y3, y4, y5, y6⟩ := HZ0.out.onB hNB hb04
        have f0 := HF0.out _ hb04 0
        have f1 := HF0.out _ hb04 1
        have f2 := HF0.out _ hb04 2
        have f3 := HF0.out _ hb04 3
        have f4 := HF0.out _ hb04 4
        have f5 := HF0.out _ hb04 5
        have f6 := HF0.out _ hb04 6
        have hzu := put7_sev (HZ0.out.onB hNB hb04) (.int .i64 0) (.int .i64 0) (.int .i64 0) (.int .i64 0) (.int .i64 0) (.string ⟨#[]⟩) (.slice none 0 0)
        unfold put7 at hzu
        have HZU := hide hzu
        clear hzu
        go_wp2_with fail
        obtain ⟨u0, u1, u2, u3, u4, u5, u6⟩ := HZU.out
        exact bodyPost_ret (v := .tuple #[.agg #[.int .i64 0, .int .i64 0, .int .i64 0, .int .i64 0, .int .i64 0, .string ⟨#[]⟩, .slice none 0 0], .bool false]) (by simp [results, Tryd.results51, go_sem, u0, u1, u2, u3, u4, u5, u6]) rfl ⟨put7_below (th hb0 hb04) (by omega) _ _ _ _ _ _ _, none, 0, 0, rfl, Sl.nil_ _⟩
    · have hSn : S = none := by
        rw [HM.out]
        cases ho : ancOf g.zones.toNat g.data.toNat ol with
        | none => rfl
        | some a' => exact if_neg fun h => hq1 a' ho h.1
      have HSN := hide hSn
      clear hSn hq1 HM
      go_upto_region 5 with fail
      rw [← hW4]
      clear hW4
      obtain rfl := HSN.out
      obtain ⟨y0, y1, y2, y3, y4, y5, y6⟩ := HZ0.out.onB hNB hb04
      have f0 := HF0.out _ hb04 0
      have f1 := HF0.out _ hb04 1
      have f2 := HF0.out _ hb04 2
      have f3 := HF0.out _ hb04 3
      have f4 := HF0.out _ hb04 4
      have f5 := HF0.out _ hb04 5
      have f6 := HF0.out _ hb04 6
      have hzu := put7_sev (HZ0.out.onB hNB hb04) (.int .i64 0) (.int .i64 0) (.int .i64 0) (.int .i64 0) (.int .i64 0) (.string ⟨#[]⟩) (.slice none 0 0)
      unfold put7 at hzu
      have HZU := hide hzu
      clear hzu
      go_wp2_with fail
      obtain ⟨u0, u1, u2, u3, u4, u5, u6⟩ := HZU.out
      exact bodyPost_ret (v := .tuple #[.agg #[.int .i64 0, .int .i64 0, .int .i64 0, .int .i64 0, .int .i64 0, .string ⟨#[]⟩, .slice none 0 0], .bool false]) (by simp [results, Tryd.results51, go_sem, u0, u1, u2, u3, u4, u5, u6]) rfl ⟨put7_below (th hb0 hb04) (by omega) _ _ _ _ _ _ _, none, 0, 0, rfl, Sl.nil_ _⟩
  · rw [if_neg hc] at HSC
    have HSN := hide (HNO.out hc)
    clear hc HNO HYES
    unfold noSec at HSC
    dsimp only at HSC
    go_enter Tryd.func51, Tryd.ntmps51
    go_wp2_with fail
    rw [← hW0]
    clear hW0 x0 x1
    with_reducible refine (HSC.out _ hl0).mono ?_
    rintro e w1 ⟨hb1, VO, no, co, rfl, hs1⟩
    obtain ⟨W2, hW2⟩ : ∃ W2, W2 = w1.alloc (.cells #[.int .i64 0, .int .i64 0, .slice VO no co] 122) := ⟨_, rfl⟩
    have hE2 : Below w1.heap.size w1 W2 := by rw [hW2]; exact alloc_below _ _
    have hb02 := th hb1 hE2
    go_upto_region 2 with fail
    rw [← hW2]
    clear hW2
    obtain rfl := HSN.out
    obtain ⟨y0, y1, y2, y3, y4, y5, y6⟩ := HZ0.out.onB hNB hb02
    have f0 := HF0.out _ hb02 0
    have f1 := HF0.out _ hb02 1
    have f2 := HF0.out _ hb02 2
    have f3 := HF0.out _ hb02 3
    have f4 := HF0.out _ hb02 4
    have f5 := HF0.out _ hb02 5
    have f6 := HF0.out _ hb02 6
    have hzu := put7_sev (HZ0.out.onB hNB hb02) (.int .i64 0) (.int .i64 0) (.int .i64 0) (.int .i64 0) (.int .i64 0) (.string ⟨#[]⟩) (.slice none 0 0)
    unfold put7 at hzu
    have HZU := hide hzu
    clear hzu
    go_wp2_with fail
    obtain ⟨u0, u1, u2, u3, u4, u5, u6⟩ := HZU.out
    exact bodyPost_ret (v := .tuple #[.agg #[.int .i64 0, .int .i64 0, .int .i64 0, .int .i64 0, .int .i64 0, .string ⟨#[]⟩, .slice none 0 0], .bool false]) (by simp [results, Tryd.results51, go_sem, u0, u1, u2, u3, u4, u5, u6]) rfl ⟨put7_below (th hb0 hb02) (by omega) _ _ _ _ _ _ _, none, 0, 0, rfl, Sl.nil_ _⟩

set_option maxHeartbeats 8000000 in
theorem rancell_yes {g : Geo} {a : Anc} (hG : GeoOk g) (ho : AncOk g a) {i : Nat} (hi : i ≤ 65535) {A : Option Addr} {n c : Nat} {w : World} (ha : Sl homR 3 w (Old w) A n c a.homes) :
    Calls Tryd.prog 53 #[a.v (.slice A n c), .int .i64 (i : Int)] w fun e w' => Below w.heap.size w w' ∧ ∃ V cv, e = .returned (.slice V ((ancL a).length + 11) cv) ∧ Bs w' V ((ancL a).length + 11) cv (sealL i a.gen.toNat (ancL a)) := by
  have hrm := (anc_room hG ho).2
  have hg0 : 0 ≤ a.gen := ho.1.1.1
  have hg1 : a.gen ≤ 4294967295 := ho.1.1.2
  have hgc : ((a.gen.toNat : Nat) : Int) = a.gen := by omega
  have HRB := hide fun w h => rabytes_yes hG ho (A := A) (n := n) (c := c) (w := w) h
  obtain ⟨M, hM⟩ : ∃ M, M = (ancL a).length := ⟨_, rfl⟩
  rw [← hM] at HRB hrm ⊢
  have HC2 : Hid (∀ W V cv, Bs W V M cv (ancL a) → Calls Tryd.prog 55 #[.int .i64 (i : Int), .int .i64 a.gen, .slice V M cv] W fun e w' => Below W.heap.size W w' ∧ ∃ V cv, e = .returned (.slice V (M + 11) cv) ∧ Bs w' V (M + 11) cv (sealL i a.gen.toNat (ancL a))) := hide fun W V cv h => by
    have h1 := rcell_any h i a.gen.toNat hi (by omega) (by omega)
    rw [hgc] at h1
    refine h1.mono ?_
    rintro e w' ⟨V, cv, rfl, ho, hb⟩
    exact ⟨hb, V, cv, rfl, ho.read byteR_fine⟩
  obtain ⟨B, hB⟩ : ∃ B, B = sealL i a.gen.toNat (ancL a) := ⟨_, rfl⟩
  rw [← hB] at HC2 ⊢
  obtain ⟨W0, hW0⟩ : ∃ W0, W0 = w.alloc (.cells #[.int .i64 a.gen, .int .i64 a.epoch, .int .i64 a.pos, .int .i64 a.seq, .int .i64 a.last, .string a.label, .slice A n c] 26) := ⟨_, rfl⟩
  have hb0 : Below w.heap.size w W0 := by rw [hW0]; exact alloc_below _ _
  have ha0 := ha.on homR_fine hb0
  have hN0 : w.heap.size < W0.heap.size := by rw [hW0]; simp
  have hsv : Sev W0 w.heap.size (.int .i64 a.gen) (.int .i64 a.epoch) (.int .i64 a.pos) (.int .i64 a.seq) (.int .i64 a.last) (.string a.label) (.slice A n c) := by rw [hW0]; exact Sev.new rfl (Below.refl _ _)
  have HS : Hid (∀ W, Below W0.heap.size W0 W → W.cell? ⟨w.heap.size, 0, none⟩ = some (.int .i64 a.gen) ∧ W.cell? ⟨w.heap.size, 1, none⟩ = some (.int .i64 a.epoch) ∧ W.cell? ⟨w.heap.size, 2, none⟩ = some (.int .i64 a.pos) ∧ W.cell? ⟨w.heap.size, 3, none⟩ = some (.int .i64 a.seq) ∧ W.cell? ⟨w.heap.size, 4, none⟩ = some (.int .i64 a.last) ∧ W.cell? ⟨w.heap.size, 5, none⟩ = some (.string a.label) ∧ W.cell? ⟨w.heap.size, 6, none⟩ = some (.slice A n c)) := hide fun W hW => by
    obtain ⟨q0, q1, q2, q3, q4, q5, q6⟩ := hsv.on hN0 hW
    exact ⟨q0, q1, q2, q3, q4, q5, q6⟩
  have hcur := Below.refl W0.heap.size W0
  unfold Anc.v at *
  clear hM hB hg0 hg1 hgc hsv hrm
  go_enter Tryd.func53, Tryd.ntmps53
  go_upto_region 1 with fail
  rw [← hW0]
  clear hW0
  go_region_held3 (fun W => W.cell? ⟨w.heap.size, 0, none⟩ = some (.int .i64 a.gen) ∧ W.cell? ⟨w.heap.size, 1, none⟩ = some (.int .i64 a.epoch) ∧ W.cell? ⟨w.heap.size, 2, none⟩ = some (.int .i64 a.pos) ∧ W.cell? ⟨w.heap.size, 3, none⟩ = some (.int .i64 a.seq) ∧ W.cell? ⟨w.heap.size, 4, none⟩ = some (.int .i64 a.last) ∧ W.cell? ⟨w.heap.size, 5, none⟩ = some (.string a.label) ∧ W.cell? ⟨w.heap.size, 6, none⟩ = some (.slice A n c)) (first | with_reducible exact HS.out _ hcur | with_reducible exact HS.out _ hcur.drew) (first
    | (go_at_call 41; (with_reducible refine (HRB.out _ (ha0.on homR_fine (by first | with_reducible exact hcur | with_reducible exact hcur.drew))).mono ?_); rintro e w7 ⟨hb7, V7, c7, rfl, hs7⟩; have hcur := th (by first | with_reducible exact hcur | with_reducible exact hcur.drew) hb7)
    | (go_at_call 55; (with_reducible refine (HC2.out _ _ _ (by first | exact hs7 | exact Sl.drew byteR_fine hs7)).mono ?_); rintro e w8 ⟨hb8, V8, c8, rfl, hs8⟩; have hcur := th (by first | with_reducible exact hcur | with_reducible exact hcur.drew) hb8))
  all_goals
    go_wp2_with fail
    go_ret
    exact ⟨th hb0 hcur, V8, c8, rfl, hs8⟩

end Go.Proofs.YtamgpbkakmffiaaDoor

namespace Go.Proofs.YtamgpbkakmffiaaDoor
open Go.RowKit Go.Lib
set_option linter.unusedVariables false
set_option maxRecDepth 100000

/-- Which of the first k readings is picked; -1: none. -/
def pickK (g : Geo) (L : List Gt) (k : Nat) : Int := if (pickN g L k).2.2 = true then ((pickN g L k).2.1 : Int) else -1

set_option maxHeartbeats 8000000 in
theorem rnewest_any (g : Geo) (hG : GeoOk g) (A : Option Addr) (n c : Nat) (L : List Gt) (w : World) (hl : Sl gotR 2 w (Old w) A n c L) (hn : n ≤ 6000) (hb : ∀ x ∈ L, x.bytes.length ≤ 60000) :
    Calls Tryd.prog 52 #[g.v, .slice A n c] w fun e w' => Below w.heap.size w w' ∧ ∃ V m d, e = .returned (.tuple #[(pickN g L n).1.v (.slice V m d), .int .i64 (pickK g L n)]) ∧ Sl homR 3 w' (Old w') V m d (pickN g L n).1.homes := by
  have HSY := hide fun err V m d b addr w h hm => rsays_any g hG err V m d b addr w h hm
  have HB := hide hb
  clear hb hG
  obtain ⟨W0, hW0⟩ : ∃ W0, W0 = ((w.alloc (.cells #[.int .i64 g.zones, .int .i64 g.data, .int .i64 g.spares, .int .i64 g.slots, .int .i64 g.anchors] 23)).alloc (.cells #[.int .i64 0, .int .i64 0, .int .i64 0, .int .i64 0, .int .i64 0, .string ⟨#[]⟩, .slice none 0 0] 26)).alloc (.cells #[.int .i64 0, .int .i64 0, .int .i64 0, .int .i64 0, .int .i64 0, .string ⟨#[]⟩, .slice none 0 0] 26) := ⟨_, rfl⟩
  have hs0 : w.heap.size + 1 + 1 < W0.heap.size := by rw [hW0]; simp
  have hb0 : Below w.heap.size w W0 := by rw [hW0]; exact ((alloc_below w _).alloc (by simp) _).alloc (by simp; omega) _
  have hgb : GeoAt W0 w.heap.size g := by rw [hW0]; exact (GeoAt.new w g 23).on ((alloc_below _ _).alloc (by simp) _)
  have hzr : Sev W0 (w.heap.size + 1) (.int .i64 0) (.int .i64 0) (.int .i64 0) (.int .i64 0) (.int .i64 0) (.string ⟨#[]⟩) (.slice none 0 0) := by rw [hW0]; exact (Sev.new (by simp) (Below.refl _ _)).on (by simp) (alloc_below _ _)
  have hfr : ∀ k, W0.frozen? ⟨w.heap.size + 1, k, none⟩ = false := fun k => by rw [hW0]; exact bx_free2 (by simp) (alloc_below _ _) k
  have hzo : Sev W0 (w.heap.size + 1 + 1) (.int .i64 0) (.int .i64 0) (.int .i64 0) (.int .i64 0) (.int .i64 0) (.string ⟨#[]⟩) (.slice none 0 0) := by rw [hW0]; exact Sev.new (by simp) (Below.refl _ _)
  have hfo : ∀ k, W0.frozen? ⟨w.heap.size + 1 + 1, k, none⟩ = false := fun k => by rw [hW0]; exact bx_free2 (by simp) (Below.refl _ _) k
  have HGB := hide hgb
  have HZR := hide hzr
  have HFR := hide hfr
  have HZO := hide hzo
  have HFO := hide hfo
  unfold Geo.v Anc.v at *
  clear hgb hzr hfr hzo hfo
  go_enter Tryd.func52, Tryd.ntmps52
  go_wp2_with fail
  rw [← hW0]
  clear hW0
  go_loopw [7, 8] (fun at_ i wr => ∃ (k : Nat) (V : Option Addr) (m d : Nat), k ≤ n ∧ i = .int .i64 k ∧ at_ = .int .i64 (pickK g L k) ∧ Hid (Sev wr (w.heap.size + 1 + 1) (.int .i64 (pickN g L k).1.gen) (.int .i64 (pickN g L k).1.epoch) (.int .i64 (pickN g L k).1.pos) (.int .i64 (pickN g L k).1.seq) (.int .i64 (pickN g L k).1.last) (.string (pickN g L k).1.label) (.slice V m d)) ∧ Hid (Sl homR 3 wr (New W0.heap.size wr) V m d (pickN g L k).1.homes) ∧ Hid (∀ j, wr.frozen? ⟨w.heap.size + 1 + 1, j, none⟩ = false) ∧ Below (w.heap.size + 1 + 1) W0 wr ∧ W0.heap.size ≤ wr.heap.size) (fun _ i _ => n - (RowKit.intOf i).toNat)
  case atStart => exact ⟨0, none, 0, 0, Nat.zero_le _, rfl, rfl, HZO, hide (Sl.nil_ _), HFO, Below.refl _ _, Nat.le_refl _⟩
  case round =>
    obtain ⟨k, V, m, d, hk, rfl, rfl, hsv, hrd, hfz, hbw, hsz⟩ := hrel
    obtain ⟨⟨a0, t0, f0⟩, hP⟩ : ∃ P, P = pickN g L k := ⟨_, rfl⟩
    rw [← hP] at hsv hrd
    have HPK := hide hP
    obtain ⟨E, hE⟩ : ∃ E : Int, E = pickK g L k := ⟨_, rfl⟩
    rw [← hE]
    have HEK := hide hE
    have HE : Hid (E = (if f0 = true then (t0 : Int) else -1)) := hide (by rw [hE]; unfold pickK; rw [← hP])
    clear hP hE
    dsimp only at hsv hrd
    have hbww : Below w.heap.size w wr := hb0.trans (hbw.mono (by omega))
    have hgr : GeoAt wr w.heap.size g := by
      obtain ⟨_, c0, c1, c2, c3, c4⟩ := HGB.out
      exact ⟨by omega, (hbw.cell (by show w.heap.size < _; omega)).trans c0, (hbw.cell (by show w.heap.size < _; omega)).trans c1, (hbw.cell (by show w.heap.size < _; omega)).trans c2, (hbw.cell (by show w.heap.size < _; omega)).trans c3, (hbw.cell (by show w.heap.size < _; omega)).trans c4⟩
    have HGR := hide hgr
    clear hgr
    by_cases hlt : k < n
    · obtain ⟨ad, x, A', n', c', rfl, hadl, hx, _, hsx, d0, d1⟩ := at_gt (hl.on gotR_fine hbww) hlt
      have hn' : n' ≤ 60000 := by rw [← hsx.len]; exact HB.out x (List.mem_of_getElem? hx)
      have K0 : (0 : Int) ≤ (k : Int) := by omega
      have K1 : (k : Int) < (n : Int) := by omega
      have ablk : (ad.add (k * 2)).block = ad.block := by unfold Addr.add; split <;> rfl
      have HS : Hid (∀ W, Below wr.heap.size wr W → W.cell? ⟨w.heap.size, 0, none⟩ = some (.int .i64 g.zones) ∧ W.cell? ⟨w.heap.size, 1, none⟩ = some (.int .i64 g.data) ∧ W.cell? ⟨w.heap.size, 2, none⟩ = some (.int .i64 g.spares) ∧ W.cell? ⟨w.heap.size, 3, none⟩ = some (.int .i64 g.slots) ∧ W.cell? ⟨w.heap.size, 4, none⟩ = some (.int .i64 g.anchors) ∧ W.cell? (ad.add (k * 2)) = some (.int .i64 x.err) ∧ W.cell? ⟨(ad.add (k * 2)).block, (ad.add (k * 2)).off + 1, none⟩ = some (.slice A' n' c')) := hide fun W hW => by
        obtain ⟨_, p0, p1, p2, p3, p4⟩ := HGR.out.on hW
        exact ⟨p0, p1, p2, p3, p4, below_cell hW hadl d0, (hW.cell (p := ⟨(ad.add (k * 2)).block, (ad.add (k * 2)).off + 1, none⟩) (by show (ad.add (k * 2)).block < _; rw [ablk]; exact hadl)).trans d1⟩
      have hstep : pickN g L (k + 1) = match (L[k]?).bind fun x => saysN g x.err x.bytes (k : Int) with
        | none => pickN g L k
        | some b => if (pickN g L k).2.2 = false ∨ (pickN g L k).1.gen < b.gen then (b, k, true) else pickN g L k := rfl
      rw [hx, ← HPK.out] at hstep
      have hstep2 : ∀ o, saysN g x.err x.bytes (k : Int) = o → pickN g L (k + 1) = match o with
        | none => (a0, t0, f0)
        | some b => if f0 = false ∨ a0.gen < b.gen then (b, k, true) else (a0, t0, f0) := fun o ho => by rw [hstep]; show (match (saysN g x.err x.bytes (k : Int)) with | none => (a0, t0, f0) | some b => if f0 = false ∨ a0.gen < b.gen then (b, k, true) else (a0, t0, f0)) = _; rw [ho]
      have HST := hide hstep2
      have HSQ := hide fun (W : World) (hW : Below wr.heap.size wr W) => HSY.out x.err A' n' c' x.bytes (k : Int) W (hsx.on byteR_fine hW) hn'
      obtain ⟨S, hS⟩ : ∃ S, S = saysN g x.err x.bytes (k : Int) := ⟨_, rfl⟩
      rw [← hS] at HSQ
      have HSS := hide hS
      clear hx hstep hstep2 d0 d1 ablk hS
      have hd00 : Below wr.heap.size wr wr := Below.refl _ _
      have hd0 : Below wr.heap.size wr wr.drew := (Below.refl _ _).drew
      have hd2 : Below wr.heap.size wr (wr.alloc (.cells #[.int .i64 0, .int .i64 0, .int .i64 0, .int .i64 0, .int .i64 0, .string ⟨#[]⟩, .slice none 0 0] 26)) := alloc_below wr _
      have hd1 : Below wr.heap.size wr (wr.alloc (.cells #[.int .i64 0, .int .i64 0, .int .i64 0, .int .i64 0, .int .i64 0, .string ⟨#[]⟩, .slice none 0 0] 26)).drew := (alloc_below wr _).drew
      have hwsz : wr.heap.size < (wr.alloc (.cells #[.int .i64 0, .int .i64 0, .int .i64 0, .int .i64 0, .int .i64 0, .string ⟨#[]⟩, .slice none 0 0] 26)).heap.size := by simp
      rcases S with _ | b
      · have HP1 : Hid (pickN g L (k + 1) = (a0, t0, f0)) := hide (HST.out _ HSS.out.symm)
        have HKK : Hid (pickK g L (k + 1) = E) := hide (by unfold pickK; rw [HP1.out, HE.out])
        have HSQ2 := hide HSQ.out
        unfold sA sR at HSQ2
        unfold noAnc at HSQ2
        simp only [Option.getD_none, Option.isSome_none] at HSQ2
        clear HSQ
        go_upto_region 6 with fail
        go_cut [9, 10] (fun p r wx => ∃ (N : Nat) (Vb : Option Addr) (mb db : Nat), p = .pointer (some ⟨N, 0, none⟩) ∧ r = .bool false ∧ Sev wx N (.int .i64 0) (.int .i64 0) (.int .i64 0) (.int .i64 0) (.int .i64 0) (.string ⟨#[]⟩) (.slice Vb mb db) ∧ Sl homR 3 wx (New wr.heap.size wx) Vb mb db noAnc.homes ∧ Below wr.heap.size wr wx ∧ wr.heap.size ≤ N)
        case first =>
          go_region_held3 (fun W => W.cell? ⟨w.heap.size, 0, none⟩ = some (.int .i64 g.zones) ∧ W.cell? ⟨w.heap.size, 1, none⟩ = some (.int .i64 g.data) ∧ W.cell? ⟨w.heap.size, 2, none⟩ = some (.int .i64 g.spares) ∧ W.cell? ⟨w.heap.size, 3, none⟩ = some (.int .i64 g.slots) ∧ W.cell? ⟨w.heap.size, 4, none⟩ = some (.int .i64 g.anchors) ∧ W.cell? (ad.add (k * 2)) = some (.int .i64 x.err) ∧ W.cell? ⟨(ad.add (k * 2)).block, (ad.add (k * 2)).off + 1, none⟩ = some (.slice A' n' c')) (first | with_reducible exact HS.out _ hd0 | with_reducible exact HS.out _ hd00 | with_reducible exact HS.out _ hd1 | with_reducible exact HS.out _ hd2 | with_reducible exact HS.out _ hcur | with_reducible exact HS.out _ hcur.drew | with_reducible exact HS.out _ (hcur.alloc hcur.size _) | with_reducible exact HS.out _ (chain7 hcur (Nat.le_refl _) _ _ _ _ _ _ _) | with_reducible exact HS.out _ (chain7 hcur (Nat.le_refl _) _ _ _ _ _ _ _).drew) ((go_at_call 51; (with_reducible refine (HSQ2.out _ (by first | with_reducible exact hd0 | with_reducible exact hd1 | with_reducible exact hd00 | with_reducible exact hd2)).mono ?_); rintro e w8 ⟨hz8, V8, m8, c8, rfl, hs8⟩; have hcur : Below wr.heap.size wr w8 := th (by first | with_reducible exact hd0 | with_reducible exact hd1 | with_reducible exact hd00 | with_reducible exact hd2) hz8; (first | (have kb : H7 w8 _ := H7.below (by first | exact H7.new _ _ | exact H7.dr (H7.new _ _)) hz8; have kb0 := kb.1 0 _ rfl; have kf0 := kb.2 0; have kb1 := kb.1 1 _ rfl; have kf1 := kb.2 1; have kb2 := kb.1 2 _ rfl; have kf2 := kb.2 2; have kb3 := kb.1 3 _ rfl; have kf3 := kb.2 3; have kb4 := kb.1 4 _ rfl; have kf4 := kb.2 4; have kb5 := kb.1 5 _ rfl; have kf5 := kb.2 5; have kb6 := kb.1 6 _ rfl; have kf6 := kb.2 6) | skip)))
          all_goals
            go_wp2_with fail
            go_meet
            first
              | with_reducible exact ⟨_, V8, m8, c8, rfl, rfl, Sev.new rfl (Below.refl _ _), (hs8.new_less homR_fine (Nat.le_refl _)).new_on homR_fine (alloc_below _ _), hcur.alloc hcur.size _, hcur.size⟩
              | (have hpu := put7_sev (w := w8) (N := wr.heap.size) ⟨kb0, kb1, kb2, kb3, kb4, kb5, kb6⟩ (.int .i64 0) (.int .i64 0) (.int .i64 0) (.int .i64 0) (.int .i64 0) (.string ⟨#[]⟩) (.slice V8 m8 c8); have hpn := put7_new homR_fine hs8 hwsz (.int .i64 0) (.int .i64 0) (.int .i64 0) (.int .i64 0) (.int .i64 0) (.string ⟨#[]⟩) (.slice V8 m8 c8); have hpb := put7_below hcur (Nat.le_refl wr.heap.size) (.int .i64 0) (.int .i64 0) (.int .i64 0) (.int .i64 0) (.int .i64 0) (.string ⟨#[]⟩) (.slice V8 m8 c8); unfold put7 at hpu hpn hpb; exact ⟨_, V8, m8, c8, rfl, rfl, hpu, hpn.new_less homR_fine (Nat.le_of_lt hwsz), hpb, Nat.le_refl _⟩)
              | exact ⟨_, V8, m8, c8, rfl, rfl, Sev.new rfl (Below.refl _ _), by first | exact hs8.new_on homR_fine (alloc_below _ _) | exact (hs8.new_less homR_fine (Nat.le_refl wr.heap.size)).new_on homR_fine (alloc_below _ _), hcur.alloc hcur.size _, hcur.size⟩
        case rest =>
          obtain ⟨N, Vb, mb, db, rfl, rfl, hvb, hsb, hbc, hNN⟩ := hcut
          have HVB := hide hvb
          have hbcN := hbw.trans (hbc.mono (Nat.le_trans (Nat.le_of_lt hs0) hsz))
          have hszc := hbc.size
          clear hvb
          go_wp2_with fail
          go_roundw
          case rel => exact ⟨k + 1, V, m, d, by omega, by go_num, by rw [HKK.out], hide (by rw [HP1.out]; exact hsv.out.onB (by omega) hbc), hide (by rw [HP1.out]; exact hrd.out.move homR_fine (fun q hq => hbc.block q hq.2) (fun q hq => ⟨hq.1, Nat.lt_of_lt_of_le hq.2 hszc⟩)), hide (fun j => (hbc.frozen (p := ⟨w.heap.size + 1 + 1, j, none⟩) (by show w.heap.size + 1 + 1 < _; omega)).trans (hfz.out j)), hbcN, Nat.le_trans hsz hszc⟩
          case measure => (first | omega | (simp [RowKit.intOf]; omega) | (unfold RowKit.intOf; simp; omega) | go_num)
      · cases f0 with
        | false =>
          have HP1 : Hid (pickN g L (k + 1) = (b, k, true)) := hide ((HST.out _ HSS.out.symm).trans (if_pos (.inl rfl)))
          have HKK : Hid (pickK g L (k + 1) = (k : Int)) := hide (by unfold pickK; rw [HP1.out]; rfl)
          obtain rfl : E = -1 := HE.out.trans (if_neg (by decide))
          have HSQ2 := hide HSQ.out
          unfold sA sR at HSQ2
          simp only [Option.getD_some, Option.isSome_some] at HSQ2
          clear HSQ
          go_upto_region 6 with fail
          go_cut [9, 10] (fun p r wx => ∃ (N : Nat) (Vb : Option Addr) (mb db : Nat), p = .pointer (some ⟨N, 0, none⟩) ∧ r = .bool true ∧ Sev wx N (.int .i64 b.gen) (.int .i64 b.epoch) (.int .i64 b.pos) (.int .i64 b.seq) (.int .i64 b.last) (.string b.label) (.slice Vb mb db) ∧ Sl homR 3 wx (New wr.heap.size wx) Vb mb db b.homes ∧ Below wr.heap.size wr wx ∧ wr.heap.size ≤ N)
          case first =>
            go_region_held3 (fun W => W.cell? ⟨w.heap.size, 0, none⟩ = some (.int .i64 g.zones) ∧ W.cell? ⟨w.heap.size, 1, none⟩ = some (.int .i64 g.data) ∧ W.cell? ⟨w.heap.size, 2, none⟩ = some (.int .i64 g.spares) ∧ W.cell? ⟨w.heap.size, 3, none⟩ = some (.int .i64 g.slots) ∧ W.cell? ⟨w.heap.size, 4, none⟩ = some (.int .i64 g.anchors) ∧ W.cell? (ad.add (k * 2)) = some (.int .i64 x.err) ∧ W.cell? ⟨(ad.add (k * 2)).block, (ad.add (k * 2)).off + 1, none⟩ = some (.slice A' n' c')) (first | with_reducible exact HS.out _ hd0 | with_reducible exact HS.out _ hd00 | with_reducible exact HS.out _ hd1 | with_reducible exact HS.out _ hd2 | with_reducible exact HS.out _ hcur | with_reducible exact HS.out _ hcur.drew | with_reducible exact HS.out _ (hcur.alloc hcur.size _) | with_reducible exact HS.out _ (chain7 hcur (Nat.le_refl _) _ _ _ _ _ _ _) | with_reducible exact HS.out _ (chain7 hcur (Nat.le_refl _) _ _ _ _ _ _ _).drew) ((go_at_call 51; (with_reducible refine (HSQ2.out _ (by first | with_reducible exact hd0 | with_reducible exact hd1 | with_reducible exact hd00 | with_reducible exact hd2)).mono ?_); rintro e w8 ⟨hz8, V8, m8, c8, rfl, hs8⟩; have hcur : Below wr.heap.size wr w8 := th (by first | with_reducible exact hd0 | with_reducible exact hd1 | with_reducible exact hd00 | with_reducible exact hd2) hz8; (first | (have kb : H7 w8 _ := H7.below (by first | exact H7.new _ _ | exact H7.dr (H7.new _ _)) hz8; have kb0 := kb.1 0 _ rfl; have kf0 := kb.2 0; have kb1 := kb.1 1 _ rfl; have kf1 := kb.2 1; have kb2 := kb.1 2 _ rfl; have kf2 := kb.2 2; have kb3 := kb.1 3 _ rfl; have kf3 := kb.2 3; have kb4 := kb.1 4 _ rfl; have kf4 := kb.2 4; have kb5 := kb.1 5 _ rfl; have kf5 := kb.2 5; have kb6 := kb.1 6 _ rfl; have kf6 := kb.2 6) | skip)))
            all_goals
              go_wp2_with fail
              go_meet
              first
                | with_reducible exact ⟨_, V8, m8, c8, rfl, rfl, Sev.new rfl (Below.refl _ _), (hs8.new_less homR_fine (Nat.le_refl _)).new_on homR_fine (alloc_below _ _), hcur.alloc hcur.size _, hcur.size⟩
                | (have hpu := put7_sev (w := w8) (N := wr.heap.size) ⟨kb0, kb1, kb2, kb3, kb4, kb5, kb6⟩ (.int .i64 b.gen) (.int .i64 b.epoch) (.int .i64 b.pos) (.int .i64 b.seq) (.int .i64 b.last) (.string b.label) (.slice V8 m8 c8); have hpn := put7_new homR_fine hs8 hwsz (.int .i64 b.gen) (.int .i64 b.epoch) (.int .i64 b.pos) (.int .i64 b.seq) (.int .i64 b.last) (.string b.label) (.slice V8 m8 c8); have hpb := put7_below hcur (Nat.le_refl wr.heap.size) (.int .i64 b.gen) (.int .i64 b.epoch) (.int .i64 b.pos) (.int .i64 b.seq) (.int .i64 b.last) (.string b.label) (.slice V8 m8 c8); unfold put7 at hpu hpn hpb; exact ⟨_, V8, m8, c8, rfl, rfl, hpu, hpn.new_less homR_fine (Nat.le_of_lt hwsz), hpb, Nat.le_refl _⟩)
                | exact ⟨_, V8, m8, c8, rfl, rfl, Sev.new rfl (Below.refl _ _), by first | exact hs8.new_on homR_fine (alloc_below _ _) | exact (hs8.new_less homR_fine (Nat.le_refl wr.heap.size)).new_on homR_fine (alloc_below _ _), hcur.alloc hcur.size _, hcur.size⟩
          case rest =>
            obtain ⟨N, Vb, mb, db, rfl, rfl, hvb, hsb, hbc, hNN⟩ := hcut
            have HVB := hide hvb
            have hbcN := hbw.trans (hbc.mono (Nat.le_trans (Nat.le_of_lt hs0) hsz))
            have hszc := hbc.size
            clear hvb
            have hzz := hsv.out.onB (show w.heap.size + 1 + 1 < wr.heap.size by omega) hbc
            have hff : ∀ j, wc.frozen? ⟨w.heap.size + 1 + 1, j, none⟩ = false := fun j => (hbc.frozen (p := ⟨w.heap.size + 1 + 1, j, none⟩) (by show w.heap.size + 1 + 1 < _; omega)).trans (hfz.out j)
            have hpu := put7_sev hzz (.int .i64 b.gen) (.int .i64 b.epoch) (.int .i64 b.pos) (.int .i64 b.seq) (.int .i64 b.last) (.string b.label) (.slice Vb mb db)
            have hpn := put7_new homR_fine (hsb.new_less homR_fine (show W0.heap.size ≤ wr.heap.size by omega)) (show w.heap.size + 1 + 1 < W0.heap.size by omega) (.int .i64 b.gen) (.int .i64 b.epoch) (.int .i64 b.pos) (.int .i64 b.seq) (.int .i64 b.last) (.string b.label) (.slice Vb mb db)
            have hpb := put7_below hbcN (Nat.le_refl _) (.int .i64 b.gen) (.int .i64 b.epoch) (.int .i64 b.pos) (.int .i64 b.seq) (.int .i64 b.last) (.string b.label) (.slice Vb mb db)
            have hpf : ∀ j, (put7 wc (w.heap.size + 1 + 1) (.int .i64 b.gen) (.int .i64 b.epoch) (.int .i64 b.pos) (.int .i64 b.seq) (.int .i64 b.last) (.string b.label) (.slice Vb mb db)).frozen? ⟨w.heap.size + 1 + 1, j, none⟩ = false := fun j => by
              unfold put7
              simp only [put_free]
              exact hff j
            have hps : W0.heap.size ≤ (put7 wc (w.heap.size + 1 + 1) (.int .i64 b.gen) (.int .i64 b.epoch) (.int .i64 b.pos) (.int .i64 b.seq) (.int .i64 b.last) (.string b.label) (.slice Vb mb db)).heap.size := by
              unfold put7
              simp only [set_size]
              exact Nat.le_trans hsz hszc
            have HPU := hide (And.intro hpu (And.intro hpn (And.intro hpb (And.intro hpf hps))))
            unfold put7 at HPU
            have g0 := hff 0
            have g1 := hff 1
            have g2 := hff 2
            have g3 := hff 3
            have g4 := hff 4
            have g5 := hff 5
            have g6 := hff 6
            obtain ⟨b0, b1, b2, b3, b4, b5, b6⟩ := HVB.out
            obtain ⟨y0, y1, y2, y3, y4, y5, y6⟩ := hzz
            clear hpu hpn hpb hpf hps hff
            go_wp2_with fail
            go_roundw
            case rel => exact ⟨k + 1, Vb, mb, db, by omega, by go_num, by rw [HKK.out], hide (by rw [HP1.out]; exact HPU.out.1), hide (by rw [HP1.out]; exact HPU.out.2.1), hide HPU.out.2.2.2.1, HPU.out.2.2.1, HPU.out.2.2.2.2⟩
            case measure => (first | omega | (simp [RowKit.intOf]; omega) | (unfold RowKit.intOf; simp; omega) | go_num)
        | true =>
          obtain rfl : E = (t0 : Int) := HE.out.trans (if_pos rfl)
          have e0 : ¬ (t0 : Int) < 0 := by omega
          by_cases hgt : a0.gen < b.gen
          · have HP1 : Hid (pickN g L (k + 1) = (b, k, true)) := hide ((HST.out _ HSS.out.symm).trans (if_pos (.inr hgt)))
            have HKK : Hid (pickK g L (k + 1) = (k : Int)) := hide (by unfold pickK; rw [HP1.out]; rfl)
            have HSQ2 := hide HSQ.out
            unfold sA sR at HSQ2
            simp only [Option.getD_some, Option.isSome_some] at HSQ2
            clear HSQ
            go_upto_region 6 with fail
            go_cut [9, 10] (fun p r wx => ∃ (N : Nat) (Vb : Option Addr) (mb db : Nat), p = .pointer (some ⟨N, 0, none⟩) ∧ r = .bool true ∧ Sev wx N (.int .i64 b.gen) (.int .i64 b.epoch) (.int .i64 b.pos) (.int .i64 b.seq) (.int .i64 b.last) (.string b.label) (.slice Vb mb db) ∧ Sl homR 3 wx (New wr.heap.size wx) Vb mb db b.homes ∧ Below wr.heap.size wr wx ∧ wr.heap.size ≤ N)
            case first =>
              go_region_held3 (fun W => W.cell? ⟨w.heap.size, 0, none⟩ = some (.int .i64 g.zones) ∧ W.cell? ⟨w.heap.size, 1, none⟩ = some (.int .i64 g.data) ∧ W.cell? ⟨w.heap.size, 2, none⟩ = some (.int .i64 g.spares) ∧ W.cell? ⟨w.heap.size, 3, none⟩ = some (.int .i64 g.slots) ∧ W.cell? ⟨w.heap.size, 4, none⟩ = some (.int .i64 g.anchors) ∧ W.cell? (ad.add (k * 2)) = some (.int .i64 x.err) ∧ W.cell? ⟨(ad.add (k * 2)).block, (ad.add (k * 2)).off + 1, none⟩ = some (.slice A' n' c')) (first | with_reducible exact HS.out _ hd0 | with_reducible exact HS.out _ hd00 | with_reducible exact HS.out _ hd1 | with_reducible exact HS.out _ hd2 | with_reducible exact HS.out _ hcur | with_reducible exact HS.out _ hcur.drew | with_reducible exact HS.out _ (hcur.alloc hcur.size _) | with_reducible exact HS.out _ (chain7 hcur (Nat.le_refl _) _ _ _ _ _ _ _) | with_reducible exact HS.out _ (chain7 hcur (Nat.le_refl _) _ _ _ _ _ _ _).drew) ((go_at_call 51; (with_reducible refine (HSQ2.out _ (by first | with_reducible exact hd0 | with_reducible exact hd1 | with_reducible exact hd00 | with_reducible exact hd2)).mono ?_); rintro e w8 ⟨hz8, V8, m8, c8, rfl, hs8⟩; have hcur : Below wr.heap.size wr w8 := th (by first | with_reducible exact hd0 | with_reducible exact hd1 | with_reducible exact hd00 | with_reducible exact hd2) hz8; (first | (have kb : H7 w8 _ := H7.below (by first | exact H7.new _ _ | exact H7.dr (H7.new _ _)) hz8; have kb0 := kb.1 0 _ rfl; have kf0 := kb.2 0; have kb1 := kb.1 1 _ rfl; have kf1 := kb.2 1; have kb2 := kb.1 2 _ rfl; have kf2 := kb.2 2; have kb3 := kb.1 3 _ rfl; have kf3 := kb.2 3; have kb4 := kb.1 4 _ rfl; have kf4 := kb.2 4; have kb5 := kb.1 5 _ rfl; have kf5 := kb.2 5; have kb6 := kb.1 6 _ rfl; have kf6 := kb.2 6) | skip)))
              all_goals
                go_wp2_with fail
                go_meet
                first
                  | with_reducible exact ⟨_, V8, m8, c8, rfl, rfl, Sev.new rfl (Below.refl _ _), (hs8.new_less homR_fine (Nat.le_refl _)).new_on homR_fine (alloc_below _ _), hcur.alloc hcur.size _, hcur.size⟩
                  | (have hpu := put7_sev (w := w8) (N := wr.heap.size) ⟨kb0, kb1, kb2, kb3, kb4, kb5, kb6⟩ (.int .i64 b.gen) (.int .i64 b.epoch) (.int .i64 b.pos) (.int .i64 b.seq) (.int .i64 b.last) (.string b.label) (.slice V8 m8 c8); have hpn := put7_new homR_fine hs8 hwsz (.int .i64 b.gen) (.int .i64 b.epoch) (.int .i64 b.pos) (.int .i64 b.seq) (.int .i64 b.last) (.string b.label) (.slice V8 m8 c8); have hpb := put7_below hcur (Nat.le_refl wr.heap.size) (.int .i64 b.gen) (.int .i64 b.epoch) (.int .i64 b.pos) (.int .i64 b.seq) (.int .i64 b.last) (.string b.label) (.slice V8 m8 c8); unfold put7 at hpu hpn hpb; exact ⟨_, V8, m8, c8, rfl, rfl, hpu, hpn.new_less homR_fine (Nat.le_of_lt hwsz), hpb, Nat.le_refl _⟩)
                  | exact ⟨_, V8, m8, c8, rfl, rfl, Sev.new rfl (Below.refl _ _), by first | exact hs8.new_on homR_fine (alloc_below _ _) | exact (hs8.new_less homR_fine (Nat.le_refl wr.heap.size)).new_on homR_fine (alloc_below _ _), hcur.alloc hcur.size _, hcur.size⟩
            case rest =>
              obtain ⟨N, Vb, mb, db, rfl, rfl, hvb, hsb, hbc, hNN⟩ := hcut
              have HVB := hide hvb
              have hbcN := hbw.trans (hbc.mono (Nat.le_trans (Nat.le_of_lt hs0) hsz))
              have hszc := hbc.size
              clear hvb
              have hzz := hsv.out.onB (show w.heap.size + 1 + 1 < wr.heap.size by omega) hbc
              have hff : ∀ j, wc.frozen? ⟨w.heap.size + 1 + 1, j, none⟩ = false := fun j => (hbc.frozen (p := ⟨w.heap.size + 1 + 1, j, none⟩) (by show w.heap.size + 1 + 1 < _; omega)).trans (hfz.out j)
              have hpu := put7_sev hzz (.int .i64 b.gen) (.int .i64 b.epoch) (.int .i64 b.pos) (.int .i64 b.seq) (.int .i64 b.last) (.string b.label) (.slice Vb mb db)
              have hpn := put7_new homR_fine (hsb.new_less homR_fine (show W0.heap.size ≤ wr.heap.size by omega)) (show w.heap.size + 1 + 1 < W0.heap.size by omega) (.int .i64 b.gen) (.int .i64 b.epoch) (.int .i64 b.pos) (.int .i64 b.seq) (.int .i64 b.last) (.string b.label) (.slice Vb mb db)
              have hpb := put7_below hbcN (Nat.le_refl _) (.int .i64 b.gen) (.int .i64 b.epoch) (.int .i64 b.pos) (.int .i64 b.seq) (.int .i64 b.last) (.string b.label) (.slice Vb mb db)
              have hpf : ∀ j, (put7 wc (w.heap.size + 1 + 1) (.int .i64 b.gen) (.int .i64 b.epoch) (.int .i64 b.pos) (.int .i64 b.seq) (.int .i64 b.last) (.string b.label) (.slice Vb mb db)).frozen? ⟨w.heap.size + 1 + 1, j, none⟩ = false := fun j => by
                unfold put7
                simp only [put_free]
                exact hff j
              have hps : W0.heap.size ≤ (put7 wc (w.heap.size + 1 + 1) (.int .i64 b.gen) (.int .i64 b.epoch) (.int .i64 b.pos) (.int .i64 b.seq) (.int .i64 b.last) (.string b.label) (.slice Vb mb db)).heap.size := by
                unfold put7
                simp only [set_size]
                exact Nat.le_trans hsz hszc
              have HPU := hide (And.intro hpu (And.intro hpn (And.intro hpb (And.intro hpf hps))))
              unfold put7 at HPU
              have g0 := hff 0
              have g1 := hff 1
              have g2 := hff 2
              have g3 := hff 3
              have g4 := hff 4
              have g5 := hff 5
              have g6 := hff 6
              obtain ⟨b0, b1, b2, b3, b4, b5, b6⟩ := HVB.out
              obtain ⟨y0, y1, y2, y3, y4, y5, y6⟩ := hzz
              clear hpu hpn hpb hpf hps hff
              go_wp2_with fail
              go_roundw
              case rel => exact ⟨k + 1, Vb, mb, db, by omega, by go_num, by rw [HKK.out], hide (by rw [HP1.out]; exact HPU.out.1), hide (by rw [HP1.out]; exact HPU.out.2.1), hide HPU.out.2.2.2.1, HPU.out.2.2.1, HPU.out.2.2.2.2⟩
              case measure => (first | omega | (simp [RowKit.intOf]; omega) | (unfold RowKit.intOf; simp; omega) | go_num)
          · have HP1 : Hid (pickN g L (k + 1) = (a0, t0, true)) := hide ((HST.out _ HSS.out.symm).trans (if_neg (by rintro (h | h); cases h; exact hgt h)))
            have HKK : Hid (pickK g L (k + 1) = (t0 : Int)) := hide (by unfold pickK; rw [HP1.out]; rfl)
            have HSQ2 := hide HSQ.out
            unfold sA sR at HSQ2
            simp only [Option.getD_some, Option.isSome_some] at HSQ2
            clear HSQ
            go_upto_region 6 with fail
            go_cut [9, 10] (fun p r wx => ∃ (N : Nat) (Vb : Option Addr) (mb db : Nat), p = .pointer (some ⟨N, 0, none⟩) ∧ r = .bool true ∧ Sev wx N (.int .i64 b.gen) (.int .i64 b.epoch) (.int .i64 b.pos) (.int .i64 b.seq) (.int .i64 b.last) (.string b.label) (.slice Vb mb db) ∧ Sl homR 3 wx (New wr.heap.size wx) Vb mb db b.homes ∧ Below wr.heap.size wr wx ∧ wr.heap.size ≤ N)
            case first =>
              go_region_held3 (fun W => W.cell? ⟨w.heap.size, 0, none⟩ = some (.int .i64 g.zones) ∧ W.cell? ⟨w.heap.size, 1, none⟩ = some (.int .i64 g.data) ∧ W.cell? ⟨w.heap.size, 2, none⟩ = some (.int .i64 g.spares) ∧ W.cell? ⟨w.heap.size, 3, none⟩ = some (.int .i64 g.slots) ∧ W.cell? ⟨w.heap.size, 4, none⟩ = some (.int .i64 g.anchors) ∧ W.cell? (ad.add (k * 2)) = some (.int .i64 x.err) ∧ W.cell? ⟨(ad.add (k * 2)).block, (ad.add (k * 2)).off + 1, none⟩ = some (.slice A' n' c')) (first | with_reducible exact HS.out _ hd0 | with_reducible exact HS.out _ hd00 | with_reducible exact HS.out _ hd1 | with_reducible exact HS.out _ hd2 | with_reducible exact HS.out _ hcur | with_reducible exact HS.out _ hcur.drew | with_reducible exact HS.out _ (hcur.alloc hcur.size _) | with_reducible exact HS.out _ (chain7 hcur (Nat.le_refl _) _ _ _ _ _ _ _) | with_reducible exact HS.out _ (chain7 hcur (Nat.le_refl _) _ _ _ _ _ _ _).drew) ((go_at_call 51; (with_reducible refine (HSQ2.out _ (by first | with_reducible exact hd0 | with_reducible exact hd1 | with_reducible exact hd00 | with_reducible exact hd2)).mono ?_); rintro e w8 ⟨hz8, V8, m8, c8, rfl, hs8⟩; have hcur : Below wr.heap.size wr w8 := th (by first | with_reducible exact hd0 | with_reducible exact hd1 | with_reducible exact hd00 | with_reducible exact hd2) hz8; (first | (have kb : H7 w8 _ := H7.below (by first | exact H7.new _ _ | exact H7.dr (H7.new _ _)) hz8; have kb0 := kb.1 0 _ rfl; have kf0 := kb.2 0; have kb1 := kb.1 1 _ rfl; have kf1 := kb.2 1; have kb2 := kb.1 2 _ rfl; have kf2 := kb.2 2; have kb3 := kb.1 3 _ rfl; have kf3 := kb.2 3; have kb4 := kb.1 4 _ rfl; have kf4 := kb.2 4; have kb5 := kb.1 5 _ rfl; have kf5 := kb.2 5; have kb6 := kb.1 6 _ rfl; have kf6 := kb.2 6) | skip)))
              all_goals
                go_wp2_with fail
                go_meet
                first
                  | with_reducible exact ⟨_, V8, m8, c8, rfl, rfl, Sev.new rfl (Below.refl _ _), (hs8.new_less homR_fine (Nat.le_refl _)).new_on homR_fine (alloc_below _ _), hcur.alloc hcur.size _, hcur.size⟩
                  | (have hpu := put7_sev (w := w8) (N := wr.heap.size) ⟨kb0, kb1, kb2, kb3, kb4, kb5, kb6⟩ (.int .i64 b.gen) (.int .i64 b.epoch) (.int .i64 b.pos) (.int .i64 b.seq) (.int .i64 b.last) (.string b.label) (.slice V8 m8 c8); have hpn := put7_new homR_fine hs8 hwsz (.int .i64 b.gen) (.int .i64 b.epoch) (.int .i64 b.pos) (.int .i64 b.seq) (.int .i64 b.last) (.string b.label) (.slice V8 m8 c8); have hpb := put7_below hcur (Nat.le_refl wr.heap.size) (.int .i64 b.gen) (.int .i64 b.epoch) (.int .i64 b.pos) (.int .i64 b.seq) (.int .i64 b.last) (.string b.label) (.slice V8 m8 c8); unfold put7 at hpu hpn hpb; exact ⟨_, V8, m8, c8, rfl, rfl, hpu, hpn.new_less homR_fine (Nat.le_of_lt hwsz), hpb, Nat.le_refl _⟩)
                  | exact ⟨_, V8, m8, c8, rfl, rfl, Sev.new rfl (Below.refl _ _), by first | exact hs8.new_on homR_fine (alloc_below _ _) | exact (hs8.new_less homR_fine (Nat.le_refl wr.heap.size)).new_on homR_fine (alloc_below _ _), hcur.alloc hcur.size _, hcur.size⟩
            case rest =>
              obtain ⟨N, Vb, mb, db, rfl, rfl, hvb, hsb, hbc, hNN⟩ := hcut
              have HVB := hide hvb
              have hbcN := hbw.trans (hbc.mono (Nat.le_trans (Nat.le_of_lt hs0) hsz))
              have hszc := hbc.size
              clear hvb
              have hzz := hsv.out.onB (show w.heap.size + 1 + 1 < wr.heap.size by omega) hbc
              obtain ⟨y0, _⟩ := hzz
              obtain ⟨b0, _⟩ := HVB.out
              go_wp2_with fail
              go_roundw
              case rel => exact ⟨k + 1, V, m, d, by omega, by go_num, by rw [HKK.out], hide (by rw [HP1.out]; exact hsv.out.onB (by omega) hbc), hide (by rw [HP1.out]; exact hrd.out.move homR_fine (fun q hq => hbc.block q hq.2) (fun q hq => ⟨hq.1, Nat.lt_of_lt_of_le hq.2 hszc⟩)), hide (fun j => (hbc.frozen (p := ⟨w.heap.size + 1 + 1, j, none⟩) (by show w.heap.size + 1 + 1 < _; omega)).trans (hfz.out j)), hbcN, Nat.le_trans hsz hszc⟩
              case measure => (first | omega | (simp [RowKit.intOf]; omega) | (unfold RowKit.intOf; simp; omega) | go_num)
    · obtain rfl : k = n := by omega
      have hkk : ¬ (k : Int) < (k : Int) := by omega
      have hzz : Sev wr (w.heap.size + 1) (.int .i64 0) (.int .i64 0) (.int .i64 0) (.int .i64 0) (.int .i64 0) (.string ⟨#[]⟩) (.slice none 0 0) := HZR.out.onB (by omega) hbw
      have hff : ∀ j, wr.frozen? ⟨w.heap.size + 1, j, none⟩ = false := fun j => (hbw.frozen (p := ⟨w.heap.size + 1, j, none⟩) (by show w.heap.size + 1 < _; omega)).trans (HFR.out j)
      have hpu := put7_sev hzz (.int .i64 a0.gen) (.int .i64 a0.epoch) (.int .i64 a0.pos) (.int .i64 a0.seq) (.int .i64 a0.last) (.string a0.label) (.slice V m d)
      have hpn := put7_new homR_fine hrd.out (show w.heap.size + 1 < W0.heap.size by omega) (.int .i64 a0.gen) (.int .i64 a0.epoch) (.int .i64 a0.pos) (.int .i64 a0.seq) (.int .i64 a0.last) (.string a0.label) (.slice V m d)
      have hpb := put7_below hbww (show w.heap.size ≤ w.heap.size + 1 by omega) (.int .i64 a0.gen) (.int .i64 a0.epoch) (.int .i64 a0.pos) (.int .i64 a0.seq) (.int .i64 a0.last) (.string a0.label) (.slice V m d)
      have HPU := hide (And.intro hpu (And.intro hpn hpb))
      unfold put7 at HPU
      have g0 := hff 0
      have g1 := hff 1
      have g2 := hff 2
      have g3 := hff 3
      have g4 := hff 4
      have g5 := hff 5
      have g6 := hff 6
      obtain ⟨b0, b1, b2, b3, b4, b5, b6⟩ := hsv.out
      obtain ⟨y0, y1, y2, y3, y4, y5, y6⟩ := hzz
      have HPE : Hid (pickN g L k = (a0, t0, f0)) := hide HPK.out.symm
      clear hpu hpn hpb hff
      go_wp2_with fail
      obtain ⟨u0, u1, u2, u3, u4, u5, u6⟩ := HPU.out.1
      rw [HPE.out, ← HEK.out]
      exact bodyPost_ret (v := .tuple #[.agg #[.int .i64 a0.gen, .int .i64 a0.epoch, .int .i64 a0.pos, .int .i64 a0.seq, .int .i64 a0.last, .string a0.label, .slice V m d], .int .i64 E]) (by simp [results, Tryd.results52, go_sem, u0, u1, u2, u3, u4, u5, u6]) rfl ⟨HPU.out.2.2, V, m, d, rfl, HPU.out.2.1.old_ homR_fine⟩

end Go.Proofs.YtamgpbkakmffiaaDoor
