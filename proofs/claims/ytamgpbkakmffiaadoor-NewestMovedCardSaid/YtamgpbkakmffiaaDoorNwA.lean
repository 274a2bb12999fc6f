/-
  Contracts: geom.Anchor; newest.Cell.
-/
import Derived.Test.YtamgpbkakmffiaaDoorPl1
import Derived.Test.YtamgpbkakmffiaaDoorAncL4
import Derived.Test.YtamgpbkakmffiaaDoorSeal
namespace Go.Proofs.YtamgpbkakmffiaaDoor
open Go.RowKit Go.Lib
set_option linter.unusedVariables false
set_option maxRecDepth 100000

theorem told_no (g : Geo) (hG : GeoOk g) (n : Int) (w : World) : Calls Tryd.prog 66 #[g.v, .int .i64 n, .bool false] w fun e w' => e = .returned (.tuple #[.int .i64 0, .int .i64 1]) ∧ Below w.heap.size w w' := by
  have hc := fun w => gcheck_any g w
  rw [show geoErr g = 0 from if_pos hG] at hc
  have HC := hide hc
  clear hc hG
  obtain ⟨z, d, s, l, a⟩ := g
  unfold Geo.v at *
  dsimp only at *
  obtain ⟨W0, hW0⟩ : ∃ W0, W0 = w.alloc (.cells #[.int .i64 z, .int .i64 d, .int .i64 s, .int .i64 l, .int .i64 a] 23) := ⟨_, rfl⟩
  have hb0 : Below w.heap.size w W0 := by rw [hW0]; exact alloc_below w _
  have BX : Hid (∀ w', Below W0.heap.size W0 w' → w'.cell? ⟨w.heap.size, 0, none⟩ = some (.int .i64 z) ∧ w'.cell? ⟨w.heap.size, 1, none⟩ = some (.int .i64 d) ∧ w'.cell? ⟨w.heap.size, 2, none⟩ = some (.int .i64 s) ∧ w'.cell? ⟨w.heap.size, 3, none⟩ = some (.int .i64 l) ∧ w'.cell? ⟨w.heap.size, 4, none⟩ = some (.int .i64 a)) := hide fun w' hb => by
    subst hW0
    exact ⟨box_cell hb 0 _ rfl, box_cell hb 1 _ rfl, box_cell hb 2 _ rfl, box_cell hb 3 _ rfl, box_cell hb 4 _ rfl⟩
  obtain ⟨p0, p1, p2, p3, p4⟩ := BX.out _ (Below.refl _ _)
  rw [hW0] at p0 p1 p2 p3 p4
  go_enter Tryd.func66, Tryd.ntmps66
  go_wp2_with fail
  rw [← hW0]
  refine (HC.out _).mono ?_
  rintro e w1 ⟨rfl, hb1⟩
  go_wp2_with fail
  go_ret2
  exact ⟨rfl, th hb0 hb1⟩

/-- What geom.Anchor tells, of a right geometry. -/
def ganErr (g : Geo) (i : Int) : Int := if 0 ≤ i ∧ i ≤ g.anchors - 1 then 0 else 1
def ganAt (g : Geo) (i : Int) : Int := if 0 ≤ i ∧ i ≤ g.anchors - 1 then i else 0
theorem ganchor_any (g : Geo) (hG : GeoOk g) (i : Int) (hi : InI i) (w : World) : Calls Tryd.prog 89 #[g.v, .int .i64 i] w fun e w' => e = .returned (.tuple #[.int .i64 (ganAt g i), .int .i64 (ganErr g i)]) ∧ Below w.heap.size w w' := by
  have HT : Hid (∀ w, Calls Tryd.prog 66 #[g.v, .int .i64 i, .bool (decide (0 ≤ i ∧ i ≤ g.anchors - 1))] w fun e w' => e = .returned (.tuple #[.int .i64 (ganAt g i), .int .i64 (ganErr g i)]) ∧ Below w.heap.size w w') := hide fun w => by
    unfold ganAt ganErr
    by_cases h : 0 ≤ i ∧ i ≤ g.anchors - 1
    · rw [decide_eq_true h, if_pos h, if_pos h]; exact told_yes g hG i hi w
    · rw [decide_eq_false h, if_neg h, if_neg h]; exact told_no g hG i w
  have HIN := hide fun w => gin_any i 0 (g.anchors - 1) w
  obtain ⟨B, hB⟩ : ∃ B, B = decide (0 ≤ i ∧ i ≤ g.anchors - 1) := ⟨_, rfl⟩
  obtain ⟨X, hX⟩ : ∃ X, X = ganAt g i := ⟨_, rfl⟩
  obtain ⟨E, hE⟩ : ∃ E, E = ganErr g i := ⟨_, rfl⟩
  rw [← hB] at HT HIN
  rw [← hX, ← hE] at HT ⊢
  clear hB hX hE
  obtain ⟨⟨z1, z4⟩, ⟨d1, d4⟩, ⟨s0, s2⟩, ⟨sl1, sl2⟩, an1, an3⟩ := hG
  obtain ⟨z, d, s, l, a⟩ := g
  unfold Geo.v at *
  dsimp only at *
  have e1 : IntKind.i64.wrap (a - 1) = a - 1 := IntWalk.i64_in _ (by omega)
  obtain ⟨W0, hW0⟩ : ∃ W0, W0 = w.alloc (.cells #[.int .i64 z, .int .i64 d, .int .i64 s, .int .i64 l, .int .i64 a] 23) := ⟨_, rfl⟩
  have hb0 : Below w.heap.size w W0 := by rw [hW0]; exact alloc_below w _
  have BX : Hid (∀ w', Below W0.heap.size W0 w' → w'.cell? ⟨w.heap.size, 0, none⟩ = some (.int .i64 z) ∧ w'.cell? ⟨w.heap.size, 1, none⟩ = some (.int .i64 d) ∧ w'.cell? ⟨w.heap.size, 2, none⟩ = some (.int .i64 s) ∧ w'.cell? ⟨w.heap.size, 3, none⟩ = some (.int .i64 l) ∧ w'.cell? ⟨w.heap.size, 4, none⟩ = some (.int .i64 a)) := hide fun w' hb => by
    subst hW0
    exact ⟨box_cell hb 0 _ rfl, box_cell hb 1 _ rfl, box_cell hb 2 _ rfl, box_cell hb 3 _ rfl, box_cell hb 4 _ rfl⟩
  obtain ⟨p0, p1, p2, p3, p4⟩ := BX.out _ (Below.refl _ _)
  have hcur := Below.refl W0.heap.size W0
  rw [hW0] at p0 p1 p2 p3 p4
  go_enter Tryd.func89, Tryd.ntmps89
  go_wp2_with fail
  rw [← hW0]
  clear p0 p1 p2 p3 p4 hW0
  go_region_held3 (fun w' => w'.cell? ⟨w.heap.size, 0, none⟩ = some (.int .i64 z) ∧ w'.cell? ⟨w.heap.size, 1, none⟩ = some (.int .i64 d) ∧ w'.cell? ⟨w.heap.size, 2, none⟩ = some (.int .i64 s) ∧ w'.cell? ⟨w.heap.size, 3, none⟩ = some (.int .i64 l) ∧ w'.cell? ⟨w.heap.size, 4, none⟩ = some (.int .i64 a)) (first | exact BX.out _ hcur | exact BX.out _ hcur.drew) (first
    | (go_at_call 69; (with_reducible refine (HIN.out _).mono ?_); rintro e wB ⟨rfl, rfl⟩)
    | (go_at_call 66; (with_reducible refine (HT.out _).mono ?_); rintro e wA ⟨rfl, hz⟩; have hcur := th (by first | with_reducible exact hcur | with_reducible exact hcur.drew) hz))
  all_goals (go_wp2_with fail; go_ret2; exact ⟨rfl, th hb0 (by first | exact hcur | exact hcur.drew)⟩)

/-- An anchor's cell that there is. -/
def CellOk (g : Geo) (a : Anc) (i : Int) : Prop := GeoOk g ∧ AncOk g a ∧ 0 ≤ i ∧ i ≤ g.anchors - 1
instance (g : Geo) (a : Anc) (i : Int) : Decidable (CellOk g a i) := by unfold CellOk; infer_instance

set_option maxHeartbeats 2000000 in
theorem ncell_no (g : Geo) (a : Anc) (A : Option Addr) (n c : Nat) (i : Int) (hi : InI i) (w : World) (hT : Tabs w) (ha : Sl homR 3 w (Old w) A n c a.homes) (hin : a.In) (hl : Light a) (hno : ¬ CellOk g a i) :
    Calls Tryd.prog 48 #[g.v, a.v (.slice A n c), .int .i64 i] w fun e w' => e = .returned (.tuple #[.slice none 0 0, .int .i64 1]) ∧ Below w.heap.size w w' := by
  have HN := hide fun hno w hT h => abytes_no (g := g) (a := a) hno (A := A) (n := n) (c := c) (w := w) hT h hin hl
  have HY := hide fun hG ho w hT h => abytes_yes (g := g) (a := a) hG ho (A := A) (n := n) (c := c) (w := w) hT h hin hl
  have HGA := hide fun hG w => ganchor_any g hG i hi w
  obtain ⟨W0, hW0⟩ : ∃ W0, W0 = (w.alloc (.cells #[.int .i64 g.zones, .int .i64 g.data, .int .i64 g.spares, .int .i64 g.slots, .int .i64 g.anchors] 23)).alloc (.cells #[.int .i64 a.gen, .int .i64 a.epoch, .int .i64 a.pos, .int .i64 a.seq, .int .i64 a.last, .string a.label, .slice A n c] 26) := ⟨_, rfl⟩
  have hb0 : Below w.heap.size w W0 := by rw [hW0]; exact (alloc_below w _).alloc (by simp) _
  have ha0 := ha.on homR_fine hb0
  have hgb : GeoAt W0 w.heap.size g := by rw [hW0]; exact (GeoAt.new w g 23).on (alloc_below _ _)
  have hsv : Sev W0 (w.heap.size + 1) (.int .i64 a.gen) (.int .i64 a.epoch) (.int .i64 a.pos) (.int .i64 a.seq) (.int .i64 a.last) (.string a.label) (.slice A n c) := by rw [hW0]; exact Sev.new (by simp) (Below.refl _ _)
  have hN1 : w.heap.size + 1 < W0.heap.size := by rw [hW0]; simp
  have HSV := hide hsv
  have HGB := hide hgb
  have hpq := hgb.2
  rw [hW0] at hpq hsv
  obtain ⟨p0, p1, p2, p3, p4⟩ := hpq
  obtain ⟨q0, q1, q2, q3, q4, q5, q6⟩ := hsv
  clear hgb
  unfold Geo.v Anc.v at *
  by_cases ho : GeoOk g ∧ AncOk g a
  · have hi2 : ¬ (0 ≤ i ∧ i ≤ g.anchors - 1) := fun h => hno ⟨ho.1, ho.2, h.1, h.2⟩
    have HY1 := hide (HY.out ho.1 ho.2)
    have HG1 := hide (HGA.out ho.1)
    rw [show ganErr g i = 1 from if_neg hi2, show ganAt g i = 0 from if_neg hi2] at HG1
    obtain ⟨LA, hLA⟩ : ∃ LA, LA = (ancL a).length := ⟨_, rfl⟩
    rw [← hLA] at HY1
    clear ho hi2 hno hLA
    go_enter Tryd.func48, Tryd.ntmps48
    go_wp2_with fail
    rw [← hW0]
    clear hW0 p0 p1 p2 p3 p4 q0 q1 q2 q3 q4 q5 q6
    refine (HY1.out _ (hT.below hb0) ha0).mono ?_
    rintro e w1 ⟨hb1, V1, c1, rfl, ho1⟩
    obtain ⟨_, p0, p1, p2, p3, p4⟩ := HGB.out.on hb1
    go_wp2_with fail
    refine (HG1.out _).mono ?_
    rintro e w2 ⟨rfl, hb2⟩
    go_wp2_with fail
    go_ret2
    exact ⟨rfl, th hb0 (th hb1 hb2)⟩
  · have HN1 := hide (HN.out ho)
    clear ho hno
    go_enter Tryd.func48, Tryd.ntmps48
    go_wp2_with fail
    rw [← hW0]
    clear hW0 p0 p1 p2 p3 p4 q0 q1 q2 q3 q4 q5 q6
    refine (HN1.out _ (hT.below hb0) ha0).mono ?_
    rintro e w1 ⟨hb1, V1, c1, rfl⟩
    go_wp2_with fail
    go_ret2
    exact ⟨rfl, th hb0 hb1⟩

set_option maxHeartbeats 2000000 in
theorem ncell_yes (g : Geo) (a : Anc) (A : Option Addr) (n c : Nat) (i : Nat) (w : World) (hT : Tabs w) (ha : Sl homR 3 w (Old w) A n c a.homes) (hin : a.In) (hl : Light a) (hok : CellOk g a (i : Int)) :
    Calls Tryd.prog 48 #[g.v, a.v (.slice A n c), .int .i64 (i : Int)] w fun e w' => ∃ V cv, e = .returned (.tuple #[.slice V ((ancL a).length + 11) cv, .int .i64 0]) ∧ Ow byteR 1 w' w.heap.size w.heap.size 5 (.slice V ((ancL a).length + 11) cv) ((ancL a).length + 11) (sealL i a.gen.toNat (ancL a)) ∧ Below w.heap.size w w' := by
  obtain ⟨hG, hO, i0, i1⟩ := hok
  have han := hG.2.2.2.2
  have hrm := anc_room hG hO
  have HY := hide fun w hT h => abytes_yes (g := g) (a := a) hG hO (A := A) (n := n) (c := c) (w := w) hT h hin hl
  have HG1 := hide fun w => ganchor_any g hG (i : Int) ⟨by omega, by omega⟩ w
  rw [show ganErr g (i : Int) = 0 from if_pos ⟨i0, i1⟩, show ganAt g (i : Int) = (i : Int) from if_pos ⟨i0, i1⟩] at HG1
  obtain ⟨G, hGn⟩ : ∃ G : Nat, a.gen = (G : Int) := ⟨a.gen.toNat, by have := hO.1.1.1; omega⟩
  have hGb : G ≤ 4294967295 := by have := hO.1.1.2; omega
  rw [hGn]
  obtain ⟨LL, hLL⟩ : ∃ LL, LL = ancL a := ⟨_, rfl⟩
  rw [← hLL] at HY hrm ⊢
  obtain ⟨LA, hLA⟩ : ∃ LA, LA = LL.length := ⟨_, rfl⟩
  rw [← hLA] at HY hrm ⊢
  have HMK := hide fun (V : Option Addr) (d : Nat) w h => make_ok (A := V) (n := LA) (c := d) (l := LL) (w := w) h i G (by omega) hGb (by omega)
  have hib : i ≤ 65535 := by omega
  clear hG hO i0 i1 han hrm hLL hLA hl hin
  obtain ⟨W0, hW0⟩ : ∃ W0, W0 = (w.alloc (.cells #[.int .i64 g.zones, .int .i64 g.data, .int .i64 g.spares, .int .i64 g.slots, .int .i64 g.anchors] 23)).alloc (.cells #[.int .i64 a.gen, .int .i64 a.epoch, .int .i64 a.pos, .int .i64 a.seq, .int .i64 a.last, .string a.label, .slice A n c] 26) := ⟨_, rfl⟩
  have hb0 : Below w.heap.size w W0 := by rw [hW0]; exact (alloc_below w _).alloc (by simp) _
  have ha0 := ha.on homR_fine hb0
  have hgb : GeoAt W0 w.heap.size g := by rw [hW0]; exact (GeoAt.new w g 23).on (alloc_below _ _)
  have hsv : Sev W0 (w.heap.size + 1) (.int .i64 a.gen) (.int .i64 a.epoch) (.int .i64 a.pos) (.int .i64 a.seq) (.int .i64 a.last) (.string a.label) (.slice A n c) := by rw [hW0]; exact Sev.new (by simp) (Below.refl _ _)
  have hN1 : w.heap.size + 1 < W0.heap.size := by rw [hW0]; simp
  have HSV := hide hsv
  have HGB := hide hgb
  have hpq := hgb.2
  rw [hW0] at hpq hsv
  obtain ⟨p0, p1, p2, p3, p4⟩ := hpq
  obtain ⟨q0, q1, q2, q3, q4, q5, q6⟩ := hsv
  clear hgb
  unfold Geo.v Anc.v at *
  rw [hGn] at *
  go_enter Tryd.func48, Tryd.ntmps48
  go_wp2_with fail
  rw [← hW0]
  clear hW0 p0 p1 p2 p3 p4 q0 q1 q2 q3 q4 q5 q6
  refine (HY.out _ (hT.below hb0) ha0).mono ?_
  rintro e w1 ⟨hb1, V1, c1, rfl, ho1⟩
  obtain ⟨_, p0, p1, p2, p3, p4⟩ := HGB.out.on hb1
  go_wp2_with fail
  refine (HG1.out _).mono ?_
  rintro e w2 ⟨rfl, hb2⟩
  have hb02 := th hb1 hb2
  obtain ⟨q0, _⟩ := HSV.out.onB hN1 hb02
  go_wp2_with fail
  refine (HMK.out _ _ _ ((ho1.read byteR_fine).on byteR_fine hb2)).mono ?_
  rintro e w3 ⟨V3, c3, rfl, ho3, hb3⟩
  go_wp2_with fail
  go_ret2
  exact ⟨V3, c3, rfl, ho3.less byteR_fine (th hb0 hb02).size (th hb0 hb02).size, th hb0 (th hb02 hb3)⟩

end Go.Proofs.YtamgpbkakmffiaaDoor
