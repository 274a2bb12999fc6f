/-
  Contracts: geom.Anchor; newest.Cell.
  Contract: newest.Says.
-/
import Derived.Test.YtamgpbkakmffiaaDoorPl1
import Derived.Test.YtamgpbkakmffiaaDoorAncL4
import Derived.Test.YtamgpbkakmffiaaDoorSeal
import Derived.Test.YtamgpbkakmffiaaDoorSealO
namespace Go.Proofs.YtamgpbkakmffiaaDoor
open Go.RowKit Go.Lib
set_option linter.unusedVariables false
set_option maxRecDepth 100000

theorem told_no (g : Geo) (hG : GeoOk g) (n : Int) (w : World) : Calls Tryd.prog 66 #[g.v, .int .i64 n, .bool false] w fun e w' => e = .returned (.tuple #[.int .i64 0, .int .i64 1]) ∧ Below w.heap.size w w' := by
  have hc := fun w => gcheck_any g w
  rw [show geoErr g = 0 from if_pos hG] at hc
  have HC := hide hc
  clear hc hG
  obtain ⟨z, d, s, l, a⟩ := g
  unfold Geo.v at *
  dsimp only at *
  obtain ⟨W0, hW0⟩ : ∃ W0, W0 = w.alloc (.cells #[.int .i64 z, .int .i64 d, .int .i64 s, .int .i64 l, .int .i64 a] 23) := ⟨_, rfl⟩
  have hb0 : Below w.heap.size w W0 := by rw [hW0]; exact alloc_below w _
  have BX : Hid (∀ w', Below W0.heap.size W0 w' → w'.cell? ⟨w.heap.size, 0, none⟩ = some (.int .i64 z) ∧ w'.cell? ⟨w.heap.size, 1, none⟩ = some (.int .i64 d) ∧ w'.cell? ⟨w.heap.size, 2, none⟩ = some (.int .i64 s) ∧ w'.cell? ⟨w.heap.size, 3, none⟩ = some (.int .i64 l) ∧ w'.cell? ⟨w.heap.size, 4, none⟩ = some (.int .i64 a)) := hide fun w' hb => by
    subst hW0
    exact ⟨box_cell hb 0 _ rfl, box_cell hb 1 _ rfl, box_cell hb 2 _ rfl, box_cell hb 3 _ rfl, box_cell hb 4 _ rfl⟩
  obtain ⟨p0, p1, p2, p3, p4⟩ := BX.out _ (Below.refl _ _)
  rw [hW0] at p0 p1 p2 p3 p4
  go_enter Tryd.func66, Tryd.ntmps66
  go_wp2_with fail
  rw [← hW0]
  refine (HC.out _).mono ?_
  rintro e w1 ⟨rfl, hb1⟩
  go_wp2_with fail
  go_ret2
  exact ⟨rfl, th hb0 hb1⟩

/-- What geom.Anchor tells, of a right geometry. -/
def ganErr (g : Geo) (i : Int) : Int := if 0 ≤ i ∧ i ≤ g.anchors - 1 then 0 else 1
def ganAt (g : Geo) (i : Int) : Int := if 0 ≤ i ∧ i ≤ g.anchors - 1 then i else 0
theorem ganchor_any (g : Geo) (hG : GeoOk g) (i : Int) (hi : InI i) (w : World) : Calls Tryd.prog 89 #[g.v, .int .i64 i] w fun e w' => e = .returned (.tuple #[.int .i64 (ganAt g i), .int .i64 (ganErr g i)]) ∧ Below w.heap.size w w' := by
  have HT : Hid (∀ w, Calls Tryd.prog 66 #[g.v, .int .i64 i, .bool (decide (0 ≤ i ∧ i ≤ g.anchors - 1))] w fun e w' => e = .returned (.tuple #[.int .i64 (ganAt g i), .int .i64 (ganErr g i)]) ∧ Below w.heap.size w w') := hide fun w => by
    unfold ganAt ganErr
    by_cases h : 0 ≤ i ∧ i ≤ g.anchors - 1
    · rw [decide_eq_true h, if_pos h, if_pos h]; exact told_yes g hG i hi w
    · rw [decide_eq_false h, if_neg h, if_neg h]; exact told_no g hG i w
  have HIN := hide fun w => gin_any i 0 (g.anchors - 1) w
  obtain ⟨B, hB⟩ : ∃ B, B = decide (0 ≤ i ∧ i ≤ g.anchors - 1) := ⟨_, rfl⟩
  obtain ⟨X, hX⟩ : ∃ X, X = ganAt g i := ⟨_, rfl⟩
  obtain ⟨E, hE⟩ : ∃ E, E = ganErr g i := ⟨_, rfl⟩
  rw [← hB] at HT HIN
  rw [← hX, ← hE] at HT ⊢
  clear hB hX hE
  obtain ⟨⟨z1, z4⟩, ⟨d1, d4⟩, ⟨s0, s2⟩, ⟨sl1, sl2⟩, an1, an3⟩ := hG
  obtain ⟨z, d, s, l, a⟩ := g
  unfold Geo.v at *
  dsimp only at *
  have e1 : IntKind.i64.wrap (a - 1) = a - 1 := IntWalk.i64_in _ (by omega)
  obtain ⟨W0, hW0⟩ : ∃ W0, W0 = w.alloc (.cells #[.int .i64 z, .int .i64 d, .int .i64 s, .int .i64 l, .int .i64 a] 23) := ⟨_, rfl⟩
  have hb0 : Below w.heap.size w W0 := by rw [hW0]; exact alloc_below w _
  have BX : Hid (∀ w', Below W0.heap.size W0 w' → w'.cell? ⟨w.heap.size, 0, none⟩ = some (.int .i64 z) ∧ w'.cell? ⟨w.heap.size, 1, none⟩ = some (.int .i64 d) ∧ w'.cell? ⟨w.heap.size, 2, none⟩ = some (.int .i64 s) ∧ w'.cell? ⟨w.heap.size, 3, none⟩ = some (.int .i64 l) ∧ w'.cell? ⟨w.heap.size, 4, none⟩ = some (.int .i64 a)) := hide fun w' hb => by
    subst hW0
    exact ⟨box_cell hb 0 _ rfl, box_cell hb 1 _ rfl, box_cell hb 2 _ rfl, box_cell hb 3 _ rfl, box_cell hb 4 _ rfl⟩
  obtain ⟨p0, p1, p2, p3, p4⟩ := BX.out _ (Below.refl _ _)
  have hcur := Below.refl W0.heap.size W0
  rw [hW0] at p0 p1 p2 p3 p4
  go_enter Tryd.func89, Tryd.ntmps89
  go_wp2_with fail
  rw [← hW0]
  clear p0 p1 p2 p3 p4 hW0
  go_region_held3 (fun w' => w'.cell? ⟨w.heap.size, 0, none⟩ = some (.int .i64 z) ∧ w'.cell? ⟨w.heap.size, 1, none⟩ = some (.int .i64 d) ∧ w'.cell? ⟨w.heap.size, 2, none⟩ = some (.int .i64 s) ∧ w'.cell? ⟨w.heap.size, 3, none⟩ = some (.int .i64 l) ∧ w'.cell? ⟨w.heap.size, 4, none⟩ = some (.int .i64 a)) (first | exact BX.out _ hcur | exact BX.out _ hcur.drew) (first
    | (go_at_call 69; (with_reducible refine (HIN.out _).mono ?_); rintro e wB ⟨rfl, rfl⟩)
    | (go_at_call 66; (with_reducible refine (HT.out _).mono ?_); rintro e wA ⟨rfl, hz⟩; have hcur := th (by first | with_reducible exact hcur | with_reducible exact hcur.drew) hz))
  all_goals (go_wp2_with fail; go_ret2; exact ⟨rfl, th hb0 (by first | exact hcur | exact hcur.drew)⟩)

/-- An anchor's cell that there is. -/
def CellOk (g : Geo) (a : Anc) (i : Int) : Prop := GeoOk g ∧ AncOk g a ∧ 0 ≤ i ∧ i ≤ g.anchors - 1
instance (g : Geo) (a : Anc) (i : Int) : Decidable (CellOk g a i) := by unfold CellOk; infer_instance

set_option maxHeartbeats 2000000 in
theorem ncell_no (g : Geo) (a : Anc) (A : Option Addr) (n c : Nat) (i : Int) (hi : InI i) (w : World) (hT : Tabs w) (ha : Sl homR 3 w (Old w) A n c a.homes) (hin : a.In) (hl : Light a) (hno : ¬ CellOk g a i) :
    Calls Tryd.prog 48 #[g.v, a.v (.slice A n c), .int .i64 i] w fun e w' => e = .returned (.tuple #[.slice none 0 0, .int .i64 1]) ∧ Below w.heap.size w w' := by
  have HN := hide fun hno w hT h => abytes_no (g := g) (a := a) hno (A := A) (n := n) (c := c) (w := w) hT h hin hl
  have HY := hide fun hG ho w hT h => abytes_yes (g := g) (a := a) hG ho (A := A) (n := n) (c := c) (w := w) hT h hin hl
  have HGA := hide fun hG w => ganchor_any g hG i hi w
  obtain ⟨W0, hW0⟩ : ∃ W0, W0 = (w.alloc (.cells #[.int .i64 g.zones, .int .i64 g.data, .int .i64 g.spares, .int .i64 g.slots, .int .i64 g.anchors] 23)).alloc (.cells #[.int .i64 a.gen, .int .i64 a.epoch, .int .i64 a.pos, .int .i64 a.seq, .int .i64 a.last, .string a.label, .slice A n c] 26) := ⟨_, rfl⟩
  have hb0 : Below w.heap.size w W0 := by rw [hW0]; exact (alloc_below w _).alloc (by simp) _
  have ha0 := ha.on homR_fine hb0
  have hgb : GeoAt W0 w.heap.size g := by rw [hW0]; exact (GeoAt.new w g 23).on (alloc_below _ _)
  have hsv : Sev W0 (w.heap.size + 1) (.int .i64 a.gen) (.int .i64 a.epoch) (.int .i64 a.pos) (.int .i64 a.seq) (.int .i64 a.last) (.string a.label) (.slice A n c) := by rw [hW0]; exact Sev.new (by simp) (Below.refl _ _)
  have hN1 : w.heap.size + 1 < W0.heap.size := by rw [hW0]; simp
  have HSV := hide hsv
  have HGB := hide hgb
  have hpq := hgb.2
  rw [hW0] at hpq hsv
  obtain ⟨p0, p1, p2, p3, p4⟩ := hpq
  obtain ⟨q0, q1, q2, q3, q4, q5, q6⟩ := hsv
  clear hgb
  unfold Geo.v Anc.v at *
  by_cases ho : GeoOk g ∧ AncOk g a
  · have hi2 : ¬ (0 ≤ i ∧ i ≤ g.anchors - 1) := fun h => hno ⟨ho.1, ho.2, h.1, h.2⟩
    have HY1 := hide (HY.out ho.1 ho.2)
    have HG1 := hide (HGA.out ho.1)
    rw [show ganErr g i = 1 from if_neg hi2, show ganAt g i = 0 from if_neg hi2] at HG1
    obtain ⟨LA, hLA⟩ : ∃ LA, LA = (ancL a).length := ⟨_, rfl⟩
    rw [← hLA] at HY1
    clear ho hi2 hno hLA
    go_enter Tryd.func48, Tryd.ntmps48
    go_wp2_with fail
    rw [← hW0]
    clear hW0 p0 p1 p2 p3 p4 q0 q1 q2 q3 q4 q5 q6
    refine (HY1.out _ (hT.below hb0) ha0).mono ?_
    rintro e w1 ⟨hb1, V1, c1, rfl, ho1⟩
    obtain ⟨_, p0, p1, p2, p3, p4⟩ := HGB.out.on hb1
    go_wp2_with fail
    refine (HG1.out _).mono ?_
    rintro e w2 ⟨rfl, hb2⟩
    go_wp2_with fail
    go_ret2
    exact ⟨rfl, th hb0 (th hb1 hb2)⟩
  · have HN1 := hide (HN.out ho)
    clear ho hno
    go_enter Tryd.func48, Tryd.ntmps48
    go_wp2_with fail
    rw [← hW0]
    clear hW0 p0 p1 p2 p3 p4 q0 q1 q2 q3 q4 q5 q6
    refine (HN1.out _ (hT.below hb0) ha0).mono ?_
    rintro e w1 ⟨hb1, V1, c1, rfl⟩
    go_wp2_with fail
    go_ret2
    exact ⟨rfl, th hb0 hb1⟩

set_option maxHeartbeats 2000000 in
theorem ncell_yes (g : Geo) (a : Anc) (A : Option Addr) (n c : Nat) (i : Nat) (w : World) (hT : Tabs w) (ha : Sl homR 3 w (Old w) A n c a.homes) (hin : a.In) (hl : Light a) (hok : CellOk g a (i : Int)) :
    Calls Tryd.prog 48 #[g.v, a.v (.slice A n c), .int .i64 (i : Int)] w fun e w' => ∃ V cv, e = .returned (.tuple #[.slice V ((ancL a).length + 11) cv, .int .i64 0]) ∧ Ow byteR 1 w' w.heap.size w.heap.size 5 (.slice V ((ancL a).length + 11) cv) ((ancL a).length + 11) (sealL i a.gen.toNat (ancL a)) ∧ Below w.heap.size w w' := by
  obtain ⟨hG, hO, i0, i1⟩ := hok
  have han := hG.2.2.2.2
  have hrm := anc_room hG hO
  have HY := hide fun w hT h => abytes_yes (g := g) (a := a) hG hO (A := A) (n := n) (c := c) (w := w) hT h hin hl
  have HG1 := hide fun w => ganchor_any g hG (i : Int) ⟨by omega, by omega⟩ w
  rw [show ganErr g (i : Int) = 0 from if_pos ⟨i0, i1⟩, show ganAt g (i : Int) = (i : Int) from if_pos ⟨i0, i1⟩] at HG1
  obtain ⟨G, hGn⟩ : ∃ G : Nat, a.gen = (G : Int) := ⟨a.gen.toNat, by have := hO.1.1.1; omega⟩
  have hGb : G ≤ 4294967295 := by have := hO.1.1.2; omega
  rw [hGn]
  obtain ⟨LL, hLL⟩ : ∃ LL, LL = ancL a := ⟨_, rfl⟩
  rw [← hLL] at HY hrm ⊢
  obtain ⟨LA, hLA⟩ : ∃ LA, LA = LL.length := ⟨_, rfl⟩
  rw [← hLA] at HY hrm ⊢
  have HMK := hide fun (V : Option Addr) (d : Nat) w h => make_ok (A := V) (n := LA) (c := d) (l := LL) (w := w) h i G (by omega) hGb (by omega)
  have hib : i ≤ 65535 := by omega
  clear hG hO i0 i1 han hrm hLL hLA hl hin
  obtain ⟨W0, hW0⟩ : ∃ W0, W0 = (w.alloc (.cells #[.int .i64 g.zones, .int .i64 g.data, .int .i64 g.spares, .int .i64 g.slots, .int .i64 g.anchors] 23)).alloc (.cells #[.int .i64 a.gen, .int .i64 a.epoch, .int .i64 a.pos, .int .i64 a.seq, .int .i64 a.last, .string a.label, .slice A n c] 26) := ⟨_, rfl⟩
  have hb0 : Below w.heap.size w W0 := by rw [hW0]; exact (alloc_below w _).alloc (by simp) _
  have ha0 := ha.on homR_fine hb0
  have hgb : GeoAt W0 w.heap.size g := by rw [hW0]; exact (GeoAt.new w g 23).on (alloc_below _ _)
  have hsv : Sev W0 (w.heap.size + 1) (.int .i64 a.gen) (.int .i64 a.epoch) (.int .i64 a.pos) (.int .i64 a.seq) (.int .i64 a.last) (.string a.label) (.slice A n c) := by rw [hW0]; exact Sev.new (by simp) (Below.refl _ _)
  have hN1 : w.heap.size + 1 < W0.heap.size := by rw [hW0]; simp
  have HSV := hide hsv
  have HGB := hide hgb
  have hpq := hgb.2
  rw [hW0] at hpq hsv
  obtain ⟨p0, p1, p2, p3, p4⟩ := hpq
  obtain ⟨q0, q1, q2, q3, q4, q5, q6⟩ := hsv
  clear hgb
  unfold Geo.v Anc.v at *
  rw [hGn] at *
  go_enter Tryd.func48, Tryd.ntmps48
  go_wp2_with fail
  rw [← hW0]
  clear hW0 p0 p1 p2 p3 p4 q0 q1 q2 q3 q4 q5 q6
  refine (HY.out _ (hT.below hb0) ha0).mono ?_
  rintro e w1 ⟨hb1, V1, c1, rfl, ho1⟩
  obtain ⟨_, p0, p1, p2, p3, p4⟩ := HGB.out.on hb1
  go_wp2_with fail
  refine (HG1.out _).mono ?_
  rintro e w2 ⟨rfl, hb2⟩
  have hb02 := th hb1 hb2
  obtain ⟨q0, _⟩ := HSV.out.onB hN1 hb02
  go_wp2_with fail
  refine (HMK.out _ _ _ ((ho1.read byteR_fine).on byteR_fine hb2)).mono ?_
  rintro e w3 ⟨V3, c3, rfl, ho3, hb3⟩
  go_wp2_with fail
  go_ret2
  exact ⟨V3, c3, rfl, ho3.less byteR_fine (th hb0 hb02).size (th hb0 hb02).size, th hb0 (th hb02 hb3)⟩

end Go.Proofs.YtamgpbkakmffiaaDoor

namespace Go.Proofs.YtamgpbkakmffiaaDoor
open Go.RowKit Go.Lib
set_option linter.unusedVariables false
set_option maxRecDepth 100000

/-- The anchor that a reading says, if any. -/
def saysN (g : Geo) (err : Int) (l : List UInt8) (addr : Int) : Option Anc :=
  if GeoOk g ∧ (0 ≤ addr ∧ addr ≤ 65535) ∧ err = 0 ∧ (openS l).2 = 0 ∧ (openS l).1.addr = addr then
    match ancOf g.zones.toNat g.data.toNat (openS l).1.load with
    | some a => if AncOk g a ∧ a.gen = (openS l).1.stamp then some a else none
    | none => none
  else none
def SaysIs (S : Option Anc) (a : Anc) (r : Bool) : Prop := (r = true ∧ S = some a) ∨ (r = false ∧ a = noAnc ∧ S = none)
theorem says_no : SaysIs none noAnc false := .inr ⟨rfl, rfl, rfl⟩
theorem says_yes (a : Anc) : SaysIs (some a) a true := .inl ⟨rfl, rfl⟩
def SaysPost (w : World) (S : Option Anc) (e : Ending) (w' : World) : Prop := Below w.heap.size w w' ∧ ∃ (a : Anc) (V : Option Addr) (n c : Nat) (r : Bool), e = .returned (.tuple #[a.v (.slice V n c), .bool r]) ∧ Sl homR 3 w' (New w.heap.size w') V n c a.homes ∧ SaysIs S a r
theorem open_len (l : List UInt8) : (openS l).1.load.length ≤ l.length := by
  unfold openS
  repeat' split
  all_goals (first | (show ([] : List UInt8).length ≤ _; exact Nat.zero_le _) | (show ((l.drop 1).take _).length ≤ _; rw [List.length_take, List.length_drop]; omega))

set_option maxHeartbeats 8000000 in
theorem nsays_any (g : Geo) (err : Int) (A : Option Addr) (n c : Nat) (l : List UInt8) (addr : Int) (w : World) (hT : Tabs w) (hl : Bs w A n c l) (hn : n ≤ 60000) :
    Calls Tryd.prog 46 #[g.v, .agg #[.int .i64 err, .slice A n c], .int .i64 addr] w (SaysPost w (saysN g err l addr)) := by
  have HCK := hide fun w => gcheck_any g w
  have HOP := hide fun w h => open_any (A := A) (n := n) (c := c) (l := l) (w := w) h (by omega)
  have hol : (openS l).1.load.length ≤ 60000 := by have := open_len l; have := hl.len; omega
  have HRD := hide fun V m d w hT h hm => aread_any g V m d (openS l).1.load w hT h hm
  unfold OpenPost at HOP
  unfold AReadPost at HRD
  obtain ⟨S, hS⟩ : ∃ S, S = saysN g err l addr := ⟨_, rfl⟩
  rw [← hS]
  have HS : Hid (S = saysN g err l addr) := hide hS
  have HNO : Hid (¬ (GeoOk g ∧ (0 ≤ addr ∧ addr ≤ 65535) ∧ err = 0 ∧ (openS l).2 = 0 ∧ (openS l).1.addr = addr) → S = none) := hide fun h => by rw [HS.out]; exact if_neg h
  have HYES : Hid ((GeoOk g ∧ (0 ≤ addr ∧ addr ≤ 65535) ∧ err = 0 ∧ (openS l).2 = 0 ∧ (openS l).1.addr = addr) → S = match ancOf g.zones.toNat g.data.toNat (openS l).1.load with | some a => if AncOk g a ∧ a.gen = (openS l).1.stamp then some a else none | none => none) := hide fun h => by rw [HS.out]; exact if_pos h
  clear hS
  obtain ⟨OS, hOS⟩ : ∃ OS, OS = openS l := ⟨_, rfl⟩
  rw [← hOS] at HOP HRD HNO HYES hol
  have HOL := hide hol
  clear hol hOS HS
  unfold SaysPost
  obtain ⟨W0, hW0⟩ : ∃ W0, W0 = ((w.alloc (.cells #[.int .i64 g.zones, .int .i64 g.data, .int .i64 g.spares, .int .i64 g.slots, .int .i64 g.anchors] 23)).alloc (.cells #[.int .i64 err, .slice A n c] 78)).alloc (.cells #[.int .i64 0, .int .i64 0, .int .i64 0, .int .i64 0, .int .i64 0, .string ⟨#[]⟩, .slice none 0 0] 26) := ⟨_, rfl⟩
  have hs0 : W0.heap.size = w.heap.size + 3 := by rw [hW0]; simp
  have hb0 : Below w.heap.size w W0 := by rw [hW0]; exact ((alloc_below w _).alloc (by simp) _).alloc (by simp; omega) _
  have hl0 := hl.on byteR_fine hb0
  have hgb : GeoAt W0 w.heap.size g := by rw [hW0]; exact (GeoAt.new w g 23).on ((alloc_below _ _).alloc (by simp) _)
  have hxb : ∀ W, Below W0.heap.size W0 W → W.cell? ⟨w.heap.size + 1, 0, none⟩ = some (.int .i64 err) ∧ W.cell? ⟨w.heap.size + 1, 1, none⟩ = some (.slice A n c) := fun W hW => by
    have h2 := th (alloc_below _ _) (show Below (((w.alloc (.cells #[.int .i64 g.zones, .int .i64 g.data, .int .i64 g.spares, .int .i64 g.slots, .int .i64 g.anchors] 23)).alloc (.cells #[.int .i64 err, .slice A n c] 78)).alloc (.cells #[.int .i64 0, .int .i64 0, .int .i64 0, .int .i64 0, .int .i64 0, .string ⟨#[]⟩, .slice none 0 0] 26)).heap.size _ W by rw [← hW0]; exact hW)
    exact ⟨bx_at2 (by simp) h2 0 _ rfl, bx_at2 (by simp) h2 1 _ rfl⟩
  have hzv : Sev W0 (w.heap.size + 1 + 1) (.int .i64 0) (.int .i64 0) (.int .i64 0) (.int .i64 0) (.int .i64 0) (.string ⟨#[]⟩) (.slice none 0 0) := by rw [hW0]; exact Sev.new (by simp) (Below.refl _ _)
  have hfZ : ∀ W, Below W0.heap.size W0 W → ∀ k, W.frozen? ⟨w.heap.size + 1 + 1, k, none⟩ = false := fun W hW k => (hW.frozen (by show w.heap.size + 1 + 1 < _; omega)).trans (by rw [hW0]; exact bx_free2 (by simp) (Below.refl _ _) k)
  have HXB := hide hxb
  have HFZ := hide hfZ
  have HZV := hide hzv
  have HGB := hide hgb
  have hpq := hgb.2
  have hxq := hxb W0 (Below.refl _ _)
  rw [hW0] at hpq hxq
  obtain ⟨p0, p1, p2, p3, p4⟩ := hpq
  obtain ⟨x0, x1⟩ := hxq
  clear hgb hzv hfZ hxb
  unfold Geo.v at *
  by_cases hG : GeoOk g
  · rw [show geoErr g = 0 from if_pos hG] at HCK
    by_cases h0 : 0 ≤ addr
    · by_cases h1 : addr ≤ 65535
      · by_cases h2 : err = 0
        · subst h2
          have t1 : ¬ addr < 0 := by omega
          have t2 : ¬ 65535 < addr := by omega
          obtain ⟨⟨oa, os, ol⟩, oe⟩ := OS
          dsimp only at *
          by_cases h3 : oe = 0
          · subst h3
            by_cases h4 : oa = addr
            · subst h4
              have HM := hide (HYES.out ⟨hG, ⟨h0, h1⟩, rfl, rfl, rfl⟩)
              have HGO := hide hG
              clear hG h0 h1 HNO HYES
              go_enter Tryd.func46, Tryd.ntmps46
              go_wp2_with fail
              rw [← hW0]
              clear hW0 p0 p1 p2 p3 p4 x0 x1
              refine (HCK.out _).mono ?_
              rintro e w1 ⟨rfl, hb1⟩
              obtain ⟨x0, x1⟩ := HXB.out _ hb1
              go_wp2_with fail
              refine (HOP.out _ (hl0.on byteR_fine hb1)).mono ?_
              rintro e w2 ⟨VO, no, co, rfl, hs2, hb2⟩
              have hE3 := alloc_below w2 (.cells #[.int .i64 oa, .int .i64 os, .slice VO no co] 122)
              obtain ⟨W3, hW3⟩ : ∃ W3, W3 = w2.alloc (.cells #[.int .i64 oa, .int .i64 os, .slice VO no co] 122) := ⟨_, rfl⟩
              have hb23 : Below w2.heap.size w2 W3 := by rw [hW3]; exact alloc_below _ _
              have hSB : Hid (∀ W, Below W3.heap.size W3 W → W.cell? ⟨w2.heap.size, 0, none⟩ = some (.int .i64 oa) ∧ W.cell? ⟨w2.heap.size, 1, none⟩ = some (.int .i64 os) ∧ W.cell? ⟨w2.heap.size, 2, none⟩ = some (.slice VO no co)) := hide fun W hW => by
                subst hW3
                exact ⟨box_cell hW 0 _ rfl, box_cell hW 1 _ rfl, box_cell hW 2 _ rfl⟩
              have hb03 := th hb1 (th hb2 hb23)
              have hno : no ≤ 60000 := by have := hs2.len; have := HOL.out; omega
              clear x0 x1 hE3
              go_upto_region 4 with fail
              rw [← hW3]
              clear hW3
              obtain ⟨s0, s1, s2⟩ := hSB.out _ (Below.refl _ _)
              obtain ⟨_, p0, p1, p2, p3, p4⟩ := HGB.out.on hb03
              go_wp2_with fail
              refine (HRD.out _ _ _ _ (hT.below (th hb0 hb03)) (hs2.on byteR_fine hb23) hno).mono ?_
              rintro e w4 ⟨hb4, r, v, er, rfl, ⟨VR, nr, cr, rfl, hsr⟩, hq⟩
              unfold Anc.v
              dsimp only
              obtain ⟨W5, hW5⟩ : ∃ W5, W5 = w4.alloc (.cells #[.int .i64 r.gen, .int .i64 r.epoch, .int .i64 r.pos, .int .i64 r.seq, .int .i64 r.last, .string r.label, .slice VR nr cr] 26) := ⟨_, rfl⟩
              have hE5 : Below w4.heap.size w4 W5 := by rw [hW5]; exact alloc_below _ _
              have hN5 : w4.heap.size < W5.heap.size := by rw [hW5]; simp
              have hv5 : Sev W5 w4.heap.size (.int .i64 r.gen) (.int .i64 r.epoch) (.int .i64 r.pos) (.int .i64 r.seq) (.int .i64 r.last) (.string r.label) (.slice VR nr cr) := by rw [hW5]; exact Sev.new rfl (Below.refl _ _)
              have HV5 := hide hv5
              have hr5 := (hsr.old_ homR_fine).on homR_fine hE5
              have hb35 := th hb4 hE5
              have hb05 := th hb03 hb35
              clear hv5 p0 p1 p2 p3 p4 s0 s1 s2
              rcases hq with ⟨h, _⟩ | ⟨_, hq1, hq2, rfl⟩ | ⟨_, hq1, rfl, rfl⟩
              · exact absurd HGO.out h
              · by_cases hgs : r.gen = os
                · have hSr : S = some r := by rw [HM.out, hq1]; exact if_pos ⟨hq2, hgs⟩
                  subst hSr
                  have HGS := hide hgs
                  clear hq1 hq2 hgs HM
                  go_upto_region 7 with fail
                  rw [← hW5]
                  clear hW5
                  obtain ⟨s0, s1, s2⟩ := hSB.out _ hb35
                  rw [← HGS.out] at s1
                  obtain ⟨t0, t1, t2, t3, t4, t5, t6⟩ := HV5.out
                  have hzz := HZV.out.onB (show w.heap.size + 1 + 1 < W0.heap.size by omega) hb05
                  have f0 := HFZ.out _ hb05 0
                  have f1 := HFZ.out _ hb05 1
                  have f2 := HFZ.out _ hb05 2
                  have f3 := HFZ.out _ hb05 3
                  have f4 := HFZ.out _ hb05 4
                  have f5 := HFZ.out _ hb05 5
                  have f6 := HFZ.out _ hb05 6
                  have hzu := put7_sev hzz (.int .i64 r.gen) (.int .i64 r.epoch) (.int .i64 r.pos) (.int .i64 r.seq) (.int .i64 r.last) (.string r.label) (.slice VR nr cr)
                  unfold put7 at hzu
                  have HZU := hide hzu
                  have hsz4 := (th hb1 (th hb2 hb23)).size
                  have hrd : Sl homR 3 (put7 W5 (w.heap.size + 1 + 1) (.int .i64 r.gen) (.int .i64 r.epoch) (.int .i64 r.pos) (.int .i64 r.seq) (.int .i64 r.last) (.string r.label) (.slice VR nr cr)) (New w.heap.size (put7 W5 (w.heap.size + 1 + 1) (.int .i64 r.gen) (.int .i64 r.epoch) (.int .i64 r.pos) (.int .i64 r.seq) (.int .i64 r.last) (.string r.label) (.slice VR nr cr))) VR nr cr r.homes := by
                    have h1 := put7_new homR_fine (hsr.move (w' := W5) (S' := New W3.heap.size W5) homR_fine (fun b hb => hE5.block b hb.2) (fun b hb => ⟨hb.1, Nat.lt_of_lt_of_le hb.2 hE5.size⟩)) (show w.heap.size + 1 + 1 < W3.heap.size by omega) (.int .i64 r.gen) (.int .i64 r.epoch) (.int .i64 r.pos) (.int .i64 r.seq) (.int .i64 r.last) (.string r.label) (.slice VR nr cr)
                    exact h1.new_less homR_fine (show w.heap.size ≤ W3.heap.size by omega)
                  have HRDD := hide hrd
                  obtain ⟨y0, y1, y2, y3, y4, y5, y6⟩ := hzz
                  clear hzu hrd
                  go_wp2_with fail
                  obtain ⟨u0, u1, u2, u3, u4, u5, u6⟩ := HZU.out
                  exact bodyPost_ret (v := .tuple #[.agg #[.int .i64 r.gen, .int .i64 r.epoch, .int .i64 r.pos, .int .i64 r.seq, .int .i64 r.last, .string r.label, .slice VR nr cr], .bool true]) (by simp [results, Tryd.results46, go_sem, u0, u1, u2, u3, u4, u5, u6]) rfl ⟨put7_below (th hb0 hb05) (by omega) _ _ _ _ _ _ _, r, VR, nr, cr, true, rfl, HRDD.out, says_yes r⟩
                · have hSr : S = none := by rw [HM.out, hq1]; exact if_neg fun h => hgs h.2
                  subst hSr
                  have tg : (r.gen != os) = true := by simpa using hgs
                  clear hq1 hq2 hgs HM
                  go_upto_region 7 with fail
                  rw [← hW5]
                  clear hW5
                  obtain ⟨s0, s1, s2⟩ := hSB.out _ hb35
                  obtain ⟨t0, t1, t2, t3, t4, t5, t6⟩ := HV5.out
                  have hzz := HZV.out.onB (show w.heap.size + 1 + 1 < W0.heap.size by omega) hb05
                  have f0 := HFZ.out _ hb05 0
                  have f1 := HFZ.out _ hb05 1
                  have f2 := HFZ.out _ hb05 2
                  have f3 := HFZ.out _ hb05 3
                  have f4 := HFZ.out _ hb05 4
                  have f5 := HFZ.out _ hb05 5
                  have f6 := HFZ.out _ hb05 6
                  have hzu := put7_sev hzz (.int .i64 0) (.int .i64 0) (.int .i64 0) (.int .i64 0) (.int .i64 0) (.string ⟨#[]⟩) (.slice none 0 0)
                  unfold put7 at hzu
                  have HZU := hide hzu
                  obtain ⟨y0, y1, y2, y3, y4, y5, y6⟩ := hzz
                  clear hzu
                  go_wp2_with fail
                  obtain ⟨u0, u1, u2, u3, u4, u5, u6⟩ := HZU.out
                  exact bodyPost_ret (v := .tuple #[.agg #[.int .i64 0, .int .i64 0, .int .i64 0, .int .i64 0, .int .i64 0, .string ⟨#[]⟩, .slice none 0 0], .bool false]) (by simp [results, Tryd.results46, go_sem, u0, u1, u2, u3, u4, u5, u6]) rfl ⟨put7_below (th hb0 hb05) (by omega) _ _ _ _ _ _ _, noAnc, none, 0, 0, false, rfl, Sl.nil_ _, says_no⟩
              · have hSr : S = none := by
                  rw [HM.out]
                  split
                  · exact if_neg fun h => hq1 _ (by assumption) h.1
                  · rfl
                subst hSr
                clear hq1 HM
                go_upto_region 7 with fail
                rw [← hW5]
                clear hW5
                have hzz := HZV.out.onB (show w.heap.size + 1 + 1 < W0.heap.size by omega) hb05
                have f0 := HFZ.out _ hb05 0
                have f1 := HFZ.out _ hb05 1
                have f2 := HFZ.out _ hb05 2
                have f3 := HFZ.out _ hb05 3
                have f4 := HFZ.out _ hb05 4
                have f5 := HFZ.out _ hb05 5
                have f6 := HFZ.out _ hb05 6
                have hzu := put7_sev hzz (.int .i64 0) (.int .i64 0) (.int .i64 0) (.int .i64 0) (.int .i64 0) (.string ⟨#[]⟩) (.slice none 0 0)
                unfold put7 at hzu
                have HZU := hide hzu
                obtain ⟨y0, y1, y2, y3, y4, y5, y6⟩ := hzz
                clear hzu
                go_wp2_with fail
                obtain ⟨u0, u1, u2, u3, u4, u5, u6⟩ := HZU.out
                exact bodyPost_ret (v := .tuple #[.agg #[.int .i64 0, .int .i64 0, .int .i64 0, .int .i64 0, .int .i64 0, .string ⟨#[]⟩, .slice none 0 0], .bool false]) (by simp [results, Tryd.results46, go_sem, u0, u1, u2, u3, u4, u5, u6]) rfl ⟨put7_below (th hb0 hb05) (by omega) _ _ _ _ _ _ _, noAnc, none, 0, 0, false, rfl, Sl.nil_ _, says_no⟩
            · obtain rfl := HNO.out fun h => h4 h.2.2.2.2
              have t4 : (oa != addr) = true := by simpa using h4
              clear h4 HNO HYES
              go_enter Tryd.func46, Tryd.ntmps46
              go_wp2_with fail
              rw [← hW0]
              clear hW0 p0 p1 p2 p3 p4 x0 x1
              refine (HCK.out _).mono ?_
              rintro e w1 ⟨rfl, hb1⟩
              obtain ⟨x0, x1⟩ := HXB.out _ hb1
              go_wp2_with fail
              refine (HOP.out _ (hl0.on byteR_fine hb1)).mono ?_
              rintro e w2 ⟨VO, no, co, rfl, hs2, hb2⟩
              have hb23 := alloc_below w2 (.cells #[.int .i64 oa, .int .i64 os, .slice VO no co] 122)
              have hb03 := th hb1 (th hb2 hb23)
              have hzz := HZV.out.onB (show w.heap.size + 1 + 1 < W0.heap.size by omega) hb03
              have f0 := HFZ.out _ hb03 0
              have f1 := HFZ.out _ hb03 1
              have f2 := HFZ.out _ hb03 2
              have f3 := HFZ.out _ hb03 3
              have f4 := HFZ.out _ hb03 4
              have f5 := HFZ.out _ hb03 5
              have f6 := HFZ.out _ hb03 6
              have hzu := put7_sev hzz (.int .i64 0) (.int .i64 0) (.int .i64 0) (.int .i64 0) (.int .i64 0) (.string ⟨#[]⟩) (.slice none 0 0)
              unfold put7 at hzu
              have HZU := hide hzu
              obtain ⟨y0, y1, y2, y3, y4, y5, y6⟩ := hzz
              clear hzu
              go_wp2_with fail
              obtain ⟨u0, u1, u2, u3, u4, u5, u6⟩ := HZU.out
              exact bodyPost_ret (v := .tuple #[.agg #[.int .i64 0, .int .i64 0, .int .i64 0, .int .i64 0, .int .i64 0, .string ⟨#[]⟩, .slice none 0 0], .bool false]) (by simp [results, Tryd.results46, go_sem, u0, u1, u2, u3, u4, u5, u6]) rfl ⟨put7_below (th hb0 hb03) (by omega) _ _ _ _ _ _ _, noAnc, none, 0, 0, false, rfl, Sl.nil_ _, says_no⟩
          · obtain rfl := HNO.out fun h => h3 h.2.2.2.1
            have t3 : (oe != 0) = true := by simpa using h3
            clear h3 HNO HYES
            go_enter Tryd.func46, Tryd.ntmps46
            go_wp2_with fail
            rw [← hW0]
            clear hW0 p0 p1 p2 p3 p4 x0 x1
            refine (HCK.out _).mono ?_
            rintro e w1 ⟨rfl, hb1⟩
            obtain ⟨x0, x1⟩ := HXB.out _ hb1
            go_wp2_with fail
            refine (HOP.out _ (hl0.on byteR_fine hb1)).mono ?_
            rintro e w2 ⟨VO, no, co, rfl, hs2, hb2⟩
            have hb23 := alloc_below w2 (.cells #[.int .i64 oa, .int .i64 os, .slice VO no co] 122)
            have hb03 := th hb1 (th hb2 hb23)
            have hzz := HZV.out.onB (show w.heap.size + 1 + 1 < W0.heap.size by omega) hb03
            have f0 := HFZ.out _ hb03 0
            have f1 := HFZ.out _ hb03 1
            have f2 := HFZ.out _ hb03 2
            have f3 := HFZ.out _ hb03 3
            have f4 := HFZ.out _ hb03 4
            have f5 := HFZ.out _ hb03 5
            have f6 := HFZ.out _ hb03 6
            have hzu := put7_sev hzz (.int .i64 0) (.int .i64 0) (.int .i64 0) (.int .i64 0) (.int .i64 0) (.string ⟨#[]⟩) (.slice none 0 0)
            unfold put7 at hzu
            have HZU := hide hzu
            obtain ⟨y0, y1, y2, y3, y4, y5, y6⟩ := hzz
            clear hzu
            go_wp2_with fail
            obtain ⟨u0, u1, u2, u3, u4, u5, u6⟩ := HZU.out
            exact bodyPost_ret (v := .tuple #[.agg #[.int .i64 0, .int .i64 0, .int .i64 0, .int .i64 0, .int .i64 0, .string ⟨#[]⟩, .slice none 0 0], .bool false]) (by simp [results, Tryd.results46, go_sem, u0, u1, u2, u3, u4, u5, u6]) rfl ⟨put7_below (th hb0 hb03) (by omega) _ _ _ _ _ _ _, noAnc, none, 0, 0, false, rfl, Sl.nil_ _, says_no⟩
        · obtain rfl := HNO.out fun h => h2 h.2.2.1
          have t1 : ¬ addr < 0 := by omega
          have t2 : ¬ 65535 < addr := by omega
          have t3 : (err != 0) = true := by simpa using h2
          clear h2 HNO HYES
          go_enter Tryd.func46, Tryd.ntmps46
          go_wp2_with fail
          rw [← hW0]
          clear hW0 p0 p1 p2 p3 p4 x0 x1
          refine (HCK.out _).mono ?_
          rintro e w1 ⟨rfl, hb1⟩
          obtain ⟨x0, x1⟩ := HXB.out _ hb1
          have hzz := HZV.out.onB (show w.heap.size + 1 + 1 < W0.heap.size by omega) hb1
          have f0 := HFZ.out _ hb1 0
          have f1 := HFZ.out _ hb1 1
          have f2 := HFZ.out _ hb1 2
          have f3 := HFZ.out _ hb1 3
          have f4 := HFZ.out _ hb1 4
          have f5 := HFZ.out _ hb1 5
          have f6 := HFZ.out _ hb1 6
          have hzu := put7_sev hzz (.int .i64 0) (.int .i64 0) (.int .i64 0) (.int .i64 0) (.int .i64 0) (.string ⟨#[]⟩) (.slice none 0 0)
          unfold put7 at hzu
          have HZU := hide hzu
          obtain ⟨y0, y1, y2, y3, y4, y5, y6⟩ := hzz
          clear hzu
          go_wp2_with fail
          obtain ⟨u0, u1, u2, u3, u4, u5, u6⟩ := HZU.out
          exact bodyPost_ret (v := .tuple #[.agg #[.int .i64 0, .int .i64 0, .int .i64 0, .int .i64 0, .int .i64 0, .string ⟨#[]⟩, .slice none 0 0], .bool false]) (by simp [results, Tryd.results46, go_sem, u0, u1, u2, u3, u4, u5, u6]) rfl ⟨put7_below (th hb0 hb1) (by omega) _ _ _ _ _ _ _, noAnc, none, 0, 0, false, rfl, Sl.nil_ _, says_no⟩
      · obtain rfl := HNO.out fun h => h1 h.2.1.2
        have t1 : ¬ addr < 0 := by omega
        have t2 : 65535 < addr := by omega
        clear HNO HYES
        go_enter Tryd.func46, Tryd.ntmps46
        go_wp2_with fail
        rw [← hW0]
        clear hW0 p0 p1 p2 p3 p4 x0 x1
        refine (HCK.out _).mono ?_
        rintro e w1 ⟨rfl, hb1⟩
        have hzz := HZV.out.onB (show w.heap.size + 1 + 1 < W0.heap.size by omega) hb1
        have f0 := HFZ.out _ hb1 0
        have f1 := HFZ.out _ hb1 1
        have f2 := HFZ.out _ hb1 2
        have f3 := HFZ.out _ hb1 3
        have f4 := HFZ.out _ hb1 4
        have f5 := HFZ.out _ hb1 5
        have f6 := HFZ.out _ hb1 6
        have hzu := put7_sev hzz (.int .i64 0) (.int .i64 0) (.int .i64 0) (.int .i64 0) (.int .i64 0) (.string ⟨#[]⟩) (.slice none 0 0)
        unfold put7 at hzu
        have HZU := hide hzu
        obtain ⟨y0, y1, y2, y3, y4, y5, y6⟩ := hzz
        clear hzu
        go_wp2_with fail
        obtain ⟨u0, u1, u2, u3, u4, u5, u6⟩ := HZU.out
        exact bodyPost_ret (v := .tuple #[.agg #[.int .i64 0, .int .i64 0, .int .i64 0, .int .i64 0, .int .i64 0, .string ⟨#[]⟩, .slice none 0 0], .bool false]) (by simp [results, Tryd.results46, go_sem, u0, u1, u2, u3, u4, u5, u6]) rfl ⟨put7_below (th hb0 hb1) (by omega) _ _ _ _ _ _ _, noAnc, none, 0, 0, false, rfl, Sl.nil_ _, says_no⟩
    · obtain rfl := HNO.out fun h => h0 h.2.1.1
      have t1 : addr < 0 := by omega
      clear HNO HYES
      go_enter Tryd.func46, Tryd.ntmps46
      go_wp2_with fail
      rw [← hW0]
      clear hW0 p0 p1 p2 p3 p4 x0 x1
      refine (HCK.out _).mono ?_
      rintro e w1 ⟨rfl, hb1⟩
      have hzz := HZV.out.onB (show w.heap.size + 1 + 1 < W0.heap.size by omega) hb1
      have f0 := HFZ.out _ hb1 0
      have f1 := HFZ.out _ hb1 1
      have f2 := HFZ.out _ hb1 2
      have f3 := HFZ.out _ hb1 3
      have f4 := HFZ.out _ hb1 4
      have f5 := HFZ.out _ hb1 5
      have f6 := HFZ.out _ hb1 6
      have hzu := put7_sev hzz (.int .i64 0) (.int .i64 0) (.int .i64 0) (.int .i64 0) (.int .i64 0) (.string ⟨#[]⟩) (.slice none 0 0)
      unfold put7 at hzu
      have HZU := hide hzu
      obtain ⟨y0, y1, y2, y3, y4, y5, y6⟩ := hzz
      clear hzu
      go_wp2_with fail
      obtain ⟨u0, u1, u2, u3, u4, u5, u6⟩ := HZU.out
      exact bodyPost_ret (v := .tuple #[.agg #[.int .i64 0, .int .i64 0, .int .i64 0, .int .i64 0, .int .i64 0, .string ⟨#[]⟩, .slice none 0 0], .bool false]) (by simp [results, Tryd.results46, go_sem, u0, u1, u2, u3, u4, u5, u6]) rfl ⟨put7_below (th hb0 hb1) (by omega) _ _ _ _ _ _ _, noAnc, none, 0, 0, false, rfl, Sl.nil_ _, says_no⟩
  · obtain rfl := HNO.out fun h => hG h.1
    rw [show geoErr g = 1 from if_neg hG] at HCK
    clear HNO HYES
    go_enter Tryd.func46, Tryd.ntmps46
    go_wp2_with fail
    rw [← hW0]
    clear hW0 p0 p1 p2 p3 p4 x0 x1
    refine (HCK.out _).mono ?_
    rintro e w1 ⟨rfl, hb1⟩
    have hzz := HZV.out.onB (show w.heap.size + 1 + 1 < W0.heap.size by omega) hb1
    have f0 := HFZ.out _ hb1 0
    have f1 := HFZ.out _ hb1 1
    have f2 := HFZ.out _ hb1 2
    have f3 := HFZ.out _ hb1 3
    have f4 := HFZ.out _ hb1 4
    have f5 := HFZ.out _ hb1 5
    have f6 := HFZ.out _ hb1 6
    have hzu := put7_sev hzz (.int .i64 0) (.int .i64 0) (.int .i64 0) (.int .i64 0) (.int .i64 0) (.string ⟨#[]⟩) (.slice none 0 0)
    unfold put7 at hzu
    have HZU := hide hzu
    obtain ⟨y0, y1, y2, y3, y4, y5, y6⟩ := hzz
    clear hzu
    go_wp2_with fail
    obtain ⟨u0, u1, u2, u3, u4, u5, u6⟩ := HZU.out
    exact bodyPost_ret (v := .tuple #[.agg #[.int .i64 0, .int .i64 0, .int .i64 0, .int .i64 0, .int .i64 0, .string ⟨#[]⟩, .slice none 0 0], .bool false]) (by simp [results, Tryd.results46, go_sem, u0, u1, u2, u3, u4, u5, u6]) rfl ⟨put7_below (th hb0 hb1) (by omega) _ _ _ _ _ _ _, noAnc, none, 0, 0, false, rfl, Sl.nil_ _, says_no⟩

end Go.Proofs.YtamgpbkakmffiaaDoor
