/-
  Contracts: place.Move.
-/
import Derived.Test.YtjlppkbmapmbiaaDoorPl3
namespace Go.Proofs.YtjlppkbmapmbiaaDoor
open Go.RowKit Go.Lib
set_option linter.unusedVariables false
set_option maxRecDepth 100000

set_option maxHeartbeats 1000000 in
theorem pmove_no (g : Geo) (a : Anc) (A : Option Addr) (n c : Nat) (zone what : Int) (w : World) (hT : Tabs w) (ha : Sl homR 3 w (Old w) A n c a.homes) (hin : a.In) (hl : Light a) (hno : ¬ PlaceOk g a zone what) :
    Calls Tryd.prog 7 #[g.v, a.v (.slice A n c), .int .i64 zone, .int .i64 what] w fun e w' => e = .returned (.tuple #[noAncV, .int .i64 0, .int .i64 1]) ∧ Below w.heap.size w w' := by
  have HCK := hide fun w hT h => pcheck_any g a A n c zone what w hT h hin hl
  rw [show plErr g a zone what = 1 from if_neg hno] at HCK
  unfold noAncV
  obtain ⟨W0, hW0⟩ : ∃ W0, W0 = ((w.alloc (.cells #[.int .i64 g.zones, .int .i64 g.data, .int .i64 g.spares, .int .i64 g.slots, .int .i64 g.anchors] 24)).alloc (.cells #[.int .i64 a.gen, .int .i64 a.epoch, .int .i64 a.pos, .int .i64 a.seq, .int .i64 a.last, .string a.label, .slice A n c] 28)).alloc (.cells #[.int .i64 0, .int .i64 0, .int .i64 0, .int .i64 0, .int .i64 0, .string ⟨#[]⟩, .slice none 0 0] 28) := ⟨_, rfl⟩
  have hs0 : W0.heap.size = w.heap.size + 3 := by rw [hW0]; simp
  have hb0 : Below w.heap.size w W0 := by rw [hW0]; exact ((alloc_below w _).alloc (by simp) _).alloc (by simp; omega) _
  have ha0 := ha.on homR_fine hb0
  have hgb : GeoAt W0 w.heap.size g := by rw [hW0]; exact (GeoAt.new w g 24).on ((alloc_below _ _).alloc (by simp) _)
  have hsv : Sev W0 (w.heap.size + 1) (.int .i64 a.gen) (.int .i64 a.epoch) (.int .i64 a.pos) (.int .i64 a.seq) (.int .i64 a.last) (.string a.label) (.slice A n c) := by rw [hW0]; exact (Sev.new (by simp) (Below.refl _ _)).on (by simp) (alloc_below _ _)
  have hzv : Sev W0 (w.heap.size + 1 + 1) (.int .i64 0) (.int .i64 0) (.int .i64 0) (.int .i64 0) (.int .i64 0) (.string ⟨#[]⟩) (.slice none 0 0) := by rw [hW0]; exact Sev.new (by simp) (Below.refl _ _)
  have hfA : ∀ W, Below W0.heap.size W0 W → ∀ k, W.frozen? ⟨w.heap.size + 1, k, none⟩ = false := fun W hW k => (hW.frozen (by show w.heap.size + 1 < _; omega)).trans (by rw [hW0]; exact bx_free2 (by simp) (alloc_below _ _) k)
  have hfZ : ∀ W, Below W0.heap.size W0 W → ∀ k, W.frozen? ⟨w.heap.size + 1 + 1, k, none⟩ = false := fun W hW k => (hW.frozen (by show w.heap.size + 1 + 1 < _; omega)).trans (by rw [hW0]; exact bx_free2 (by simp) (Below.refl _ _) k)
  have HFA := hide hfA
  have HFZ := hide hfZ
  have HSV := hide hsv
  have HZV := hide hzv
  have HGB := hide hgb
  have hpq := hgb.2
  rw [hW0] at hpq hsv
  obtain ⟨p0, p1, p2, p3, p4⟩ := hpq
  obtain ⟨q0, q1, q2, q3, q4, q5, q6⟩ := hsv
  clear hgb hzv hfA hfZ
  unfold Geo.v Anc.v at *
  go_enter Tryd.func7, Tryd.ntmps7
  go_wp2_with fail
  rw [← hW0]
  clear hW0 p0 p1 p2 p3 p4 q0 q1 q2 q3 q4 q5 q6
  refine (HCK.out _ (hT.below hb0) ha0).mono ?_
  rintro e w1 ⟨rfl, hb1⟩
  have hzz := HZV.out.onB (show w.heap.size + 1 + 1 < W0.heap.size by omega) hb1
  have f0 := HFZ.out _ hb1 0
  have f1 := HFZ.out _ hb1 1
  have f2 := HFZ.out _ hb1 2
  have f3 := HFZ.out _ hb1 3
  have f4 := HFZ.out _ hb1 4
  have f5 := HFZ.out _ hb1 5
  have f6 := HFZ.out _ hb1 6
  have hzu := put7_sev hzz (.int .i64 0) (.int .i64 0) (.int .i64 0) (.int .i64 0) (.int .i64 0) (.string ⟨#[]⟩) (.slice none 0 0)
  unfold put7 at hzu
  have HZU := hide hzu
  obtain ⟨y0, y1, y2, y3, y4, y5, y6⟩ := hzz
  clear hzu
  go_wp2_with fail
  obtain ⟨u0, u1, u2, u3, u4, u5, u6⟩ := HZU.out
  exact bodyPost_ret (v := .tuple #[.agg #[.int .i64 0, .int .i64 0, .int .i64 0, .int .i64 0, .int .i64 0, .string ⟨#[]⟩, .slice none 0 0], .int .i64 0, .int .i64 1]) (by simp [results, Tryd.results7, go_sem, u0, u1, u2, u3, u4, u5, u6]) rfl ⟨rfl, put7_below (th hb0 hb1) (by omega) _ _ _ _ _ _ _⟩

set_option maxHeartbeats 2000000 in
theorem pmove_none (g : Geo) (a : Anc) (A : Option Addr) (n c z : Nat) (what : Int) (w : World) (hT : Tabs w) (ha : Sl homR 3 w (Old w) A n c a.homes) (hin : a.In) (hl : Light a) (hok : PlaceOk g a (z : Int) what) (h : Hom) (hz : a.homes[z]? = some h) (hnx : h.next = g.data + 1 + g.spares) :
    Calls Tryd.prog 7 #[g.v, a.v (.slice A n c), .int .i64 (z : Int), .int .i64 what] w fun e w' => e = .returned (.tuple #[noAncV, .int .i64 0, .int .i64 10]) ∧ Below w.heap.size w w' := by
  have HCK := hide fun w hT h => pcheck_any g a A n c (z : Int) what w hT h hin hl
  rw [show plErr g a (z : Int) what = 0 from if_pos hok] at HCK
  have HSK := hide fun w hT ha => pskip_none g a A n c z w hT ha hin hl ⟨hok.1, hok.2.1, hok.2.2.1, isP_par g⟩ h hz hnx
  clear hok hnx
  unfold noAncV at *
  obtain ⟨W0, hW0⟩ : ∃ W0, W0 = ((w.alloc (.cells #[.int .i64 g.zones, .int .i64 g.data, .int .i64 g.spares, .int .i64 g.slots, .int .i64 g.anchors] 24)).alloc (.cells #[.int .i64 a.gen, .int .i64 a.epoch, .int .i64 a.pos, .int .i64 a.seq, .int .i64 a.last, .string a.label, .slice A n c] 28)).alloc (.cells #[.int .i64 0, .int .i64 0, .int .i64 0, .int .i64 0, .int .i64 0, .string ⟨#[]⟩, .slice none 0 0] 28) := ⟨_, rfl⟩
  have hs0 : W0.heap.size = w.heap.size + 3 := by rw [hW0]; simp
  have hb0 : Below w.heap.size w W0 := by rw [hW0]; exact ((alloc_below w _).alloc (by simp) _).alloc (by simp; omega) _
  have ha0 := ha.on homR_fine hb0
  have hgb : GeoAt W0 w.heap.size g := by rw [hW0]; exact (GeoAt.new w g 24).on ((alloc_below _ _).alloc (by simp) _)
  have hsv : Sev W0 (w.heap.size + 1) (.int .i64 a.gen) (.int .i64 a.epoch) (.int .i64 a.pos) (.int .i64 a.seq) (.int .i64 a.last) (.string a.label) (.slice A n c) := by rw [hW0]; exact (Sev.new (by simp) (Below.refl _ _)).on (by simp) (alloc_below _ _)
  have hzv : Sev W0 (w.heap.size + 1 + 1) (.int .i64 0) (.int .i64 0) (.int .i64 0) (.int .i64 0) (.int .i64 0) (.string ⟨#[]⟩) (.slice none 0 0) := by rw [hW0]; exact Sev.new (by simp) (Below.refl _ _)
  have hfA : ∀ W, Below W0.heap.size W0 W → ∀ k, W.frozen? ⟨w.heap.size + 1, k, none⟩ = false := fun W hW k => (hW.frozen (by show w.heap.size + 1 < _; omega)).trans (by rw [hW0]; exact bx_free2 (by simp) (alloc_below _ _) k)
  have hfZ : ∀ W, Below W0.heap.size W0 W → ∀ k, W.frozen? ⟨w.heap.size + 1 + 1, k, none⟩ = false := fun W hW k => (hW.frozen (by show w.heap.size + 1 + 1 < _; omega)).trans (by rw [hW0]; exact bx_free2 (by simp) (Below.refl _ _) k)
  have HFA := hide hfA
  have HFZ := hide hfZ
  have HSV := hide hsv
  have HZV := hide hzv
  have HGB := hide hgb
  have hpq := hgb.2
  rw [hW0] at hpq hsv
  obtain ⟨p0, p1, p2, p3, p4⟩ := hpq
  obtain ⟨q0, q1, q2, q3, q4, q5, q6⟩ := hsv
  clear hgb hzv hfA hfZ
  unfold Geo.v Anc.v at *
  go_enter Tryd.func7, Tryd.ntmps7
  go_wp2_with fail
  rw [← hW0]
  clear hW0 p0 p1 p2 p3 p4 q0 q1 q2 q3 q4 q5 q6
  refine (HCK.out _ (hT.below hb0) ha0).mono ?_
  rintro e w1 ⟨rfl, hb1⟩
  obtain ⟨_, p0, p1, p2, p3, p4⟩ := HGB.out.on hb1
  obtain ⟨q0, q1, q2, q3, q4, q5, q6⟩ := HSV.out.onB (show w.heap.size + 1 < W0.heap.size by omega) hb1
  go_wp2_with fail
  refine (HSK.out _ (hT.below (th hb0 hb1)) (ha0.on homR_fine hb1)).mono ?_
  rintro e w2 ⟨rfl, hb2⟩
  have hb02 := th hb1 hb2
  have hzz := HZV.out.onB (show w.heap.size + 1 + 1 < W0.heap.size by omega) hb02
  have f0 := HFZ.out _ hb02 0
  have f1 := HFZ.out _ hb02 1
  have f2 := HFZ.out _ hb02 2
  have f3 := HFZ.out _ hb02 3
  have f4 := HFZ.out _ hb02 4
  have f5 := HFZ.out _ hb02 5
  have f6 := HFZ.out _ hb02 6
  have hzu0 := put7_sev hzz (.int .i64 0) (.int .i64 0) (.int .i64 0) (.int .i64 0) (.int .i64 0) (.string ⟨#[]⟩) (.slice none 0 0)
  obtain ⟨W3, hW3⟩ : ∃ W3, W3 = put7 w2 (w.heap.size + 1 + 1) (.int .i64 0) (.int .i64 0) (.int .i64 0) (.int .i64 0) (.int .i64 0) (.string ⟨#[]⟩) (.slice none 0 0) := ⟨_, rfl⟩
  rw [← hW3] at hzu0
  have hff3 : ∀ k, W3.frozen? ⟨w.heap.size + 1 + 1, k, none⟩ = false := fun k => by rw [hW3]; unfold put7; simp only [put_free]; exact HFZ.out _ hb02 k
  have hb3 : Below w.heap.size w W3 := by rw [hW3]; exact put7_below (th hb0 hb02) (by omega) _ _ _ _ _ _ _
  have HFF3 := hide hff3
  have HZ3 := hide hzu0
  unfold put7 at hW3
  obtain ⟨y0, y1, y2, y3, y4, y5, y6⟩ := hzz
  clear hff3 hzu0
  go_upto_region 5 with fail
  rw [← hW3]
  clear hW3 y0 y1 y2 y3 y4 y5 y6 f0 f1 f2 f3 f4 f5 f6
  obtain ⟨y0, y1, y2, y3, y4, y5, y6⟩ := HZ3.out
  have f0 := HFF3.out 0
  have f1 := HFF3.out 1
  have f2 := HFF3.out 2
  have f3 := HFF3.out 3
  have f4 := HFF3.out 4
  have f5 := HFF3.out 5
  have f6 := HFF3.out 6
  have hzu := put7_sev HZ3.out (.int .i64 0) (.int .i64 0) (.int .i64 0) (.int .i64 0) (.int .i64 0) (.string ⟨#[]⟩) (.slice none 0 0)
  unfold put7 at hzu
  have HZU := hide hzu
  clear hzu
  go_wp2_with fail
  obtain ⟨u0, u1, u2, u3, u4, u5, u6⟩ := HZU.out
  exact bodyPost_ret (v := .tuple #[.agg #[.int .i64 0, .int .i64 0, .int .i64 0, .int .i64 0, .int .i64 0, .string ⟨#[]⟩, .slice none 0 0], .int .i64 0, .int .i64 10]) (by simp [results, Tryd.results7, go_sem, u0, u1, u2, u3, u4, u5, u6]) rfl ⟨rfl, put7_below hb3 (by omega) _ _ _ _ _ _ _⟩

/-- What a zone's home is when one of its blocks was moved. -/
theorem moved_at {a : Anc} {z i : Nat} {h : Hom} (hz : a.homes[z]? = some h) : (moveA a z h i).homes[z]? = some { places := h.places.set i h.next, next := h.next + 1, root := h.root } :=
  List.getElem?_set_self (List.getElem?_eq_some_iff.1 hz).1
theorem move_light {a : Anc} {z i : Nat} {h : Hom} (hl : Light a) (hz : a.homes[z]? = some h) : Light (moveA a z h i) := by
  obtain ⟨h1, h2, h3⟩ := hl
  refine ⟨h1, by show (a.homes.set z _).length ≤ _; rw [List.length_set]; exact h2, fun x hx => ?_⟩
  rcases set_mem hx with hx | rfl
  · exact h3 x hx
  · show (h.places.set i _).length ≤ _
    rw [List.length_set]
    exact h3 h (List.mem_of_getElem? hz)
theorem skip_light {a : Anc} {z : Nat} {h : Hom} (hl : Light a) (hz : a.homes[z]? = some h) : Light (skipA a z h) := by
  obtain ⟨h1, h2, h3⟩ := hl
  refine ⟨h1, by show (a.homes.set z _).length ≤ _; rw [List.length_set]; exact h2, fun x hx => ?_⟩
  rcases set_mem hx with hx | rfl
  · exact h3 x hx
  · exact h3 h (List.mem_of_getElem? hz)

set_option maxHeartbeats 8000000 in
theorem pmove_yes (g : Geo) (a : Anc) (A : Option Addr) (n c z i : Nat) (what : Int) (w : World) (hT : Tabs w) (ha : Sl homR 3 w (Old w) A n c a.homes) (hin : a.In) (hl : Light a) (hok : PlaceOk g a (z : Int) what) (h : Hom) (hz : a.homes[z]? = some h) (hi : atI g what = (i : Int)) (hnx : h.next < g.data + 1 + g.spares) :
    Calls Tryd.prog 7 #[g.v, a.v (.slice A n c), .int .i64 (z : Int), .int .i64 what] w fun e w' => Below w.heap.size w w' ∧ ∃ V cv, e = .returned (.tuple #[(moveA a z h i).v (.slice V n cv), .int .i64 (slotN g z h.next), .int .i64 0]) ∧ HOwn 45 3 w' w.heap.size (.slice V n cv) n (moveA a z h i).homes := by
  have HCK := hide fun w hT h => pcheck_any g a A n c (z : Int) what w hT h hin hl
  rw [show plErr g a (z : Int) what = 0 from if_pos hok] at HCK
  have HSK := hide fun w hT ha => pskip_yes g a A n c z w hT ha hin hl ⟨hok.1, hok.2.1, hok.2.2.1, isP_par g⟩ h hz hnx
  have HIX := hide fun w => pindex_any g what w
  rw [decide_eq_true hok.2.2.2, hi] at HIX
  have hhom := hok.2.1.2.2.2 h (List.mem_of_getElem? hz)
  have hia := atI_lt hok.1 ((isP_what hok.1 what).1 hok.2.2.2)
  have hil : i < h.places.length := by have := hhom.1; omega
  have hpl2 : (h.places.set i h.next)[i]? = some h.next := List.getElem?_set_self hil
  have hinN : InI h.next := by have := hhom.2.1; have := hok.1.2.1; have := hok.1.2.2.1; exact ⟨by omega, by omega⟩
  have HAD := hide fun (V : Option Addr) (cv : Nat) w hT ha => paddr_yes g (moveA a z h i) V n cv z i what w hT ha hin (move_light hl hz) ⟨hok.1, move_ok hok.1 hok.2.1 hz hnx i, hok.2.2⟩ _ (moved_at hz) hi h.next hpl2
  have hzn : z < n := by rw [← ha.len]; exact (List.getElem?_eq_some_iff.1 hz).1
  have hset : ∀ y : Hom, (skipA a z h).homes.set z y = a.homes.set z y := fun y => by show (a.homes.set z _).set z y = _; rw [List.set_set]
  have hat : (skipA a z h).homes[z]? = some { h with next := h.next + 1 } := List.getElem?_set_self (List.getElem?_eq_some_iff.1 hz).1
  have HSET := hide hset
  have HAT := hide hat
  have HZ := hide hz
  have HINN := hide hinN
  have HIL := hide hil
  obtain ⟨SL, hSL⟩ : ∃ SL, SL = slotN g z h.next := ⟨_, rfl⟩
  rw [← hSL] at HAD ⊢
  obtain ⟨SH, hSH⟩ : ∃ SH, SH = (skipA a z h).homes := ⟨_, rfl⟩
  obtain ⟨MH, hMH⟩ : ∃ MH, MH = (moveA a z h i).homes := ⟨_, rfl⟩
  have hMS : MH = a.homes.set z { places := h.places.set i h.next, next := h.next + 1, root := h.root } := hMH
  rw [← hSH] at HSK HSET HAT
  rw [← hMH] at HAD ⊢
  have HMS := hide hMS
  clear hok hnx hset hat hz hinN hil hpl2 hhom hia hi hSL hSH hMH hMS hin hl
  unfold skipA at HSK
  unfold moveA at *
  obtain ⟨W0, hW0⟩ : ∃ W0, W0 = ((w.alloc (.cells #[.int .i64 g.zones, .int .i64 g.data, .int .i64 g.spares, .int .i64 g.slots, .int .i64 g.anchors] 24)).alloc (.cells #[.int .i64 a.gen, .int .i64 a.epoch, .int .i64 a.pos, .int .i64 a.seq, .int .i64 a.last, .string a.label, .slice A n c] 28)).alloc (.cells #[.int .i64 0, .int .i64 0, .int .i64 0, .int .i64 0, .int .i64 0, .string ⟨#[]⟩, .slice none 0 0] 28) := ⟨_, rfl⟩
  have hs0 : W0.heap.size = w.heap.size + 3 := by rw [hW0]; simp
  have hb0 : Below w.heap.size w W0 := by rw [hW0]; exact ((alloc_below w _).alloc (by simp) _).alloc (by simp; omega) _
  have ha0 := ha.on homR_fine hb0
  have hgb : GeoAt W0 w.heap.size g := by rw [hW0]; exact (GeoAt.new w g 24).on ((alloc_below _ _).alloc (by simp) _)
  have hsv : Sev W0 (w.heap.size + 1) (.int .i64 a.gen) (.int .i64 a.epoch) (.int .i64 a.pos) (.int .i64 a.seq) (.int .i64 a.last) (.string a.label) (.slice A n c) := by rw [hW0]; exact (Sev.new (by simp) (Below.refl _ _)).on (by simp) (alloc_below _ _)
  have hzv : Sev W0 (w.heap.size + 1 + 1) (.int .i64 0) (.int .i64 0) (.int .i64 0) (.int .i64 0) (.int .i64 0) (.string ⟨#[]⟩) (.slice none 0 0) := by rw [hW0]; exact Sev.new (by simp) (Below.refl _ _)
  have hfA : ∀ W, Below W0.heap.size W0 W → ∀ k, W.frozen? ⟨w.heap.size + 1, k, none⟩ = false := fun W hW k => (hW.frozen (by show w.heap.size + 1 < _; omega)).trans (by rw [hW0]; exact bx_free2 (by simp) (alloc_below _ _) k)
  have hfZ : ∀ W, Below W0.heap.size W0 W → ∀ k, W.frozen? ⟨w.heap.size + 1 + 1, k, none⟩ = false := fun W hW k => (hW.frozen (by show w.heap.size + 1 + 1 < _; omega)).trans (by rw [hW0]; exact bx_free2 (by simp) (Below.refl _ _) k)
  have HFA := hide hfA
  have HFZ := hide hfZ
  have HSV := hide hsv
  have HZV := hide hzv
  have HGB := hide hgb
  have hpq := hgb.2
  rw [hW0] at hpq hsv
  obtain ⟨p0, p1, p2, p3, p4⟩ := hpq
  obtain ⟨q0, q1, q2, q3, q4, q5, q6⟩ := hsv
  clear hgb hzv hfA hfZ
  unfold Geo.v Anc.v at *
  dsimp only at *
  go_enter Tryd.func7, Tryd.ntmps7
  go_wp2_with fail
  rw [← hW0]
  clear hW0 p0 p1 p2 p3 p4 q0 q1 q2 q3 q4 q5 q6
  refine (HCK.out _ (hT.below hb0) ha0).mono ?_
  rintro e w1 ⟨rfl, hb1⟩
  obtain ⟨_, p0, p1, p2, p3, p4⟩ := HGB.out.on hb1
  obtain ⟨q0, q1, q2, q3, q4, q5, q6⟩ := HSV.out.onB (show w.heap.size + 1 < W0.heap.size by omega) hb1
  go_wp2_with fail
  refine (HSK.out _ (hT.below (th hb0 hb1)) (ha0.on homR_fine hb1)).mono ?_
  rintro e w2 ⟨hb2, V, cv, rfl, how⟩
  have hb02 := th hb1 hb2
  have hs1 := hb1.size
  have hs2 := hb02.size
  have hzz := HZV.out.onB (show w.heap.size + 1 + 1 < W0.heap.size by omega) hb02
  have f0 := HFZ.out _ hb02 0
  have f1 := HFZ.out _ hb02 1
  have f2 := HFZ.out _ hb02 2
  have f3 := HFZ.out _ hb02 3
  have f4 := HFZ.out _ hb02 4
  have f5 := HFZ.out _ hb02 5
  have f6 := HFZ.out _ hb02 6
  obtain ⟨W3, hW3⟩ : ∃ W3, W3 = put7 w2 (w.heap.size + 1 + 1) (.int .i64 a.gen) (.int .i64 a.epoch) (.int .i64 a.pos) (.int .i64 a.seq) (.int .i64 a.last) (.string a.label) (.slice V n cv) := ⟨_, rfl⟩
  have hsz3 : W3.heap.size = w2.heap.size := by rw [hW3, put7_size]
  have hv3 : Sev W3 (w.heap.size + 1 + 1) (.int .i64 a.gen) (.int .i64 a.epoch) (.int .i64 a.pos) (.int .i64 a.seq) (.int .i64 a.last) (.string a.label) (.slice V n cv) := by rw [hW3]; exact put7_sev hzz _ _ _ _ _ _ _
  have hff3 : ∀ k, W3.frozen? ⟨w.heap.size + 1 + 1, k, none⟩ = false := fun k => by rw [hW3]; unfold put7; simp only [put_free]; exact HFZ.out _ hb02 k
  have hb3 : Below w.heap.size w W3 := by rw [hW3]; exact put7_below (th hb0 hb02) (by omega) _ _ _ _ _ _ _
  have hlow : Below (w.heap.size + 1 + 1) w2 W3 := by rw [hW3]; exact put7_below (Below.refl _ _) (Nat.le_refl _) _ _ _ _ _ _ _
  have how3 : HOwn 45 3 W3 w1.heap.size (.slice V n cv) n SH := by rw [hW3]; exact how.put7 (by omega) _ _ _ _ _ _ _
  have hg3 : GeoAt W3 w.heap.size g := by
    obtain ⟨k1, k2⟩ := HGB.out.on hb02
    have hc : ∀ k, W3.cell? ⟨w.heap.size, k, none⟩ = w2.cell? ⟨w.heap.size, k, none⟩ := fun k => hlow.cell (by show w.heap.size < _; omega)
    exact ⟨by rw [hsz3]; exact k1, by rw [hc, hc, hc, hc, hc]; exact k2⟩
  have ha3 : Sl homR 3 W3 (fun b => b < w.heap.size) A n c a.homes := ha.move homR_fine (fun b hb => hb3.block b hb) (fun b hb => hb)
  have hA3 : W3.cell? ⟨w.heap.size + 1, 6, none⟩ = some (.slice A n c) := (hlow.cell (by show w.heap.size + 1 < _; omega)).trans (HSV.out.onB (show w.heap.size + 1 < W0.heap.size by omega) hb02).2.2.2.2.2.2
  have HV3 := hide hv3
  have HFF3 := hide hff3
  have HG3 := hide hg3
  unfold put7 at hW3
  obtain ⟨y0, y1, y2, y3, y4, y5, y6⟩ := hzz
  clear hff3 hv3 hg3 hlow how
  go_upto_region 5 with fail
  rw [← hW3]
  clear hW3 y0 y1 y2 y3 y4 y5 y6 f0 f1 f2 f3 f4 f5 f6 p0 p1 p2 p3 p4 q0 q1 q2 q3 q4 q5 q6
  obtain ⟨_, p0, p1, p2, p3, p4⟩ := HG3.out
  go_wp2_with fail
  refine (HIX.out _).mono ?_
  rintro e w4 ⟨rfl, hb4⟩
  have hs4 := hb4.size
  have hv4 := HV3.out.on (by omega) hb4
  have hff4 : ∀ k, w4.frozen? ⟨w.heap.size + 1 + 1, k, none⟩ = false := fun k => (hb4.frozen (by show w.heap.size + 1 + 1 < _; omega)).trans (HFF3.out k)
  have how4 := how3.below hb4
  have ha4 : Sl homR 3 w4 (fun b => b < w.heap.size) A n c a.homes := ha3.move homR_fine (fun b hb => hb4.block b (by omega)) (fun b hb => hb)
  have hA4 : w4.cell? ⟨w.heap.size + 1, 6, none⟩ = some (.slice A n c) := (hb4.cell (by show w.heap.size + 1 < _; omega)).trans hA3
  have hb04 := th hb3 hb4
  obtain ⟨ad, x0, A0, m0, c0, rfl, hadl, hx0, _, _, _, _, d1, _⟩ := at_hom ha4 hzn
  obtain rfl : x0 = h := by have := HZ.out; rw [hx0] at this; injection this
  obtain ⟨gb, x, A', n', c', rfl, hgB, hgl, hx, _, _, hs', hc0, hc1, hc2, hfr, _, hplace⟩ := how4.spot hzn
  obtain rfl : x = { x0 with next := x0.next + 1 } := by have := HAT.out; rw [hx] at this; injection this
  have hin' : i < n' := by rw [← hs'.len]; exact HIL.out
  obtain ⟨gp, rfl, hpB, hpl, hpg, ⟨yy, _, _, hpc⟩, hpf, hput⟩ := hplace i hin'
  have how5 := hput x0.next HINN.out
  rw [HSET.out] at how5
  have how5' : HOwn 45 3 (w4.setCell ⟨gp, i, none⟩ (.int .i64 x0.next)) w1.heap.size (.slice (some ⟨gb, 0, none⟩) n cv) n MH := by rw [HMS.out]; exact how5
  obtain ⟨W5, hW5⟩ : ∃ W5, W5 = w4.setCell ⟨gp, i, none⟩ (.int .i64 x0.next) := ⟨_, rfl⟩
  rw [← hW5] at how5'
  have hn2 : w.heap.size + 1 + 1 ≠ gp := by omega
  have hv5 : Sev W5 (w.heap.size + 1 + 1) (.int .i64 a.gen) (.int .i64 a.epoch) (.int .i64 a.pos) (.int .i64 a.seq) (.int .i64 a.last) (.string a.label) (.slice (some ⟨gb, 0, none⟩) n cv) := by
    obtain ⟨z0, z1, z2, z3, z4, z5, z6⟩ := hv4
    rw [hW5]
    exact ⟨put_cell_other hn2 z0, put_cell_other hn2 z1, put_cell_other hn2 z2, put_cell_other hn2 z3, put_cell_other hn2 z4, put_cell_other hn2 z5, put_cell_other hn2 z6⟩
  have hff5 : ∀ k, W5.frozen? ⟨w.heap.size + 1 + 1, k, none⟩ = false := fun k => by rw [hW5, put_free]; exact hff4 k
  have hb5 : Below w.heap.size w W5 := by rw [hW5]; exact hb04.setCell (by show w.heap.size ≤ gp; omega) _
  have hg5 : GeoAt W5 w.heap.size g := by
    obtain ⟨k1, k2, k3, k4, k5, k6⟩ := HG3.out.on hb4
    have hne : w.heap.size ≠ gp := by omega
    rw [hW5]
    exact ⟨by rw [set_size]; exact k1, put_cell_other hne k2, put_cell_other hne k3, put_cell_other hne k4, put_cell_other hne k5, put_cell_other hne k6⟩
  have ablk : (ad.add (z * 3)).block = ad.block := by unfold Addr.add; split <;> rfl
  obtain ⟨_, _, _, _, _, _, v6⟩ := hv4
  have HS : Hid (∀ W, Below w4.heap.size w4 W → (W.cell? ⟨w.heap.size + 1 + 1, 6, none⟩ = some (.slice (some ⟨gb, 0, none⟩) n cv) ∧ W.cell? ⟨w.heap.size + 1, 6, none⟩ = some (.slice (some ad) n c) ∧ W.cell? ⟨gb, z * 3, none⟩ = some (.slice (some ⟨gp, 0, none⟩) n' c') ∧ W.cell? ⟨(ad.add (z * 3)).block, (ad.add (z * 3)).off + 1, none⟩ = some (.int .i64 x0.next) ∧ W.cell? ⟨gp, i, none⟩ = some (.int .i64 yy) ∧ W.frozen? ⟨gp, i, none⟩ = false)) := hide fun W hW =>
    ⟨(hW.cell (by show w.heap.size + 1 + 1 < _; omega)).trans v6, (hW.cell (by show w.heap.size + 1 < _; omega)).trans hA4, (hW.cell hgl).trans hc0, (hW.cell (p := ⟨(ad.add (z * 3)).block, (ad.add (z * 3)).off + 1, none⟩) (by show (ad.add (z * 3)).block < _; rw [ablk]; exact Nat.lt_of_lt_of_le hadl (by omega))).trans d1, (hW.cell hpl).trans hpc, (hW.frozen hpl).trans hpf⟩
  obtain ⟨b1, b2, b3, b4, b5, b6⟩ := HS.out _ (Below.refl _ _)
  have hadl' : ad.block < w.heap.size := hadl
  have I0 : (0 : Int) ≤ (z : Int) := by omega
  have I1 : (z : Int) < (n : Int) := by omega
  have I2 : (0 : Int) ≤ (i : Int) := by omega
  have I3 : (i : Int) < (n' : Int) := by omega
  have HV5 := hide hv5
  have HFF5 := hide hff5
  have HG5 := hide hg5
  have HOW5 := hide how5'
  have hcur := Below.refl w4.heap.size w4
  have HW5 := hide hW5
  have HS5 : Hid (((w4.setCell ⟨gp, i, none⟩ (.int .i64 x0.next)).cell? ⟨w.heap.size + 1 + 1, 6, none⟩ = some (.slice (some ⟨gb, 0, none⟩) n cv) ∧ (w4.setCell ⟨gp, i, none⟩ (.int .i64 x0.next)).cell? ⟨w.heap.size + 1, 6, none⟩ = some (.slice (some ad) n c) ∧ (w4.setCell ⟨gp, i, none⟩ (.int .i64 x0.next)).cell? ⟨gb, z * 3, none⟩ = some (.slice (some ⟨gp, 0, none⟩) n' c') ∧ (w4.setCell ⟨gp, i, none⟩ (.int .i64 x0.next)).cell? ⟨(ad.add (z * 3)).block, (ad.add (z * 3)).off + 1, none⟩ = some (.int .i64 x0.next))) := hide
    ⟨put_cell_other (by show w.heap.size + 1 + 1 ≠ gp; omega) b1, put_cell_other (by show w.heap.size + 1 ≠ gp; omega) b2, put_cell_other (fun e => hpg e.symm) b3, put_cell_other (by show (ad.add (z * 3)).block ≠ gp; rw [ablk]; omega) b4⟩
  clear hW5 hff4 hff5 hv5 hg5 how5' how5 hput hplace d1 hc0 hc1 hc2 hfr hpc hpf v6 hx hx0 ablk hA3 hA4 how3 how4 p0 p1 p2 p3 p4
  go_upto_region 8 with fail
  go_cut [8] (fun v wx => v = .pointer (some ⟨w.heap.size + 1 + 1, 0, none⟩) ∧ Below W5.heap.size W5 wx)
  case first =>
    go_region_held3 (fun W => (W.cell? ⟨w.heap.size + 1 + 1, 6, none⟩ = some (.slice (some ⟨gb, 0, none⟩) n cv) ∧ W.cell? ⟨w.heap.size + 1, 6, none⟩ = some (.slice (some ad) n c) ∧ W.cell? ⟨gb, z * 3, none⟩ = some (.slice (some ⟨gp, 0, none⟩) n' c') ∧ W.cell? ⟨(ad.add (z * 3)).block, (ad.add (z * 3)).off + 1, none⟩ = some (.int .i64 x0.next))) (first | exact ⟨(HS.out _ hcur).1, (HS.out _ hcur).2.1, (HS.out _ hcur).2.2.1, (HS.out _ hcur).2.2.2.1⟩ | exact HS5.out) (fail)
    all_goals (go_wp2_with fail; go_meet; exact ⟨rfl, by rw [HW5.out]; exact (Below.refl _ _).drew⟩)
  case rest =>
    obtain ⟨rfl, hb6⟩ := hcut
    obtain ⟨_, p0, p1, p2, p3, p4⟩ := HG5.out.on hb6
    have hv6 := HV5.out.on (by rw [HW5.out, set_size]; omega) hb6
    have how6 := HOW5.out.below hb6
    have hb06 := th hb5 hb6
    have hff6 : ∀ k, wc.frozen? ⟨w.heap.size + 1 + 1, k, none⟩ = false := fun k => (hb6.frozen (by show w.heap.size + 1 + 1 < _; rw [HW5.out, set_size]; omega)).trans (HFF5.out k)
    obtain ⟨y0, y1, y2, y3, y4, y5, y6⟩ := hv6
    have HFF6 := hide hff6
    clear hff6
    go_wp2_with fail
    refine (HAD.out _ cv _ (hT.below hb06) (how6.read.old_ homR_fine)).mono ?_
    rintro e w7 ⟨rfl, hb7⟩
    have hs6 := hb06.size
    have hsW : w.heap.size + 1 + 1 < wc.heap.size := by have := hb6.size; rw [HW5.out, set_size] at this; omega
    have hv7 := (HV5.out.on (by rw [HW5.out, set_size]; omega) hb6).on hsW hb7
    have hff7 : ∀ k, w7.frozen? ⟨w.heap.size + 1 + 1, k, none⟩ = false := fun k => (hb7.frozen (by show w.heap.size + 1 + 1 < _; omega)).trans (HFF6.out k)
    have f0 := hff7 0
    have f1 := hff7 1
    have f2 := hff7 2
    have f3 := hff7 3
    have f4 := hff7 4
    have f5 := hff7 5
    have f6 := hff7 6
    have hzu := put7_sev hv7 (.int .i64 a.gen) (.int .i64 a.epoch) (.int .i64 a.pos) (.int .i64 a.seq) (.int .i64 a.last) (.string a.label) (.slice (some ⟨gb, 0, none⟩) n cv)
    unfold put7 at hzu
    have HZU := hide hzu
    have HFIN := hide (((how6.below hb7).put7 (N := w.heap.size + 1 + 1) (by omega) (.int .i64 a.gen) (.int .i64 a.epoch) (.int .i64 a.pos) (.int .i64 a.seq) (.int .i64 a.last) (.string a.label) (.slice (some ⟨gb, 0, none⟩) n cv)).less (show w.heap.size ≤ w1.heap.size by omega))
    obtain ⟨y0, y1, y2, y3, y4, y5, y6⟩ := hv7
    clear hzu hff7
    go_wp2_with fail
    obtain ⟨u0, u1, u2, u3, u4, u5, u6⟩ := HZU.out
    exact bodyPost_ret (v := .tuple #[.agg #[.int .i64 a.gen, .int .i64 a.epoch, .int .i64 a.pos, .int .i64 a.seq, .int .i64 a.last, .string a.label, .slice (some ⟨gb, 0, none⟩) n cv], .int .i64 SL, .int .i64 0]) (by simp [results, Tryd.results7, go_sem, u0, u1, u2, u3, u4, u5, u6]) rfl ⟨put7_below (th hb06 hb7) (by omega) _ _ _ _ _ _ _, _, cv, rfl, HFIN.out⟩

end Go.Proofs.YtjlppkbmapmbiaaDoor
