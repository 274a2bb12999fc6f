/-
  Contracts: place.Skip.
-/
import Derived.Test.YtjlppkbmapmbiaaDoorPl1
import Derived.Test.YtjlppkbmapmbiaaDoorAncY
namespace Go.Proofs.YtjlppkbmapmbiaaDoor
open Go.RowKit Go.Lib
set_option linter.unusedVariables false
set_option maxRecDepth 100000

/-- No anchor, as it is handed back. -/
def noAncV : Value := .agg #[.int .i64 0, .int .i64 0, .int .i64 0, .int .i64 0, .int .i64 0, .string ⟨#[]⟩, .slice none 0 0]

set_option maxHeartbeats 1000000 in
theorem pskip_no (g : Geo) (a : Anc) (A : Option Addr) (n c : Nat) (zone : Int) (w : World) (hT : Tabs w) (ha : Sl homR 3 w (Old w) A n c a.homes) (hin : a.In) (hl : Light a) (hno : ¬ PlaceOk g a zone (-1)) :
    Calls Tryd.prog 6 #[g.v, a.v (.slice A n c), .int .i64 zone] w fun e w' => e = .returned (.tuple #[noAncV, .int .i64 1]) ∧ Below w.heap.size w w' := by
  have HCK := hide fun w hT h => pcheck_any g a A n c zone (-1) w hT h hin hl
  rw [show plErr g a zone (-1) = 1 from if_neg hno] at HCK
  unfold noAncV
  obtain ⟨W0, hW0⟩ : ∃ W0, W0 = ((w.alloc (.cells #[.int .i64 g.zones, .int .i64 g.data, .int .i64 g.spares, .int .i64 g.slots, .int .i64 g.anchors] 24)).alloc (.cells #[.int .i64 a.gen, .int .i64 a.epoch, .int .i64 a.pos, .int .i64 a.seq, .int .i64 a.last, .string a.label, .slice A n c] 28)).alloc (.cells #[.int .i64 0, .int .i64 0, .int .i64 0, .int .i64 0, .int .i64 0, .string ⟨#[]⟩, .slice none 0 0] 28) := ⟨_, rfl⟩
  have hs0 : W0.heap.size = w.heap.size + 3 := by rw [hW0]; simp
  have hb0 : Below w.heap.size w W0 := by rw [hW0]; exact ((alloc_below w _).alloc (by simp) _).alloc (by simp; omega) _
  have ha0 := ha.on homR_fine hb0
  have hgb : GeoAt W0 w.heap.size g := by rw [hW0]; exact (GeoAt.new w g 24).on ((alloc_below _ _).alloc (by simp) _)
  have hsv : Sev W0 (w.heap.size + 1) (.int .i64 a.gen) (.int .i64 a.epoch) (.int .i64 a.pos) (.int .i64 a.seq) (.int .i64 a.last) (.string a.label) (.slice A n c) := by rw [hW0]; exact (Sev.new (by simp) (Below.refl _ _)).on (by simp) (alloc_below _ _)
  have hzv : Sev W0 (w.heap.size + 1 + 1) (.int .i64 0) (.int .i64 0) (.int .i64 0) (.int .i64 0) (.int .i64 0) (.string ⟨#[]⟩) (.slice none 0 0) := by rw [hW0]; exact Sev.new (by simp) (Below.refl _ _)
  have hfA : ∀ W, Below W0.heap.size W0 W → ∀ k, W.frozen? ⟨w.heap.size + 1, k, none⟩ = false := fun W hW k => (hW.frozen (by show w.heap.size + 1 < _; omega)).trans (by rw [hW0]; exact bx_free2 (by simp) (alloc_below _ _) k)
  have hfZ : ∀ W, Below W0.heap.size W0 W → ∀ k, W.frozen? ⟨w.heap.size + 1 + 1, k, none⟩ = false := fun W hW k => (hW.frozen (by show w.heap.size + 1 + 1 < _; omega)).trans (by rw [hW0]; exact bx_free2 (by simp) (Below.refl _ _) k)
  have HFA := hide hfA
  have HFZ := hide hfZ
  have HSV := hide hsv
  have HZV := hide hzv
  have HGB := hide hgb
  have hpq := hgb.2
  rw [hW0] at hpq hsv
  obtain ⟨p0, p1, p2, p3, p4⟩ := hpq
  obtain ⟨q0, q1, q2, q3, q4, q5, q6⟩ := hsv
  clear hgb hzv hfA hfZ
  unfold Geo.v Anc.v at *
  go_enter Tryd.func6, Tryd.ntmps6
  go_wp2_with fail
  rw [← hW0]
  clear hW0 p0 p1 p2 p3 p4 q0 q1 q2 q3 q4 q5 q6
  refine (HCK.out _ (hT.below hb0) ha0).mono ?_
  rintro e w1 ⟨rfl, hb1⟩
  have hzz := HZV.out.onB (show w.heap.size + 1 + 1 < W0.heap.size by omega) hb1
  have f0 := HFZ.out _ hb1 0
  have f1 := HFZ.out _ hb1 1
  have f2 := HFZ.out _ hb1 2
  have f3 := HFZ.out _ hb1 3
  have f4 := HFZ.out _ hb1 4
  have f5 := HFZ.out _ hb1 5
  have f6 := HFZ.out _ hb1 6
  have hzu := put7_sev hzz (.int .i64 0) (.int .i64 0) (.int .i64 0) (.int .i64 0) (.int .i64 0) (.string ⟨#[]⟩) (.slice none 0 0)
  unfold put7 at hzu
  have HZU := hide hzu
  obtain ⟨y0, y1, y2, y3, y4, y5, y6⟩ := hzz
  clear hzu
  go_wp2_with fail
  obtain ⟨u0, u1, u2, u3, u4, u5, u6⟩ := HZU.out
  exact bodyPost_ret (v := .tuple #[.agg #[.int .i64 0, .int .i64 0, .int .i64 0, .int .i64 0, .int .i64 0, .string ⟨#[]⟩, .slice none 0 0], .int .i64 1]) (by simp [results, Tryd.results6, go_sem, u0, u1, u2, u3, u4, u5, u6]) rfl ⟨rfl, put7_below (th hb0 hb1) (by omega) _ _ _ _ _ _ _⟩

set_option maxHeartbeats 1000000 in
theorem pskip_none (g : Geo) (a : Anc) (A : Option Addr) (n c z : Nat) (w : World) (hT : Tabs w) (ha : Sl homR 3 w (Old w) A n c a.homes) (hin : a.In) (hl : Light a) (hok : PlaceOk g a (z : Int) (-1)) (h : Hom) (hz : a.homes[z]? = some h) (hnx : h.next = g.data + 1 + g.spares) :
    Calls Tryd.prog 6 #[g.v, a.v (.slice A n c), .int .i64 (z : Int)] w fun e w' => e = .returned (.tuple #[noAncV, .int .i64 10]) ∧ Below w.heap.size w w' := by
  have HCK := hide fun w hT h => pcheck_any g a A n c (z : Int) (-1) w hT h hin hl
  rw [show plErr g a (z : Int) (-1) = 0 from if_pos hok] at HCK
  have hd := hok.1.2.1
  have hsp := hok.1.2.2.1
  have HLF := hide fun w ha => pleft_yes g hok.1 a A n c z h hz w ha ⟨by omega, by omega⟩
  rw [hnx, Int.sub_self] at HLF
  clear hd hsp hok hnx
  unfold noAncV
  obtain ⟨W0, hW0⟩ : ∃ W0, W0 = ((w.alloc (.cells #[.int .i64 g.zones, .int .i64 g.data, .int .i64 g.spares, .int .i64 g.slots, .int .i64 g.anchors] 24)).alloc (.cells #[.int .i64 a.gen, .int .i64 a.epoch, .int .i64 a.pos, .int .i64 a.seq, .int .i64 a.last, .string a.label, .slice A n c] 28)).alloc (.cells #[.int .i64 0, .int .i64 0, .int .i64 0, .int .i64 0, .int .i64 0, .string ⟨#[]⟩, .slice none 0 0] 28) := ⟨_, rfl⟩
  have hs0 : W0.heap.size = w.heap.size + 3 := by rw [hW0]; simp
  have hb0 : Below w.heap.size w W0 := by rw [hW0]; exact ((alloc_below w _).alloc (by simp) _).alloc (by simp; omega) _
  have ha0 := ha.on homR_fine hb0
  have hgb : GeoAt W0 w.heap.size g := by rw [hW0]; exact (GeoAt.new w g 24).on ((alloc_below _ _).alloc (by simp) _)
  have hsv : Sev W0 (w.heap.size + 1) (.int .i64 a.gen) (.int .i64 a.epoch) (.int .i64 a.pos) (.int .i64 a.seq) (.int .i64 a.last) (.string a.label) (.slice A n c) := by rw [hW0]; exact (Sev.new (by simp) (Below.refl _ _)).on (by simp) (alloc_below _ _)
  have hzv : Sev W0 (w.heap.size + 1 + 1) (.int .i64 0) (.int .i64 0) (.int .i64 0) (.int .i64 0) (.int .i64 0) (.string ⟨#[]⟩) (.slice none 0 0) := by rw [hW0]; exact Sev.new (by simp) (Below.refl _ _)
  have hfA : ∀ W, Below W0.heap.size W0 W → ∀ k, W.frozen? ⟨w.heap.size + 1, k, none⟩ = false := fun W hW k => (hW.frozen (by show w.heap.size + 1 < _; omega)).trans (by rw [hW0]; exact bx_free2 (by simp) (alloc_below _ _) k)
  have hfZ : ∀ W, Below W0.heap.size W0 W → ∀ k, W.frozen? ⟨w.heap.size + 1 + 1, k, none⟩ = false := fun W hW k => (hW.frozen (by show w.heap.size + 1 + 1 < _; omega)).trans (by rw [hW0]; exact bx_free2 (by simp) (Below.refl _ _) k)
  have HFA := hide hfA
  have HFZ := hide hfZ
  have HSV := hide hsv
  have HZV := hide hzv
  have HGB := hide hgb
  have hpq := hgb.2
  rw [hW0] at hpq hsv
  obtain ⟨p0, p1, p2, p3, p4⟩ := hpq
  obtain ⟨q0, q1, q2, q3, q4, q5, q6⟩ := hsv
  clear hgb hzv hfA hfZ
  unfold Geo.v Anc.v at *
  go_enter Tryd.func6, Tryd.ntmps6
  go_wp2_with fail
  rw [← hW0]
  clear hW0 p0 p1 p2 p3 p4 q0 q1 q2 q3 q4 q5 q6
  refine (HCK.out _ (hT.below hb0) ha0).mono ?_
  rintro e w1 ⟨rfl, hb1⟩
  obtain ⟨_, p0, p1, p2, p3, p4⟩ := HGB.out.on hb1
  obtain ⟨q0, q1, q2, q3, q4, q5, q6⟩ := HSV.out.onB (show w.heap.size + 1 < W0.heap.size by omega) hb1
  go_wp2_with fail
  refine (HLF.out _ (ha0.on homR_fine hb1)).mono ?_
  rintro e w2 ⟨rfl, hb2⟩
  have hb02 := th hb1 hb2
  have hzz := HZV.out.onB (show w.heap.size + 1 + 1 < W0.heap.size by omega) hb02
  have f0 := HFZ.out _ hb02 0
  have f1 := HFZ.out _ hb02 1
  have f2 := HFZ.out _ hb02 2
  have f3 := HFZ.out _ hb02 3
  have f4 := HFZ.out _ hb02 4
  have f5 := HFZ.out _ hb02 5
  have f6 := HFZ.out _ hb02 6
  have hzu := put7_sev hzz (.int .i64 0) (.int .i64 0) (.int .i64 0) (.int .i64 0) (.int .i64 0) (.string ⟨#[]⟩) (.slice none 0 0)
  unfold put7 at hzu
  have HZU := hide hzu
  obtain ⟨y0, y1, y2, y3, y4, y5, y6⟩ := hzz
  clear hzu
  go_wp2_with fail
  obtain ⟨u0, u1, u2, u3, u4, u5, u6⟩ := HZU.out
  exact bodyPost_ret (v := .tuple #[.agg #[.int .i64 0, .int .i64 0, .int .i64 0, .int .i64 0, .int .i64 0, .string ⟨#[]⟩, .slice none 0 0], .int .i64 10]) (by simp [results, Tryd.results6, go_sem, u0, u1, u2, u3, u4, u5, u6]) rfl ⟨rfl, put7_below (th hb0 hb02) (by omega) _ _ _ _ _ _ _⟩

set_option maxHeartbeats 4000000 in
theorem pskip_yes (g : Geo) (a : Anc) (A : Option Addr) (n c z : Nat) (w : World) (hT : Tabs w) (ha : Sl homR 3 w (Old w) A n c a.homes) (hin : a.In) (hl : Light a) (hok : PlaceOk g a (z : Int) (-1)) (h : Hom) (hz : a.homes[z]? = some h) (hnx : h.next < g.data + 1 + g.spares) :
    Calls Tryd.prog 6 #[g.v, a.v (.slice A n c), .int .i64 (z : Int)] w fun e w' => Below w.heap.size w w' ∧ ∃ V cv, e = .returned (.tuple #[(skipA a z h).v (.slice V n cv), .int .i64 0]) ∧ HOwn 45 3 w' w.heap.size (.slice V n cv) n (skipA a z h).homes := by
  have HCK := hide fun w hT h => pcheck_any g a A n c (z : Int) (-1) w hT h hin hl
  rw [show plErr g a (z : Int) (-1) = 0 from if_pos hok] at HCK
  have hd := hok.1.2.1
  have hsp := hok.1.2.2.1
  have hhn := (hok.2.1.2.2.2 h (List.mem_of_getElem? hz)).2.1
  have HLF := hide fun w ha => pleft_yes g hok.1 a A n c z h hz w ha ⟨by omega, by omega⟩
  obtain ⟨D, hD⟩ : ∃ D, D = g.data + 1 + g.spares - h.next := ⟨_, rfl⟩
  rw [← hD] at HLF
  have tD : (D == 0) = false := by simp; omega
  have e1 : IntKind.i64.wrap (h.next + 1) = h.next + 1 := IntWalk.i64_in _ (by omega)
  have hn6 : n ≤ 6000 := by rw [← ha.len]; exact hl.2.1
  have HTW := hide fun w ha => atwin_any a A n c w ha hn6 hl.2.2
  have hin1 : InI (h.next + 1) := ⟨by omega, by omega⟩
  have hzn : z < n := by rw [← ha.len]; exact (List.getElem?_eq_some_iff.1 hz).1
  have HZ := hide hz
  have HIN1 := hide hin1
  clear hd hsp hhn hok hD hnx hz hin1
  unfold ATwinPost at HTW
  unfold skipA
  obtain ⟨W0, hW0⟩ : ∃ W0, W0 = ((w.alloc (.cells #[.int .i64 g.zones, .int .i64 g.data, .int .i64 g.spares, .int .i64 g.slots, .int .i64 g.anchors] 24)).alloc (.cells #[.int .i64 a.gen, .int .i64 a.epoch, .int .i64 a.pos, .int .i64 a.seq, .int .i64 a.last, .string a.label, .slice A n c] 28)).alloc (.cells #[.int .i64 0, .int .i64 0, .int .i64 0, .int .i64 0, .int .i64 0, .string ⟨#[]⟩, .slice none 0 0] 28) := ⟨_, rfl⟩
  have hs0 : W0.heap.size = w.heap.size + 3 := by rw [hW0]; simp
  have hb0 : Below w.heap.size w W0 := by rw [hW0]; exact ((alloc_below w _).alloc (by simp) _).alloc (by simp; omega) _
  have ha0 := ha.on homR_fine hb0
  have hgb : GeoAt W0 w.heap.size g := by rw [hW0]; exact (GeoAt.new w g 24).on ((alloc_below _ _).alloc (by simp) _)
  have hsv : Sev W0 (w.heap.size + 1) (.int .i64 a.gen) (.int .i64 a.epoch) (.int .i64 a.pos) (.int .i64 a.seq) (.int .i64 a.last) (.string a.label) (.slice A n c) := by rw [hW0]; exact (Sev.new (by simp) (Below.refl _ _)).on (by simp) (alloc_below _ _)
  have hzv : Sev W0 (w.heap.size + 1 + 1) (.int .i64 0) (.int .i64 0) (.int .i64 0) (.int .i64 0) (.int .i64 0) (.string ⟨#[]⟩) (.slice none 0 0) := by rw [hW0]; exact Sev.new (by simp) (Below.refl _ _)
  have hfA : ∀ W, Below W0.heap.size W0 W → ∀ k, W.frozen? ⟨w.heap.size + 1, k, none⟩ = false := fun W hW k => (hW.frozen (by show w.heap.size + 1 < _; omega)).trans (by rw [hW0]; exact bx_free2 (by simp) (alloc_below _ _) k)
  have hfZ : ∀ W, Below W0.heap.size W0 W → ∀ k, W.frozen? ⟨w.heap.size + 1 + 1, k, none⟩ = false := fun W hW k => (hW.frozen (by show w.heap.size + 1 + 1 < _; omega)).trans (by rw [hW0]; exact bx_free2 (by simp) (Below.refl _ _) k)
  have HFA := hide hfA
  have HFZ := hide hfZ
  have HSV := hide hsv
  have HZV := hide hzv
  have HGB := hide hgb
  have hpq := hgb.2
  rw [hW0] at hpq hsv
  obtain ⟨p0, p1, p2, p3, p4⟩ := hpq
  obtain ⟨q0, q1, q2, q3, q4, q5, q6⟩ := hsv
  clear hgb hzv hfA hfZ
  unfold Geo.v Anc.v at *
  dsimp only
  go_enter Tryd.func6, Tryd.ntmps6
  go_wp2_with fail
  rw [← hW0]
  clear hW0 p0 p1 p2 p3 p4 q0 q1 q2 q3 q4 q5 q6
  refine (HCK.out _ (hT.below hb0) ha0).mono ?_
  rintro e w1 ⟨rfl, hb1⟩
  obtain ⟨_, p0, p1, p2, p3, p4⟩ := HGB.out.on hb1
  obtain ⟨q0, q1, q2, q3, q4, q5, q6⟩ := HSV.out.onB (show w.heap.size + 1 < W0.heap.size by omega) hb1
  go_wp2_with fail
  refine (HLF.out _ (ha0.on homR_fine hb1)).mono ?_
  rintro e w2 ⟨rfl, hb2⟩
  have hb02 := th hb1 hb2
  obtain ⟨q0, q1, q2, q3, q4, q5, q6⟩ := HSV.out.onB (show w.heap.size + 1 < W0.heap.size by omega) hb02
  go_wp2_with fail
  refine (HTW.out _ (ha0.on homR_fine hb02)).mono ?_
  rintro e w3 ⟨hb3, V, cv, rfl, how⟩
  have hb03 := th hb02 hb3
  have hs2 := hb02.size
  have hs3 := hb03.size
  have hsv3 := HSV.out.onB (show w.heap.size + 1 < W0.heap.size by omega) hb03
  have hzv3 := HZV.out.onB (show w.heap.size + 1 + 1 < W0.heap.size by omega) hb03
  have f0 := HFA.out _ hb03 0
  have f1 := HFA.out _ hb03 1
  have f2 := HFA.out _ hb03 2
  have f3 := HFA.out _ hb03 3
  have f4 := HFA.out _ hb03 4
  have f5 := HFA.out _ hb03 5
  have f6 := HFA.out _ hb03 6
  obtain ⟨W4, hW4⟩ : ∃ W4, W4 = put7 w3 (w.heap.size + 1) (.int .i64 a.gen) (.int .i64 a.epoch) (.int .i64 a.pos) (.int .i64 a.seq) (.int .i64 a.last) (.string a.label) (.slice V n cv) := ⟨_, rfl⟩
  have hs4 : W4.heap.size = w3.heap.size := by rw [hW4, put7_size]
  have hsv4 : Sev W4 (w.heap.size + 1) (.int .i64 a.gen) (.int .i64 a.epoch) (.int .i64 a.pos) (.int .i64 a.seq) (.int .i64 a.last) (.string a.label) (.slice V n cv) := by rw [hW4]; exact put7_sev hsv3 _ _ _ _ _ _ _
  have hzv4 : Sev W4 (w.heap.size + 1 + 1) (.int .i64 0) (.int .i64 0) (.int .i64 0) (.int .i64 0) (.int .i64 0) (.string ⟨#[]⟩) (.slice none 0 0) := by
    obtain ⟨z0, z1, z2, z3, z4, z5, z6⟩ := hzv3
    rw [hW4]
    have key : ∀ (W : World) (u : Value) (k : Nat) (v0 v1 v2 v3 v4 v5 v6 : Value), W.cell? ⟨w.heap.size + 1 + 1, k, none⟩ = some u → (put7 W (w.heap.size + 1) v0 v1 v2 v3 v4 v5 v6).cell? ⟨w.heap.size + 1 + 1, k, none⟩ = some u := fun W u k v0 v1 v2 v3 v4 v5 v6 h => by
      have hne : w.heap.size + 1 + 1 ≠ w.heap.size + 1 := by omega
      unfold put7
      exact put_cell_other hne (put_cell_other hne (put_cell_other hne (put_cell_other hne (put_cell_other hne (put_cell_other hne (put_cell_other hne h))))))
    exact ⟨key _ _ _ _ _ _ _ _ _ _ z0, key _ _ _ _ _ _ _ _ _ _ z1, key _ _ _ _ _ _ _ _ _ _ z2, key _ _ _ _ _ _ _ _ _ _ z3, key _ _ _ _ _ _ _ _ _ _ z4, key _ _ _ _ _ _ _ _ _ _ z5, key _ _ _ _ _ _ _ _ _ _ z6⟩
  have how4 : HOwn 45 3 W4 (w2.heap.size + 2) (.slice V n cv) n a.homes := by rw [hW4]; exact how.put7 (by omega) _ _ _ _ _ _ _
  have hff4 : ∀ k, W4.frozen? ⟨w.heap.size + 1 + 1, k, none⟩ = false := fun k => by rw [hW4]; unfold put7; simp only [put_free]; exact HFZ.out _ hb03 k
  have hb4 : Below w.heap.size w W4 := by rw [hW4]; exact put7_below (th hb0 hb03) (by omega) _ _ _ _ _ _ _
  obtain ⟨gb, x, A', n', c', rfl, hgB, hgl, hx, _, _, _, hc0, hc1, hc2, hfr, hnext, _⟩ := how4.spot hzn
  obtain rfl : x = h := by have := HZ.out; rw [hx] at this; injection this
  obtain ⟨W5, hW5⟩ : ∃ W5, W5 = W4.setCell ⟨gb, z * 3 + 1, none⟩ (.int .i64 (x.next + 1)) := ⟨_, rfl⟩
  have how5 := hnext (x.next + 1) HIN1.out
  rw [← hW5] at how5
  have hgn1 : w.heap.size + 1 ≠ gb := by omega
  have hgn2 : w.heap.size + 1 + 1 ≠ gb := by omega
  have hsv5 : Sev W5 (w.heap.size + 1) (.int .i64 a.gen) (.int .i64 a.epoch) (.int .i64 a.pos) (.int .i64 a.seq) (.int .i64 a.last) (.string a.label) (.slice (some ⟨gb, 0, none⟩) n cv) := by
    obtain ⟨z0, z1, z2, z3, z4, z5, z6⟩ := hsv4
    rw [hW5]
    exact ⟨put_cell_other hgn1 z0, put_cell_other hgn1 z1, put_cell_other hgn1 z2, put_cell_other hgn1 z3, put_cell_other hgn1 z4, put_cell_other hgn1 z5, put_cell_other hgn1 z6⟩
  have hzv5 : Sev W5 (w.heap.size + 1 + 1) (.int .i64 0) (.int .i64 0) (.int .i64 0) (.int .i64 0) (.int .i64 0) (.string ⟨#[]⟩) (.slice none 0 0) := by
    obtain ⟨z0, z1, z2, z3, z4, z5, z6⟩ := hzv4
    rw [hW5]
    exact ⟨put_cell_other hgn2 z0, put_cell_other hgn2 z1, put_cell_other hgn2 z2, put_cell_other hgn2 z3, put_cell_other hgn2 z4, put_cell_other hgn2 z5, put_cell_other hgn2 z6⟩
  have hff5 : ∀ k, W5.frozen? ⟨w.heap.size + 1 + 1, k, none⟩ = false := fun k => by rw [hW5, put_free]; exact hff4 k
  have hb5 : Below w.heap.size w W5 := by rw [hW5]; exact hb4.setCell (by show w.heap.size ≤ gb; omega) _
  have m6 := hsv4.2.2.2.2.2.2
  have M6 := hide m6
  have HC1 := hide hc1
  have HFR := hide hfr
  have HHOW := hide how5
  have HSV5 := hide hsv5
  have HZV5 := hide hzv5
  have HFF5 := hide hff5
  have HW5 := hide hW5
  obtain ⟨q0, q1, q2, q3, q4, q5, q6⟩ := hsv3
  have I0 : (0 : Int) ≤ (z : Int) := by omega
  have I1 : (z : Int) < (n : Int) := by omega
  have hW4u := hW4
  unfold put7 at hW4u
  clear hsv4 hzv4 how4 how hff4 hff5 hsv5 hzv5 how5 hnext hc0 hc2 m6 hc1 hfr hzv3 hW4 hW5 hx
  go_upto_region 7 with fail
  rw [← hW4u]
  clear hW4u f0 f1 f2 f3 f4 f5 f6 q0 q1 q2 q3 q4 q5 q6
  have m6 := M6.out
  have hc1 := HC1.out
  have hfr := HFR.out
  go_upto_region 8 with fail
  rw [← HW5.out]
  clear m6 hc1 hfr
  have hzu := put7_sev HZV5.out (.int .i64 a.gen) (.int .i64 a.epoch) (.int .i64 a.pos) (.int .i64 a.seq) (.int .i64 a.last) (.string a.label) (.slice (some ⟨gb, 0, none⟩) n cv)
  unfold put7 at hzu
  have HZU := hide hzu
  clear hzu
  obtain ⟨q0, q1, q2, q3, q4, q5, q6⟩ := HSV5.out
  obtain ⟨y0, y1, y2, y3, y4, y5, y6⟩ := HZV5.out
  have f0 := HFF5.out 0
  have f1 := HFF5.out 1
  have f2 := HFF5.out 2
  have f3 := HFF5.out 3
  have f4 := HFF5.out 4
  have f5 := HFF5.out 5
  have f6 := HFF5.out 6
  have HFIN := hide ((HHOW.out.put7 (N := w.heap.size + 1 + 1) (by omega) (.int .i64 a.gen) (.int .i64 a.epoch) (.int .i64 a.pos) (.int .i64 a.seq) (.int .i64 a.last) (.string a.label) (.slice (some ⟨gb, 0, none⟩) n cv)).less (show w.heap.size ≤ w2.heap.size + 2 by omega))
  go_wp2_with fail
  obtain ⟨u0, u1, u2, u3, u4, u5, u6⟩ := HZU.out
  exact bodyPost_ret (v := .tuple #[.agg #[.int .i64 a.gen, .int .i64 a.epoch, .int .i64 a.pos, .int .i64 a.seq, .int .i64 a.last, .string a.label, .slice (some ⟨gb, 0, none⟩) n cv], .int .i64 0]) (by simp [results, Tryd.results6, go_sem, u0, u1, u2, u3, u4, u5, u6]) rfl ⟨put7_below hb5 (by omega) _ _ _ _ _ _ _, _, cv, rfl, HFIN.out⟩

end Go.Proofs.YtjlppkbmapmbiaaDoor
