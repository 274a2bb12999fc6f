/-
  Contracts: casemateref01.Per, SlotAt; casemateref08.Addr, Spares, Move.
  Contract: casemateref08.Move.
-/
import Derived.Test.YtamgpbkakmffiaaDoorPl4
import Derived.Test.YtamgpbkakmffiaaDoorAncU
namespace Go.Proofs.YtamgpbkakmffiaaDoor
open Go.RowKit Go.Lib
set_option linter.unusedVariables false
set_option maxRecDepth 100000

theorem rper_any (g : Geo) (hG : GeoOk g) (w : World) : Calls Tryd.prog 96 #[g.v] w fun e w' => e = .returned (.int .i64 (g.data + 1 + g.spares)) ∧ Below w.heap.size w w' := by
  obtain ⟨⟨z1, z4⟩, ⟨d1, d4⟩, ⟨s0, s2⟩, ⟨sl1, sl2⟩, an1, an3⟩ := hG
  obtain ⟨z, d, s, l, a⟩ := g
  unfold Geo.v
  dsimp only at *
  have e1 : IntKind.i64.wrap (d + 1) = d + 1 := IntWalk.i64_in _ (by omega)
  have e2 : IntKind.i64.wrap (d + 1 + s) = d + 1 + s := IntWalk.i64_in _ (by omega)
  go_enter Tryd.func96, Tryd.ntmps96
  go_wp2_with fail
  go_ret
  exact ⟨rfl, alloc_below _ _⟩

set_option maxHeartbeats 2000000 in
theorem rslotat_yes (g : Geo) (hG : GeoOk g) (k i : Int) (hk : 0 ≤ k ∧ k ≤ g.zones - 1) (hi : 0 ≤ i ∧ i ≤ g.data + g.spares) (w : World) : Calls Tryd.prog 64 #[g.v, .int .i64 k, .int .i64 i] w fun e w' => e = .returned (.int .i64 (slotN g k i)) ∧ Below w.heap.size w w' := by
  have HN := hide fun w => rper_any g hG w
  obtain ⟨⟨z1, z4⟩, ⟨d1, d4⟩, ⟨s0, s2⟩, ⟨sl1, sl2⟩, an1, an3⟩ := hG
  obtain ⟨z, d, s, l, a⟩ := g
  obtain ⟨k0, k1⟩ := hk
  obtain ⟨i0, i1⟩ := hi
  unfold slotN slotsN tablesN
  dsimp only at *
  obtain ⟨D, hD⟩ : ∃ D, D = d + 1 + s := ⟨_, rfl⟩
  have hDb : 2 ≤ D ∧ D ≤ 7 := by omega
  obtain ⟨M, hM⟩ : ∃ M, M = k * D := ⟨_, rfl⟩
  have hMb : 0 ≤ M ∧ M ≤ 28 := by
    rcases (show k = 0 ∨ k = 1 ∨ k = 2 ∨ k = 3 by omega) with h | h | h | h <;> rw [hM, h] <;> omega
  rw [← hD] at HN ⊢
  rw [← hM]
  unfold Geo.v at *
  dsimp only at *
  have e1 : IntKind.i64.wrap (k * D) = M := by rw [← hM]; exact IntWalk.i64_in _ (by omega)
  have e2 : IntKind.i64.wrap (2 * l) = 2 * l := IntWalk.i64_in _ (by omega)
  have e3 : IntKind.i64.wrap (a + 2 * l) = a + 2 * l := IntWalk.i64_in _ (by omega)
  have e4 : IntKind.i64.wrap (2 * z) = 2 * z := IntWalk.i64_in _ (by omega)
  have e5 : IntKind.i64.wrap (a + 2 * l + 2 * z) = a + 2 * l + 2 * z := IntWalk.i64_in _ (by omega)
  have e6 : IntKind.i64.wrap (a + 2 * l + 2 * z + M) = a + 2 * l + 2 * z + M := IntWalk.i64_in _ (by omega)
  have e7 : IntKind.i64.wrap (a + 2 * l + 2 * z + M + i) = a + 2 * l + 2 * z + M + i := IntWalk.i64_in _ (by omega)
  clear hM hD
  obtain ⟨W0, hW0⟩ : ∃ W0, W0 = w.alloc (.cells #[.int .i64 z, .int .i64 d, .int .i64 s, .int .i64 l, .int .i64 a] 23) := ⟨_, rfl⟩
  have hb0 : Below w.heap.size w W0 := by rw [hW0]; exact alloc_below w _
  have BX : Hid (∀ w', Below W0.heap.size W0 w' → w'.cell? ⟨w.heap.size, 0, none⟩ = some (.int .i64 z) ∧ w'.cell? ⟨w.heap.size, 1, none⟩ = some (.int .i64 d) ∧ w'.cell? ⟨w.heap.size, 2, none⟩ = some (.int .i64 s) ∧ w'.cell? ⟨w.heap.size, 3, none⟩ = some (.int .i64 l) ∧ w'.cell? ⟨w.heap.size, 4, none⟩ = some (.int .i64 a)) := hide fun w' hb => by
    subst hW0
    exact ⟨box_cell hb 0 _ rfl, box_cell hb 1 _ rfl, box_cell hb 2 _ rfl, box_cell hb 3 _ rfl, box_cell hb 4 _ rfl⟩
  obtain ⟨p0, p1, p2, p3, p4⟩ := BX.out _ (Below.refl _ _)
  have hcur := Below.refl W0.heap.size W0
  rw [hW0] at p0 p1 p2 p3 p4
  go_enter Tryd.func64, Tryd.ntmps64
  go_wp2_with fail
  rw [← hW0]
  clear p0 p1 p2 p3 p4 hW0
  go_region_held3 (fun w' => w'.cell? ⟨w.heap.size, 0, none⟩ = some (.int .i64 z) ∧ w'.cell? ⟨w.heap.size, 1, none⟩ = some (.int .i64 d) ∧ w'.cell? ⟨w.heap.size, 2, none⟩ = some (.int .i64 s) ∧ w'.cell? ⟨w.heap.size, 3, none⟩ = some (.int .i64 l) ∧ w'.cell? ⟨w.heap.size, 4, none⟩ = some (.int .i64 a)) (first | exact BX.out _ hcur | exact BX.out _ hcur.drew) ((go_at_call 96; (with_reducible refine (HN.out _).mono ?_); rintro e wA ⟨rfl, hzz⟩; have hcur := th (by first | with_reducible exact hcur | with_reducible exact hcur.drew) hzz))
  all_goals (go_wp2_with fail; go_ret; exact ⟨rfl, th hb0 (by first | exact hcur | exact hcur.drew)⟩)

set_option maxHeartbeats 8000000 in
theorem raddr_yes (g : Geo) (hG : GeoOk g) (a : Anc) (A : Option Addr) (n c z i : Nat) (what : Int) (w : World) (ha : Sl homR 3 w (Old w) A n c a.homes) (hzz : (z : Int) < g.zones) (h : Hom) (hz : a.homes[z]? = some h) (hi : atI g what = (i : Int)) (p : Int) (hp : h.places[i]? = some p) (hp0 : 0 ≤ p ∧ p ≤ g.data + g.spares) :
    Calls Tryd.prog 28 #[g.v, a.v (.slice A n c), .int .i64 (z : Int), .int .i64 what] w fun e w' => e = .returned (.int .i64 (slotN g z p)) ∧ Below w.heap.size w w' := by
  have HIX : Hid (∀ w, Calls Tryd.prog 65 #[g.v, .int .i64 what] w fun e w' => e = .returned (.int .i64 (atI g what)) ∧ Below w.heap.size w w') := hide fun w => gat_any g what w
  rw [hi] at HIX
  have HSL := hide fun w => rslotat_yes g hG (z : Int) p ⟨by omega, by omega⟩ hp0 w
  have hzn : z < n := by rw [← ha.len]; exact (List.getElem?_eq_some_iff.1 hz).1
  clear hi hp0 hzz
  obtain ⟨W0, hW0⟩ : ∃ W0, W0 = (w.alloc (.cells #[.int .i64 g.zones, .int .i64 g.data, .int .i64 g.spares, .int .i64 g.slots, .int .i64 g.anchors] 23)).alloc (.cells #[.int .i64 a.gen, .int .i64 a.epoch, .int .i64 a.pos, .int .i64 a.seq, .int .i64 a.last, .string a.label, .slice A n c] 26) := ⟨_, rfl⟩
  have hb0 : Below w.heap.size w W0 := by rw [hW0]; exact (alloc_below w _).alloc (by simp) _
  have ha0 := ha.on homR_fine hb0
  have hgb : GeoAt W0 w.heap.size g := by rw [hW0]; exact (GeoAt.new w g 23).on (alloc_below _ _)
  have hsv : Sev W0 (w.heap.size + 1) (.int .i64 a.gen) (.int .i64 a.epoch) (.int .i64 a.pos) (.int .i64 a.seq) (.int .i64 a.last) (.string a.label) (.slice A n c) := by rw [hW0]; exact Sev.new (by simp) (Below.refl _ _)
  have hN1 : w.heap.size + 1 < W0.heap.size := by rw [hW0]; simp
  have HSV := hide hsv
  have HGB := hide hgb
  have hpq := hgb.2
  rw [hW0] at hpq hsv
  obtain ⟨p0, p1, p2, p3, p4⟩ := hpq
  obtain ⟨q0, q1, q2, q3, q4, q5, q6⟩ := hsv
  clear hgb
  unfold Geo.v Anc.v at *
  obtain ⟨ad, x, A', m', c', rfl, hadl, hx, _, _, hs, d0, d1, d2⟩ := at_hom ha0 hzn
  obtain rfl : x = h := by rw [hx] at hz; injection hz
  have him : i < m' := by rw [← hs.len]; exact (List.getElem?_eq_some_iff.1 hp).1
  obtain ⟨pd, y, rfl, hpdl, hy, _, hpc⟩ := at_int hs him
  obtain rfl : y = p := by rw [hy] at hp; injection hp
  have HS : Hid (∀ W, Below W0.heap.size W0 W → (W.cell? ⟨w.heap.size, 0, none⟩ = some (.int .i64 g.zones) ∧ W.cell? ⟨w.heap.size, 1, none⟩ = some (.int .i64 g.data) ∧ W.cell? ⟨w.heap.size, 2, none⟩ = some (.int .i64 g.spares) ∧ W.cell? ⟨w.heap.size, 3, none⟩ = some (.int .i64 g.slots) ∧ W.cell? ⟨w.heap.size, 4, none⟩ = some (.int .i64 g.anchors)) ∧ W.cell? ⟨w.heap.size + 1, 6, none⟩ = some (.slice (some ad) n c) ∧ W.cell? (ad.add (z * 3)) = some (.slice (some pd) m' c') ∧ W.cell? (pd.add i) = some (.int .i64 y)) := hide fun W hW =>
    ⟨(HGB.out.on hW).2, (HSV.out.onB hN1 hW).2.2.2.2.2.2, below_cell hW hadl d0, below_cell hW hpdl hpc⟩
  have I0 : (0 : Int) ≤ (z : Int) := by omega
  have I1 : (z : Int) < (n : Int) := by omega
  have I2 : (0 : Int) ≤ (i : Int) := by omega
  have I3 : (i : Int) < (m' : Int) := by omega
  have hcur := Below.refl W0.heap.size W0
  clear d0 d1 d2 hx hy hpc
  go_enter Tryd.func28, Tryd.ntmps28
  go_wp2_with fail
  rw [← hW0]
  clear hW0 p0 p1 p2 p3 p4 q0 q1 q2 q3 q4 q5 q6
  go_region_held3 (fun W => (W.cell? ⟨w.heap.size, 0, none⟩ = some (.int .i64 g.zones) ∧ W.cell? ⟨w.heap.size, 1, none⟩ = some (.int .i64 g.data) ∧ W.cell? ⟨w.heap.size, 2, none⟩ = some (.int .i64 g.spares) ∧ W.cell? ⟨w.heap.size, 3, none⟩ = some (.int .i64 g.slots) ∧ W.cell? ⟨w.heap.size, 4, none⟩ = some (.int .i64 g.anchors)) ∧ W.cell? ⟨w.heap.size + 1, 6, none⟩ = some (.slice (some ad) n c) ∧ W.cell? (ad.add (z * 3)) = some (.slice (some pd) m' c') ∧ W.cell? (pd.add i) = some (.int .i64 y)) (first | exact HS.out _ hcur | exact HS.out _ hcur.drew) (first
    | (go_at_call 65; (with_reducible refine (HIX.out _).mono ?_); rintro e wA ⟨rfl, hzz⟩; have hcur := th (by first | with_reducible exact hcur | with_reducible exact hcur.drew) hzz)
    | (go_at_call 64; (with_reducible refine (HSL.out _).mono ?_); rintro e wA ⟨rfl, hzz⟩; have hcur := th (by first | with_reducible exact hcur | with_reducible exact hcur.drew) hzz))
  all_goals (go_wp2_with fail; go_ret; exact ⟨rfl, th hb0 (by first | exact hcur | exact hcur.drew)⟩)

set_option maxHeartbeats 2000000 in
theorem rspares_yes (g : Geo) (hG : GeoOk g) (a : Anc) (A : Option Addr) (n c z : Nat) (h : Hom) (hz : a.homes[z]? = some h) (w : World) (ha : Sl homR 3 w (Old w) A n c a.homes) (hn : 0 ≤ h.next ∧ h.next ≤ g.data + 1 + g.spares) :
    Calls Tryd.prog 26 #[g.v, a.v (.slice A n c), .int .i64 (z : Int)] w fun e w' => e = .returned (.int .i64 (g.data + 1 + g.spares - h.next)) ∧ Below w.heap.size w w' := by
  have hd := hG.2.1
  have hs := hG.2.2.1
  obtain ⟨n0, n1⟩ := hn
  have e1 : IntKind.i64.wrap (g.data + 1) = g.data + 1 := IntWalk.i64_in _ (by omega)
  have e2 : IntKind.i64.wrap (g.data + 1 + g.spares) = g.data + 1 + g.spares := IntWalk.i64_in _ (by omega)
  have e3 : IntKind.i64.wrap (g.data + 1 + g.spares - h.next) = g.data + 1 + g.spares - h.next := IntWalk.i64_in _ (by omega)
  have hzn : z < n := by rw [← ha.len]; exact (List.getElem?_eq_some_iff.1 hz).1
  obtain ⟨W0, hW0⟩ : ∃ W0, W0 = (w.alloc (.cells #[.int .i64 g.zones, .int .i64 g.data, .int .i64 g.spares, .int .i64 g.slots, .int .i64 g.anchors] 23)).alloc (.cells #[.int .i64 a.gen, .int .i64 a.epoch, .int .i64 a.pos, .int .i64 a.seq, .int .i64 a.last, .string a.label, .slice A n c] 26) := ⟨_, rfl⟩
  have hb0 : Below w.heap.size w W0 := by rw [hW0]; exact (alloc_below w _).alloc (by simp) _
  have ha0 := ha.on homR_fine hb0
  have hgb : GeoAt W0 w.heap.size g := by rw [hW0]; exact (GeoAt.new w g 23).on (alloc_below _ _)
  have hsv : Sev W0 (w.heap.size + 1) (.int .i64 a.gen) (.int .i64 a.epoch) (.int .i64 a.pos) (.int .i64 a.seq) (.int .i64 a.last) (.string a.label) (.slice A n c) := by rw [hW0]; exact Sev.new (by simp) (Below.refl _ _)
  have hN1 : w.heap.size + 1 < W0.heap.size := by rw [hW0]; simp
  have HSV := hide hsv
  have HGB := hide hgb
  have hpq := hgb.2
  rw [hW0] at hpq hsv
  obtain ⟨p0, p1, p2, p3, p4⟩ := hpq
  obtain ⟨q0, q1, q2, q3, q4, q5, q6⟩ := hsv
  clear hgb
  unfold Geo.v Anc.v at *
  obtain ⟨ad, x, A', m', c', rfl, hadl, hx, _, _, _, d0, d1, d2⟩ := at_hom ha0 hzn
  obtain rfl : x = h := by rw [hx] at hz; injection hz
  have d1' : W0.cell? ⟨(ad.add (z * 3)).block, (ad.add (z * 3)).off + 1, none⟩ = some (.int .i64 x.next) := d1
  have HS : Hid ((W0.cell? ⟨w.heap.size, 0, none⟩ = some (.int .i64 g.zones) ∧ W0.cell? ⟨w.heap.size, 1, none⟩ = some (.int .i64 g.data) ∧ W0.cell? ⟨w.heap.size, 2, none⟩ = some (.int .i64 g.spares) ∧ W0.cell? ⟨w.heap.size, 3, none⟩ = some (.int .i64 g.slots) ∧ W0.cell? ⟨w.heap.size, 4, none⟩ = some (.int .i64 g.anchors)) ∧ W0.cell? ⟨w.heap.size + 1, 6, none⟩ = some (.slice (some ad) n c) ∧ W0.cell? ⟨(ad.add (z * 3)).block, (ad.add (z * 3)).off + 1, none⟩ = some (.int .i64 x.next)) := hide ⟨HGB.out.2, HSV.out.2.2.2.2.2.2, d1'⟩
  have I0 : (0 : Int) ≤ (z : Int) := by omega
  have I1 : (z : Int) < (n : Int) := by omega
  clear d0 d1 d2 d1' hx hd hs
  go_enter Tryd.func26, Tryd.ntmps26
  go_wp2_with fail
  rw [← hW0]
  clear hW0 p0 p1 p2 p3 p4 q0 q1 q2 q3 q4 q5 q6
  go_region_held3 (fun W => (W.cell? ⟨w.heap.size, 0, none⟩ = some (.int .i64 g.zones) ∧ W.cell? ⟨w.heap.size, 1, none⟩ = some (.int .i64 g.data) ∧ W.cell? ⟨w.heap.size, 2, none⟩ = some (.int .i64 g.spares) ∧ W.cell? ⟨w.heap.size, 3, none⟩ = some (.int .i64 g.slots) ∧ W.cell? ⟨w.heap.size, 4, none⟩ = some (.int .i64 g.anchors)) ∧ W.cell? ⟨w.heap.size + 1, 6, none⟩ = some (.slice (some ad) n c) ∧ W.cell? ⟨(ad.add (z * 3)).block, (ad.add (z * 3)).off + 1, none⟩ = some (.int .i64 x.next)) (exact HS.out) (fail)
  all_goals (go_wp2_with fail; go_ret; exact ⟨rfl, by first | exact hb0 | exact hb0.drew⟩)

end Go.Proofs.YtamgpbkakmffiaaDoor

namespace Go.Proofs.YtamgpbkakmffiaaDoor
open Go.RowKit Go.Lib
set_option linter.unusedVariables false
set_option maxRecDepth 100000

set_option maxHeartbeats 8000000 in
theorem rmove_yes (g : Geo) (hG : GeoOk g) (a : Anc) (hO : AncOk g a) (A : Option Addr) (n c z i : Nat) (what : Int) (w : World) (ha : Sl homR 3 w (Old w) A n c a.homes) (hl : Light a) (hzz : (z : Int) < g.zones) (h : Hom) (hz : a.homes[z]? = some h) (hi : atI g what = (i : Int)) (hid : (i : Int) ≤ g.data) (hnx : h.next < g.data + 1 + g.spares) :
    Calls Tryd.prog 29 #[g.v, a.v (.slice A n c), .int .i64 (z : Int), .int .i64 what] w fun e w' => Below w.heap.size w w' ∧ ∃ V cv, e = .returned (.tuple #[(moveA a z h i).v (.slice V n cv), .int .i64 (slotN g z h.next)]) ∧ Sl homR 3 w' (Old w') V n cv (moveA a z h i).homes := by
  have hn6 : n ≤ 6000 := by rw [← ha.len]; exact hl.2.1
  have HTW := hide fun w ha => katwin_any a A n c w ha hn6 hl.2.2
  unfold ATwinPost at HTW
  have HAT : Hid (∀ w, Calls Tryd.prog 65 #[g.v, .int .i64 what] w fun e w' => e = .returned (.int .i64 (atI g what)) ∧ Below w.heap.size w w') := hide fun w => gat_any g what w
  rw [hi] at HAT
  have hhom := hO.2.2.2 h (List.mem_of_getElem? hz)
  have hgd := hG.2.1
  have hgs := hG.2.2.1
  have hnx0 := hhom.2.1.1
  have hil : i < h.places.length := by have := hhom.1; omega
  have hpl2 : (h.places.set i h.next)[i]? = some h.next := List.getElem?_set_self hil
  have hinN : InI h.next := ⟨by omega, by omega⟩
  have hinN1 : InI (h.next + 1) := ⟨by omega, by omega⟩
  have e1 : IntKind.i64.wrap (h.next + 1) = h.next + 1 := IntWalk.i64_in _ (by omega)
  have HAD := hide fun (V : Option Addr) (cv : Nat) w ha => raddr_yes g hG (moveA a z h i) V n cv z i what w ha hzz _ (moved_at hz) hi h.next hpl2 ⟨by omega, by omega⟩
  have hzn : z < n := by rw [← ha.len]; exact (List.getElem?_eq_some_iff.1 hz).1
  obtain ⟨SL, hSL⟩ : ∃ SL, SL = slotN g z h.next := ⟨_, rfl⟩
  rw [← hSL] at HAD ⊢
  obtain ⟨MH, hMH⟩ : ∃ MH, MH = (moveA a z h i).homes := ⟨_, rfl⟩
  have hMS : MH = a.homes.set z { places := h.places.set i h.next, next := h.next + 1, root := h.root } := hMH
  rw [← hMH] at HAD ⊢
  have HMS := hide hMS
  have HZ := hide hz
  have HIL := hide hil
  have HINN := hide hinN
  have HINN1 := hide hinN1
  clear hSL hMH hMS hinN hinN1 hpl2 hhom hnx0 hgd hgs hi hl hG hO hz hil hid hnx hn6
  unfold moveA at *
  obtain ⟨W0, hW0⟩ : ∃ W0, W0 = ((w.alloc (.cells #[.int .i64 g.zones, .int .i64 g.data, .int .i64 g.spares, .int .i64 g.slots, .int .i64 g.anchors] 23)).alloc (.cells #[.int .i64 a.gen, .int .i64 a.epoch, .int .i64 a.pos, .int .i64 a.seq, .int .i64 a.last, .string a.label, .slice A n c] 26)).alloc (.cells #[.int .i64 0, .int .i64 0, .int .i64 0, .int .i64 0, .int .i64 0, .string ⟨#[]⟩, .slice none 0 0] 26) := ⟨_, rfl⟩
  have hs0 : W0.heap.size = w.heap.size + 3 := by rw [hW0]; simp
  have hb0 : Below w.heap.size w W0 := by rw [hW0]; exact ((alloc_below w _).alloc (by simp) _).alloc (by simp; omega) _
  have ha0 := ha.on homR_fine hb0
  have hgb : GeoAt W0 w.heap.size g := by rw [hW0]; exact (GeoAt.new w g 23).on ((alloc_below _ _).alloc (by simp) _)
  have hsv : Sev W0 (w.heap.size + 1) (.int .i64 a.gen) (.int .i64 a.epoch) (.int .i64 a.pos) (.int .i64 a.seq) (.int .i64 a.last) (.string a.label) (.slice A n c) := by rw [hW0]; exact (Sev.new (by simp) (Below.refl _ _)).on (by simp) (alloc_below _ _)
  have hzv : Sev W0 (w.heap.size + 1 + 1) (.int .i64 0) (.int .i64 0) (.int .i64 0) (.int .i64 0) (.int .i64 0) (.string ⟨#[]⟩) (.slice none 0 0) := by rw [hW0]; exact Sev.new (by simp) (Below.refl _ _)
  have hfA : ∀ W, Below W0.heap.size W0 W → ∀ k, W.frozen? ⟨w.heap.size + 1, k, none⟩ = false := fun W hW k => (hW.frozen (by show w.heap.size + 1 < _; omega)).trans (by rw [hW0]; exact bx_free2 (by simp) (alloc_below _ _) k)
  have hfZ : ∀ W, Below W0.heap.size W0 W → ∀ k, W.frozen? ⟨w.heap.size + 1 + 1, k, none⟩ = false := fun W hW k => (hW.frozen (by show w.heap.size + 1 + 1 < _; omega)).trans (by rw [hW0]; exact bx_free2 (by simp) (Below.refl _ _) k)
  have HFA := hide hfA
  have HFZ := hide hfZ
  have HSV := hide hsv
  have HZV := hide hzv
  have HGB := hide hgb
  have hpq := hgb.2
  rw [hW0] at hpq hsv
  obtain ⟨p0, p1, p2, p3, p4⟩ := hpq
  obtain ⟨q0, q1, q2, q3, q4, q5, q6⟩ := hsv
  clear hgb hzv hfA hfZ
  unfold Geo.v Anc.v at *
  dsimp only at *
  go_enter Tryd.func29, Tryd.ntmps29
  go_wp2_with fail
  rw [← hW0]
  clear hW0 p0 p1 p2 p3 p4 q0 q1 q2 q3 q4 q5 q6
  refine (HTW.out _ ha0).mono ?_
  rintro e w1 ⟨hb1, V, cv, rfl, how1⟩
  have hsz1 := hb1.size
  obtain ⟨gb, x, A', n', c', rfl, hgB, hgl, hx, _, _, hpl, hc0, hcn1, _, hfr, _, hplace⟩ := how1.spot hzn
  obtain rfl : x = h := by have := HZ.out; rw [hx] at this; injection this
  have hin' : i < n' := by rw [← hpl.len]; exact HIL.out
  obtain ⟨gp, rfl, hpB, hpl1, hpg, ⟨yy, _, _, hpc⟩, hpf, _⟩ := hplace i hin'
  obtain ⟨W2, hW2⟩ : ∃ W2, W2 = w1.alloc (.cells #[.int .i64 a.gen, .int .i64 a.epoch, .int .i64 a.pos, .int .i64 a.seq, .int .i64 a.last, .string a.label, .slice (some ⟨gb, 0, none⟩) n cv] 26) := ⟨_, rfl⟩
  have hE2 : Below w1.heap.size w1 W2 := by rw [hW2]; exact alloc_below _ _
  have hs2 : W2.heap.size = w1.heap.size + 1 := by rw [hW2]; simp
  have hv2 : Sev W2 w1.heap.size (.int .i64 a.gen) (.int .i64 a.epoch) (.int .i64 a.pos) (.int .i64 a.seq) (.int .i64 a.last) (.string a.label) (.slice (some ⟨gb, 0, none⟩) n cv) := by rw [hW2]; exact Sev.new rfl (Below.refl _ _)
  have hb02 := th hb1 hE2
  have HOW2 := hide (how1.below hE2)
  have HV2 := hide hv2
  have HP2 := hide (And.intro ((hE2.cell (p := ⟨gp, i, none⟩) hpl1).trans hpc) ((hE2.frozen (p := ⟨gp, i, none⟩) hpl1).trans hpf))
  have HS : Hid (∀ W : World, Below W2.heap.size W2 W → (W.cell? ⟨w.heap.size, 0, none⟩ = some (.int .i64 g.zones) ∧ W.cell? ⟨w.heap.size, 1, none⟩ = some (.int .i64 g.data) ∧ W.cell? ⟨w.heap.size, 2, none⟩ = some (.int .i64 g.spares) ∧ W.cell? ⟨w.heap.size, 3, none⟩ = some (.int .i64 g.slots) ∧ W.cell? ⟨w.heap.size, 4, none⟩ = some (.int .i64 g.anchors)) ∧ W.cell? ⟨gb, z * 3, none⟩ = some (.slice (some ⟨gp, 0, none⟩) n' c') ∧ W.cell? ⟨gb, z * 3 + 1, none⟩ = some (.int .i64 x.next)) := hide fun W hW =>
    ⟨(HGB.out.on (th hb02 hW)).2, ((th hE2 hW).cell (p := ⟨gb, z * 3, none⟩) hgl).trans hc0, ((th hE2 hW).cell (p := ⟨gb, z * 3 + 1, none⟩) hgl).trans hcn1⟩
  have SPUT : Hid (∀ (W : World) (v : Value), ((W.cell? ⟨w.heap.size, 0, none⟩ = some (.int .i64 g.zones) ∧ W.cell? ⟨w.heap.size, 1, none⟩ = some (.int .i64 g.data) ∧ W.cell? ⟨w.heap.size, 2, none⟩ = some (.int .i64 g.spares) ∧ W.cell? ⟨w.heap.size, 3, none⟩ = some (.int .i64 g.slots) ∧ W.cell? ⟨w.heap.size, 4, none⟩ = some (.int .i64 g.anchors)) ∧ W.cell? ⟨gb, z * 3, none⟩ = some (.slice (some ⟨gp, 0, none⟩) n' c') ∧ W.cell? ⟨gb, z * 3 + 1, none⟩ = some (.int .i64 x.next)) → ((W.setCell ⟨gp, i, none⟩ v).cell? ⟨w.heap.size, 0, none⟩ = some (.int .i64 g.zones) ∧ (W.setCell ⟨gp, i, none⟩ v).cell? ⟨w.heap.size, 1, none⟩ = some (.int .i64 g.data) ∧ (W.setCell ⟨gp, i, none⟩ v).cell? ⟨w.heap.size, 2, none⟩ = some (.int .i64 g.spares) ∧ (W.setCell ⟨gp, i, none⟩ v).cell? ⟨w.heap.size, 3, none⟩ = some (.int .i64 g.slots) ∧ (W.setCell ⟨gp, i, none⟩ v).cell? ⟨w.heap.size, 4, none⟩ = some (.int .i64 g.anchors)) ∧ (W.setCell ⟨gp, i, none⟩ v).cell? ⟨gb, z * 3, none⟩ = some (.slice (some ⟨gp, 0, none⟩) n' c') ∧ (W.setCell ⟨gp, i, none⟩ v).cell? ⟨gb, z * 3 + 1, none⟩ = some (.int .i64 x.next)) := hide fun W v hs => by
    obtain ⟨⟨c0, c1, c2, c3, c4⟩, c5, c6⟩ := hs
    exact ⟨⟨put_cell_other (by show w.heap.size ≠ gp; omega) c0, put_cell_other (by show w.heap.size ≠ gp; omega) c1, put_cell_other (by show w.heap.size ≠ gp; omega) c2, put_cell_other (by show w.heap.size ≠ gp; omega) c3, put_cell_other (by show w.heap.size ≠ gp; omega) c4⟩, put_cell_other (fun e => hpg e.symm) c5, put_cell_other (fun e => hpg e.symm) c6⟩
  have I0 : (0 : Int) ≤ (z : Int) := by omega
  have I1 : (z : Int) < (n : Int) := by omega
  have I2 : (0 : Int) ≤ (i : Int) := by omega
  have I3 : (i : Int) < (n' : Int) := by omega
  have hcur := Below.refl W2.heap.size W2
  clear hv2 how1 hc0 hcn1 hfr hplace hpc hpf hpl hx
  go_upto_region 2 with fail
  rw [← hW2]
  clear hW2
  obtain ⟨_, _, _, _, _, _, s6⟩ := HV2.out
  go_upto_region 3 with fail
  clear s6
  go_cut [8] (fun v wx => v = .pointer (some ⟨w.heap.size + 1 + 1, 0, none⟩) ∧ ∃ w3, Below W2.heap.size W2 w3 ∧ Below (w3.setCell ⟨gp, i, none⟩ (.int .i64 x.next)).heap.size (w3.setCell ⟨gp, i, none⟩ (.int .i64 x.next)) wx)
  case first =>
    go_region_held3 (fun W => (W.cell? ⟨w.heap.size, 0, none⟩ = some (.int .i64 g.zones) ∧ W.cell? ⟨w.heap.size, 1, none⟩ = some (.int .i64 g.data) ∧ W.cell? ⟨w.heap.size, 2, none⟩ = some (.int .i64 g.spares) ∧ W.cell? ⟨w.heap.size, 3, none⟩ = some (.int .i64 g.slots) ∧ W.cell? ⟨w.heap.size, 4, none⟩ = some (.int .i64 g.anchors)) ∧ W.cell? ⟨gb, z * 3, none⟩ = some (.slice (some ⟨gp, 0, none⟩) n' c') ∧ W.cell? ⟨gb, z * 3 + 1, none⟩ = some (.int .i64 x.next)) (first | with_reducible exact HS.out _ hcur | with_reducible exact HS.out _ hcur.drew | exact SPUT.out _ _ (HS.out _ hcur)) ((go_at_call 65; (with_reducible refine (HAT.out _).mono ?_); rintro e w3 ⟨rfl, hz3⟩; have hcur := th (by first | with_reducible exact hcur | with_reducible exact hcur.drew) hz3; have hp1 := (hcur.cell (p := ⟨gp, i, none⟩) (by show gp < _; omega)).trans HP2.out.1; have hp2 := (hcur.frozen (p := ⟨gp, i, none⟩) (by show gp < _; omega)).trans HP2.out.2))
    all_goals (go_wp2_with fail; go_meet; exact ⟨rfl, _, hcur, by first | exact Below.refl _ _ | exact (Below.refl _ _).drew⟩)
  case rest =>
    obtain ⟨rfl, w3, hb3, hb4⟩ := hcut
    have how3 := HOW2.out.below hb3
    obtain ⟨gb3, x3, A3, n3, c3, e3, _, _, hx3, _, _, _, hc3, _, _, _, _, hplace3⟩ := how3.spot hzn
    injection e3 with e3
    injection e3 with e3
    subst e3
    obtain rfl : x = x3 := by have := HZ.out; rw [hx3] at this; injection this with this; exact this.symm
    have hA3 : Value.slice (some ⟨gp, 0, none⟩) n' c' = .slice A3 n3 c3 := by have := (HS.out w3 hb3).2.1; rw [this] at hc3; injection hc3
    injection hA3 with hA1 hA2 hA3
    subst hA1; subst hA2; subst hA3
    obtain ⟨gq, eq, _, _, _, _, _, hput⟩ := hplace3 i hin'
    injection eq with eq
    injection eq with eq
    subst eq
    have how4 := (hput x.next HINN.out).below hb4
    have hst := SPUT.out w3 (.int .i64 x.next) (HS.out w3 hb3)
    have hsz3 := hb3.size
    have hsz4 := hb4.size
    rw [set_size] at hsz4
    obtain ⟨gb4, x4, A4, n4, c4, e4, _, hgl4, hx4, _, _, _, _, hcn4, _, hfr4, hnext4, _⟩ := how4.spot hzn
    injection e4 with e4
    injection e4 with e4
    subst e4
    have hx4' : x4 = { x with places := x.places.set i x.next } := by rw [List.getElem?_set_self (List.getElem?_eq_some_iff.1 HZ.out).1] at hx4; injection hx4 with hx4; exact hx4.symm
    subst hx4'
    have how5 := hnext4 (x.next + 1) HINN1.out
    rw [List.set_set] at how5
    obtain ⟨W5, hW5⟩ : ∃ W5, W5 = wc.setCell ⟨gb, z * 3 + 1, none⟩ (.int .i64 (x.next + 1)) := ⟨_, rfl⟩
    have how5' : HOwn 44 3 W5 (W0.heap.size + 2) (.slice (some ⟨gb, 0, none⟩) n cv) n MH := by rw [hW5, HMS.out]; exact how5
    have hs5 : W5.heap.size = wc.heap.size := by rw [hW5, set_size]
    have hlow : Below (w.heap.size + 3) W0 W5 := by
      rw [hW5]
      exact (((hb02.mono (by omega)).trans ((hb3.mono (by omega)).trans ((Below.refl _ _).setCell (by show w.heap.size + 3 ≤ gp; omega) _))).trans (hb4.mono (by rw [set_size]; omega))).setCell (by show w.heap.size + 3 ≤ gb; omega) _
    have hg5 : GeoAt W5 w.heap.size g := HGB.out.on (by rw [hs0]; exact hlow)
    have hv5 : Sev W5 w1.heap.size (.int .i64 a.gen) (.int .i64 a.epoch) (.int .i64 a.pos) (.int .i64 a.seq) (.int .i64 a.last) (.string a.label) (.slice (some ⟨gb, 0, none⟩) n cv) := by
      have k3 := HV2.out.on (by omega) hb3
      obtain ⟨z0, z1, z2, z3, z4, z5, z6⟩ := k3
      have hn1 : w1.heap.size ≠ gp := by omega
      have k4 : Sev wc w1.heap.size (.int .i64 a.gen) (.int .i64 a.epoch) (.int .i64 a.pos) (.int .i64 a.seq) (.int .i64 a.last) (.string a.label) (.slice (some ⟨gb, 0, none⟩) n cv) := Sev.on (w := w3.setCell ⟨gp, i, none⟩ (.int .i64 x.next)) ⟨put_cell_other hn1 z0, put_cell_other hn1 z1, put_cell_other hn1 z2, put_cell_other hn1 z3, put_cell_other hn1 z4, put_cell_other hn1 z5, put_cell_other hn1 z6⟩ (by rw [set_size]; omega) hb4
      obtain ⟨z0, z1, z2, z3, z4, z5, z6⟩ := k4
      have hn2 : w1.heap.size ≠ gb := by omega
      rw [hW5]
      exact ⟨put_cell_other hn2 z0, put_cell_other hn2 z1, put_cell_other hn2 z2, put_cell_other hn2 z3, put_cell_other hn2 z4, put_cell_other hn2 z5, put_cell_other hn2 z6⟩
    have hz5 : Sev W5 (w.heap.size + 1 + 1) (.int .i64 0) (.int .i64 0) (.int .i64 0) (.int .i64 0) (.int .i64 0) (.string ⟨#[]⟩) (.slice none 0 0) := HZV.out.onB (B := w.heap.size + 3) (by omega) hlow
    have hf5 : ∀ k, W5.frozen? ⟨w.heap.size + 1 + 1, k, none⟩ = false := fun k => (hlow.frozen (by show w.heap.size + 1 + 1 < _; omega)).trans (HFZ.out _ (Below.refl _ _) k)
    have HS5 : Hid (∀ W : World, Below W5.heap.size W5 W → (W.cell? ⟨w.heap.size, 0, none⟩ = some (.int .i64 g.zones) ∧ W.cell? ⟨w.heap.size, 1, none⟩ = some (.int .i64 g.data) ∧ W.cell? ⟨w.heap.size, 2, none⟩ = some (.int .i64 g.spares) ∧ W.cell? ⟨w.heap.size, 3, none⟩ = some (.int .i64 g.slots) ∧ W.cell? ⟨w.heap.size, 4, none⟩ = some (.int .i64 g.anchors)) ∧ W.cell? ⟨w1.heap.size, 0, none⟩ = some (.int .i64 a.gen) ∧ W.cell? ⟨w1.heap.size, 1, none⟩ = some (.int .i64 a.epoch) ∧ W.cell? ⟨w1.heap.size, 2, none⟩ = some (.int .i64 a.pos) ∧ W.cell? ⟨w1.heap.size, 3, none⟩ = some (.int .i64 a.seq) ∧ W.cell? ⟨w1.heap.size, 4, none⟩ = some (.int .i64 a.last) ∧ W.cell? ⟨w1.heap.size, 5, none⟩ = some (.string a.label) ∧ W.cell? ⟨w1.heap.size, 6, none⟩ = some (.slice (some ⟨gb, 0, none⟩) n cv)) := hide fun W hW =>
      ⟨(hg5.on hW).2, hv5.on (by omega) hW⟩
    have SP7 : Hid (∀ (W : World) (v0 v1 v2 v3 v4 v5 v6 : Value), ((W.cell? ⟨w.heap.size, 0, none⟩ = some (.int .i64 g.zones) ∧ W.cell? ⟨w.heap.size, 1, none⟩ = some (.int .i64 g.data) ∧ W.cell? ⟨w.heap.size, 2, none⟩ = some (.int .i64 g.spares) ∧ W.cell? ⟨w.heap.size, 3, none⟩ = some (.int .i64 g.slots) ∧ W.cell? ⟨w.heap.size, 4, none⟩ = some (.int .i64 g.anchors)) ∧ W.cell? ⟨w1.heap.size, 0, none⟩ = some (.int .i64 a.gen) ∧ W.cell? ⟨w1.heap.size, 1, none⟩ = some (.int .i64 a.epoch) ∧ W.cell? ⟨w1.heap.size, 2, none⟩ = some (.int .i64 a.pos) ∧ W.cell? ⟨w1.heap.size, 3, none⟩ = some (.int .i64 a.seq) ∧ W.cell? ⟨w1.heap.size, 4, none⟩ = some (.int .i64 a.last) ∧ W.cell? ⟨w1.heap.size, 5, none⟩ = some (.string a.label) ∧ W.cell? ⟨w1.heap.size, 6, none⟩ = some (.slice (some ⟨gb, 0, none⟩) n cv)) → (((put7 W (w.heap.size + 1 + 1) v0 v1 v2 v3 v4 v5 v6).cell? ⟨w.heap.size, 0, none⟩ = some (.int .i64 g.zones) ∧ (put7 W (w.heap.size + 1 + 1) v0 v1 v2 v3 v4 v5 v6).cell? ⟨w.heap.size, 1, none⟩ = some (.int .i64 g.data) ∧ (put7 W (w.heap.size + 1 + 1) v0 v1 v2 v3 v4 v5 v6).cell? ⟨w.heap.size, 2, none⟩ = some (.int .i64 g.spares) ∧ (put7 W (w.heap.size + 1 + 1) v0 v1 v2 v3 v4 v5 v6).cell? ⟨w.heap.size, 3, none⟩ = some (.int .i64 g.slots) ∧ (put7 W (w.heap.size + 1 + 1) v0 v1 v2 v3 v4 v5 v6).cell? ⟨w.heap.size, 4, none⟩ = some (.int .i64 g.anchors)) ∧ (put7 W (w.heap.size + 1 + 1) v0 v1 v2 v3 v4 v5 v6).cell? ⟨w1.heap.size, 0, none⟩ = some (.int .i64 a.gen) ∧ (put7 W (w.heap.size + 1 + 1) v0 v1 v2 v3 v4 v5 v6).cell? ⟨w1.heap.size, 1, none⟩ = some (.int .i64 a.epoch) ∧ (put7 W (w.heap.size + 1 + 1) v0 v1 v2 v3 v4 v5 v6).cell? ⟨w1.heap.size, 2, none⟩ = some (.int .i64 a.pos) ∧ (put7 W (w.heap.size + 1 + 1) v0 v1 v2 v3 v4 v5 v6).cell? ⟨w1.heap.size, 3, none⟩ = some (.int .i64 a.seq) ∧ (put7 W (w.heap.size + 1 + 1) v0 v1 v2 v3 v4 v5 v6).cell? ⟨w1.heap.size, 4, none⟩ = some (.int .i64 a.last) ∧ (put7 W (w.heap.size + 1 + 1) v0 v1 v2 v3 v4 v5 v6).cell? ⟨w1.heap.size, 5, none⟩ = some (.string a.label) ∧ (put7 W (w.heap.size + 1 + 1) v0 v1 v2 v3 v4 v5 v6).cell? ⟨w1.heap.size, 6, none⟩ = some (.slice (some ⟨gb, 0, none⟩) n cv))) := hide fun W v0 v1 v2 v3 v4 v5 v6 hs => by
      obtain ⟨⟨c0, c1, c2, c3, c4⟩, d0, d1, d2, d3, d4, d5, d6⟩ := hs
      have key : ∀ (b k : Nat) u, b ≠ w.heap.size + 1 + 1 → W.cell? ⟨b, k, none⟩ = some u → (put7 W (w.heap.size + 1 + 1) v0 v1 v2 v3 v4 v5 v6).cell? ⟨b, k, none⟩ = some u := fun b k u hb h => by
        unfold put7
        exact put_cell_other hb (put_cell_other hb (put_cell_other hb (put_cell_other hb (put_cell_other hb (put_cell_other hb (put_cell_other hb h))))))
      exact ⟨⟨key _ _ _ (by omega) c0, key _ _ _ (by omega) c1, key _ _ _ (by omega) c2, key _ _ _ (by omega) c3, key _ _ _ (by omega) c4⟩, key _ _ _ (by omega) d0, key _ _ _ (by omega) d1, key _ _ _ (by omega) d2, key _ _ _ (by omega) d3, key _ _ _ (by omega) d4, key _ _ _ (by omega) d5, key _ _ _ (by omega) d6⟩
    have HRD5 := hide how5'
    have HZ5 := hide hz5
    have HF5 := hide hf5
    have HLOW := hide hlow
    have HW5 := hide hW5
    have hcn := hcn4
    have hfr := hfr4
    clear how3 hplace3 hput how4 hnext4 how5 how5' hg5 hv5 hz5 hf5 hlow hst hx3 hx4 hc3 hcn4 hfr4 hcur hW5
    go_upto_region 5 with fail
    rw [← HW5.out]
    clear hcn hfr
    have hcur := Below.refl W5.heap.size W5
    go_region_held3 (fun W => (W.cell? ⟨w.heap.size, 0, none⟩ = some (.int .i64 g.zones) ∧ W.cell? ⟨w.heap.size, 1, none⟩ = some (.int .i64 g.data) ∧ W.cell? ⟨w.heap.size, 2, none⟩ = some (.int .i64 g.spares) ∧ W.cell? ⟨w.heap.size, 3, none⟩ = some (.int .i64 g.slots) ∧ W.cell? ⟨w.heap.size, 4, none⟩ = some (.int .i64 g.anchors)) ∧ W.cell? ⟨w1.heap.size, 0, none⟩ = some (.int .i64 a.gen) ∧ W.cell? ⟨w1.heap.size, 1, none⟩ = some (.int .i64 a.epoch) ∧ W.cell? ⟨w1.heap.size, 2, none⟩ = some (.int .i64 a.pos) ∧ W.cell? ⟨w1.heap.size, 3, none⟩ = some (.int .i64 a.seq) ∧ W.cell? ⟨w1.heap.size, 4, none⟩ = some (.int .i64 a.last) ∧ W.cell? ⟨w1.heap.size, 5, none⟩ = some (.string a.label) ∧ W.cell? ⟨w1.heap.size, 6, none⟩ = some (.slice (some ⟨gb, 0, none⟩) n cv)) (first | with_reducible exact HS5.out _ hcur | with_reducible exact HS5.out _ hcur.drew | exact SP7.out _ _ _ _ _ _ _ _ (HS5.out _ hcur)) ((go_at_call 28; (with_reducible refine (HAD.out _ _ _ ((HRD5.out.read.old_ homR_fine).on homR_fine (by first | with_reducible exact hcur | with_reducible exact hcur.drew))).mono ?_); rintro e w6 ⟨rfl, hz6⟩; have hcur := th (by first | with_reducible exact hcur | with_reducible exact hcur.drew) hz6; have hzz6 := HZ5.out.on (by omega) hcur; have hff6 : ∀ k, w6.frozen? ⟨w.heap.size + 1 + 1, k, none⟩ = false := fun k => (hcur.frozen (by show w.heap.size + 1 + 1 < _; omega)).trans (HF5.out k); have f0 := hff6 0; have f1 := hff6 1; have f2 := hff6 2; have f3 := hff6 3; have f4 := hff6 4; have f5 := hff6 5; have f6 := hff6 6; have hzu := put7_sev hzz6 (.int .i64 a.gen) (.int .i64 a.epoch) (.int .i64 a.pos) (.int .i64 a.seq) (.int .i64 a.last) (.string a.label) (.slice (some ⟨gb, 0, none⟩) n cv); have HZU := hide hzu; clear hzu hff6; obtain ⟨y0, y1, y2, y3, y4, y5, y6⟩ := hzz6))
    all_goals
      go_wp2_with fail
      have hzu := HZU.out
      unfold put7 at hzu
      obtain ⟨u0, u1, u2, u3, u4, u5, u6⟩ := hzu
      have hrd := ((HRD5.out.read.old_ homR_fine).on homR_fine hcur)
      have hmv : Sl homR 3 (put7 w6 (w.heap.size + 1 + 1) (.int .i64 a.gen) (.int .i64 a.epoch) (.int .i64 a.pos) (.int .i64 a.seq) (.int .i64 a.last) (.string a.label) (.slice (some ⟨gb, 0, none⟩) n cv)) (Old _) (some ⟨gb, 0, none⟩) n cv MH := ((HRD5.out.below hcur).put7 (N := w.heap.size + 1 + 1) (by omega) (.int .i64 a.gen) (.int .i64 a.epoch) (.int .i64 a.pos) (.int .i64 a.seq) (.int .i64 a.last) (.string a.label) (.slice (some ⟨gb, 0, none⟩) n cv)).read.old_ homR_fine
      have hbl : Below w.heap.size w (put7 w6 (w.heap.size + 1 + 1) (.int .i64 a.gen) (.int .i64 a.epoch) (.int .i64 a.pos) (.int .i64 a.seq) (.int .i64 a.last) (.string a.label) (.slice (some ⟨gb, 0, none⟩) n cv)) := put7_below (th hb0 ((HLOW.out.mono (by omega)).trans (hcur.mono (by omega)))) (by omega) _ _ _ _ _ _ _
      first
        | exact bodyPost_ret (v := .tuple #[.agg #[.int .i64 a.gen, .int .i64 a.epoch, .int .i64 a.pos, .int .i64 a.seq, .int .i64 a.last, .string a.label, .slice (some ⟨gb, 0, none⟩) n cv], .int .i64 SL]) (by simp [results, Tryd.results29, go_sem, u0, u1, u2, u3, u4, u5, u6]) rfl ⟨hbl, _, cv, rfl, hmv⟩
        | exact bodyPost_ret (v := .tuple #[.agg #[.int .i64 a.gen, .int .i64 a.epoch, .int .i64 a.pos, .int .i64 a.seq, .int .i64 a.last, .string a.label, .slice (some ⟨gb, 0, none⟩) n cv], .int .i64 SL]) (by simp [results, Tryd.results29, go_sem, u0, u1, u2, u3, u4, u5, u6]) rfl ⟨hbl.drew, _, cv, rfl, Sl.drew homR_fine hmv⟩

end Go.Proofs.YtamgpbkakmffiaaDoor
