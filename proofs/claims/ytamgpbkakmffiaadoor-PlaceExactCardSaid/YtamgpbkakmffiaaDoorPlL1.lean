/-
  The walks of casematelaw11.wakes, PlaceStays.
-/
import Derived.Test.YtamgpbkakmffiaaDoorPl4
import Derived.Test.YtamgpbkakmffiaaDoorAncG
import Derived.Test.YtamgpbkakmffiaaDoorAncA
namespace Go.Proofs.YtamgpbkakmffiaaDoor
open Go.RowKit Go.Lib
set_option linter.unusedVariables false
set_option maxRecDepth 100000

theorem um_raws {i n : Int} {k : Nat} (h : um i n = (k : Int)) (hn : 1 ≤ n) (hn' : n ≤ 4294967296) : (IntKind.u64.wrap i).tmod n = (k : Int) ∧ IntKind.u64.wrap i % n = (k : Int) := by
  have h0 : 0 ≤ IntKind.u64.wrap i := by rw [IntKind.wrap_u64]; exact Int.emod_nonneg _ (by omega)
  have h1 : (IntKind.u64.wrap i).tmod n = IntKind.u64.wrap i % n := Int.tmod_eq_emod_of_nonneg h0
  have h2 : 0 ≤ IntKind.u64.wrap i % n := Int.emod_nonneg _ (by omega)
  have h3 : IntKind.u64.wrap i % n < n := Int.emod_lt_of_pos _ (by omega)
  unfold um at h
  rw [h1, IntWalk.wrap64_in _ ⟨by omega, by omega⟩] at h
  exact ⟨by rw [h1, h], h⟩
theorem um_at (i : Int) {n : Int} (hn : 1 ≤ n) (hn' : n ≤ 4294967296) : ∃ k : Nat, um i n = (k : Int) ∧ (k : Int) < n := by
  obtain ⟨k, h1, h2⟩ := um_is i n.toNat (by omega) (by omega)
  rw [Int.toNat_of_nonneg (by omega)] at h1
  exact ⟨k, h1, by omega⟩
theorem some_move : someG 0 2 1 0 0 = ⟨1, 3, 1, 14, 1⟩ := by
  have h2 : um 2 4 = 2 := by unfold um; decide +kernel
  have h1 : um 1 3 = 1 := by unfold um; decide +kernel
  unfold someG
  rw [h1, h2]
  simp only [um_zero]
  rfl
theorem geo_move : GeoOk ⟨1, 3, 1, 14, 1⟩ := by decide
theorem lab_nil : labE (sL ⟨#[]⟩) = 0 := by
  have h : decs (sL ⟨#[]⟩) = [] := by
    have e : sL ⟨#[]⟩ = [] := rfl
    rw [e, ← decsF_eq 0 _ (by decide)]; rfl
  rw [labE_ok, h]
  exact ⟨by decide, by decide⟩

set_option maxHeartbeats 4000000 in
theorem wakes11 (w : World) (hT : Tabs w) : Calls Tryd.prog 25 #[] w fun e w' => e = .returned (.bool true) ∧ Below w.heap.size w w' := by
  have hs0 := fun w => some_any 0 2 1 0 0 inI_0 ⟨by omega, by omega⟩ inI_1 inI_0 inI_0 w
  rw [some_move] at hs0
  have hok : AncOk ⟨1, 3, 1, 14, 1⟩ (newAnc 1 3 ⟨#[]⟩) := newAnc_ok geo_move rfl rfl lab_nil
  have hin : (newAnc 1 3 ⟨#[]⟩).In := newAnc_in (by decide)
  have hlt : Light (newAnc 1 3 ⟨#[]⟩) := newAnc_light (by decide) (by omega) (by omega)
  have hpl : PlaceOk ⟨1, 3, 1, 14, 1⟩ (newAnc 1 3 ⟨#[]⟩) ((0 : Nat) : Int) (-1) := ⟨geo_move, hok, ⟨by decide, by decide⟩, isP_par _⟩
  have hz : (newAnc 1 3 ⟨#[]⟩).homes[0]? = some (newHom 3) := rfl
  have hfi := fun w => rafirst_any (g := ⟨1, 3, 1, 14, 1⟩) (z := 1) (d := 3) rfl rfl (by omega) (by omega) ⟨#[]⟩ w
  have hmok : AncOk ⟨1, 3, 1, 14, 1⟩ (moveA (newAnc 1 3 ⟨#[]⟩) 0 (newHom 3) 3) := move_ok geo_move hok hz (by decide) 3
  have had := fun (V : Option Addr) (c : Nat) (w : World) (hT : Tabs w) (h : Sl homR 3 w (Old w) V 1 c (List.replicate 1 (newHom 3))) => paddr_yes ⟨1, 3, 1, 14, 1⟩ (newAnc 1 3 ⟨#[]⟩) V 1 c 0 3 (-1) w hT h hin hlt hpl (newHom 3) hz rfl 3 rfl
  have hmv := fun (V : Option Addr) (c : Nat) (w : World) (hT : Tabs w) (h : Sl homR 3 w (Old w) V 1 c (List.replicate 1 (newHom 3))) => pmove_yes ⟨1, 3, 1, 14, 1⟩ (newAnc 1 3 ⟨#[]⟩) V 1 c 0 3 (-1) w hT h hin hlt hpl (newHom 3) hz rfl (by decide)
  obtain ⟨MH, hMH⟩ : ∃ MH, MH = (moveA (newAnc 1 3 ⟨#[]⟩) 0 (newHom 3) 3).homes := ⟨_, rfl⟩
  have hM0 : MH[0]? = some { places := (newHom 3).places.set 3 4, next := 5, root := 0 } := by rw [hMH]; rfl
  have hsp := fun (V : Option Addr) (c : Nat) (w : World) (hT : Tabs w) (h : Sl homR 3 w (Old w) V 1 c (moveA (newAnc 1 3 ⟨#[]⟩) 0 (newHom 3) 3).homes) => pspares_yes ⟨1, 3, 1, 14, 1⟩ (moveA (newAnc 1 3 ⟨#[]⟩) 0 (newHom 3) 3) V 1 c 0 w hT h hin (move_light hlt hz) ⟨geo_move, hmok, ⟨by decide, by decide⟩, isP_par _⟩ _ (moved_at hz)
  have e34 : slotN ⟨1, 3, 1, 14, 1⟩ ((0 : Nat) : Int) 3 = 34 := rfl
  have e35 : slotN ⟨1, 3, 1, 14, 1⟩ ((0 : Nat) : Int) (newHom 3).next = 35 := rfl
  have esp : (3 : Int) + 1 + 1 - ((newHom 3).next + 1) = 0 := rfl
  rw [← hMH] at hmv hsp
  rw [e34] at had
  rw [e35] at hmv
  unfold Geo.v Anc.v newAnc at hfi had
  unfold Geo.v Anc.v moveA newAnc at hmv hsp
  unfold Geo.v at hs0
  dsimp only at hfi had hmv hsp hs0
  rw [esp] at hsp
  have HS0 := hide hs0
  have HFI := hide hfi
  have HAD := hide had
  have HMV := hide hmv
  have HSP := hide hsp
  have HM0 := hide hM0
  clear hs0 hfi had hmv hsp hM0 hok hin hlt hpl hz hmok hMH e34 e35 esp
  go_enter Tryd.func25, Tryd.ntmps25
  go_wp2_with fail
  refine (HS0.out _).mono ?_
  rintro e w1 ⟨rfl, hb1⟩
  have hE2 := alloc_below w1 (.cells #[.int .i64 1, .int .i64 3, .int .i64 1, .int .i64 14, .int .i64 1] 23)
  have hgb := GeoAt.new w1 ⟨1, 3, 1, 14, 1⟩ 23
  have HGB := hide hgb
  have hb02 := th hb1 hE2
  clear hgb
  go_wp2_with fail
  refine (HFI.out _).mono ?_
  rintro e w3 ⟨hb3, V3, c3, rfl, hs3⟩
  obtain ⟨W4, hW4⟩ : ∃ W4, W4 = w3.alloc (.cells #[.int .i64 1, .int .i64 0, .int .i64 0, .int .i64 1, .int .i64 0, .string ⟨#[]⟩, .slice V3 1 c3] 26) := ⟨_, rfl⟩
  have hE4 : Below w3.heap.size w3 W4 := by rw [hW4]; exact alloc_below _ _
  have hv4 : Sev W4 w3.heap.size (.int .i64 1) (.int .i64 0) (.int .i64 0) (.int .i64 1) (.int .i64 0) (.string ⟨#[]⟩) (.slice V3 1 c3) := by rw [hW4]; exact Sev.new rfl (Below.refl _ _)
  have hN4 : w3.heap.size < W4.heap.size := by rw [hW4]; simp
  have hb24 := th hb3 hE4
  have hb04 := th hb02 hb24
  have hs4 := (hs3.old_ homR_fine).on homR_fine hE4
  have HV4 := hide hv4
  have hgq := (HGB.out.on hb24).2
  rw [hW4] at hgq hv4
  obtain ⟨p0, p1, p2, p3, p4⟩ := hgq
  obtain ⟨q0, q1, q2, q3, q4, q5, q6⟩ := hv4
  go_wp2_with fail
  rw [← hW4]
  clear hW4 p0 p1 p2 p3 p4 q0 q1 q2 q3 q4 q5 q6
  refine (HAD.out _ _ _ (hT.below hb04) hs4).mono ?_
  rintro e w5 ⟨rfl, hb5⟩
  have hb05 := th hb04 hb5
  obtain ⟨_, p0, p1, p2, p3, p4⟩ := HGB.out.on (th hb24 hb5)
  obtain ⟨q0, q1, q2, q3, q4, q5, q6⟩ := HV4.out.on hN4 hb5
  go_wp2_with fail
  refine (HMV.out _ _ _ (hT.below hb05) (hs4.on homR_fine hb5)).mono ?_
  rintro e w6 ⟨hb6, V6, c6, rfl, how6⟩
  have hs6 := how6.read
  obtain ⟨W7, hW7⟩ : ∃ W7, W7 = w6.alloc (.cells #[.int .i64 1, .int .i64 0, .int .i64 0, .int .i64 1, .int .i64 0, .string ⟨#[]⟩, .slice V6 1 c6] 26) := ⟨_, rfl⟩
  have hE7 : Below w6.heap.size w6 W7 := by rw [hW7]; exact alloc_below _ _
  have hv7 : Sev W7 w6.heap.size (.int .i64 1) (.int .i64 0) (.int .i64 0) (.int .i64 1) (.int .i64 0) (.string ⟨#[]⟩) (.slice V6 1 c6) := by rw [hW7]; exact Sev.new rfl (Below.refl _ _)
  have hN7 : w6.heap.size < W7.heap.size := by rw [hW7]; simp
  have hs7 := (hs6.old_ homR_fine).on homR_fine hE7
  have hb07 := th hb05 (th hb6 hE7)
  have HV7 := hide hv7
  have hgq := (HGB.out.on (th hb24 (th hb5 (th hb6 hE7)))).2
  rw [hW7] at hgq hv7
  obtain ⟨p0, p1, p2, p3, p4⟩ := hgq
  obtain ⟨q0, q1, q2, q3, q4, q5, q6⟩ := hv7
  go_wp2_with fail
  rw [← hW7]
  clear hW7 p0 p1 p2 p3 p4 q0 q1 q2 q3 q4 q5 q6
  refine (HSP.out _ _ _ (hT.below hb07) hs7).mono ?_
  rintro e w8 ⟨rfl, hb8⟩
  obtain ⟨ad, x, A', m, c', rfl, hadl, hx, _, _, _, d0, d1, d2⟩ := at_hom (hs7.on homR_fine hb8) (show 0 < 1 by omega)
  obtain rfl : x = { places := (newHom 3).places.set 3 4, next := 5, root := 0 } := by have := HM0.out; rw [hx] at this; injection this
  rw [Nat.zero_mul, add_zero'] at d0 d1 d2
  have d1' : w8.cell? ⟨ad.block, ad.off + 1, none⟩ = some (.int .i64 5) := d1
  obtain ⟨q0, q1, q2, q3, q4, q5, q6⟩ := HV7.out.on hN7 hb8
  clear hx d0 d1 d2
  go_wp2_with fail
  go_ret
  exact ⟨rfl, th hb07 hb8⟩

/-- The block at i of the zone k of a right anchor. -/
theorem place_at {g : Geo} {a : Anc} (hG : GeoOk g) (ho : AncOk g a) {k i : Nat} (hk : (k : Int) < g.zones) (hi : (i : Int) ≤ g.data) : ∃ h p, a.homes[k]? = some h ∧ h.places[i]? = some p ∧ p ≤ h.next - 1 := by
  have hkl : k < a.homes.length := by have := ho.2.2.1; omega
  have hh := ho.2.2.2 a.homes[k] (List.getElem_mem hkl)
  have hil : i < a.homes[k].places.length := by have := hh.1; omega
  exact ⟨a.homes[k], a.homes[k].places[i], List.getElem?_eq_getElem hkl, List.getElem?_eq_getElem hil, (hh.2.2.2 i _ (List.getElem?_eq_getElem hil)).1.2⟩

set_option maxHeartbeats 8000000 in
theorem walk_placeStays {w : World} (hT : Tabs w) (g : Geo) (a : Anc) (A : Option Addr) (n c : Nat) (zone what other z : Int) (ha : Sl homR 3 w (Old w) A n c a.homes) (hin : a.In) :
    Calls Tryd.prog 5 #[g.v, a.v (.slice A n c), .int .i64 zone, .int .i64 what, .int .i64 other, .int .i64 z] w fun e w' => e = .returned (.bool true) ∧ Below w.heap.size w w' := by
  have HHV := hide fun w h => heavya_any a A n c w h
  have HGE := hide fun w => rgeo_any g w
  have HRA := hide fun hG hl w h => ranchor_any g hG a A n c w h hin hl
  have HLI := hide fun (h : heavyA a = false) => heavyA_light h
  have HMN := hide fun z' what' hl hok h hz hnx w hT ha => pmove_none g a A n c z' what' w hT ha hin hl hok h hz hnx
  have HMY := hide fun z' i what' hl hok h hz hi hnx w hT ha => pmove_yes g a A n c z' i what' w hT ha hin hl hok h hz hi hnx
  have HKN := hide fun z' hl hok h hz hnx w hT ha => pskip_none g a A n c z' w hT ha hin hl hok h hz hnx
  have HKY := hide fun z' hl hok h hz hnx w hT ha => pskip_yes g a A n c z' w hT ha hin hl hok h hz hnx
  have HPA := hide fun (b : Anc) (B : Option Addr) d z' i what' (hinb : b.In) hl hok h hz hi p hp w hT ha => paddr_yes g b B n d z' i what' w hT ha hinb hl hok h hz hi p hp
  have HIN := hide hin
  obtain ⟨H, hH⟩ : ∃ H, H = heavyA a := ⟨_, rfl⟩
  obtain ⟨Gb, hGb⟩ : ∃ Gb, Gb = decide (GeoOk g) := ⟨_, rfl⟩
  obtain ⟨Rb, hRb⟩ : ∃ Rb, Rb = decide (AncOk g a) := ⟨_, rfl⟩
  rw [← hH] at HHV HLI
  rw [← hGb] at HGE
  rw [← hRb] at HRA
  obtain ⟨W0, hW0⟩ : ∃ W0, W0 = (w.alloc (.cells #[.int .i64 g.zones, .int .i64 g.data, .int .i64 g.spares, .int .i64 g.slots, .int .i64 g.anchors] 23)).alloc (.cells #[.int .i64 a.gen, .int .i64 a.epoch, .int .i64 a.pos, .int .i64 a.seq, .int .i64 a.last, .string a.label, .slice A n c] 26) := ⟨_, rfl⟩
  have hb0 : Below w.heap.size w W0 := by rw [hW0]; exact (alloc_below w _).alloc (by simp) _
  have ha0 := ha.on homR_fine hb0
  have hgb : GeoAt W0 w.heap.size g := by rw [hW0]; exact (GeoAt.new w g 23).on (alloc_below _ _)
  have hsv : Sev W0 (w.heap.size + 1) (.int .i64 a.gen) (.int .i64 a.epoch) (.int .i64 a.pos) (.int .i64 a.seq) (.int .i64 a.last) (.string a.label) (.slice A n c) := by rw [hW0]; exact Sev.new (by simp) (Below.refl _ _)
  have hN1 : w.heap.size + 1 < W0.heap.size := by rw [hW0]; simp
  have HSV := hide hsv
  have HGB := hide hgb
  have hpq := hgb.2
  rw [hW0] at hpq hsv
  obtain ⟨p0, p1, p2, p3, p4⟩ := hpq
  obtain ⟨q0, q1, q2, q3, q4, q5, q6⟩ := hsv
  clear hgb
  unfold Geo.v Anc.v at *
  have HGD := hide hGb
  have HRD := hide hRb
  clear hGb hRb hH
  cases H with
  | true =>
    go_enter Tryd.func5, Tryd.ntmps5
    go_wp2_with fail
    rw [← hW0]
    refine (HHV.out _ ha0).mono ?_
    rintro e w1 ⟨rfl, hb1⟩
    go_wp2_with fail
    go_ret
    exact ⟨rfl, th hb0 hb1⟩
  | false =>
    have HL := hide (HLI.out rfl)
    cases Gb with
    | false =>
      go_enter Tryd.func5, Tryd.ntmps5
      go_wp2_with fail
      rw [← hW0]
      refine (HHV.out _ ha0).mono ?_
      rintro e w1 ⟨rfl, hb1⟩
      obtain ⟨_, p0, p1, p2, p3, p4⟩ := HGB.out.on hb1
      go_wp2_with fail
      refine (HGE.out _).mono ?_
      rintro e w2 ⟨rfl, hb2⟩
      go_wp2_with fail
      go_ret
      exact ⟨rfl, th hb0 (th hb1 hb2)⟩
    | true =>
      have HGO : Hid (GeoOk g) := hide (of_decide_eq_true HGD.out.symm)
      cases Rb with
      | false =>
        go_enter Tryd.func5, Tryd.ntmps5
        go_wp2_with fail
        rw [← hW0]
        refine (HHV.out _ ha0).mono ?_
        rintro e w1 ⟨rfl, hb1⟩
        obtain ⟨_, p0, p1, p2, p3, p4⟩ := HGB.out.on hb1
        go_wp2_with fail
        refine (HGE.out _).mono ?_
        rintro e w2 ⟨rfl, hb2⟩
        have hb02 := th hb1 hb2
        obtain ⟨_, p0, p1, p2, p3, p4⟩ := HGB.out.on hb02
        obtain ⟨q0, q1, q2, q3, q4, q5, q6⟩ := HSV.out.onB hN1 hb02
        go_wp2_with fail
        refine (HRA.out HGO.out HL.out _ (ha0.on homR_fine hb02)).mono ?_
        rintro e w3 ⟨rfl, hb3⟩
        go_wp2_with fail
        go_ret
        exact ⟨rfl, th hb0 (th hb02 hb3)⟩
      | true =>
        have HOK : Hid (AncOk g a) := hide (of_decide_eq_true HRD.out.symm)
        have hgz := HGO.out.1
        have hgd := HGO.out.2.1
        obtain ⟨k1, hu1, hk1⟩ := um_at zone (n := g.zones) (by omega) (by omega)
        obtain ⟨k2, hu2, hk2⟩ := um_at z (n := g.zones) (by omega) (by omega)
        obtain ⟨k3, hu3, hk3⟩ := um_at what (n := g.data + 1) (by omega) (by omega)
        obtain ⟨k4, hu4, hk4⟩ := um_at other (n := g.data + 1) (by omega) (by omega)
        obtain ⟨ha1, hc1⟩ := um_raws hu1 (by omega) (by omega)
        obtain ⟨ha2, hc2⟩ := um_raws hu2 (by omega) (by omega)
        obtain ⟨ha3, hc3⟩ := um_raws hu3 (by omega) (by omega)
        obtain ⟨ha4, hc4⟩ := um_raws hu4 (by omega) (by omega)
        have x1 : IntKind.i64.wrap (k1 : Int) = (k1 : Int) := IntWalk.i64_in _ (by omega)
        have x2 : IntKind.i64.wrap (k2 : Int) = (k2 : Int) := IntWalk.i64_in _ (by omega)
        have x3 : IntKind.i64.wrap (k3 : Int) = (k3 : Int) := IntWalk.i64_in _ (by omega)
        have x4 : IntKind.i64.wrap (k4 : Int) = (k4 : Int) := IntWalk.i64_in _ (by omega)
        have y1 : IntKind.u64.wrap (k1 : Int) = (k1 : Int) := by rw [IntKind.wrap_u64]; omega
        have y2 : IntKind.u64.wrap (k2 : Int) = (k2 : Int) := by rw [IntKind.wrap_u64]; omega
        have y3 : IntKind.u64.wrap (k3 : Int) = (k3 : Int) := by rw [IntKind.wrap_u64]; omega
        have y4 : IntKind.u64.wrap (k4 : Int) = (k4 : Int) := by rw [IntKind.wrap_u64]; omega
        have m3 : IntKind.i64.wrap ((k3 : Int) - 1) = (k3 : Int) - 1 := IntWalk.i64_in _ (by omega)
        have m4 : IntKind.i64.wrap ((k4 : Int) - 1) = (k4 : Int) - 1 := IntWalk.i64_in _ (by omega)
        have gz : IntKind.u64.wrap g.zones = g.zones := by rw [IntKind.wrap_u64]; omega
        have gd : IntKind.i64.wrap (g.data + 1) = g.data + 1 := IntWalk.i64_in _ (by omega)
        have gu : IntKind.u64.wrap (g.data + 1) = g.data + 1 := by rw [IntKind.wrap_u64]; omega
        have gz0 : ¬ g.zones = 0 := by omega
        have gd0 : ¬ g.data + 1 = 0 := by omega
        have W3 : WhatOk g ((k3 : Int) - 1) := ⟨by omega, by omega⟩
        have W4 : WhatOk g ((k4 : Int) - 1) := ⟨by omega, by omega⟩
        have HW3 := hide W3
        have HW4 := hide W4
        have HK1 := hide hk1
        have HK2 := hide hk2
        have HK3 := hide hk3
        have HK4 := hide hk4
        clear hu1 hu2 hu3 hu4 W3 W4
        go_enter Tryd.func5, Tryd.ntmps5
        go_wp2_with fail
        rw [← hW0]
        refine (HHV.out _ ha0).mono ?_
        rintro e w1 ⟨rfl, hb1⟩
        obtain ⟨_, p0, p1, p2, p3, p4⟩ := HGB.out.on hb1
        go_wp2_with fail
        refine (HGE.out _).mono ?_
        rintro e w2 ⟨rfl, hb2⟩
        have hb02 := th hb1 hb2
        obtain ⟨_, p0, p1, p2, p3, p4⟩ := HGB.out.on hb02
        obtain ⟨q0, q1, q2, q3, q4, q5, q6⟩ := HSV.out.onB hN1 hb02
        go_wp2_with fail
        refine (HRA.out HGO.out HL.out _ (ha0.on homR_fine hb02)).mono ?_
        rintro e w3 ⟨rfl, hb3⟩
        have hb03 := th hb02 hb3
        obtain ⟨_, p0, p1, p2, p3, p4⟩ := HGB.out.on hb03
        go_upto_region 3 with fail
        go_cut [2, 5] (fun u v wx => u = .int .i64 (k1 : Int) ∧ v = .int .i64 (k2 : Int) ∧ Below w3.heap.size w3 wx)
        case first =>
          go_quiet (fail)
          go_wp2_with fail
          go_meet
          exact ⟨rfl, rfl, drewN_below _ _⟩
        case rest =>
          obtain ⟨rfl, rfl, hb4⟩ := hcut
          have hb04 := th hb03 hb4
          obtain ⟨_, p0, p1, p2, p3, p4⟩ := HGB.out.on hb04
          go_upto_region 4 with fail
          go_cut [3, 4] (fun u v wx => u = .int .i64 ((k3 : Int) - 1) ∧ v = .int .i64 ((k4 : Int) - 1) ∧ Below wc.heap.size wc wx)
          case first =>
            go_quiet (fail)
            go_wp2_with fail
            go_meet
            exact ⟨rfl, rfl, drewN_below _ _⟩
          case rest =>
            obtain ⟨w4, hw4⟩ : ∃ w4 : World, w4 = wc := ⟨_, rfl⟩
            obtain ⟨hu3, hu4, hb5⟩ := hcut
            subst hu3
            subst hu4
            have hb05 := th hb04 hb5
            have HG := HGO.out
            have HO := HOK.out
            obtain ⟨h1, pA, hz1, _, _⟩ := place_at HG HO HK1.out (i := 0) (by omega)
            obtain ⟨i3, hi3⟩ : ∃ i3 : Nat, atI g ((k3 : Int) - 1) = (i3 : Int) := ⟨(atI g ((k3 : Int) - 1)).toNat, by have := atI_lt HG HW3.out; omega⟩
            obtain ⟨i4, hi4⟩ : ∃ i4 : Nat, atI g ((k4 : Int) - 1) = (i4 : Int) := ⟨(atI g ((k4 : Int) - 1)).toNat, by have := atI_lt HG HW4.out; omega⟩
            have hi3d : (i3 : Int) ≤ g.data := by have := atI_lt HG HW3.out; omega
            have hi4d : (i4 : Int) ≤ g.data := by have := atI_lt HG HW4.out; omega
            obtain ⟨h2, p2', hz2, hp2, hple⟩ := place_at HG HO HK2.out hi4d
            have hpk1 : PlaceOk g a (k1 : Int) ((k3 : Int) - 1) := ⟨HG, HO, ⟨by omega, HK1.out⟩, (isP_what HG _).2 HW3.out⟩
            have hps1 : PlaceOk g a (k1 : Int) (-1) := ⟨HG, HO, ⟨by omega, HK1.out⟩, isP_par g⟩
            have hhn := (HO.2.2.2 h1 (List.mem_of_getElem? hz1)).2.1
            clear ha1 ha2 ha3 ha4 hc1 hc2 hc3 hc4 x1 x2 x3 x4 y1 y2 y3 y4 m3 m4 gz gd gu gz0 gd0
            by_cases hfull : h1.next = g.data + 1 + g.spares
            · have HM := hide (fun w hT ha => HMN.out k1 ((k3 : Int) - 1) HL.out hpk1 h1 hz1 hfull w hT ha)
              have HK := hide (fun w hT ha => HKN.out k1 HL.out hps1 h1 hz1 hfull w hT ha)
              unfold noAncV at HM HK
              clear hfull hhn hpk1 hps1 hz1 hz2 hp2 hple hi3 hi4 hi3d hi4d HG HO
              obtain ⟨_, p0, p1, p2, p3, p4⟩ := HGB.out.on hb05
              obtain ⟨q0, q1, q2, q3, q4, q5, q6⟩ := HSV.out.onB hN1 hb05
              go_wp2_with fail
              refine (HM.out _ (hT.below (th hb0 hb05)) (ha0.on homR_fine hb05)).mono ?_
              rintro e w6 ⟨rfl, hb6⟩
              have hE7 := alloc_below w6 (.cells #[.int .i64 0, .int .i64 0, .int .i64 0, .int .i64 0, .int .i64 0, .string ⟨#[]⟩, .slice none 0 0] 26)
              have hb07 := th hb05 (th hb6 hE7)
              obtain ⟨_, p0, p1, p2, p3, p4⟩ := HGB.out.on hb07
              obtain ⟨q0, q1, q2, q3, q4, q5, q6⟩ := HSV.out.onB hN1 hb07
              go_wp2_with fail
              refine (HK.out _ (hT.below (th hb0 hb07)) (ha0.on homR_fine hb07)).mono ?_
              rintro e w8 ⟨rfl, hb8⟩
              have hE9 := alloc_below w8 (.cells #[.int .i64 0, .int .i64 0, .int .i64 0, .int .i64 0, .int .i64 0, .string ⟨#[]⟩, .slice none 0 0] 26)
              have hb09 := th hb07 (th hb8 hE9)
              go_wp2_with fail
              refine (wakes11 _ (hT.below (th hb0 hb09))).mono ?_
              rintro e w10 ⟨rfl, hb10⟩
              go_wp2_with fail
              go_ret
              exact ⟨rfl, th hb0 (th hb09 hb10)⟩
            · have hlt : h1.next < g.data + 1 + g.spares := by omega
              have hmo := move_ok HG HO hz1 hlt i3
              have hso := skip_ok HO hz1 hlt
              obtain ⟨X, hX⟩ : ∃ X, X = slotN g (k2 : Int) p2' := ⟨_, rfl⟩
              obtain ⟨Y, hY⟩ : ∃ Y, Y = slotN g (k1 : Int) h1.next := ⟨_, rfl⟩
              have HM := hide (fun w hT ha => HMY.out k1 i3 ((k3 : Int) - 1) HL.out hpk1 h1 hz1 hi3 hlt w hT ha)
              have HK := hide (fun w hT ha => HKY.out k1 HL.out hps1 h1 hz1 hlt w hT ha)
              rw [← hY] at HM
              have hq4 : IsP g ((k4 : Int) - 1) := (isP_what HG _).2 HW4.out
              have hz2k : 0 ≤ (k2 : Int) ∧ (k2 : Int) < g.zones := ⟨by omega, HK2.out⟩
              have HX := hide (fun (w : World) hT ha => HPA.out a A c k2 i4 ((k4 : Int) - 1) HIN.out HL.out ⟨HG, HO, hz2k, hq4⟩ h2 hz2 hi4 p2' hp2 w hT ha)
              have HXS : Hid (∃ h p, (skipA a k1 h1).homes[k2]? = some h ∧ h.places[i4]? = some p ∧ slotN g (k2 : Int) p = X) := hide (by
                by_cases e : k2 = k1
                · subst e
                  rw [hz1] at hz2
                  injection hz2 with hz2
                  subst hz2
                  exact ⟨_, p2', List.getElem?_set_self (List.getElem?_eq_some_iff.1 hz1).1, hp2, hX.symm⟩
                · exact ⟨h2, p2', (List.getElem?_set_ne (fun h => e h.symm)).trans hz2, hp2, hX.symm⟩)
              have HXM : Hid (∃ h p, (moveA a k1 h1 i3).homes[k2]? = some h ∧ h.places[i4]? = some p ∧ ((k2 = k1 ∧ k4 = k3 ∧ slotN g (k2 : Int) p = Y ∧ Y ≠ X) ∨ (¬ (k2 = k1 ∧ k4 = k3) ∧ slotN g (k2 : Int) p = X))) := hide (by
                by_cases e : k2 = k1
                · subst e
                  rw [hz1] at hz2
                  injection hz2 with hz2
                  subst hz2
                  have hil := (List.getElem?_eq_some_iff.1 hp2).1
                  by_cases e2 : i4 = i3
                  · subst e2
                    refine ⟨_, h1.next, moved_at hz1, List.getElem?_set_self hil, .inl ⟨rfl, ?_, hY.symm, ?_⟩⟩
                    · have := atI_inj HG HW4.out HW3.out (by rw [hi3, hi4])
                      omega
                    · rw [hX, hY]
                      unfold slotN
                      omega
                  · refine ⟨_, p2', moved_at hz1, (List.getElem?_set_ne (fun h => e2 h.symm)).trans hp2, .inr ⟨fun h => e2 ?_, hX.symm⟩⟩
                    have h3 := h.2
                    subst h3
                    rw [hi3] at hi4
                    omega
                · exact ⟨h2, p2', (List.getElem?_set_ne (fun h => e h.symm)).trans hz2, hp2, .inr ⟨fun h => e h.1, hX.symm⟩⟩)
              obtain ⟨hs, ps, hsz, hsp, hsX⟩ := HXS.out
              obtain ⟨hm, pm, hmz, hmp, hmX⟩ := HXM.out
              obtain ⟨WV, hWV⟩ : ∃ WV, WV = slotN g (k2 : Int) pm := ⟨_, rfl⟩
              rw [← hWV] at hmX
              have HAS := hide (fun (B : Option Addr) (d : Nat) w hT ha => HPA.out (skipA a k1 h1) B d k2 i4 ((k4 : Int) - 1) HIN.out (skip_light HL.out hz1) ⟨HG, hso, hz2k, hq4⟩ hs hsz hi4 ps hsp w hT ha)
              have HAM := hide (fun (B : Option Addr) (d : Nat) w hT ha => HPA.out (moveA a k1 h1 i3) B d k2 i4 ((k4 : Int) - 1) HIN.out (move_light HL.out hz1) ⟨HG, hmo, hz2k, hq4⟩ hm hmz hi4 pm hmp w hT ha)
              rw [← hX] at HX
              rw [hsX] at HAS
              rw [← hWV] at HAM
              obtain ⟨SH, hSH⟩ : ∃ SH, SH = (skipA a k1 h1).homes := ⟨_, rfl⟩
              obtain ⟨MH, hMH⟩ : ∃ MH, MH = (moveA a k1 h1 i3).homes := ⟨_, rfl⟩
              rw [← hSH] at HK HAS
              rw [← hMH] at HM HAM
              unfold skipA at HK HAS
              unfold moveA at HM HAM
              dsimp only at HM HK HAM HAS
              have HMX := hide hmX
              clear hfull hlt hhn hpk1 hps1 hz1 hz2 hp2 hple hi3 hi4 hi3d hi4d HG HO hmo hso hX hY hq4 hz2k hsz hsp hsX hmz hmp hmX hWV HXS HXM hSH hMH
              obtain ⟨_, p0, p1, p2, p3, p4⟩ := HGB.out.on hb05
              obtain ⟨q0, q1, q2, q3, q4, q5, q6⟩ := HSV.out.onB hN1 hb05
              go_wp2_with fail
              refine (HM.out _ (hT.below (th hb0 hb05)) (ha0.on homR_fine hb05)).mono ?_
              rintro e w6 ⟨hb6, V6, c6, rfl, how6⟩
              obtain ⟨W7, hW7⟩ : ∃ W7, W7 = w6.alloc (.cells #[.int .i64 a.gen, .int .i64 a.epoch, .int .i64 a.pos, .int .i64 a.seq, .int .i64 a.last, .string a.label, .slice V6 n c6] 26) := ⟨_, rfl⟩
              have hE7 : Below w6.heap.size w6 W7 := by rw [hW7]; exact alloc_below _ _
              have hb07 := th hb05 (th hb6 hE7)
              have hs7 := (how6.read.old_ homR_fine).on homR_fine hE7
              have hN7 : w6.heap.size < W7.heap.size := by rw [hW7]; simp
              have hv7 : Sev W7 w6.heap.size (.int .i64 a.gen) (.int .i64 a.epoch) (.int .i64 a.pos) (.int .i64 a.seq) (.int .i64 a.last) (.string a.label) (.slice V6 n c6) := by rw [hW7]; exact Sev.new rfl (Below.refl _ _)
              have HV7 := hide hv7
              clear hv7
              go_upto_region 6 with fail
              rw [← hW7]
              clear hW7 p0 p1 p2 p3 p4 q0 q1 q2 q3 q4 q5 q6
              obtain ⟨_, p0, p1, p2, p3, p4⟩ := HGB.out.on hb07
              obtain ⟨q0, q1, q2, q3, q4, q5, q6⟩ := HSV.out.onB hN1 hb07
              go_wp2_with fail
              refine (HK.out _ (hT.below (th hb0 hb07)) (ha0.on homR_fine hb07)).mono ?_
              rintro e w8 ⟨hb8, V8, c8, rfl, how8⟩
              obtain ⟨W9, hW9⟩ : ∃ W9, W9 = w8.alloc (.cells #[.int .i64 a.gen, .int .i64 a.epoch, .int .i64 a.pos, .int .i64 a.seq, .int .i64 a.last, .string a.label, .slice V8 n c8] 26) := ⟨_, rfl⟩
              have hE9 : Below w8.heap.size w8 W9 := by rw [hW9]; exact alloc_below _ _
              have hb79 := th hb8 hE9
              have hb09 := th hb07 hb79
              have hs9 := (how8.read.old_ homR_fine).on homR_fine hE9
              have hN9 : w8.heap.size < W9.heap.size := by rw [hW9]; simp
              have hv9 : Sev W9 w8.heap.size (.int .i64 a.gen) (.int .i64 a.epoch) (.int .i64 a.pos) (.int .i64 a.seq) (.int .i64 a.last) (.string a.label) (.slice V8 n c8) := by rw [hW9]; exact Sev.new rfl (Below.refl _ _)
              have HV9 := hide hv9
              clear hv9 p0 p1 p2 p3 p4 q0 q1 q2 q3 q4 q5 q6
              go_upto_region 7 with fail
              rw [← hW9]
              clear hW9
              obtain ⟨_, p0, p1, p2, p3, p4⟩ := HGB.out.on hb09
              obtain ⟨q0, q1, q2, q3, q4, q5, q6⟩ := HSV.out.onB hN1 hb09
              go_wp2_with fail
              refine (HX.out _ (hT.below (th hb0 hb09)) (ha0.on homR_fine hb09)).mono ?_
              rintro e w10 ⟨rfl, hb10⟩
              have hb010 := th hb09 hb10
              obtain ⟨_, p0, p1, p2, p3, p4⟩ := HGB.out.on hb010
              obtain ⟨q0, q1, q2, q3, q4, q5, q6⟩ := HV7.out.on hN7 (th hb79 hb10)
              go_wp2_with fail
              refine (HAM.out _ _ _ (hT.below (th hb0 hb010)) (hs7.on homR_fine (th hb79 hb10))).mono ?_
              rintro e w11 ⟨rfl, hb11⟩
              have hb011 := th hb010 hb11
              obtain ⟨_, p0, p1, p2, p3, p4⟩ := HGB.out.on hb011
              obtain ⟨q0, q1, q2, q3, q4, q5, q6⟩ := HV9.out.on hN9 (th hb10 hb11)
              go_wp2_with fail
              refine (HAS.out _ _ _ (hT.below (th hb0 hb011)) (hs9.on homR_fine (th hb10 hb11))).mono ?_
              rintro e w12 ⟨rfl, hb12⟩
              have hb012 := th hb011 hb12
              obtain ⟨t0, _⟩ := HV7.out.on hN7 (th hb79 (th hb10 (th hb11 hb12)))
              obtain ⟨v0, _⟩ := HV9.out.on hN9 (th hb10 (th hb11 hb12))
              obtain ⟨r0, _⟩ := HSV.out.onB hN1 hb012
              rcases HMX.out with ⟨rfl, rfl, rfl, hne⟩ | ⟨hne, rfl⟩
              · have ne1 : (WV != X) = true := by simpa using hne
                clear hne HMX
                go_wp2_with fail
                refine (wakes11 _ (hT.below (th hb0 hb012))).mono ?_
                rintro e w13 ⟨rfl, hb13⟩
                go_wp2_with fail
                go_ret
                exact ⟨rfl, th hb0 (th hb012 hb13)⟩
              · by_cases e1 : k2 = k1
                · subst e1
                  have e2 : ((k4 : Int) - 1 == (k3 : Int) - 1) = false := by
                    rw [beq_eq_false_iff_ne]
                    exact fun h => hne ⟨rfl, by omega⟩
                  clear hne HMX
                  go_wp2_with fail
                  refine (wakes11 _ (hT.below (th hb0 hb012))).mono ?_
                  rintro e w13 ⟨rfl, hb13⟩
                  go_wp2_with fail
                  go_ret
                  exact ⟨rfl, th hb0 (th hb012 hb13)⟩
                · have e2 : ((k2 : Int) == (k1 : Int)) = false := by
                    rw [beq_eq_false_iff_ne]
                    exact fun h => e1 (by omega)
                  clear hne HMX e1
                  go_wp2_with fail
                  refine (wakes11 _ (hT.below (th hb0 hb012))).mono ?_
                  rintro e w13 ⟨rfl, hb13⟩
                  go_wp2_with fail
                  go_ret
                  exact ⟨rfl, th hb0 (th hb012 hb13)⟩

theorem law_placeStays {w : World} (hT : Tabs w) {v0 v1 : Value} {g : Geo} {a : Anc} (hg : ArgR geoR w v0 g) (ha : ArgR ancR w v1 a) (zone : Int) (hz0 : InI zone) (what : Int) (hw0 : InI what) (other : Int) (ho0 : InI other) (z : Int) (hz1 : InI z) :
    Calls Tryd.prog 5 #[v0, v1, .int .i64 zone, .int .i64 what, .int .i64 other, .int .i64 z] w fun e w' => e = .returned (.bool true) ∧ Below w.heap.size w w' := by
  obtain ⟨rfl, _⟩ := geo_form hg
  obtain ⟨A, n, c, rfl, hin, hs⟩ := anc_form ha
  exact walk_placeStays hT g a A n c zone what other z hs hin

end Go.Proofs.YtamgpbkakmffiaaDoor
